/- The oracle's state, told by lists; what it is in memory; what its steps do. -/
import Derived.Test.YtfmdpjhkojbocaaZA
import Derived.Test.YtfmdpjhkojbocaaProg
import Derived.KernelRfl
import Derived.Laws.StructEq
set_option linter.unusedVariables false
set_option linter.unusedSimpArgs false
set_option linter.unusedSectionVars false
namespace Go.Proofs.Ytfmdpjhkojbocaa
open Go Go.Mx Go.Proofs

/-- what was sealed. -/
structure Sealed where
  key : Int
  bound : List UInt8
  plain : List UInt8
/-- the oracle's state. -/
structure OS where
  draws : List Int
  used : List Int
  next : Int
  hashes : List (List UInt8 × Int)
  keys : List Int
  secrets : List Int
  publics : List (Int × Int)
  signs : List ((Int × List UInt8) × Int)
  signed : List (Int × (Int × List UInt8))
  sealed : List (Int × Sealed)
  wrapped : List (Int × (Int × Int))

/-- its blocks. -/
structure OG where
  p : Nat
  used : Nat
  hashes : Nat
  keys : Nat
  secrets : Nat
  publics : Nat
  signs : Nat
  signed : Nat
  sealed : Nat
  wrapped : Nat
  x : Nat → Prop
def OG.list (g : OG) : List Nat := [g.p, g.used, g.hashes, g.keys, g.secrets, g.publics, g.signs, g.signed, g.sealed, g.wrapped]
def OG.m (g : OG) : Nat → Prop := fun b => b ∈ g.list
/-- its blocks, and those that others turn. -/
def OG.M (g : OG) : Nat → Prop := fun b => g.m b ∨ g.x b

def u64V (n : Int) : Value := .int .u64 n
def signedV (x : Int × List UInt8) : Value := .agg #[.int .u64 x.1, strV x.2]
def bset (l : List Int) : List (Int × Value) := l.map fun n => (n, .bool true)
def SealedV (w : World) (m : Nat → Prop) (s : Sealed) (v : Value) : Prop :=
  ∃ ba bc pa pc, v = .agg #[.int .u64 s.key, .slice ba s.bound.length bc, .slice pa s.plain.length pc] ∧ RowAt w ba (bytesV s.bound) ∧ (bytesV s.bound ≠ [] → Out m ba) ∧ RowAt w pa (bytesV s.plain) ∧ (bytesV s.plain ≠ [] → Out m pa)
def SealedL (w : World) (m : Nat → Prop) : List (Int × Sealed) → List (Int × Value) → Prop
  | [], [] => True
  | p :: r, q :: s => p.1 = q.1 ∧ SealedV w m p.2 q.2 ∧ SealedL w m r s
  | _, _ => False

/-- the struct, and the draws that are left. -/
def OrcP (w : World) (g : OG) (draws : List Int) (next : Int) : Prop :=
  ∃ da dc, Blk w g.p 92 [.slice da draws.length dc, .map (some g.used), .int .u64 next, .map (some g.hashes), .map (some g.keys), .map (some g.secrets), .map (some g.publics), .map (some g.signs), .map (some g.signed), .map (some g.sealed), .map (some g.wrapped)] ∧
    draws.length ≤ dc ∧ RowAt w da (draws.map u64V) ∧ (draws.map u64V ≠ [] → Out g.M da)

structure Orc (w : World) (g : OG) (S : OS) : Prop where
  nd : g.list.Nodup
  st : OrcP w g S.draws S.next
  used : MapIs w g.used u64V (bset S.used)
  hashes : MapIs w g.hashes strV (S.hashes.map fun p => (p.1, u64V p.2))
  keys : MapIs w g.keys u64V (bset S.keys)
  secrets : MapIs w g.secrets u64V (bset S.secrets)
  publics : MapIs w g.publics u64V (S.publics.map fun p => (p.1, u64V p.2))
  signs : MapIs w g.signs signedV (S.signs.map fun p => (p.1, u64V p.2))
  signed : MapIs w g.signed u64V (S.signed.map fun p => (p.1, signedV p.2))
  sealed : ∃ lv, MapIs w g.sealed u64V lv ∧ SealedL w g.M S.sealed lv
  wrapped : MapIs w g.wrapped u64V (S.wrapped.map fun p => (p.1, .agg #[.int .u64 p.2.1, .int .u64 p.2.2]))
  xm : ∀ b, g.m b → ¬ g.x b
  xlt : ∀ b, g.x b → b < w.heap.size

theorem SealedL.ext {w w' : World} {m n : Nat → Prop} (k : Ext n w w') (hn : ∀ b, n b → m b) : ∀ {l : List (Int × Sealed)} {lv : List (Int × Value)}, SealedL w m l lv → SealedL w' m l lv
  | [], [], _ => trivial
  | p :: r, q :: s, h => by
    obtain ⟨h1, ⟨ba, bc, pa, pc, hv, h2, h3, h4, h5⟩, h6⟩ := h
    exact ⟨h1, ⟨ba, bc, pa, pc, hv, h2.ext' k (fun h0 ad ha hb => h3 h0 ad ha (hn _ hb)), h3, h4.ext' k (fun h0 ad ha hb => h5 h0 ad ha (hn _ hb)), h5⟩, SealedL.ext k hn h6⟩
  | [], _ :: _, h => h.elim
  | _ :: _, [], h => h.elim
theorem OrcP.ext {w w' : World} {g : OG} {d : List Int} {x : Int} {n : Nat → Prop} (h : OrcP w g d x) (k : Ext n w w') (hn : ∀ b, n b → g.M b) (hp : ¬ n g.p) : OrcP w' g d x := by
  obtain ⟨da, dc, h1, h2, h3, h4⟩ := h
  exact ⟨da, dc, h1.ext k hp, h2, h3.ext' k (fun h0 ad ha hb => h4 h0 ad ha (hn _ hb)), h4⟩

section
variable {w w' : World} {g : OG} {S : OS}
theorem m_list {g : OG} : g.m g.p ∧ g.m g.used ∧ g.m g.hashes ∧ g.m g.keys ∧ g.m g.secrets ∧ g.m g.publics ∧ g.m g.signs ∧ g.m g.signed ∧ g.m g.sealed ∧ g.m g.wrapped := by simp [OG.m, OG.list]
/-- whatever else turns. -/
theorem Orc.ext {m : Nat → Prop} (h : Orc w g S) (k : Ext m w w') (hd : ∀ b, b < w.heap.size → m b → g.x b) : Orc w' g S := by
  have k' : Ext g.x w w' := k.mono fun b hb hlt => hd b hlt hb
  obtain ⟨lv, h1, h2⟩ := h.sealed
  obtain ⟨q1, q2, q3, q4, q5, q6, q7, q8, q9, q10⟩ := m_list (g := g)
  exact ⟨h.nd, h.st.ext k' (fun b hb => .inr hb) (h.xm _ q1), h.used.ext k' (h.xm _ q2), h.hashes.ext k' (h.xm _ q3), h.keys.ext k' (h.xm _ q4), h.secrets.ext k' (h.xm _ q5), h.publics.ext k' (h.xm _ q6), h.signs.ext k' (h.xm _ q7), h.signed.ext k' (h.xm _ q8), ⟨lv, h1.ext k' (h.xm _ q9), h2.ext k' fun b hb => .inr hb⟩, h.wrapped.ext k' (h.xm _ q10), h.xm, fun b hb => Nat.lt_of_lt_of_le (h.xlt b hb) k.size⟩
theorem Orc.none (h : Orc w g S) (k : Ext no w w') : Orc w' g S := h.ext k fun b _ hb => hb.elim
theorem Orc.mlt (h : Orc w g S) : ∀ b, g.m b → b < w.heap.size := fun b hb => by
  obtain ⟨da, dc, hp, _⟩ := h.st
  obtain ⟨lv, hse, _⟩ := h.sealed
  simp only [OG.m, OG.list, List.mem_cons, List.not_mem_nil, or_false] at hb
  rcases hb with rfl | rfl | rfl | rfl | rfl | rfl | rfl | rfl | rfl | rfl
  · exact hp.lt
  · exact h.used.lt
  · exact h.hashes.lt
  · exact h.keys.lt
  · exact h.secrets.lt
  · exact h.publics.lt
  · exact h.signs.lt
  · exact h.signed.lt
  · exact hse.lt
  · exact h.wrapped.lt
/-- all that is new is others'. -/
def OG.more (g : OG) (w w' : World) : OG := { g with x := fun b => g.x b ∨ (w.heap.size ≤ b ∧ b < w'.heap.size) }
theorem SealedL.wide {w : World} {m n : Nat → Prop} (hn : ∀ b, n b → m b ∨ w.heap.size ≤ b) : ∀ {l : List (Int × Sealed)} {lv : List (Int × Value)}, SealedL w m l lv → SealedL w n l lv
  | [], [], _ => trivial
  | p :: r, q :: s, h => by
    obtain ⟨h1, ⟨ba, bc, pa, pc, hv, h2, h3, h4, h5⟩, h6⟩ := h
    refine ⟨h1, ⟨ba, bc, pa, pc, hv, h2, fun h0 ad ha hb => ?_, h4, fun h0 ad ha hb => ?_⟩, SealedL.wide hn h6⟩
    · rcases hn _ hb with h | h
      · exact h3 h0 ad ha h
      · have := h2.lt h0 ha; omega
    · rcases hn _ hb with h | h
      · exact h5 h0 ad ha h
      · have := h4.lt h0 ha; omega
  | [], _ :: _, h => h.elim
  | _ :: _, [], h => h.elim
/-- a step of others: what it turns is theirs, or new. -/
theorem Orc.foreign {n : Nat → Prop} (h : Orc w g S) (k : Ext n w w') (hd : ∀ b, b < w.heap.size → n b → g.x b) : Orc w' (g.more w w') S := by
  have hw := h.ext k hd
  have k' : Ext g.x w w' := k.mono fun b hb hlt => hd b hlt hb
  have hM : ∀ b, (g.more w w').M b → g.M b ∨ w.heap.size ≤ b := fun b hb => by
    rcases hb with hb | hb | hb
    · exact .inl (.inl hb)
    · exact .inl (.inr hb)
    · exact .inr hb.1
  obtain ⟨lv, h1, h2⟩ := h.sealed
  obtain ⟨lv', h1', h2'⟩ := hw.sealed
  obtain ⟨da, dc, hp, h3, h4, h5⟩ := h.st
  refine ⟨hw.nd, ⟨da, dc, hp.ext k' (h.xm _ m_list.1), h3, h4.ext' k' (fun h0 ad ha hb => h5 h0 ad ha (.inr hb)), fun h0 ad ha hb => ?_⟩, hw.used, hw.hashes, hw.keys, hw.secrets, hw.publics, hw.signs, hw.signed,
    ⟨lv, h1.ext k' (h.xm _ m_list.2.2.2.2.2.2.2.2.1), (h2.wide hM).ext k' fun b hb => .inr (.inl hb)⟩, hw.wrapped, fun b hb hx => ?_, fun b hb => ?_⟩
  · rcases hM _ hb with h | h
    · exact h5 h0 ad ha h
    · have := h4.lt h0 ha; omega
  · rcases hx with hx | hx
    · exact h.xm b hb hx
    · have := h.mlt b hb; omega
  · rcases hb with hb | hb
    · exact Nat.lt_of_lt_of_le (h.xlt b hb) k.size
    · exact hb.2
theorem Orc.drew (h : Orc w g S) : Orc w.drew g S := h.none (Ext.refl _ _).drew

theorem nd_ne (h : Orc w g S) : g.p ≠ g.used ∧ g.p ≠ g.hashes ∧ g.p ≠ g.keys ∧ g.p ≠ g.secrets ∧ g.p ≠ g.publics ∧ g.p ≠ g.signs ∧ g.p ≠ g.signed ∧ g.p ≠ g.sealed ∧ g.p ≠ g.wrapped ∧
    g.used ≠ g.hashes ∧ g.used ≠ g.keys ∧ g.used ≠ g.secrets ∧ g.used ≠ g.publics ∧ g.used ≠ g.signs ∧ g.used ≠ g.signed ∧ g.used ≠ g.sealed ∧ g.used ≠ g.wrapped ∧
    g.hashes ≠ g.keys ∧ g.hashes ≠ g.secrets ∧ g.hashes ≠ g.publics ∧ g.hashes ≠ g.signs ∧ g.hashes ≠ g.signed ∧ g.hashes ≠ g.sealed ∧ g.hashes ≠ g.wrapped ∧
    g.keys ≠ g.secrets ∧ g.keys ≠ g.publics ∧ g.keys ≠ g.signs ∧ g.keys ≠ g.signed ∧ g.keys ≠ g.sealed ∧ g.keys ≠ g.wrapped ∧
    g.secrets ≠ g.publics ∧ g.secrets ≠ g.signs ∧ g.secrets ≠ g.signed ∧ g.secrets ≠ g.sealed ∧ g.secrets ≠ g.wrapped ∧
    g.publics ≠ g.signs ∧ g.publics ≠ g.signed ∧ g.publics ≠ g.sealed ∧ g.publics ≠ g.wrapped ∧
    g.signs ≠ g.signed ∧ g.signs ≠ g.sealed ∧ g.signs ≠ g.wrapped ∧ g.signed ≠ g.sealed ∧ g.signed ≠ g.wrapped ∧ g.sealed ≠ g.wrapped := by
  have := h.nd
  simp only [OG.list, List.nodup_cons, List.mem_cons, not_or, List.not_mem_nil, not_false_eq_true, List.nodup_nil, and_true] at this
  simp only [this, ne_eq, not_false_eq_true, and_self]

/-- one block of its own turns: all else stays. -/
theorem one_sub {g : OG} {b : Nat} (hb : b ∈ g.list) : ∀ c, (fun x => x = b) c → g.M c := fun c hc => by subst hc; exact .inl hb

theorem Orc.set_used (h : Orc w g S) (k : Ext (fun b => b = g.used) w w') {l : List Int} (hl : MapIs w' g.used u64V (bset l)) : Orc w' g { S with used := l } := by
  have hn := nd_ne h
  have hs := one_sub (g := g) (b := g.used) (by simp [OG.list])
  obtain ⟨lv, h1, h2⟩ := h.sealed
  exact ⟨h.nd, h.st.ext k hs (by simp_all), hl, h.hashes.ext k (by simp_all [eq_comm]), h.keys.ext k (by simp_all [eq_comm]), h.secrets.ext k (by simp_all [eq_comm]), h.publics.ext k (by simp_all [eq_comm]), h.signs.ext k (by simp_all [eq_comm]), h.signed.ext k (by simp_all [eq_comm]), ⟨lv, h1.ext k (by simp_all [eq_comm]), h2.ext k hs⟩, h.wrapped.ext k (by simp_all [eq_comm]), h.xm, fun b hb => Nat.lt_of_lt_of_le (h.xlt b hb) k.size⟩
theorem Orc.set_hashes (h : Orc w g S) (k : Ext (fun b => b = g.hashes) w w') {l : List (List UInt8 × Int)} (hl : MapIs w' g.hashes strV (l.map fun p => (p.1, u64V p.2))) : Orc w' g { S with hashes := l } := by
  have hn := nd_ne h
  have hs := one_sub (g := g) (b := g.hashes) (by simp [OG.list])
  obtain ⟨lv, h1, h2⟩ := h.sealed
  exact ⟨h.nd, h.st.ext k hs (by simp_all), h.used.ext k (by simp_all [eq_comm]), hl, h.keys.ext k (by simp_all [eq_comm]), h.secrets.ext k (by simp_all [eq_comm]), h.publics.ext k (by simp_all [eq_comm]), h.signs.ext k (by simp_all [eq_comm]), h.signed.ext k (by simp_all [eq_comm]), ⟨lv, h1.ext k (by simp_all [eq_comm]), h2.ext k hs⟩, h.wrapped.ext k (by simp_all [eq_comm]), h.xm, fun b hb => Nat.lt_of_lt_of_le (h.xlt b hb) k.size⟩
theorem Orc.set_secrets (h : Orc w g S) (k : Ext (fun b => b = g.secrets) w w') {l : List Int} (hl : MapIs w' g.secrets u64V (bset l)) : Orc w' g { S with secrets := l } := by
  have hn := nd_ne h
  have hs := one_sub (g := g) (b := g.secrets) (by simp [OG.list])
  obtain ⟨lv, h1, h2⟩ := h.sealed
  exact ⟨h.nd, h.st.ext k hs (by simp_all), h.used.ext k (by simp_all [eq_comm]), h.hashes.ext k (by simp_all [eq_comm]), h.keys.ext k (by simp_all [eq_comm]), hl, h.publics.ext k (by simp_all [eq_comm]), h.signs.ext k (by simp_all [eq_comm]), h.signed.ext k (by simp_all [eq_comm]), ⟨lv, h1.ext k (by simp_all [eq_comm]), h2.ext k hs⟩, h.wrapped.ext k (by simp_all [eq_comm]), h.xm, fun b hb => Nat.lt_of_lt_of_le (h.xlt b hb) k.size⟩
theorem Orc.set_publics (h : Orc w g S) (k : Ext (fun b => b = g.publics) w w') {l : List (Int × Int)} (hl : MapIs w' g.publics u64V (l.map fun p => (p.1, u64V p.2))) : Orc w' g { S with publics := l } := by
  have hn := nd_ne h
  have hs := one_sub (g := g) (b := g.publics) (by simp [OG.list])
  obtain ⟨lv, h1, h2⟩ := h.sealed
  exact ⟨h.nd, h.st.ext k hs (by simp_all), h.used.ext k (by simp_all [eq_comm]), h.hashes.ext k (by simp_all [eq_comm]), h.keys.ext k (by simp_all [eq_comm]), h.secrets.ext k (by simp_all [eq_comm]), hl, h.signs.ext k (by simp_all [eq_comm]), h.signed.ext k (by simp_all [eq_comm]), ⟨lv, h1.ext k (by simp_all [eq_comm]), h2.ext k hs⟩, h.wrapped.ext k (by simp_all [eq_comm]), h.xm, fun b hb => Nat.lt_of_lt_of_le (h.xlt b hb) k.size⟩
theorem Orc.set_signs (h : Orc w g S) (k : Ext (fun b => b = g.signs) w w') {l : List ((Int × List UInt8) × Int)} (hl : MapIs w' g.signs signedV (l.map fun p => (p.1, u64V p.2))) : Orc w' g { S with signs := l } := by
  have hn := nd_ne h
  have hs := one_sub (g := g) (b := g.signs) (by simp [OG.list])
  obtain ⟨lv, h1, h2⟩ := h.sealed
  exact ⟨h.nd, h.st.ext k hs (by simp_all), h.used.ext k (by simp_all [eq_comm]), h.hashes.ext k (by simp_all [eq_comm]), h.keys.ext k (by simp_all [eq_comm]), h.secrets.ext k (by simp_all [eq_comm]), h.publics.ext k (by simp_all [eq_comm]), hl, h.signed.ext k (by simp_all [eq_comm]), ⟨lv, h1.ext k (by simp_all [eq_comm]), h2.ext k hs⟩, h.wrapped.ext k (by simp_all [eq_comm]), h.xm, fun b hb => Nat.lt_of_lt_of_le (h.xlt b hb) k.size⟩
theorem Orc.set_signed (h : Orc w g S) (k : Ext (fun b => b = g.signed) w w') {l : List (Int × (Int × List UInt8))} (hl : MapIs w' g.signed u64V (l.map fun p => (p.1, signedV p.2))) : Orc w' g { S with signed := l } := by
  have hn := nd_ne h
  have hs := one_sub (g := g) (b := g.signed) (by simp [OG.list])
  obtain ⟨lv, h1, h2⟩ := h.sealed
  exact ⟨h.nd, h.st.ext k hs (by simp_all), h.used.ext k (by simp_all [eq_comm]), h.hashes.ext k (by simp_all [eq_comm]), h.keys.ext k (by simp_all [eq_comm]), h.secrets.ext k (by simp_all [eq_comm]), h.publics.ext k (by simp_all [eq_comm]), h.signs.ext k (by simp_all [eq_comm]), hl, ⟨lv, h1.ext k (by simp_all [eq_comm]), h2.ext k hs⟩, h.wrapped.ext k (by simp_all [eq_comm]), h.xm, fun b hb => Nat.lt_of_lt_of_le (h.xlt b hb) k.size⟩
theorem Orc.set_p (h : Orc w g S) (k : Ext (fun b => b = g.p) w w') {d : List Int} {x : Int} (hl : OrcP w' g d x) : Orc w' g { S with draws := d, next := x } := by
  have hn := nd_ne h
  have hs := one_sub (g := g) (b := g.p) (by simp [OG.list])
  obtain ⟨lv, h1, h2⟩ := h.sealed
  exact ⟨h.nd, hl, h.used.ext k (by simp_all [eq_comm]), h.hashes.ext k (by simp_all [eq_comm]), h.keys.ext k (by simp_all [eq_comm]), h.secrets.ext k (by simp_all [eq_comm]), h.publics.ext k (by simp_all [eq_comm]), h.signs.ext k (by simp_all [eq_comm]), h.signed.ext k (by simp_all [eq_comm]), ⟨lv, h1.ext k (by simp_all [eq_comm]), h2.ext k hs⟩, h.wrapped.ext k (by simp_all [eq_comm]), h.xm, fun b hb => Nat.lt_of_lt_of_le (h.xlt b hb) k.size⟩
end

theorem mlook_bset {l : List Int} {h : Int} : mlook (bset l) h = if h ∈ l then some (.bool true) else none := by
  induction l with
  | nil => rfl
  | cons a r ih =>
    simp only [bset, List.map_cons, mlook] at ih ⊢
    by_cases ha : a = h
    · simp [ha]
    · simp only [ha, if_false, List.mem_cons, Ne.symm ha, false_or]; exact ih
theorem mput_bset {l : List Int} {h : Int} (hn : h ∉ l) : mput (bset l) h (.bool true) = bset (l ++ [h]) := by
  induction l with
  | nil => rfl
  | cons a r ih =>
    simp only [List.mem_cons, not_or] at hn
    simp only [bset, List.map_cons, List.cons_append, mput, Ne.symm hn.1, if_false] at ih ⊢
    rw [ih hn.2]
theorem mput_bset_in {l : List Int} {h : Int} (hn : h ∈ l) : mput (bset l) h (.bool true) = bset l := by
  induction l with
  | nil => cases hn
  | cons a r ih =>
    simp only [bset, List.map_cons, mput] at ih ⊢
    by_cases ha : a = h
    · simp [ha]
    · simp only [ha, if_false]
      rw [ih (by rcases List.mem_cons.1 hn with h | h; exact absurd h.symm ha; exact h)]

/-! ### lists of pairs -/
section
variable {κ β : Type} [DecidableEq κ]
def alook : List (κ × β) → κ → Option β
  | [], _ => none
  | p :: r, x => if p.1 = x then some p.2 else alook r x
def aput : List (κ × β) → κ → β → List (κ × β)
  | [], x, v => [(x, v)]
  | p :: r, x, v => if p.1 = x then (x, v) :: r else p :: aput r x v
theorem mlook_map (f : β → Value) : ∀ (l : List (κ × β)) (x : κ), mlook (l.map fun p => (p.1, f p.2)) x = (alook l x).map f
  | [], x => rfl
  | p :: r, x => by
    simp only [List.map_cons, mlook, alook]
    by_cases h : p.1 = x
    · simp [h]
    · simp only [h, if_false]; exact mlook_map f r x
theorem mput_map (f : β → Value) : ∀ (l : List (κ × β)) (x : κ) (v : β), mput (l.map fun p => (p.1, f p.2)) x (f v) = (aput l x v).map fun p => (p.1, f p.2)
  | [], x, v => rfl
  | p :: r, x, v => by
    simp only [List.map_cons, mput, aput]
    by_cases h : p.1 = x
    · simp [h]
    · simp only [h, if_false, List.map_cons]; rw [mput_map f r x v]
theorem alook_put : ∀ (l : List (κ × β)) (x y : κ) (v : β), alook (aput l x v) y = if x = y then some v else alook l y
  | [], x, y, v => rfl
  | p :: r, x, y, v => by
    simp only [aput]
    by_cases h : p.1 = x
    · subst h; simp only [if_true, alook]; split <;> rfl
    · simp only [h, if_false, alook, alook_put r x y v]
      by_cases h2 : p.1 = y
      · subst h2; simp [Ne.symm h]
      · simp [h2]
end

/-! ### a fresh handle -/
def pickD : List Int → List Int → Option (Int × List Int)
  | [], _ => none
  | h :: r, used => if h = 0 ∨ h ∈ used then pickD r used else some (h, r)
def pickN (used : List Int) : Nat → Int → Int
  | 0, n => n
  | k + 1, n => if n = 0 ∨ n ∈ used then pickN used k (n + 1) else n
def freshOf (S : OS) : Int × OS :=
  match pickD S.draws S.used with
  | some (h, r) => (h, { S with draws := r, used := S.used ++ [h] })
  | none => let h := pickN S.used (S.used.length + 1) S.next; (h, { S with draws := [], next := h, used := S.used ++ [h] })
/-- what the oracle keeps true of its counter. -/
def OS.ok (S : OS) : Prop := 1 ≤ S.next ∧ (∀ n, 1 ≤ n → n < S.next → n ∈ S.used) ∧ S.next ≤ S.used.length + 1 ∧ ∀ d ∈ S.draws, 0 ≤ d ∧ d < 18446744073709551616

theorem pickN_spec (used : List Int) : ∀ (k : Nat) (n : Int), 1 ≤ n → (∃ m, n ≤ m ∧ m < n + k ∧ m ∉ used) →
    n ≤ pickN used k n ∧ pickN used k n < n + k ∧ pickN used k n ∉ used ∧ pickN used k n ≠ 0 ∧ ∀ m, n ≤ m → m < pickN used k n → m ∈ used
  | 0, n, h1, ⟨m, h2, h3, _⟩ => by omega
  | k + 1, n, h1, ⟨m, h2, h3, h4⟩ => by
    simp only [pickN]
    by_cases hn : n = 0 ∨ n ∈ used
    · rw [if_pos hn]
      have hn' : n ∈ used := hn.resolve_left (by omega)
      have hm : m ≠ n := fun e => h4 (e ▸ hn')
      obtain ⟨a, b, c, d, e⟩ := pickN_spec used k (n + 1) (by omega) ⟨m, by omega, by omega, h4⟩
      refine ⟨by omega, by omega, c, d, fun q hq1 hq2 => ?_⟩
      by_cases hqn : q = n
      · subst hqn; exact hn'
      · exact e q (by omega) hq2
    · rw [if_neg hn]
      rw [not_or] at hn
      exact ⟨by omega, by omega, hn.2, hn.1, fun q h1 h2 => by omega⟩

/-- among so many numbers one is not there. -/
theorem gap (used : List Int) : ∀ (k : Nat) (n : Int), used.length < k → ∃ m, n ≤ m ∧ m < n + k ∧ m ∉ used := by
  induction used with
  | nil => intro k n hk; exact ⟨n, by omega, by simp at hk; omega, by simp⟩
  | cons a r ih =>
    intro k n hk
    simp only [List.length_cons] at hk
    -- numbers below and above a
    by_cases ha : n ≤ a ∧ a < n + k
    · by_cases hr : (r.length : Int) < a - n
      · obtain ⟨m, h1, h2, h3⟩ := ih (a - n).toNat n (by omega)
        exact ⟨m, h1, by omega, by simp only [List.mem_cons, not_or]; exact ⟨by omega, h3⟩⟩
      · -- count below and above together: move the numbers above a down by one
        obtain ⟨m, h1, h2, h3⟩ : ∃ m, n ≤ m ∧ m < n + (k - 1 : Nat) ∧ m ∉ r.map (fun x => if a < x then x - 1 else x) := by
          have hl : (r.map (fun x => if a < x then x - 1 else x)).length < k - 1 := by simp; omega
          have : ∀ (l : List Int) (k : Nat), l.length < k → ∃ m, n ≤ m ∧ m < n + k ∧ m ∉ l := by
            intro l
            induction hq : l.length generalizing l with
            | zero =>
              intro k hk
              have : l = [] := List.eq_nil_of_length_eq_zero hq
              subst this; exact ⟨n, by omega, by omega, by simp⟩
            | succ q ihq =>
              intro k hk
              by_cases hall : ∃ m, n ≤ m ∧ m < n + k ∧ m ∉ l
              · exact hall
              · exfalso
                -- the last number is in l: strike it
                have hlast : (n + k - 1) ∈ l := by
                  by_cases h : (n + k - 1) ∈ l
                  · exact h
                  · exact absurd ⟨n + k - 1, by omega, by omega, h⟩ hall
                have hlen : (l.erase (n + k - 1)).length = q := by rw [List.length_erase_of_mem hlast, hq]; rfl
                obtain ⟨m, h1, h2, h3⟩ := ihq (l.erase (n + k - 1)) hlen (k - 1) (by omega)
                refine hall ⟨m, h1, by omega, fun hm => h3 ?_⟩
                exact (List.mem_erase_of_ne (by omega)).2 hm
          exact this _ _ hl
        by_cases hma : m < a
        · refine ⟨m, h1, by omega, ?_⟩
          simp only [List.mem_cons, not_or]
          refine ⟨by omega, fun hm => h3 ?_⟩
          exact List.mem_map.2 ⟨m, hm, by rw [if_neg (by omega)]⟩
        · refine ⟨m + 1, by omega, by omega, ?_⟩
          simp only [List.mem_cons, not_or]
          refine ⟨by omega, fun hm => h3 ?_⟩
          exact List.mem_map.2 ⟨m + 1, hm, by rw [if_pos (by omega)]; omega⟩
    · obtain ⟨m, h1, h2, h3⟩ := ih k n (by omega)
      exact ⟨m, h1, h2, by simp only [List.mem_cons, not_or]; exact ⟨by omega, h3⟩⟩

theorem pickD_spec {d used : List Int} {h : Int} {r : List Int} (hp : pickD d used = some (h, r)) : h ≠ 0 ∧ h ∉ used ∧ h ∈ d := by
  induction d with
  | nil => simp [pickD] at hp
  | cons a d ih =>
    simp only [pickD] at hp
    by_cases ha : a = 0 ∨ a ∈ used
    · rw [if_pos ha] at hp
      obtain ⟨h1, h2, h3⟩ := ih hp
      exact ⟨h1, h2, List.mem_cons_of_mem _ h3⟩
    · rw [if_neg ha] at hp
      simp only [Option.some.injEq, Prod.mk.injEq] at hp
      rw [not_or] at ha
      exact ⟨hp.1 ▸ ha.1, hp.1 ▸ ha.2, hp.1 ▸ List.mem_cons_self⟩

theorem pickD_rest {d used : List Int} {h : Int} {r : List Int} (hp : pickD d used = some (h, r)) : ∀ x ∈ r, x ∈ d := by
  induction d with
  | nil => simp [pickD] at hp
  | cons a d ih =>
    simp only [pickD] at hp
    by_cases ha : a = 0 ∨ a ∈ used
    · rw [if_pos ha] at hp
      exact fun x hx => List.mem_cons_of_mem _ (ih hp x hx)
    · rw [if_neg ha] at hp
      simp only [Option.some.injEq, Prod.mk.injEq] at hp
      rw [← hp.2]
      exact fun x hx => List.mem_cons_of_mem _ hx
theorem freshOf_spec {S : OS} (h : S.ok) : (freshOf S).1 ≠ 0 ∧ (freshOf S).1 ∉ S.used ∧ (freshOf S).2.used = S.used ++ [(freshOf S).1] ∧ (freshOf S).2.ok := by
  obtain ⟨h1, h2, h3, h4⟩ := h
  unfold freshOf
  cases hp : pickD S.draws S.used with
  | some q =>
    obtain ⟨x, r⟩ := q
    obtain ⟨a, b, _⟩ := pickD_spec hp
    exact ⟨a, b, rfl, h1, fun n hn1 hn2 => List.mem_append_left _ (h2 n hn1 hn2), by simp; omega, fun d hd => h4 d (pickD_rest hp d hd)⟩
  | none =>
    obtain ⟨a, b, c, d, e⟩ := pickN_spec S.used (S.used.length + 1) S.next h1 (gap S.used _ _ (by omega))
    refine ⟨d, c, rfl, by show 1 ≤ pickN _ _ _; omega, fun n hn1 hn2 => ?_, ?_, fun d hd => by cases hd⟩
    · refine List.mem_append_left _ ?_
      by_cases hlt : n < S.next
      · exact h2 n hn1 hlt
      · exact e n (by omega) hn2
    · -- all numbers from 1 on below it are used, and they are apart
      show pickN S.used (S.used.length + 1) S.next ≤ ((S.used ++ [_]).length : Int) + 1
      have hall : ∀ m, 1 ≤ m → m < pickN S.used (S.used.length + 1) S.next → m ∈ S.used := fun m h1' h2' => by
        by_cases hlt : m < S.next
        · exact h2 m h1' hlt
        · exact e m (by omega) h2'
      by_cases hle : pickN S.used (S.used.length + 1) S.next ≤ (S.used.length : Int) + 2
      · simp; omega
      · obtain ⟨m, q1, q2, q3⟩ := gap S.used (S.used.length + 1) 1 (by omega)
        exact absurd (hall m q1 (by omega)) q3

theorem freshOf_frame (S : OS) : (freshOf S).2.hashes = S.hashes ∧ (freshOf S).2.keys = S.keys ∧ (freshOf S).2.secrets = S.secrets ∧ (freshOf S).2.publics = S.publics ∧
    (freshOf S).2.signs = S.signs ∧ (freshOf S).2.signed = S.signed ∧ (freshOf S).2.sealed = S.sealed ∧ (freshOf S).2.wrapped = S.wrapped := by
  unfold freshOf
  cases pickD S.draws S.used with
  | some q => exact ⟨rfl, rfl, rfl, rfl, rfl, rfl, rfl, rfl⟩
  | none => exact ⟨rfl, rfl, rfl, rfl, rfl, rfl, rfl, rfl⟩

def OS.init (l : List Int) : OS := ⟨l, [], 1, [], [], [], [], [], [], [], []⟩
theorem OS.init_ok (l : List Int) (hl : ∀ d ∈ l, 0 ≤ d ∧ d < 18446744073709551616) : (OS.init l).ok := ⟨Int.le_refl _, fun n h1 h2 => by simp only [OS.init] at h2; omega, by simp [OS.init], hl⟩
def hashOf (S : OS) (b : List UInt8) : Int × OS :=
  match alook S.hashes b with
  | some h => (h, S)
  | none => ((freshOf S).1, { (freshOf S).2 with hashes := aput S.hashes b (freshOf S).1 })
def badd (l : List Int) (x : Int) : List Int := if x ∈ l then l else l ++ [x]
theorem mput_badd (l : List Int) (x : Int) : mput (bset l) x (.bool true) = bset (badd l x) := by
  unfold badd
  split
  · exact mput_bset_in ‹_›
  · exact mput_bset ‹_›
theorem hashOf_ok {S : OS} (h : S.ok) (b : List UInt8) : (hashOf S b).2.ok ∧ (hashOf S b).2.used.length ≤ S.used.length + 1 := by
  unfold hashOf
  cases alook S.hashes b with
  | some x => exact ⟨h, Nat.le_succ _⟩
  | none =>
    obtain ⟨_, _, h3, h4⟩ := freshOf_spec h
    exact ⟨h4, by show (freshOf S).2.used.length ≤ _; rw [h3]; simp⟩
def pairOf (S : OS) : (Int × Int) × OS :=
  let S1 := { (freshOf S).2 with secrets := badd S.secrets (freshOf S).1 }
  (((freshOf S).1, (freshOf S1).1), { (freshOf S1).2 with publics := aput S.publics (freshOf S1).1 (freshOf S).1 })
theorem pairOf_ok {S : OS} (h : S.ok) : (pairOf S).2.ok ∧ (pairOf S).2.used.length ≤ S.used.length + 2 := by
  obtain ⟨_, _, h3, h4⟩ := freshOf_spec h
  have h5 : OS.ok { (freshOf S).2 with secrets := badd S.secrets (freshOf S).1 } := h4
  obtain ⟨_, _, h6, h7⟩ := freshOf_spec h5
  exact ⟨h7, by show (freshOf _).2.used.length ≤ _; rw [h6]; show ((freshOf S).2.used ++ _).length ≤ _; rw [h3]; simp⟩
/-- Sign: none where the secret is none. -/
def signOf (S : OS) (k : Int) (b : List UInt8) : (Int × Bool) × OS :=
  if k ∈ S.secrets then
    match alook S.signs (k, b) with
    | some h => ((h, true), S)
    | none => (((freshOf S).1, true), { (freshOf S).2 with signs := aput S.signs (k, b) (freshOf S).1, signed := aput S.signed (freshOf S).1 (k, b) })
  else ((0, false), S)
theorem signOf_ok {S : OS} (h : S.ok) (k : Int) (b : List UInt8) : (signOf S k b).2.ok ∧ (signOf S k b).2.used.length ≤ S.used.length + 1 := by
  unfold signOf
  split
  · cases alook S.signs (k, b) with
    | some x => exact ⟨h, Nat.le_succ _⟩
    | none =>
      obtain ⟨_, _, h3, h4⟩ := freshOf_spec h
      exact ⟨h4, by show (freshOf S).2.used.length ≤ _; rw [h3]; simp⟩
  · exact ⟨h, Nat.le_succ _⟩
def verifyOf (S : OS) (p : Int) (b : List UInt8) (x : Int) : Bool :=
  match alook S.publics p, alook S.signed x with
  | some s, some q => decide (q = (s, b))
  | _, _ => false

theorem pairOf_spec {S : OS} (h : S.ok) : (pairOf S).1.1 ≠ 0 ∧ (pairOf S).1.2 ≠ 0 ∧ (pairOf S).1.1 ∉ S.used ∧ (pairOf S).1.2 ∉ S.used ∧ (pairOf S).1.1 ≠ (pairOf S).1.2 ∧ (pairOf S).2.used = S.used ++ [(pairOf S).1.1] ++ [(pairOf S).1.2] ∧
    (pairOf S).2.secrets = badd S.secrets (pairOf S).1.1 ∧ (pairOf S).2.publics = aput S.publics (pairOf S).1.2 (pairOf S).1.1 ∧
    (pairOf S).2.hashes = S.hashes ∧ (pairOf S).2.keys = S.keys ∧ (pairOf S).2.signs = S.signs ∧ (pairOf S).2.signed = S.signed ∧ (pairOf S).2.sealed = S.sealed ∧ (pairOf S).2.wrapped = S.wrapped := by
  obtain ⟨a1, a2, a3, a4⟩ := freshOf_spec h
  have h5 : OS.ok { (freshOf S).2 with secrets := badd S.secrets (freshOf S).1 } := a4
  obtain ⟨b1, b2, b3, b4⟩ := freshOf_spec h5
  obtain ⟨c1, c2, c3, c4, c5, c6, c7, c8⟩ := freshOf_frame S
  obtain ⟨d1, d2, d3, d4, d5, d6, d7, d8⟩ := freshOf_frame { (freshOf S).2 with secrets := badd S.secrets (freshOf S).1 }
  have hu : ({ (freshOf S).2 with secrets := badd S.secrets (freshOf S).1 } : OS).used = S.used ++ [(freshOf S).1] := a3
  rw [hu] at b2 b3
  simp only [List.mem_append, List.mem_singleton, not_or] at b2
  exact ⟨a1, b1, a2, b2.1, fun e => b2.2 e.symm, b3, d3, rfl, d1.trans c1, d2.trans c2, d5.trans c5, d6.trans c6, d7.trans c7, d8.trans c8⟩

theorem SealedL.look {w : World} {m : Nat → Prop} : ∀ {l : List (Int × Sealed)} {lv : List (Int × Value)}, SealedL w m l lv → ∀ x, (alook l x = none ∧ mlook lv x = none) ∨ ∃ s v, alook l x = some s ∧ mlook lv x = some v ∧ SealedV w m s v
  | [], [], _, x => .inl ⟨rfl, rfl⟩
  | p :: r, q :: s, h, x => by
    obtain ⟨h1, h2, h3⟩ := h
    simp only [alook, mlook, ← h1]
    by_cases hp : p.1 = x
    · rw [if_pos hp, if_pos hp]; exact .inr ⟨_, _, rfl, rfl, h2⟩
    · rw [if_neg hp, if_neg hp]; exact SealedL.look h3 x
  | [], _ :: _, h, _ => h.elim
  | _ :: _, [], h, _ => h.elim
theorem SealedL.put {w : World} {m : Nat → Prop} {x : Int} {t : Sealed} {v : Value} (hv : SealedV w m t v) : ∀ {l : List (Int × Sealed)} {lv : List (Int × Value)}, SealedL w m l lv → SealedL w m (aput l x t) (mput lv x v)
  | [], [], _ => ⟨rfl, hv, trivial⟩
  | p :: r, q :: s, h => by
    obtain ⟨h1, h2, h3⟩ := h
    simp only [aput, mput, ← h1]
    by_cases hp : p.1 = x
    · rw [if_pos hp, if_pos hp]; exact ⟨rfl, hv, h3⟩
    · rw [if_neg hp, if_neg hp]; exact ⟨h1, h2, SealedL.put hv h3⟩
  | [], _ :: _, h => h.elim
  | _ :: _, [], h => h.elim
theorem Orc.lt {w : World} {g : OG} {S : OS} (h : Orc w g S) : ∀ b, g.m b → b < w.heap.size := h.mlt
end Go.Proofs.Ytfmdpjhkojbocaa

/- What the oracle's methods do. -/
set_option linter.unusedVariables false
set_option linter.unusedSimpArgs false
namespace Go.Proofs.Ytfmdpjhkojbocaa
open Go Go.Mx Go.Proofs

theorem keysU : Keys Try.prog 25 u64V := keys_int Try.underlying25
theorem keysS : Keys Try.prog 9 strV := keys_str Try.underlying9

/-- a step that hands back v. -/
def Gives (v : Value) (Q : World → Prop) (e : Ending) (w' : World) : Prop := e = .returned v ∧ Q w'

section
variable {w w' : World} {g : OG} {S : OS}
theorem Orc.pCell (h : Orc w g S) {i : Nat} {v : Value} (hv : ∀ da dc, ([.slice da S.draws.length dc, .map (some g.used), .int .u64 S.next, .map (some g.hashes), .map (some g.keys), .map (some g.secrets), .map (some g.publics), .map (some g.signs), .map (some g.signed), .map (some g.sealed), .map (some g.wrapped)] : List Value)[i]? = some v) :
    w.cell? ((blk g.p).add i) = some v := by
  obtain ⟨da, dc, hb, _⟩ := h.st
  exact hb.cella (hv da dc)

theorem m_used : g.m g.used := by simp [OG.m, OG.list]
theorem m_p : g.m g.p := by simp [OG.m, OG.list]
theorem m_hashes : g.m g.hashes := by simp [OG.m, OG.list]
theorem m_secrets : g.m g.secrets := by simp [OG.m, OG.list]
theorem m_publics : g.m g.publics := by simp [OG.m, OG.list]

theorem take_no (h : Orc w g S) {x : Int} (hx : x = 0 ∨ x ∈ S.used) :
    Calls Try.prog 62 #[.pointer (some (blk g.p)), .int .u64 x] w (Gives (.bool false) fun w' => w' = w) := by
  refine (oTake.ok _ _ (R := fun v w' => v = .bool false ∧ w' = w) ?_).mono fun e w' ⟨v, he, hv, hw⟩ => ⟨by rw [he, hv], hw⟩
  unfold oTake.M
  by_cases h0 : x = 0
  · subst h0; exact ⟨rfl, rfl⟩
  · have hx' : x ∈ S.used := hx.resolve_left h0
    have : (x == 0) = false := by simpa using h0
    rw [this]
    obtain ⟨i, hi, hz, _⟩ := info_of inf4
    have hl := h.used.lookup keysU Try.underlying84 hi hz x false
    rw [mlook_bset, if_pos hx'] at hl
    exact ⟨some g.used, h.pCell fun _ _ => rfl, true, hl, rfl, rfl⟩
theorem take_yes (h : Orc w g S) {x : Int} (h0 : x ≠ 0) (hx : x ∉ S.used) :
    Calls Try.prog 62 #[.pointer (some (blk g.p)), .int .u64 x] w (Gives (.bool true) fun w' => Orc w' g { S with used := S.used ++ [x] } ∧ Ext g.m w w') := by
  refine (oTake.ok _ _ (R := fun v w' => v = .bool true ∧ Orc w' g { S with used := S.used ++ [x] } ∧ Ext g.m w w') ?_).mono fun e w' ⟨v, he, hv, hw⟩ => ⟨by rw [he, hv], hw⟩
  unfold oTake.M
  have : (x == 0) = false := by simpa using h0
  rw [this]
  obtain ⟨i, hi, hz, _⟩ := info_of inf4
  have hl := h.used.lookup keysU Try.underlying84 hi hz x false
  rw [mlook_bset, if_neg hx] at hl
  obtain ⟨w1, hr, hm, hext⟩ := h.used.update keysU Try.underlying84 x (.bool true)
  rw [mput_bset hx] at hm
  exact ⟨some g.used, h.pCell fun _ _ => rfl, false, hl, some g.used, h.pCell fun _ _ => rfl, w1, hr, rfl, h.set_used (hext _ rfl) hm, hext _ m_used⟩

theorem fresh_spec (h : Orc w g S) (hok : S.ok) (hlen : S.used.length < 1000000) :
    Calls Try.prog 33 #[.pointer (some (blk g.p))] w (Gives (u64V (freshOf S).1) fun w' => Orc w' g (freshOf S).2 ∧ Ext g.m w w') := by
  refine (oFresh.ok _ (R := fun v w' => v = u64V (freshOf S).1 ∧ Orc w' g (freshOf S).2 ∧ Ext g.m w w') ?_).mono fun e w' ⟨v, he, hv, hw⟩ => ⟨by rw [he, hv], hw⟩
  unfold oFresh.M
  refine ⟨fun k vs w1 => ∃ d, k = d.length ∧ Orc w1 g { S with draws := d } ∧ pickD d S.used = pickD S.draws S.used ∧ Ext g.m w w1, S.draws.length, ⟨S.draws, rfl, h, rfl, Ext.refl _ _⟩, ?_⟩
  rintro k w1 ⟨d, rfl, h1, hp, hx⟩
  obtain ⟨da, dc, hb, hle, hrow, hout⟩ := h1.st
  refine ⟨da, d.length, dc, hb.cella rfl, ?_⟩
  cases d with
  | nil =>
    -- the counter
    simp only [List.length_nil, Int.natCast_zero, gt_iff_lt, Int.lt_irrefl, decide_false, cond_false]
    have hf : freshOf S = (pickN S.used (S.used.length + 1) S.next, { S with draws := [], next := pickN S.used (S.used.length + 1) S.next, used := S.used ++ [pickN S.used (S.used.length + 1) S.next] }) := by
      simp [freshOf, ← hp, pickD]
    obtain ⟨q1, q2, q3, q4⟩ := hok
    obtain ⟨a1, a2, a3, a4, a5⟩ := pickN_spec S.used (S.used.length + 1) S.next q1 (gap S.used _ _ (by omega))
    rw [hf]
    generalize hN : pickN S.used (S.used.length + 1) S.next = N at *
    refine ⟨fun k vs w1 => ∃ n, S.next ≤ n ∧ n ≤ N ∧ k = (N - n).toNat ∧ Orc w1 g { S with draws := [], next := n } ∧ Ext g.m w w1, (N - S.next).toNat, ⟨S.next, Int.le_refl _, a1, rfl, h1, hx⟩, ?_⟩
    rintro k w2 ⟨n, hn1, hn2, rfl, h2, hx2⟩
    refine ⟨n, h2.pCell fun _ _ => rfl, ?_⟩
    by_cases hn : n = N
    · subst hn
      refine (take_yes h2 a4 a3).mono fun e w3 ⟨he, h3, hx3⟩ => ⟨true, he, ?_⟩
      exact ⟨n, h3.pCell fun _ _ => rfl, rfl, h3, hx2.trans hx3⟩
    · refine (take_no h2 (.inr (a5 n hn1 (by omega)))).mono fun e w3 ⟨he, hw3⟩ => ⟨false, he, ?_⟩
      subst hw3
      obtain ⟨da2, dc2, hb2, hle2, hrow2, hout2⟩ := h2.st
      have hwr : IntKind.u64.wrap (n + 1) = n + 1 := by
        simp only [IntKind.wrap, IntKind.bits, IntKind.signed]
        simp
        omega
      refine ⟨n, h2.pCell fun _ _ => rfl, hb2.cana (i := 2) rfl, thenW_in fun w4 hw4 => ?_⟩
      rw [hwr] at hw4
      have hext : Ext (fun b => b = g.p) w3 w4 := by
        subst hw4; exact (Ext.refl _ _).setCell (.inl (by rw [add_zero, add_blk])) _
      have hb4 := hb2.seta 2 (.int .u64 (n + 1))
      refine ⟨(N - (n + 1)).toNat, by omega, n + 1, by omega, by omega, rfl, ?_, hx2.trans (hext.mono fun b hb _ => by subst hb; exact m_p)⟩
      refine h2.set_p hext ⟨da2, dc2, ?_, hle2, RowAt.nil _ _, hout2⟩
      subst hw4
      exact hb4
  | cons x r =>
    have hpos : decide (((x :: r).length : Int) > 0) = true := by simp
    rw [hpos]
    have hcell : w1.cell? (((blk g.p).add 0)) = some (.slice da (x :: r).length dc) := hb.cella rfl
    obtain ⟨ad, rfl⟩ := hrow.addr (by simp)
    have hx0 : w1.cell? (ad.add (Int.toNat 0 * 1)) = some (.int .u64 x) := hrow.at_ (i := 0) rfl
    refine ⟨_, _, dc, hcell, Int.le_refl _, by show (0 : Int) < ((x :: r).length : Int); rw [List.length_cons]; omega, x, hx0, _, _, dc, hcell, by omega, by show (1 : Int) ≤ ((x :: r).length : Int); rw [List.length_cons]; omega, hb.cana (i := 0) rfl, thenW_in fun w2 hw2 => ?_⟩
    have hext : Ext (fun b => b = g.p) w1 w2 := by
      subst hw2; exact (Ext.refl _ _).setCell (.inl (by rw [add_zero, add_blk])) _
    have hb2 := hb.seta 0 (.slice (if dc = Int.toNat 1 then some ad else Option.map (fun z : Addr => z.add ((Int.toNat 1) * 1)) (some ad)) ((x :: r).length - (Int.toNat 1)) (dc - (Int.toNat 1)))
    have hxm : Ext g.m w w2 := hx.trans (hext.mono fun b hb _ => by subst hb; exact m_p)
    have hrow2 : RowAt w1 (if dc = 1 then some ad else Option.map (·.add 1) (some ad)) (r.map u64V) := by
      have := hrow.drop 1 dc (fun e => by simp only [List.length_cons, List.length_map] at hle ⊢; omega)
      simpa using this
    have hout2 : r.map u64V ≠ [] → Out g.M (if dc = 1 then some ad else Option.map (·.add 1) (some ad)) := fun _ q hq => by
      split at hq
      · exact hout (by simp) q hq
      · simp only [Option.map_some, Option.some.injEq] at hq
        subst hq; rw [block_add]; exact hout (by simp) ad rfl
    have h2 : Orc w2 g { S with draws := r } := by
      refine h1.set_p (x := S.next) hext ⟨_, dc - 1, ?_, by simp at hle ⊢; omega, hrow2.ext' hext (fun h0 q hq hb => hout2 h0 q hq (.inl (by rw [hb]; exact m_p))), hout2⟩
      subst hw2
      exact hb2
    by_cases hxu : x = 0 ∨ x ∈ S.used
    · refine (take_no h2 hxu).mono fun e w3 ⟨he, hw3⟩ => ⟨false, he, ?_⟩
      subst hw3
      exact ⟨r.length, by simp, r, rfl, h2, by rw [← hp]; simp [pickD, hxu], hxm⟩
    · rw [not_or] at hxu
      refine (take_yes h2 hxu.1 hxu.2).mono fun e w3 ⟨he, h3, hx3⟩ => ⟨true, he, ?_⟩
      have hf : freshOf S = (x, { S with draws := r, used := S.used ++ [x] }) := by
        simp [freshOf, ← hp, pickD, hxu]
      rw [hf]
      exact ⟨rfl, h3, hxm.trans hx3⟩

theorem u64_one (l : List Int) : ∀ u ∈ l.map u64V, u.oneCell' = true := fun u hu => by
  obtain ⟨b, _, rfl⟩ := List.mem_map.1 hu; rfl
theorem clone64_spec {a : Option Addr} {c : Nat} {l : List Int} (h : RowAt w a (l.map u64V)) (hl : l.length ≤ 1000000) :
    Calls Try.prog 32 #[.slice a l.length c] w (fun e w' => ∃ a' c', e = .returned (.slice a' l.length c') ∧ l.length ≤ c' ∧ RowAt w' a' (l.map u64V) ∧ Ext no w w' ∧ Fresh w w' a') := by
  refine (clone64.ok a l.length c (R := fun v w' => ∃ a' c', v = (.slice a' l.length c') ∧ l.length ≤ c' ∧ RowAt w' a' (l.map u64V) ∧ Ext no w w' ∧ Fresh w w' a') ?_).mono fun e w' ⟨v, he, a', c', hv, hw⟩ => ⟨a', c', by rw [he, hv], hw⟩
  unfold clone64.M
  cases a with
  | none =>
    have : l = [] := by simpa using h.none_nil
    subst this
    exact ⟨none, 0, rfl, Nat.le_refl _, RowAt.nil _ _, Ext.refl _ _, fun ad ha => by cases ha⟩
  | some ad =>
    rw [Option.isNone_some, cond_false]
    refine thenW_in fun w2 hw2 => ?_
    subst hw2
    obtain ⟨i, hi, hz, hs, hb⟩ := info_of inf25
    obtain ⟨a', c', w', hr, h1, h2, h3, h4⟩ := clone_run (c := c) (m := l.length) (ty := 55) Try.underlying55 hi hz hs hb rfl (by simp) h (u64_one l) (by omega) (by omega)
    exact ⟨a', l.length, c', w', hr, a', c', rfl, h1, h2, h3, h4⟩
theorem new_map {κ : Type} [DecidableEq κ] (enc : κ → Value) {w1 w2 : World} (h : w2 = w1.alloc (.map #[] 0)) : MapIs w2 w1.heap.size enc [] ∧ Ext no w1 w2 ∧ w2.heap.size = w1.heap.size + 1 := by
  subst h; exact ⟨MapIs.new _ _, (Ext.refl _ _).alloc _, by simp⟩
theorem New_specX (x0 : Nat → Prop) (hx0 : ∀ b, x0 b → b < w.heap.size) {a : Option Addr} {c : Nat} {l : List Int} (h : RowAt w a (l.map u64V)) (hl : l.length ≤ 1000000) :
    Calls Try.prog 6 #[.slice a l.length c] w (fun e w' => ∃ g : OG, e = .returned (.pointer (some (blk g.p))) ∧ Orc w' g (OS.init l) ∧ Ext no w w' ∧ (∀ b, g.m b → w.heap.size ≤ b ∧ b < w'.heap.size) ∧ g.x = x0) := by
  refine (oNew.ok a l.length c (R := fun v w' => ∃ g : OG, v = (.pointer (some (blk g.p))) ∧ Orc w' g (OS.init l) ∧ Ext no w w' ∧ (∀ b, g.m b → w.heap.size ≤ b ∧ b < w'.heap.size) ∧ g.x = x0) ?_).mono fun e w' ⟨v, he, g, hv, hw⟩ => ⟨g, by rw [he, hv], hw⟩
  unfold oNew.M
  refine (clone64_spec h hl).mono fun e w4 ⟨a', c', he, hle, hrow, hx, hf⟩ => ⟨a', l.length, c', he, ?_⟩
  refine thenW_in fun w5 h5 => thenW_in fun w6 h6 => thenW_in fun w7 h7 => thenW_in fun w8 h8 => thenW_in fun w9 h9 => thenW_in fun w10 h10 => thenW_in fun w11 h11 => thenW_in fun w12 h12 => thenW_in fun w13 h13 => thenW_in fun w14 h14 => ?_
  obtain ⟨m5, e5, s5⟩ := new_map u64V h5
  obtain ⟨m6, e6, s6⟩ := new_map strV h6
  obtain ⟨m7, e7, s7⟩ := new_map u64V h7
  obtain ⟨m8, e8, s8⟩ := new_map u64V h8
  obtain ⟨m9, e9, s9⟩ := new_map u64V h9
  obtain ⟨m10, e10, s10⟩ := new_map signedV h10
  obtain ⟨m11, e11, s11⟩ := new_map u64V h11
  obtain ⟨m12, e12, s12⟩ := new_map u64V h12
  obtain ⟨m13, e13, s13⟩ := new_map u64V h13
  have e14 : Ext no w13 w14 := by rw [h14]; exact (Ext.refl _ _).alloc _
  have s14 : w14.heap.size = w13.heap.size + 1 := by rw [h14]; simp
  have x13 := e14
  have x12 := e13.trans x13
  have x11 := e12.trans x12
  have x10 := e11.trans x11
  have x9 := e10.trans x10
  have x8 := e9.trans x9
  have x7 := e8.trans x8
  have x6 := e7.trans x7
  have x5 := e6.trans x6
  have x4 := e5.trans x5
  have hsz := hx.size
  have hm : ∀ b, (OG.mk w13.heap.size w4.heap.size w5.heap.size w6.heap.size w7.heap.size w8.heap.size w9.heap.size w10.heap.size w11.heap.size w12.heap.size x0).m b → w4.heap.size ≤ b ∧ b < w14.heap.size := fun b hb => by
    simp only [OG.m, OG.list, List.mem_cons, List.not_mem_nil, or_false] at hb
    omega
  refine ⟨⟨w13.heap.size, w4.heap.size, w5.heap.size, w6.heap.size, w7.heap.size, w8.heap.size, w9.heap.size, w10.heap.size, w11.heap.size, w12.heap.size, x0⟩, rfl, ⟨?_, ?_, m5.ext x5 id, m6.ext x6 id, m7.ext x7 id, m8.ext x8 id, m9.ext x9 id, m10.ext x10 id, m11.ext x11 id, ⟨[], m12.ext x12 id, trivial⟩, m13.ext x13 id, fun b hb hxx => ?_, fun b hb => ?_⟩, hx.trans x4, fun b hb => ⟨?_, (hm b hb).2⟩, rfl⟩
  · simp only [OG.list, List.nodup_cons, List.mem_cons, not_or, List.not_mem_nil, not_false_eq_true, List.nodup_nil, and_true]
    omega
  · refine ⟨a', c', ?_, hle, hrow.ext x4 (fun _ _ h => h), fun _ => hf.out fun b hb => hb.elim (fun hb => .inr (hm b hb).1) (fun hb => .inl (hx0 b hb))⟩
    rw [h14]
    exact Blk.new _ _ _
  · have h1 := (hm b hb).1
    have h2 := hx0 b hxx
    omega
  · exact Nat.lt_of_lt_of_le (hx0 b hb) (hx.trans x4).size
  · exact Nat.le_trans hsz (hm b hb).1

theorem Hash_spec (h : Orc w g S) (hok : S.ok) (hlen : S.used.length < 1000000) {a : Option Addr} {c : Nat} {bs : List UInt8} (hr : RowAt w a (bytesV bs)) (ho : bytesV bs ≠ [] → Out g.m a) :
    Calls Try.prog 82 #[.pointer (some (blk g.p)), .slice a bs.length c] w (Gives (u64V (hashOf S bs).1) fun w' => Orc w' g (hashOf S bs).2 ∧ Ext g.m w w') := by
  refine (oHash.ok _ _ _ _ (R := fun v w' => v = u64V (hashOf S bs).1 ∧ Orc w' g (hashOf S bs).2 ∧ Ext g.m w w') ?_).mono fun e w' ⟨v, he, hv, hw⟩ => ⟨by rw [he, hv], hw⟩
  unfold oHash.M
  rw [Option.isNone_some, cond_false]
  refine thenW_in fun w3 h3 => ?_
  have hx3 : Ext no w w3 := by subst h3; exact (Ext.refl _ _).drew
  have hO := h.none hx3
  obtain ⟨i, hi, hz, _⟩ := info_of inf25
  have hl := hO.hashes.lookup keysS Try.underlying85 hi hz bs true
  rw [mlook_map] at hl
  have hcv := conv_str (P := Try.prog) (c := c) Try.underlying23 Try.underlying5 Try.underlying9 (hr.ext hx3 (fun _ _ h => h))
  cases hk : alook S.hashes bs with
  | some x =>
    rw [hk] at hl
    refine ⟨some g.hashes, hO.pCell fun _ _ => rfl, _, hcv, x, true, hl, ?_⟩
    have : hashOf S bs = (x, S) := by unfold hashOf; rw [hk]
    rw [this]
    exact ⟨rfl, hO, hx3.none⟩
  | none =>
    rw [hk] at hl
    refine ⟨some g.hashes, hO.pCell fun _ _ => rfl, _, hcv, 0, false, hl, ?_⟩
    refine (fresh_spec hO hok hlen).mono fun e w11 ⟨he, hO2, hx11⟩ => ⟨(freshOf S).1, he, thenW_in fun w12 h12 => ?_⟩
    have hx12 : Ext no w11 w12 := by subst h12; exact (Ext.refl _ _).drew
    have hO3 := hO2.none hx12
    have hcv2 := conv_str (P := Try.prog) (c := c) Try.underlying23 Try.underlying5 Try.underlying9 (((hr.ext hx3 (fun _ _ h => h)).ext' hx11 ho).ext hx12 (fun _ _ h => h))
    obtain ⟨w16, hu, hm, hext⟩ := hO3.hashes.update keysS Try.underlying85 bs (u64V (freshOf S).1)
    rw [mput_map, (freshOf_frame S).1] at hm
    refine ⟨some g.hashes, hO3.pCell fun _ _ => rfl, _, hcv2, w16, hu, ?_⟩
    have : hashOf S bs = ((freshOf S).1, { (freshOf S).2 with hashes := aput S.hashes bs (freshOf S).1 }) := by unfold hashOf; rw [hk]
    rw [this]
    exact ⟨rfl, hO3.set_hashes (hext _ rfl) hm, ((hx3.none.trans hx11).trans hx12.none).trans (hext _ m_hashes)⟩

end
end Go.Proofs.Ytfmdpjhkojbocaa

/- What the oracle's pairs and signatures do. -/
set_option linter.unusedVariables false
set_option linter.unusedSimpArgs false
namespace Go.Proofs.Ytfmdpjhkojbocaa
open Go Go.Mx Go.Proofs
theorem two_signed : Two Try.prog 135 (.int .u64) .string := Two.mk' Try.underlying135 (by kernel_rfl) Try.underlying25 Try.underlying9
theorem keysG : Keys Try.prog 135 signedV := keys_int_str two_signed
theorem infSigned : (Try.prog.info? 135).map (fun i => (i.zero, i.size, i.bytes)) = some (some (.agg #[.int .u64 0, .string ByteArray.empty]), 2, 24) := by kernel_rfl

section
variable {w w' : World} {g : OG} {S : OS}
theorem m_signs : g.m g.signs := by simp [OG.m, OG.list]
theorem m_signed : g.m g.signed := by simp [OG.m, OG.list]
theorem Pair_spec (h : Orc w g S) (hok : S.ok) (hlen : S.used.length + 1 < 1000000) :
    Calls Try.prog 7 #[.pointer (some (blk g.p))] w (Gives (.tuple #[u64V (pairOf S).1.1, u64V (pairOf S).1.2]) fun w' => Orc w' g (pairOf S).2 ∧ Ext g.m w w') := by
  refine (oPair.ok _ (R := fun v w' => v = .tuple #[u64V (pairOf S).1.1, u64V (pairOf S).1.2] ∧ Orc w' g (pairOf S).2 ∧ Ext g.m w w') ?_).mono fun e w' ⟨v, he, hv, hw⟩ => ⟨by rw [he, hv], hw⟩
  unfold oPair.M
  refine (fresh_spec h hok (by omega)).mono fun e w4 ⟨he, hO, hx⟩ => ⟨(freshOf S).1, he, ?_⟩
  obtain ⟨w7, hu, hm, hext⟩ := hO.secrets.update keysU Try.underlying84 (freshOf S).1 (.bool true)
  rw [(freshOf_frame S).2.2.1, mput_badd] at hm
  have hO7 := hO.set_secrets (hext _ rfl) hm
  obtain ⟨_, _, h3, h4⟩ := freshOf_spec hok
  refine ⟨some g.secrets, hO.pCell fun _ _ => rfl, w7, hu, ?_⟩
  refine (fresh_spec hO7 h4 (by show (freshOf S).2.used.length < _; rw [h3]; simp; omega)).mono fun e w10 ⟨he, hO10, hx10⟩ => ⟨_, he, ?_⟩
  obtain ⟨w13, hu13, hm13, hext13⟩ := hO10.publics.update keysU Try.underlying86 (pairOf S).1.2 (u64V (freshOf S).1)
  rw [mput_map, (freshOf_frame _).2.2.2.1] at hm13
  rw [show ({ (freshOf S).2 with secrets := badd S.secrets (freshOf S).1 } : OS).publics = S.publics from (freshOf_frame S).2.2.2.1] at hm13
  exact ⟨some g.publics, hO10.pCell fun _ _ => rfl, w13, hu13, rfl, hO10.set_publics (hext13 _ rfl) hm13, ((hx.trans (hext _ m_secrets)).trans hx10).trans (hext13 _ m_publics)⟩

theorem look_secret (h : Orc w g S) (k : Int) : (Instr.lookup 84 (.map (some g.secrets)) (.int .u64 k) false).run Try.prog w = .ok (.bool (decide (k ∈ S.secrets))) w := by
  obtain ⟨i, hi, hz, _⟩ := info_of inf4
  have hl := h.secrets.lookup keysU Try.underlying84 hi hz k false
  rw [mlook_bset] at hl
  refine hl.trans ?_
  by_cases hk : k ∈ S.secrets
  · simp [hk]
  · simp [hk]
theorem look_public (h : Orc w g S) (k : Int) : (Instr.lookup 86 (.map (some g.publics)) (.int .u64 k) true).run Try.prog w = .ok (.tuple #[.int .u64 ((alook S.publics k).getD 0), .bool (alook S.publics k).isSome]) w := by
  obtain ⟨i, hi, hz, _⟩ := info_of inf25
  have hl := h.publics.lookup keysU Try.underlying86 hi hz k true
  rw [mlook_map] at hl
  refine hl.trans ?_
  cases alook S.publics k <;> rfl

theorem Sign_spec (h : Orc w g S) (hok : S.ok) (hlen : S.used.length < 1000000) (k : Int) {a : Option Addr} {c : Nat} {bs : List UInt8} (hr : RowAt w a (bytesV bs)) (ho : bytesV bs ≠ [] → Out g.m a) :
    Calls Try.prog 52 #[.pointer (some (blk g.p)), .int .u64 k, .slice a bs.length c] w (Gives (.tuple #[u64V (signOf S k bs).1.1, .int .i64 (if (signOf S k bs).1.2 then 0 else 11)]) fun w' => Orc w' g (signOf S k bs).2 ∧ Ext g.m w w') := by
  refine (oSign.ok _ _ _ _ _ (R := fun v w' => v = .tuple #[u64V (signOf S k bs).1.1, .int .i64 (if (signOf S k bs).1.2 then 0 else 11)] ∧ Orc w' g (signOf S k bs).2 ∧ Ext g.m w w') ?_).mono fun e w' ⟨v, he, hv, hw⟩ => ⟨by rw [he, hv], hw⟩
  unfold oSign.M
  rw [Option.isNone_some, cond_false]
  refine ⟨some g.secrets, h.pCell fun _ _ => rfl, _, look_secret h k, ?_⟩
  by_cases hk' : ¬ k ∈ S.secrets
  · have hk := hk'
    have : signOf S k bs = ((0, false), S) := by unfold signOf; rw [if_neg hk]
    rw [this, decide_eq_false hk]
    exact ⟨rfl, h, Ext.refl _ _⟩
  have hk := Decidable.not_not.1 hk'
  rw [decide_eq_true hk, Bool.not_true, cond_false]
  have hcv := conv_str (P := Try.prog) (c := c) Try.underlying23 Try.underlying5 Try.underlying9 hr
  refine ⟨_, hcv, thenW_in fun w8 h8 => ?_⟩
  have hb8 : Blk w8 w.heap.size 135 [.int .u64 0, .string ByteArray.empty] := by subst h8; exact Blk.new _ _ _
  have e8 : Ext no w w8 := by subst h8; exact (Ext.refl _ _).alloc _
  refine ⟨hb8.cana (i := 0) rfl, thenW_in fun w9 h9 => ?_⟩
  have hb9 : Blk w9 w.heap.size 135 [.int .u64 k, .string ByteArray.empty] := by subst h9; exact hb8.seta 0 _
  have e9 : Ext no w w9 := by subst h9; exact e8.setCell (.inr (by rw [add_zero]; exact Nat.le_refl _)) _
  refine ⟨hb9.cana (i := 1) rfl, thenW_in fun w10 h10 => ?_⟩
  have hb10 : Blk w10 w.heap.size 135 [.int .u64 k, strV bs] := by subst h10; exact hb9.seta 1 _
  have e10 : Ext no w w10 := by subst h10; exact e9.setCell (.inr (by rw [add_blk]; exact Nat.le_refl _)) _
  refine thenW_in fun w11 h11 => ?_
  have hb11 : Blk w11 w.heap.size 135 [.int .u64 k, strV bs] := by subst h11; exact hb10
  have e11 : Ext no w w11 := by subst h11; exact e10.drew
  have hO11 := h.none e11
  have cells : ∀ w', Blk w' w.heap.size 135 [.int .u64 k, strV bs] → cellsAt w' (blk w.heap.size) [.int .u64 k, strV bs] 0 := fun w' hb => ⟨hb.cella rfl, hb.cella rfl, trivial⟩
  obtain ⟨i, hi, hz, _⟩ := info_of inf25
  have hl := hO11.signs.lookup keysG Try.underlying87 hi hz (k, bs) true
  rw [mlook_map] at hl
  cases hs : alook S.signs (k, bs) with
  | some x =>
    rw [hs] at hl
    refine ⟨some g.signs, hO11.pCell fun _ _ => rfl, k, _, cells _ hb11, x, true, hl, ?_⟩
    have : signOf S k bs = ((x, true), S) := by unfold signOf; rw [if_pos hk, hs]
    rw [this]
    exact ⟨rfl, hO11, e11.none⟩
  | none =>
    rw [hs] at hl
    refine ⟨some g.signs, hO11.pCell fun _ _ => rfl, k, _, cells _ hb11, 0, false, hl, ?_⟩
    have hsg : signOf S k bs = (((freshOf S).1, true), { (freshOf S).2 with signs := aput S.signs (k, bs) (freshOf S).1, signed := aput S.signed (freshOf S).1 (k, bs) }) := by unfold signOf; rw [if_pos hk, hs]
    have hnm : ¬ g.m w.heap.size := fun hm => by
      have : ∀ b, g.m b → b < w.heap.size := fun b hb => by
        obtain ⟨da, dc, hp, _⟩ := h.st
        obtain ⟨lv, hse, _⟩ := h.sealed
        simp only [OG.m, OG.list, List.mem_cons, List.not_mem_nil, or_false] at hb
        rcases hb with rfl | rfl | rfl | rfl | rfl | rfl | rfl | rfl | rfl | rfl
        · exact hp.lt
        · exact h.used.lt
        · exact h.hashes.lt
        · exact h.keys.lt
        · exact h.secrets.lt
        · exact h.publics.lt
        · exact h.signs.lt
        · exact h.signed.lt
        · exact hse.lt
        · exact h.wrapped.lt
      exact absurd (this _ hm) (Nat.lt_irrefl _)
    refine (fresh_spec hO11 hok hlen).mono fun e w20 ⟨he, hO20, hx20⟩ => ⟨(freshOf S).1, he, thenW_in fun w21 h21 => ?_⟩
    have hx21 : Ext no w20 w21 := by subst h21; exact (Ext.refl _ _).drew
    have hO21 := hO20.none hx21
    have hb21 := (hb11.ext hx20 hnm).ext hx21 id
    obtain ⟨n, w32, hme, hpend, hext32⟩ := hO21.signs.entry keysG Try.underlying87 hi hz (k, bs)
    obtain ⟨w33, hst, hm33, hext33⟩ := hpend.store (t := 87) (u64V (freshOf S).1)
    have hmm : mput (mput ((freshOf S).2.signs.map fun p => (p.1, u64V p.2)) (k, bs) ((mlook ((freshOf S).2.signs.map fun p => (p.1, u64V p.2)) (k, bs)).getD (.int .u64 0))) (k, bs) (u64V (freshOf S).1) = (aput S.signs (k, bs) (freshOf S).1).map fun p => (p.1, u64V p.2) := by
      rw [mput_mput, mput_map, (freshOf_frame S).2.2.2.2.1]
    rw [hmm] at hm33
    have x33 : ∀ m : Nat → Prop, m g.signs → Ext m w21 w33 := fun m hm => (hext32 m hm).trans (hext33 m hm)
    have hO33 := hO21.set_signs (x33 _ rfl) hm33
    have hns : ¬ (w.heap.size = g.signs) := fun e => hnm (e ▸ m_signs)
    have hb32 := hb21.ext (hext32 (fun b => b = g.signs) rfl) hns
    have hb33 := hb21.ext (x33 (fun b => b = g.signs) rfl) hns
    obtain ⟨i2, hi2, hz2, _⟩ := info_of infSigned
    obtain ⟨n2, w37, hme2, hpend2, hext37⟩ := hO33.signed.entry keysU Try.underlying88 hi2 hz2 (freshOf S).1
    obtain ⟨w38, hst2, hm38, hext38⟩ := hpend2.store (t := 88) (signedV (k, bs))
    have hold : ∃ v t, (mlook ((freshOf S).2.signed.map fun p => (p.1, signedV p.2)) (freshOf S).1).getD (.agg #[.int .u64 0, .string ByteArray.empty]) = .agg #[.int .u64 v, .string t] := by
      rw [mlook_map]
      cases alook (freshOf S).2.signed (freshOf S).1 with
      | none => exact ⟨0, _, rfl⟩
      | some q => exact ⟨q.1, _, rfl⟩
    obtain ⟨ov, ot, hold⟩ := hold
    have hme2' := hme2
    rw [show ({ (freshOf S).2 with signs := aput S.signs (k, bs) (freshOf S).1 } : OS).signed = (freshOf S).2.signed from rfl, hold] at hme2'
    rw [mput_mput, mput_map, show ({ (freshOf S).2 with signs := aput S.signs (k, bs) (freshOf S).1 } : OS).signed = S.signed from (freshOf_frame S).2.2.2.2.2.1] at hm38
    have x38 : ∀ m : Nat → Prop, m g.signed → Ext m w33 w38 := fun m hm => (hext37 m hm).trans (hext38 m hm)
    have hb37 := hb33.ext (hext37 (fun b => b = g.signed) rfl) (fun e => hnm (e ▸ m_signed))
    have hold1 : ∃ v, (mlook ((freshOf S).2.signs.map fun p => (p.1, u64V p.2)) (k, bs)).getD (.int .u64 0) = .int .u64 v := by
      rw [mlook_map]
      cases alook (freshOf S).2.signs (k, bs) with
      | none => exact ⟨0, rfl⟩
      | some q => exact ⟨q, rfl⟩
    obtain ⟨ov1, hold1⟩ := hold1
    rw [hold1] at hme
    refine ⟨some g.signs, hO21.pCell fun _ _ => rfl, k, _, cells _ hb21, some g.signed, hO21.pCell fun _ _ => rfl, k, _, cells _ hb21, ov1, n, w32, hme, cells _ hb32, w33, hst, cells _ hb33, ov, ot, n2, w37, hme2', cells _ hb37, w38, hst2, ?_⟩
    rw [hsg]
    refine ⟨rfl, hO33.set_signed (x38 _ rfl) hm38, ?_⟩
    exact (((e11.none.trans hx20).trans hx21.none).trans (x33 _ m_signs)).trans (x38 _ m_signed)

theorem look_signed (h : Orc w g S) (k : Int) : (Instr.lookup 88 (.map (some g.signed)) (.int .u64 k) true).run Try.prog w =
    .ok (.tuple #[signedV ((alook S.signed k).getD (0, [])), .bool (alook S.signed k).isSome]) w := by
  obtain ⟨i, hi, hz, _⟩ := info_of infSigned
  have hl := h.signed.lookup keysU Try.underlying88 hi hz k true
  rw [mlook_map] at hl
  refine hl.trans ?_
  cases alook S.signed k <;> rfl

theorem Verify_spec (h : Orc w g S) (p x : Int) {a : Option Addr} {c : Nat} {bs : List UInt8} (hr : RowAt w a (bytesV bs)) :
    Calls Try.prog 57 #[.pointer (some (blk g.p)), .int .u64 p, .slice a bs.length c, .int .u64 x] w (Gives (.bool (verifyOf S p bs x)) fun w' => Ext no w w') := by
  refine (oVerify.ok _ _ _ _ _ _ (R := fun v w' => v = .bool (verifyOf S p bs x) ∧ Ext no w w') ?_).mono fun e w' ⟨v, he, hv, hw⟩ => ⟨by rw [he, hv], hw⟩
  unfold oVerify.M
  rw [Option.isNone_some, cond_false]
  refine ⟨some g.publics, h.pCell fun _ _ => rfl, _, _, look_public h p, some g.signed, h.pCell fun _ _ => rfl, _, _, _, look_signed h x, thenW_in fun w14 h14 => ?_⟩
  have hb14 : Blk w14 w.heap.size 135 [.int .u64 0, .string ByteArray.empty] := by subst h14; exact Blk.new _ _ _
  have e14 : Ext no w w14 := by subst h14; exact (Ext.refl _ _).alloc _
  refine ⟨hb14.cana (i := 0) rfl, thenW_in fun w15 h15 => ?_⟩
  have hb15 : Blk w15 w.heap.size 135 [.int .u64 ((alook S.signed x).getD (0, [])).1, .string ByteArray.empty] := by subst h15; exact hb14.seta 0 _
  have e15 : Ext no w w15 := by subst h15; exact e14.setCell (.inr (by rw [add_zero]; exact Nat.le_refl _)) _
  refine ⟨hb15.cana (i := 1) rfl, thenW_in fun w16 h16 => ?_⟩
  have hb16 : Blk w16 w.heap.size 135 [.int .u64 ((alook S.signed x).getD (0, [])).1, strV ((alook S.signed x).getD (0, [])).2] := by subst h16; exact hb15.seta 1 _
  have e16 : Ext no w w16 := by subst h16; exact e15.setCell (.inr (by rw [add_blk]; exact Nat.le_refl _)) _
  unfold verifyOf
  cases hp : alook S.publics p with
  | none => exact ⟨rfl, e16⟩
  | some s =>
    cases hq : alook S.signed x with
    | none => exact ⟨rfl, e16⟩
    | some q =>
      rw [hq] at hb16
      have hcv := conv_str (P := Try.prog) (c := c) Try.underlying23 Try.underlying5 Try.underlying9 (hr.no e16)
      refine ⟨_, _, ⟨hb16.cella rfl, hb16.cella rfl, trivial⟩, _, hcv, decide (q = (s, bs)), ?_, rfl, e16⟩
      rw [run_eql_struct]
      have := equal_two two_signed w16 (fun n t ht => equal_int' (a := q.1) (b := s) n t ht) (fun n t ht => equal_str' (a := q.2) (b := bs) n t ht) 9998
      simp only [Nat.reduceAdd] at this
      simp only [strV, Option.getD_some] at this ⊢
      rw [this]
      have hd : (q.1 == s && decide (q.2 = bs)) = decide (q = (s, bs)) := by
        rw [Bool.eq_iff_iff]
        simp [Prod.ext_iff]
      rw [hd]
      rfl
end
end Go.Proofs.Ytfmdpjhkojbocaa

/- The oracle, as an owner of blocks. -/
set_option linter.unusedVariables false
set_option linter.unusedSimpArgs false
set_option maxRecDepth 20000
namespace Go.Proofs.Ytfmdpjhkojbocaa
open Go Go.Mx Go.Proofs
/-- the oracle of an owner. -/
def POrc (w : World) (o : Own) (k : Nat) (S : OS) : Prop := ∃ g : OG, g.p = k ∧ Orc w g S ∧ (∀ b, g.m b → o b = some k) ∧ (∀ b, b < w.heap.size → ∀ j, o b = some j → j ≠ k → g.x b)
/-- what a call hands back, whom it lets turn, and what then is. -/
def Gs (K : Nat → Prop) (w : World) (o : Own) (v : Value) (Q : World → Own → Prop) (e : Ending) (w' : World) : Prop := ∃ o', e = .returned v ∧ Step K w o w' o' ∧ Q w' o'
section
variable {w w' : World} {o o' : Own} {k : Nat} {S : OS} {K : Nat → Prop}
theorem POrc.lt (h : POrc w o k S) : k < w.heap.size := by obtain ⟨g, rfl, h1, _⟩ := h; exact h1.mlt _ m_p
theorem POrc.own (h : POrc w o k S) : o k = some k := by obtain ⟨g, rfl, _, h2, _⟩ := h; exact h2 _ m_p
theorem POrc.step (h : POrc w o k S) (s : Step K w o w' o') (hk : ¬ K k) : POrc w' o' k S := by
  obtain ⟨g, h0, h1, h2, h3⟩ := h
  refine ⟨g.more w w', h0, h1.foreign s.ext fun b hb ⟨j, hj, hK⟩ => h3 b hb j hj fun e => hk (e ▸ hK), fun b hb => ?_, fun b hb j hj hne => ?_⟩
  · rw [s.same b (h1.mlt b hb)]; exact h2 b hb
  · by_cases hl : b < w.heap.size
    · rw [s.same b hl] at hj; exact .inl (h3 b hl j hj hne)
    · exact .inr ⟨by omega, hb⟩
theorem own_out {g : OG} {a : Option Addr} {cs : List Value} (h2 : ∀ b, g.m b → o b = some k) (hr : Row w o a cs) : cs ≠ [] → Out g.m a := fun h0 ad ha hm => by
  have := h2 _ hm
  rw [hr.2 h0 ad ha] at this; cases this
theorem POrc.turn {g : OG} {S' : OS} (h2 : ∀ b, g.m b → o b = some g.p) (h3 : ∀ b, b < w.heap.size → ∀ j, o b = some j → j ≠ g.p → g.x b) (hl : ∀ b, g.m b → b < w.heap.size) (ok : Tags w o) (h : Orc w' g S') (X : Ext g.m w w') :
    Step (fun j => j = g.p) w o w' (grow w o) ∧ POrc w' (grow w o) g.p S' := by
  refine ⟨Step.of_ext X ok fun b hb _ => h2 b hb, g, rfl, h, fun b hb => ?_, fun b hb j hj hne => ?_⟩
  · rw [grow_lt (hl b hb)]; exact h2 b hb
  · by_cases hlt : b < w.heap.size
    · rw [grow_lt hlt] at hj; exact h3 b hlt j hj hne
    · rw [grow_ge (by omega)] at hj; cases hj
open Classical in
theorem NewO (ok : Tags w o) {a : Option Addr} {c : Nat} {l : List Int} (h : RowAt w a (l.map u64V)) (hl : l.length ≤ 1000000) :
    Calls Try.prog 6 #[.slice a l.length c] w (fun e w' => ∃ k o', e = .returned (.pointer (some (blk k))) ∧ w.heap.size ≤ k ∧ Step no w o w' o' ∧ POrc w' o' k (OS.init l)) := by
  refine (New_specX (fun b => b < w.heap.size ∧ o b ≠ none) (fun b hb => hb.1) h hl).mono fun e w' ⟨g, he, hO, hx, hg, hgx⟩ => ?_
  have hp := hg _ m_p
  refine ⟨g.p, fun b => if b < w.heap.size then o b else if g.m b then some g.p else none, he, hp.1, ⟨hx.mono fun _ h _ => h.elim, fun b hb => if_pos hb, ok, fun b j hb hj => ?_⟩, g, rfl, hO, fun b hb => ?_, fun b hb j hj hne => ?_⟩
  · by_cases hlt : b < w.heap.size
    · simp only [if_pos hlt] at hj; exact Nat.lt_of_lt_of_le (ok b j hlt hj) hx.size
    · simp only [if_neg hlt] at hj
      split at hj
      · cases hj; exact hp.2
      · cases hj
  · have := (hg b hb).1
    simp only [if_neg (by omega : ¬ b < w.heap.size), if_pos hb]
  · by_cases hlt : b < w.heap.size
    · simp only [if_pos hlt] at hj
      rw [hgx]
      exact ⟨hlt, by rw [hj]; simp⟩
    · simp only [if_neg hlt] at hj
      split at hj
      · cases hj; exact absurd rfl hne
      · cases hj
theorem HashO (h : POrc w o k S) (ok : Tags w o) (hok : S.ok) (hlen : S.used.length < 1000000) {a : Option Addr} {c : Nat} {bs : List UInt8} (hr : Row w o a (bytesV bs)) :
    Calls Try.prog 82 #[.pointer (some (blk k)), .slice a bs.length c] w (Gs (fun j => j = k) w o (u64V (hashOf S bs).1) fun w' o' => POrc w' o' k (hashOf S bs).2) := by
  obtain ⟨g, rfl, h1, h2, h3⟩ := h
  refine (Hash_spec h1 hok hlen hr.1 (own_out h2 hr)).mono fun e w' ⟨he, hO, hx⟩ => ?_
  obtain ⟨s, p⟩ := POrc.turn h2 h3 h1.mlt ok hO hx
  exact ⟨_, he, s, p⟩
theorem PairO (h : POrc w o k S) (ok : Tags w o) (hok : S.ok) (hlen : S.used.length + 1 < 1000000) :
    Calls Try.prog 7 #[.pointer (some (blk k))] w (Gs (fun j => j = k) w o (.tuple #[u64V (pairOf S).1.1, u64V (pairOf S).1.2]) fun w' o' => POrc w' o' k (pairOf S).2) := by
  obtain ⟨g, rfl, h1, h2, h3⟩ := h
  refine (Pair_spec h1 hok hlen).mono fun e w' ⟨he, hO, hx⟩ => ?_
  obtain ⟨s, p⟩ := POrc.turn h2 h3 h1.mlt ok hO hx
  exact ⟨_, he, s, p⟩
theorem SignO (h : POrc w o k S) (ok : Tags w o) (hok : S.ok) (hlen : S.used.length < 1000000) (s : Int) {a : Option Addr} {c : Nat} {bs : List UInt8} (hr : Row w o a (bytesV bs)) :
    Calls Try.prog 52 #[.pointer (some (blk k)), .int .u64 s, .slice a bs.length c] w (Gs (fun j => j = k) w o (.tuple #[u64V (signOf S s bs).1.1, .int .i64 (if (signOf S s bs).1.2 then 0 else 11)]) fun w' o' => POrc w' o' k (signOf S s bs).2) := by
  obtain ⟨g, rfl, h1, h2, h3⟩ := h
  refine (Sign_spec h1 hok hlen s hr.1 (own_out h2 hr)).mono fun e w' ⟨he, hO, hx⟩ => ?_
  obtain ⟨s, p⟩ := POrc.turn h2 h3 h1.mlt ok hO hx
  exact ⟨_, he, s, p⟩
theorem VerifyO (h : POrc w o k S) (ok : Tags w o) (p x : Int) {a : Option Addr} {c : Nat} {bs : List UInt8} (hr : Row w o a (bytesV bs)) :
    Calls Try.prog 57 #[.pointer (some (blk k)), .int .u64 p, .slice a bs.length c, .int .u64 x] w (Ret (.bool (verifyOf S p bs x)) fun w' => Ext no w w') := by
  obtain ⟨g, rfl, h1, h2, h3⟩ := h
  exact (Verify_spec h1 p x hr.1).mono fun e w' ⟨he, hx⟩ => ⟨he, hx⟩
end
end Go.Proofs.Ytfmdpjhkojbocaa

/- Wire: numbers that are written and read, what a reader has left. -/
set_option linter.unusedVariables false
set_option linter.unusedSimpArgs false
set_option maxRecDepth 20000
namespace Go.Proofs.Ytfmdpjhkojbocaa.W
open Go Go.Mx Go.Proofs
theorem follows : Try.prog.follows .mixedOrders = true := by kernel_rfl
/-- slices.Clone[[]byte,byte] -/
def wClone.M (a1 : Option Addr) (a5 : Nat) (a7 : Nat) (R : Value → World → Prop) (w : World) : Prop :=
 bif Option.isNone a1 then (
 R (.slice none 0 0) w) else (
 thenW (w.alloc (.cells #[] 5)) fun a6 =>
 ∃ (a3 : Option Addr) (a0 : Nat) (a4 : Nat) (a2 : World), (Builtin.append_ #[23, 23] 23 #[.slice (some (blk w.heap.size)) 0 0, .slice a1 a5 a7]).run Try.prog a6 = .ok (.slice a3 a0 a4) a2 ∧
 R (.slice a3 a0 a4) a2)

theorem wClone.eq (s1a : Option Addr) (s1n : Nat) (s1c : Nat) (R : Value → World → Prop) (w : World) : mfunc Try.prog [] 70 [.slice s1a s1n s1c] R w = wClone.M s1a s1n s1c R w := by kernel_rfl
theorem wClone.ok (a2 : Option Addr) (a0 : Nat) (a1 : Nat) {R : Value → World → Prop} {w : World} (h : wClone.M a2 a0 a1 R w) : Calls Try.prog 70 #[.slice a2 a0 a1] w fun e w' => ∃ v, e = .returned v ∧ R v w' :=
  mfunc_ok follows (H := []) (args := [.slice a2 a0 a1]) (by rw [wClone.eq]; exact h)

/-- wire.Num -/
def wNum.M (am : Option Addr) (ai : Nat) (al : Nat) (n2 : Int) (R : Value → World → Prop) (w : World) : Prop :=
 Calls Try.prog 70 #[.slice am ai al] w fun aj ak => ∃ (a5 : Option Addr) (a4 : Nat) (a3 : Nat), aj = .returned (.slice a5 a4 a3) ∧
 ∃ (I0 : Nat → List Value → World → Prop) (m8 : Nat), I0 m8 [.int .u64 n2, .slice a5 a4 a3] ak ∧ ∀ (m9 : Nat) (a6 : World) (n6 : Int) (a1 : Option Addr) (a0 : Nat) (a2 : Nat), I0 m9 [.int .u64 n6, .slice a1 a0 a2] a6 →
 bif decide (n6 ≥ 128) then (
 thenW (a6.alloc (.cells #[.int .u8 (IntKind.u8.wrap ((BitVec.ofInt (IntKind.bits .u8) (IntKind.u8.wrap n6) ||| BitVec.ofInt (IntKind.bits .u8) 128).toNat))] 5)) fun af =>
 ∃ (ae : Option Addr) (a9 : Nat) (a8 : Nat) (aa : World), (Builtin.append_ #[23, 23] 23 #[.slice a1 a0 a2, .slice (some (blk a6.heap.size)) 1 1]).run Try.prog af = .ok (.slice ae a9 a8) aa ∧
 0 ≤ (7 : Int) ∧
 ∃ ah, ah < m9 ∧ I0 ah [.int .u64 (Int.fdiv n6 (2 ^ (min (Int.toNat 7) (IntKind.bits .u64)))), .slice ae a9 a8] aa) else (
 thenW (a6.alloc (.cells #[.int .u8 (IntKind.u8.wrap n6)] 5)) fun ag =>
 ∃ (ac : Option Addr) (ad : Nat) (a7 : Nat) (ab : World), (Builtin.append_ #[23, 23] 23 #[.slice a1 a0 a2, .slice (some (blk a6.heap.size)) 1 1]).run Try.prog ag = .ok (.slice ac ad a7) ab ∧
 R (.slice ac ad a7) ab)

theorem wNum.eq (b1a : Option Addr) (b1n : Nat) (b1c : Nat) (n2 : Int) (R : Value → World → Prop) (w : World) : mfunc Try.prog [(0, [], [(1, (.one (.int .u64))), (5, (.one .slice))])] 49 [.slice b1a b1n b1c, .int .u64 n2] R w = wNum.M b1a b1n b1c n2 R w := by kernel_rfl
theorem wNum.ok (a0 : Option Addr) (a2 : Nat) (a1 : Nat) (n2 : Int) {R : Value → World → Prop} {w : World} (h : wNum.M a0 a2 a1 n2 R w) : Calls Try.prog 49 #[.slice a0 a2 a1, .int .u64 n2] w fun e w' => ∃ v, e = .returned v ∧ R v w' :=
  mfunc_ok follows (H := [(0, [], [(1, (.one (.int .u64))), (5, (.one .slice))])]) (args := [.slice a0 a2 a1, .int .u64 n2]) (by rw [wNum.eq]; exact h)

theorem infU8 : (Try.prog.info? 5).map (fun i => (i.zero, i.size, i.bytes)) = some (some (.int .u8 0), 1, 1) := by kernel_rfl
def GivesW (v : Value) (Q : World → Prop) (e : Ending) (w' : World) : Prop := e = .returned v ∧ Q w'

/-- bytes in a row of one's own, from block N on. -/
structure OwnB (N : Nat) (w : World) (a : Option Addr) (c : Nat) (bs : List UInt8) : Prop where
  own : w.ownsRow 0 5 1 (.slice a bs.length c) bs.length (bytesV bs)
  fr : ∀ ad, a = some ad → N ≤ ad.block ∧ ad.block < w.heap.size
section
variable {w w' : World} {a : Option Addr} {c N : Nat} {bs : List UInt8}
theorem OwnB.row (h : OwnB N w a c bs) : RowAt w a (bytesV bs) := by
  obtain ⟨_, _, hv, hr⟩ := RowAt.of_owns h.own
  cases hv; exact hr
theorem OwnB.le (h : OwnB N w a c bs) : bs.length ≤ c := (own_fresh h.own).1
theorem OwnB.ext {m : Nat → Prop} (h : OwnB N w a c bs) (k : Ext m w w') (hm : ∀ ad, a = some ad → ¬ m ad.block) : OwnB N w' a c bs := by
  refine ⟨⟨h.own.1, ?_⟩, fun ad ha => ⟨(h.fr ad ha).1, Nat.lt_of_lt_of_le (h.fr ad ha).2 k.size⟩⟩
  rcases h.own.2 with h2 | ⟨g, cap, cur, hv, hb, hg, hr⟩
  · exact .inl h2
  · have ha : a = some ⟨g, 0, none⟩ := by cases hv; rfl
    exact .inr ⟨g, cap, cur, hv, hb, k.get hg (hm _ ha), hr⟩
theorem OwnB.no (h : OwnB N w a c bs) (k : Ext no w w') : OwnB N w' a c bs := h.ext k fun _ _ h => h
theorem OwnB.nil (N : Nat) (w : World) : OwnB N w none 0 [] := ⟨⟨by simp [bytesV], .inl ⟨rfl, rfl⟩⟩, fun ad ha => by cases ha⟩
/-- 'append(out, x...)'. -/
theorem OwnB.append {t ty : TypeId} (ht : Try.prog.underlying t = some (.slice 5)) (h : OwnB N w a c bs) (hN : N ≤ w.heap.size) {xa : Option Addr} {xc : Nat} {xs : List UInt8} (hx : RowAt w xa (bytesV xs)) (hl : bs.length + xs.length ≤ 100000000) :
    ∃ a' c' w', (Builtin.append_ #[t, t] ty #[.slice a bs.length c, .slice xa xs.length xc]).run Try.prog w = .ok (.slice a' (bs ++ xs).length c') w' ∧ OwnB N w' a' c' (bs ++ xs) ∧ Ext (fun b => N ≤ b) w w' := by
  obtain ⟨i, hi, hz, hs, hb⟩ := info_of infU8
  obtain ⟨a', c', w', hr, ho, hg, hbk⟩ := run_append (ty := ty) ht hi hz hs hb rfl (by decide) h.own (xa := xa) (m := xs.length) (c := xc) (by rw [bytesV_length]; omega) hx (bytesV_one xs) (by omega) (by omega)
  have hrow : ∀ q, (Value.slice a bs.length c).ownBlock = some q → N ≤ q := fun q hq => by
    cases a with
    | none => simp [Value.ownBlock] at hq
    | some ad => simp only [Value.ownBlock, Option.some.injEq] at hq; subst hq; exact (h.fr ad rfl).1
  refine ⟨a', c', w', by rw [List.length_append]; exact hr, ⟨by rw [List.length_append, show bytesV (bs ++ xs) = bytesV bs ++ bytesV xs by simp [bytesV]]; exact ho, fun ad ha => ⟨?_, (own_fresh ho).2 ad ha⟩⟩, Ext.of_grown hg fun q hq => .inl (hrow q hq)⟩
  subst ha
  rcases hbk with hq | hq
  · exact hrow _ hq.symm
  · simp only [Value.ownBlock, Option.some.injEq] at hq; omega
theorem clone_spec (h : RowAt w a (bytesV bs)) (hl : bs.length ≤ 1000000) :
    Calls Try.prog 70 #[.slice a bs.length c] w (fun e w' => ∃ a' c', e = .returned (.slice a' bs.length c') ∧ OwnB w.heap.size w' a' c' bs ∧ Ext no w w') := by
  refine (wClone.ok a bs.length c (R := fun v w' => ∃ a' c', v = (.slice a' bs.length c') ∧ OwnB w.heap.size w' a' c' bs ∧ Ext no w w') ?_).mono fun e w' ⟨v, he, a', c', hv, hw⟩ => ⟨a', c', by rw [he, hv], hw⟩
  unfold wClone.M
  cases a with
  | none =>
    have : bs = [] := by simpa [bytesV] using h.none_nil
    subst this
    exact ⟨none, 0, rfl, OwnB.nil _ _, Ext.refl _ _⟩
  | some ad =>
    rw [Option.isNone_some, cond_false]
    refine thenW_in fun w2 hw2 => ?_
    subst hw2
    obtain ⟨i, hi, hz, hs, hb⟩ := info_of infU8
    obtain ⟨a', c', w', hr, h1, h2, h3, h4, h5⟩ := clone_owns (c := c) (m := bs.length) (ty := 23) Try.underlying23 hi hz hs hb rfl (bytesV_length bs) h (bytesV_one bs) (by omega) (by omega)
    exact ⟨a', bs.length, c', w', hr, a', c', rfl, ⟨h2, h5⟩, h4⟩
/-- wire.Num: the bytes, and the number's behind them. -/
theorem Num_spec (h : RowAt w a (bytesV bs)) (hl : bs.length ≤ 1000000) {n : Nat} (hn : n < 18446744073709551616) :
    Calls Try.prog 49 #[.slice a bs.length c, .int .u64 n] w (fun e w' => ∃ a' c', e = .returned (.slice a' (bs ++ numL n).length c') ∧ OwnB w.heap.size w' a' c' (bs ++ numL n) ∧ Ext no w w') := by
  refine (wNum.ok _ _ _ _ (R := fun v w' => ∃ a' c', v = (.slice a' (bs ++ numL n).length c') ∧ OwnB w.heap.size w' a' c' (bs ++ numL n) ∧ Ext no w w') ?_).mono fun e w' ⟨v, he, a', c', hv, hw⟩ => ⟨a', c', by rw [he, hv], hw⟩
  unfold wNum.M
  refine (clone_spec h hl).mono fun e w5 ⟨a5, c5, he, ho5, hx5⟩ => ⟨a5, _, c5, he, ?_⟩
  refine ⟨fun k vs w1 => ∃ (m : Nat) (l : List UInt8) (a1 : Option Addr) (c1 : Nat), vs = [.int .u64 m, .slice a1 l.length c1] ∧ m < 128 ^ k ∧ m < 18446744073709551616 ∧ 0 < k ∧ k ≤ 10 ∧ l ++ numF k m = bs ++ numL n ∧ l.length + k ≤ bs.length + 10 ∧ OwnB w.heap.size w1 a1 c1 l ∧ Ext no w w1, 10,
    ⟨n, bs, a5, c5, rfl, by omega, hn, by decide, by decide, rfl, by omega, ho5, hx5⟩, ?_⟩
  rintro k w1 m0 a0 n0 c0 ⟨m, l, a1, c1, hvs, hm, hm64, hk0, hk10, hl2, hlen, ho, hx⟩
  simp only [List.cons.injEq, Value.int.injEq, Value.slice.injEq, true_and, and_true] at hvs
  obtain ⟨rfl, rfl, rfl, rfl⟩ := hvs
  obtain ⟨k, rfl⟩ : ∃ q, k = q + 1 := ⟨k - 1, by omega⟩
  simp only [numF] at hl2
  by_cases h1 : m < 128
  · rw [show decide ((m : Int) ≥ 128) = false by simp; omega, cond_false]
    rw [if_pos h1] at hl2
    refine thenW_in fun w15 h15 => ?_
    have e15 : Ext no w1 w15 := by subst h15; exact (Ext.refl _ _).alloc _
    have hv : IntKind.u8.wrap (m : Int) = ((UInt8.ofNat m).toNat : Int) := by rw [wu8 (by omega) (by omega), ofNat_lt (by omega)]
    have hb15 : Blk w15 w1.heap.size 5 (bytesV [UInt8.ofNat m]) := by subst h15; rw [hv]; exact Blk.new _ _ _
    obtain ⟨a', c', w17, hr, ho17, hx17⟩ := (ho.no e15).append (t := 23) (ty := 23) Try.underlying23 (Nat.le_trans hx.size e15.size) (xc := 1) (RowAt.of_blk hb15) (by simp; omega)
    refine ⟨a', _, c', w17, hr, a', c', by rw [hl2], by rw [← hl2]; exact ho17, (hx.trans e15).then hx17 fun b hb => .inr hb⟩
  · rw [show decide ((m : Int) ≥ 128) = true by simp; omega, cond_true]
    rw [if_neg h1] at hl2
    refine thenW_in fun w15 h15 => ?_
    have e15 : Ext no w1 w15 := by subst h15; exact (Ext.refl _ _).alloc _
    have hb15 : Blk w15 w1.heap.size 5 (bytesV [UInt8.ofNat (m % 128 + 128)]) := by subst h15; rw [or128]; exact Blk.new _ _ _
    obtain ⟨a', c', w17, hr, ho17, hx17⟩ := (ho.no e15).append (t := 23) (ty := 23) Try.underlying23 (Nat.le_trans hx.size e15.size) (xc := 1) (RowAt.of_blk hb15) (by simp; omega)
    have hdiv : Int.fdiv (m : Int) (2 ^ (min (Int.toNat 7) (IntKind.bits .u64))) = ((m / 128 : Nat) : Int) := by
      rw [show min (Int.toNat 7) (IntKind.bits .u64) = 7 from rfl, Int.fdiv_eq_ediv_of_nonneg _ (by decide)]; omega
    have hkk : 0 < k := Nat.pos_of_ne_zero fun e => by subst e; simp at hm; omega
    refine ⟨a', _, c', w17, hr, by decide, k, by omega, m / 128, l ++ [UInt8.ofNat (m % 128 + 128)], a', c', by rw [hdiv], by rw [Nat.pow_succ] at hm; omega, by omega, hkk, by omega, by rw [← hl2]; simp, by simp; omega, ho17, (hx.trans e15).then hx17 fun b hb => .inr hb⟩

/-! ### a reader -/
variable {p : Nat} {k : Int}
end
end Go.Proofs.Ytfmdpjhkojbocaa.W

/- Wire: the numbers of a reader. -/
set_option linter.unusedVariables false
set_option linter.unusedSimpArgs false
set_option maxRecDepth 20000
namespace Go.Proofs.Ytfmdpjhkojbocaa.W
open Go Go.Mx Go.Proofs
section
variable {w w' : World} {p : Nat} {bs : List UInt8} {k : Int}
/-- Num of a reader: the number, and what the reader then has. -/
def numR (s : List UInt8 × Int) : Nat × (List UInt8 × Int) :=
  if s.2 = 0 then (match rdNum s.1 with | some (n, r) => (n, (r, 0)) | none => (0, ([], 4))) else (0, s)
/-- Count: a number that is not above so much. -/
def countR (m : Int) (s : List UInt8 × Int) : Nat × (List UInt8 × Int) :=
  if (numR s).2.2 = 0 then (if m < 0 ∨ ((numR s).1 : Int) > m then (0, ([], 3)) else numR s) else (0, (numR s).2)
def doneR (s : List UInt8 × Int) : Int := if s.2 = 0 then (if s.1.length > 0 then 4 else 0) else s.2
end
end Go.Proofs.Ytfmdpjhkojbocaa.W

/- Wire: whole numbers with a sign, bytes with their length. -/
set_option linter.unusedVariables false
set_option linter.unusedSimpArgs false
set_option maxRecDepth 20000
namespace Go.Proofs.Ytfmdpjhkojbocaa.W
open Go Go.Mx Go.Proofs
/-- wire.Int -/
def wInt.M (a6 : Option Addr) (a7 : Nat) (a5 : Nat) (n2 : Int) (R : Value → World → Prop) (w : World) : Prop :=
 0 ≤ (1 : Int) ∧
 0 ≤ (63 : Int) ∧
 Calls Try.prog 49 #[.slice a6 a7 a5, .int .u64 (IntKind.u64.wrap ((BitVec.ofInt (IntKind.bits .u64) (IntKind.u64.wrap ((IntKind.u64.wrap n2) * 2 ^ (min (Int.toNat 1) (IntKind.bits .u64)))) ^^^ BitVec.ofInt (IntKind.bits .u64) (IntKind.u64.wrap (Int.fdiv n2 (2 ^ (min (Int.toNat 63) (IntKind.bits .i64)))))).toNat))] w fun a4 a3 => ∃ (a1 : Option Addr) (a0 : Nat) (a2 : Nat), a4 = .returned (.slice a1 a0 a2) ∧
 R (.slice a1 a0 a2) a3

theorem wInt.eq (b1a : Option Addr) (b1n : Nat) (b1c : Nat) (n2 : Int) (R : Value → World → Prop) (w : World) : mfunc Try.prog [] 87 [.slice b1a b1n b1c, .int .i64 n2] R w = wInt.M b1a b1n b1c n2 R w := by kernel_rfl
theorem wInt.ok (a0 : Option Addr) (a2 : Nat) (a1 : Nat) (n2 : Int) {R : Value → World → Prop} {w : World} (h : wInt.M a0 a2 a1 n2 R w) : Calls Try.prog 87 #[.slice a0 a2 a1, .int .i64 n2] w fun e w' => ∃ v, e = .returned v ∧ R v w' :=
  mfunc_ok follows (H := []) (args := [.slice a0 a2 a1, .int .i64 n2]) (by rw [wInt.eq]; exact h)

/-- wire.Bytes -/
def wBytes.M (ad : Option Addr) (ae : Nat) (ac : Nat) (a9 : Option Addr) (a3 : Nat) (aa : Nat) (R : Value → World → Prop) (w : World) : Prop :=
 Calls Try.prog 49 #[.slice ad ae ac, .int .u64 (IntKind.u64.wrap (a3 : Int))] w fun ab a8 => ∃ (a1 : Option Addr) (a0 : Nat) (a2 : Nat), ab = .returned (.slice a1 a0 a2) ∧
 ∃ (a6 : Option Addr) (a7 : Nat) (a5 : Nat) (a4 : World), (Builtin.append_ #[23, 23] 23 #[.slice a1 a0 a2, .slice a9 a3 aa]).run Try.prog a8 = .ok (.slice a6 a7 a5) a4 ∧
 R (.slice a6 a7 a5) a4

theorem wBytes.eq (b1a : Option Addr) (b1n : Nat) (b1c : Nat) (x2a : Option Addr) (x2n : Nat) (x2c : Nat) (R : Value → World → Prop) (w : World) : mfunc Try.prog [] 89 [.slice b1a b1n b1c, .slice x2a x2n x2c] R w = wBytes.M b1a b1n b1c x2a x2n x2c R w := by kernel_rfl
theorem wBytes.ok (a4 : Option Addr) (a5 : Nat) (a3 : Nat) (a1 : Option Addr) (a0 : Nat) (a2 : Nat) {R : Value → World → Prop} {w : World} (h : wBytes.M a4 a5 a3 a1 a0 a2 R w) : Calls Try.prog 89 #[.slice a4 a5 a3, .slice a1 a0 a2] w fun e w' => ∃ v, e = .returned v ∧ R v w' :=
  mfunc_ok follows (H := []) (args := [.slice a4 a5 a3, .slice a1 a0 a2]) (by rw [wBytes.eq]; exact h)

/-- a number with a sign, as one without. -/
def zig (n : Int) : Nat := if 0 ≤ n then (2 * n).toNat else (-2 * n - 1).toNat
def unzig (m : Nat) : Int := if m % 2 = 0 then (m / 2 : Nat) else -((m / 2 : Nat) : Int) - 1
theorem zig_bits {n : Int} (h0 : -9223372036854775808 ≤ n) (h1 : n < 9223372036854775808) :
    IntKind.u64.wrap ((BitVec.ofInt (IntKind.bits .u64) (IntKind.u64.wrap ((IntKind.u64.wrap n) * 2 ^ (min (Int.toNat 1) (IntKind.bits .u64)))) ^^^ BitVec.ofInt (IntKind.bits .u64) (IntKind.u64.wrap (Int.fdiv n (2 ^ (min (Int.toNat 63) (IntKind.bits .i64)))))).toNat : Int) = ((zig n : Nat) : Int) := by
  rw [show min (Int.toNat 1) (IntKind.bits .u64) = 1 from rfl, show min (Int.toNat 63) (IntKind.bits .i64) = 63 from rfl, show IntKind.bits .u64 = 64 from rfl, Int.fdiv_eq_ediv_of_nonneg _ (by decide)]
  unfold zig
  by_cases h : 0 ≤ n
  · rw [if_pos h, wu64 (n := n) h (by omega), show n / 2 ^ 63 = 0 by omega, wu64 (n := n * 2 ^ 1) (by omega) (by omega), wu64 (n := 0) (by decide) (by decide)]
    obtain ⟨m, rfl⟩ : ∃ m : Nat, n = m := ⟨n.toNat, by omega⟩
    rw [show ((m : Int) * 2 ^ 1) = ((m * 2 : Nat) : Int) by omega, BitVec.ofInt_natCast, show BitVec.ofInt 64 0 = 0#64 from rfl, BitVec.xor_zero, BitVec.toNat_ofNat, Nat.mod_eq_of_lt (by omega), wu64 (by omega) (by omega)]
    omega
  · rw [if_neg h, show n / 2 ^ 63 = -1 by omega]
    have e1 : IntKind.u64.wrap (-1) = ((18446744073709551615 : Nat) : Int) := by rw [IntKind.wrap_u64]; rfl
    have e2 : IntKind.u64.wrap (IntKind.u64.wrap n * 2 ^ 1) = (((18446744073709551616 + 2 * n).toNat : Nat) : Int) := by rw [IntKind.wrap_u64, IntKind.wrap_u64]; omega
    rw [e1, e2, BitVec.ofInt_natCast, BitVec.ofInt_natCast, show BitVec.ofNat 64 18446744073709551615 = BitVec.allOnes 64 from rfl, BitVec.xor_allOnes, BitVec.toNat_not, BitVec.toNat_ofNat, Nat.mod_eq_of_lt (by omega), wu64 (by omega) (by omega)]
    omega
theorem zig_lt {n : Int} (h0 : -9223372036854775808 ≤ n) (h1 : n < 9223372036854775808) : zig n < 18446744073709551616 := by
  unfold zig; split <;> omega
section
variable {w w' : World} {a : Option Addr} {c N p : Nat} {bs : List UInt8} {k : Int}
theorem Int_spec (h : RowAt w a (bytesV bs)) (hl : bs.length ≤ 1000000) {n : Int} (h0 : -9223372036854775808 ≤ n) (h1 : n < 9223372036854775808) :
    Calls Try.prog 87 #[.slice a bs.length c, .int .i64 n] w (fun e w' => ∃ a' c', e = .returned (.slice a' (bs ++ numL (zig n)).length c') ∧ OwnB w.heap.size w' a' c' (bs ++ numL (zig n)) ∧ Ext no w w') := by
  refine (wInt.ok _ _ _ _ (R := fun v w' => ∃ a' c', v = (.slice a' (bs ++ numL (zig n)).length c') ∧ OwnB w.heap.size w' a' c' (bs ++ numL (zig n)) ∧ Ext no w w') ?_).mono fun e w' ⟨v, he, a', c', hv, hw⟩ => ⟨a', c', by rw [he, hv], hw⟩
  unfold wInt.M
  refine ⟨by decide, by decide, ?_⟩
  rw [zig_bits h0 h1]
  exact (Num_spec h hl (zig_lt h0 h1)).mono fun e w5 ⟨a', c', he, hO, hx⟩ => ⟨a', _, c', he, a', c', rfl, hO, hx⟩
theorem Bytes_spec (h : RowAt w a (bytesV bs)) (hl : bs.length ≤ 1000000) {xa : Option Addr} {xc : Nat} {xs : List UInt8} (hx : RowAt w xa (bytesV xs)) (hxl : xs.length ≤ 1000000) :
    Calls Try.prog 89 #[.slice a bs.length c, .slice xa xs.length xc] w (fun e w' => ∃ a' c', e = .returned (.slice a' (bs ++ numL xs.length ++ xs).length c') ∧ OwnB w.heap.size w' a' c' (bs ++ numL xs.length ++ xs) ∧ Ext no w w') := by
  refine (wBytes.ok _ _ _ _ _ _ (R := fun v w' => ∃ a' c', v = (.slice a' (bs ++ numL xs.length ++ xs).length c') ∧ OwnB w.heap.size w' a' c' (bs ++ numL xs.length ++ xs) ∧ Ext no w w') ?_).mono fun e w' ⟨v, he, a', c', hv, hw⟩ => ⟨a', c', by rw [he, hv], hw⟩
  unfold wBytes.M
  rw [wu64 (n := (xs.length : Int)) (by omega) (by omega)]
  refine (Num_spec h hl (by omega)).mono fun e w5 ⟨a5, c5, he, hO, hx5⟩ => ⟨a5, _, c5, he, ?_⟩
  have hnl : (numL xs.length).length ≤ 10 := numF_le 10 _
  obtain ⟨a', c', w7, hr, hO7, hx7⟩ := hO.append (t := 23) (ty := 23) Try.underlying23 hx5.size (xc := xc) (hx.no hx5) (by rw [List.length_append]; omega)
  exact ⟨a', _, c', w7, hr, a', c', rfl, hO7, hx5.then hx7 fun b hb => .inr hb⟩
def intR (s : List UInt8 × Int) : Int × (List UInt8 × Int) := (unzig (numR s).1, (numR s).2)
end
end Go.Proofs.Ytfmdpjhkojbocaa.W

/- The reference's numbers, bytes and reader; bytes held beside each other. -/
set_option linter.unusedVariables false
set_option linter.unusedSimpArgs false
set_option maxRecDepth 20000
namespace Go.Proofs.Ytfmdpjhkojbocaa.W
open Go Go.Mx Go.Proofs
/-- cachetteref01.Same -/
def wSame.M (a6 : Option Addr) (a1 : Nat) (aa : Nat) (a7 : Option Addr) (a3 : Nat) (ab : Nat) (R : Value → World → Prop) (w : World) : Prop :=
 bif (a1 : Int) != (a3 : Int) then (
 R (.bool false) w) else (
 ∃ (I0 : Nat → List Value → World → Prop) (m4 : Nat), I0 m4 [.int .i64 0] w ∧ ∀ (m5 : Nat) (a2 : World) (i3 : Int), I0 m5 [.int .i64 i3] a2 →
 bif decide (i3 < (a1 : Int)) then (
 thenW (a2.drew) fun a0 =>
 a6.elim False fun a8 =>
 0 ≤ (i3 : Int) ∧ (i3 : Int) < (a1 : Int) ∧
 ∃ (x9 : Int), a0.cell? (a8.add (Int.toNat i3 * 1)) = some (.int .u8 x9) ∧
 a7.elim False fun a9 =>
 0 ≤ (i3 : Int) ∧ (i3 : Int) < (a3 : Int) ∧
 ∃ (a5 : Int), a0.cell? (a9.add (Int.toNat i3 * 1)) = some (.int .u8 a5) ∧
 bif x9 != a5 then (
 R (.bool false) a0) else (
 ∃ a4, a4 < m5 ∧ I0 a4 [.int .i64 (IntKind.i64.wrap (i3 + 1))] a0)) else (
 R (.bool true) a2))

theorem wSame.eq (a1a : Option Addr) (a1n : Nat) (a1c : Nat) (b2a : Option Addr) (b2n : Nat) (b2c : Nat) (R : Value → World → Prop) (w : World) : mfunc Try.prog [(0, [0, 1], [(5, (.one (.int .i64)))])] 13 [.slice a1a a1n a1c, .slice b2a b2n b2c] R w = wSame.M a1a a1n a1c b2a b2n b2c R w := by kernel_rfl
theorem wSame.ok (a0 : Option Addr) (a2 : Nat) (a3 : Nat) (a4 : Option Addr) (a1 : Nat) (a5 : Nat) {R : Value → World → Prop} {w : World} (h : wSame.M a0 a2 a3 a4 a1 a5 R w) : Calls Try.prog 13 #[.slice a0 a2 a3, .slice a4 a1 a5] w fun e w' => ∃ v, e = .returned v ∧ R v w' :=
  mfunc_ok follows (H := [(0, [0, 1], [(5, (.one (.int .i64)))])]) (args := [.slice a0 a2 a3, .slice a4 a1 a5]) (by rw [wSame.eq]; exact h)

theorem numL_le (n : Nat) : (numL n).length ≤ 10 := numF_le 10 n
section
variable {w w' : World} {a : Option Addr} {c : Nat}
theorem sameB_spec {a b : Option Addr} {c d : Nat} {x y : List UInt8} (ha : RowAt w a (bytesV x)) (hb : RowAt w b (bytesV y)) (hx : x.length < 1000000) :
    Calls Try.prog 13 #[.slice a x.length c, .slice b y.length d] w (GivesW (.bool (decide (x = y))) fun w' => Ext no w w') := by
  refine (wSame.ok _ _ _ _ _ _ (R := fun v w' => v = .bool (decide (x = y)) ∧ Ext no w w') ?_).mono fun e w' ⟨v, he, hv, hw⟩ => ⟨by rw [he, hv], hw⟩
  unfold wSame.M
  by_cases hl : x.length = y.length
  · have hl' : ((x.length : Int) != (y.length : Int)) = false := by simp [hl]
    rw [hl', cond_false]
    refine ⟨fun k vs w1 => ∃ i : Nat, vs = [.int .i64 i] ∧ k = x.length - i ∧ i ≤ x.length ∧ x.take i = y.take i ∧ Ext no w w1, x.length, ⟨0, rfl, rfl, Nat.zero_le _, rfl, Ext.refl _ _⟩, ?_⟩
    rintro k w1 i3 ⟨i, hi, rfl, hle, ht, hw⟩
    simp only [List.cons.injEq, Value.int.injEq, true_and, and_true] at hi
    subst hi
    by_cases hlt : i < x.length
    · have hd : decide ((i : Int) < (x.length : Int)) = true := by simp [hlt]
      rw [hd, cond_true]
      refine thenW_in fun w7 h7 => ?_
      have hw7 : Ext no w w7 := hw.trans (by subst h7; exact (Ext.refl _ _).drew)
      have hi2 : i < y.length := hl ▸ hlt
      have hax := ha.ext hw7 (fun _ _ h => h)
      have hby := hb.ext hw7 (fun _ _ h => h)
      obtain ⟨ad, rfl⟩ := hax.addr (by intro e; rw [bytesV, List.map_eq_nil_iff] at e; subst e; simp at hlt)
      obtain ⟨bd, rfl⟩ := hby.addr (by intro e; rw [bytesV, List.map_eq_nil_iff] at e; subst e; simp at hi2)
      refine ⟨by omega, by omega, x[i].toNat, ?_, by omega, by omega, y[i].toNat, ?_, ?_⟩
      · rw [show Int.toNat (i : Int) * 1 = i by omega]; exact hax.at_ (bytesV_get hlt)
      · rw [show Int.toNat (i : Int) * 1 = i by omega]; exact hby.at_ (bytesV_get hi2)
      · by_cases he : x[i] = y[i]
        · have h1 : ((x[i].toNat : Int) != (y[i].toNat : Int)) = false := by simp [he]
          rw [h1, cond_false]
          refine ⟨x.length - (i + 1), by omega, i + 1, by rw [w64 (by omega) (by omega)]; rfl, rfl, by omega, ?_, hw7⟩
          rw [List.take_add_one, List.take_add_one, ht]; simp [hlt, hi2, he]
        · have h1 : ((x[i].toNat : Int) != (y[i].toNat : Int)) = true := by
            simp only [bne_iff_ne, ne_eq, Int.natCast_inj, UInt8.toNat_inj]; exact he
          rw [h1, cond_true]
          exact ⟨by rw [decide_eq_false]; rintro rfl; exact he rfl, hw7⟩
    · have hd : decide ((i : Int) < (x.length : Int)) = false := by simp; omega
      rw [hd, cond_false]
      obtain rfl : i = x.length := by omega
      refine ⟨?_, hw⟩
      have : x = y := by
        rw [List.take_length] at ht
        rw [hl, List.take_length] at ht
        exact ht
      simp [this]
  · have hl' : ((x.length : Int) != (y.length : Int)) = true := by simp; omega
    rw [hl', cond_true]
    exact ⟨by rw [decide_eq_false]; rintro rfl; exact hl rfl, Ext.refl _ _⟩
end
section
variable {w w' : World} {a : Option Addr} {c : Nat} {bs : List UInt8} {p N : Nat} {k : Int}
/-! ### where the number ends -/
end
end Go.Proofs.Ytfmdpjhkojbocaa.W

/- The reference's oracle: one list of all that was handed out. -/
set_option linter.unusedVariables false
set_option linter.unusedSimpArgs false
set_option maxRecDepth 20000
namespace Go.Proofs.Ytfmdpjhkojbocaa
open Go Go.Mx Go.Proofs
/-- a row. -/
structure RRow where
  h : Int
  kind : Int
  A : List UInt8
  B : List UInt8
  n : Int
  m : Int
/-- a row, and where its bytes lie. -/
structure PR where
  r : RRow
  aA : Option Addr
  cA : Nat
  aB : Option Addr
  cB : Nat
def PR.C (x : PR) : List Value := [.int .u64 x.r.h, .int .i64 x.r.kind, .slice x.aA x.r.A.length x.cA, .slice x.aB x.r.B.length x.cB, .int .u64 x.r.n, .int .u64 x.r.m]
def PR.ok (w : World) (o : Own) (x : PR) : Prop := Row w o x.aA (bytesV x.r.A) ∧ Row w o x.aB (bytesV x.r.B) ∧ x.r.A.length ≤ x.cA ∧ x.r.B.length ≤ x.cB
def PR.Cs (R : List PR) : List Value := R.flatMap PR.C
structure ROrcP (w : World) (o : Own) (k : Nat) (d : List Int) (R : List PR) : Prop where
  tk : o k = some k
  at_ : ∃ da dc la lc, Blk w k 63 [.slice da d.length dc, .slice la R.length lc] ∧ d.length ≤ dc ∧ Row w o da (d.map u64V) ∧ Grows 105 6 w o k la R.length lc (PR.Cs R) ∧ (∀ ad, la = some ad → ad.block ≠ k)
  rows : ∀ x ∈ R, x.ok w o
def ROrc (w : World) (o : Own) (k : Nat) (d : List Int) (L : List RRow) : Prop := ∃ R, L = R.map PR.r ∧ ROrcP w o k d R
theorem PR.Cs_length (R : List PR) : (PR.Cs R).length = R.length * 6 := by
  induction R with
  | nil => rfl
  | cons x r ih => simp only [PR.Cs, List.flatMap_cons, List.length_append, List.length_cons] at ih ⊢; rw [ih]; simp [PR.C]; omega
theorem PR.Cs_get : ∀ {R : List PR} {i : Nat} {x : PR}, R[i]? = some x → ∀ j, j < 6 → (PR.Cs R)[i * 6 + j]? = x.C[j]?
  | [], i, x, hi, j, hj => by simp at hi
  | a :: r, 0, x, hi, j, hj => by
    simp only [List.getElem?_cons_zero, Option.some.injEq] at hi
    subst hi
    simp only [PR.Cs, List.flatMap_cons, Nat.zero_mul, Nat.zero_add]
    rw [List.getElem?_append_left (by simp [PR.C]; omega)]
  | a :: r, i + 1, x, hi, j, hj => by
    simp only [List.getElem?_cons_succ] at hi
    have := PR.Cs_get hi j hj
    simp only [PR.Cs, List.flatMap_cons] at this ⊢
    rw [List.getElem?_append_right (by simp [PR.C]; omega), show (i + 1) * 6 + j - a.C.length = i * 6 + j by simp [PR.C]; omega]
    exact this
theorem PR.one (x : PR) : ∀ u ∈ x.C, u.oneCell' = true := fun u hu => by
  simp only [PR.C, List.mem_cons, List.not_mem_nil, or_false] at hu
  rcases hu with rfl | rfl | rfl | rfl | rfl | rfl <;> rfl
section
variable {w w' : World} {o o' : Own} {k : Nat} {K : Nat → Prop} {d : List Int} {R : List PR} {L : List RRow}
theorem PR.ok.step {x : PR} (h : x.ok w o) (s : Step K w o w' o') : x.ok w' o' := ⟨h.1.step s, h.2.1.step s, h.2.2⟩
theorem ROrcP.lt (h : ROrcP w o k d R) : k < w.heap.size := by obtain ⟨da, dc, la, lc, hb, _⟩ := h.at_; exact hb.lt
theorem ROrcP.step (h : ROrcP w o k d R) (s : Step K w o w' o') (hk : ¬ K k) : ROrcP w' o' k d R := by
  obtain ⟨da, dc, la, lc, h1, h2, h3, h4, h5⟩ := h.at_
  exact ⟨by rw [s.own h.lt]; exact h.tk, ⟨da, dc, la, lc, s.blk h1 h.tk hk, h2, h3.step s, h4.step s hk, h5⟩, fun x hx => (h.rows x hx).step s⟩
theorem ROrc.step (h : ROrc w o k d L) (s : Step K w o w' o') (hk : ¬ K k) : ROrc w' o' k d L := by
  obtain ⟨R, h1, h2⟩ := h; exact ⟨R, h1, h2.step s hk⟩
theorem ROrc.lt (h : ROrc w o k d L) : k < w.heap.size := by obtain ⟨R, _, h⟩ := h; exact h.lt
theorem ROrc.own (h : ROrc w o k d L) : o k = some k := by obtain ⟨R, _, h⟩ := h; exact h.tk
/-- a fresh handle, and the draws that are left. -/
def freshR (d used : List Int) : Int × List Int := match pickD d used with | some q => q | none => (pickN used (used.length + 1) 1, [])
def putR (d : List Int) (L : List RRow) (r : RRow) : Int × List Int × List RRow :=
  ((freshR d (L.map RRow.h)).1, (freshR d (L.map RRow.h)).2, L ++ [{ r with h := (freshR d (L.map RRow.h)).1 }])
end
end Go.Proofs.Ytfmdpjhkojbocaa

/- The reference's oracle: what its calls answer. -/
set_option linter.unusedVariables false
set_option linter.unusedSimpArgs false
set_option maxRecDepth 20000
namespace Go.Proofs.Ytfmdpjhkojbocaa
open Go Go.Mx Go.Proofs
def isR (L : List RRow) (x kind : Int) : Option RRow := (L.find? fun r => r.h == x).bind fun r => if r.kind = kind then some r else none
def pairR (d : List Int) (L : List RRow) : (Int × Int) × List Int × List RRow :=
  let p := putR d L ⟨0, 3, [], [], 0, 0⟩
  let q := putR p.2.1 p.2.2 ⟨0, 4, [], [], p.1, 0⟩
  ((p.1, q.1), q.2)
def signR (d : List Int) (L : List RRow) (s : Int) (b : List UInt8) : (Int × Int) × List Int × List RRow :=
  match isR L s 3 with
  | none => ((0, 11), d, L)
  | some _ =>
    match L.find? (fun r => r.kind == 5 && (r.n == s && decide (r.A = b))) with
    | some r => ((r.h, 0), d, L)
    | none => let q := putR d L ⟨0, 5, b, [], s, 0⟩; ((q.1, 0), q.2)
def PR.V (x : PR) : Value := .agg #[.int .u64 x.r.h, .int .i64 x.r.kind, .slice x.aA x.r.A.length x.cA, .slice x.aB x.r.B.length x.cB, .int .u64 x.r.n, .int .u64 x.r.m]
section
variable {w w' : World} {o o' : Own} {k : Nat} {K : Nat → Prop} {d : List Int} {R : List PR} {L : List RRow}
theorem freshR_draws {d used : List Int} (hd : ∀ x ∈ d, 0 ≤ x ∧ x < 18446744073709551616) : ∀ x ∈ (freshR d used).2, 0 ≤ x ∧ x < 18446744073709551616 := fun x hx => by
  unfold freshR at hx
  cases hp : pickD d used with
  | none => rw [hp] at hx; simp at hx
  | some q => obtain ⟨a, b⟩ := q; rw [hp] at hx; exact hd x (pickD_rest hp x hx)
theorem putR_len (d : List Int) (L : List RRow) (r : RRow) : (putR d L r).2.2.length = L.length + 1 := by simp [putR]
end
end Go.Proofs.Ytfmdpjhkojbocaa

/- The oracle's tables, plainly: what stays true through all calls. -/
set_option linter.unusedVariables false
set_option linter.unusedSimpArgs false
namespace Go.Proofs.Ytfmdpjhkojbocaa
open Go Go.Mx Go.Proofs
structure OInv (S : OS) : Prop where
  ok : S.ok
  rng : ∀ x ∈ S.used, 0 < x ∧ (x < 18446744073709551616 ∨ x ≤ 2 * S.used.length)
  hu : ∀ b h, alook S.hashes b = some h → h ∈ S.used
  hi : ∀ b c h, alook S.hashes b = some h → alook S.hashes c = some h → b = c
  sg : ∀ q x, alook S.signs q = some x → alook S.signed x = some q
  gs : ∀ x q, alook S.signed x = some q → alook S.signs q = some x
  su : ∀ x q, alook S.signed x = some q → x ∈ S.used
  pu : ∀ p s, alook S.publics p = some s → p ∈ S.used
  ps : ∀ p s, alook S.publics p = some s → s ∈ S.secrets
  eu : ∀ s ∈ S.secrets, s ∈ S.used
theorem OInv.nz {S : OS} (h : OInv S) : ∀ x ∈ S.used, x ≠ 0 := fun x hx => by have := (h.rng x hx).1; omega
theorem OInv.fit {S : OS} (h : OInv S) (hl : S.used.length < 1000000000) {x : Int} (hx : x ∈ S.used) : 0 ≤ x ∧ x < 18446744073709551616 := by
  have := h.rng x hx
  omega
theorem fresh_rng {S : OS} (h : S.ok) : 0 < (freshOf S).1 ∧ ((freshOf S).1 < 18446744073709551616 ∨ (freshOf S).1 ≤ 2 * ((S.used.length : Int) + 1)) := by
  obtain ⟨h1, h2, h3, h4⟩ := h
  unfold freshOf
  cases hp : pickD S.draws S.used with
  | some q =>
    obtain ⟨x, r⟩ := q
    obtain ⟨a, b, c⟩ := pickD_spec hp
    have := h4 x c
    exact ⟨by show 0 < x; omega, .inl this.2⟩
  | none =>
    obtain ⟨a, b, c, d, e⟩ := pickN_spec S.used (S.used.length + 1) S.next h1 (gap S.used _ _ (by omega))
    exact ⟨by show 0 < pickN _ _ _; omega, .inr (by show pickN _ _ _ ≤ _; omega)⟩
/-- nothing is lost. -/
structure OS.le (S S' : OS) : Prop where
  hashes : ∀ b h, alook S.hashes b = some h → alook S'.hashes b = some h
  signs : ∀ q x, alook S.signs q = some x → alook S'.signs q = some x
  signed : ∀ x q, alook S.signed x = some q → alook S'.signed x = some q
  publics : ∀ p s, alook S.publics p = some s → alook S'.publics p = some s
  secrets : ∀ s ∈ S.secrets, s ∈ S'.secrets
  used : ∀ x ∈ S.used, x ∈ S'.used
theorem OS.le.refl (S : OS) : OS.le S S := ⟨fun _ _ h => h, fun _ _ h => h, fun _ _ h => h, fun _ _ h => h, fun _ h => h, fun _ h => h⟩
theorem OS.le.trans {S T U : OS} (a : OS.le S T) (b : OS.le T U) : OS.le S U :=
  ⟨fun x y h => b.hashes x y (a.hashes x y h), fun x y h => b.signs x y (a.signs x y h), fun x y h => b.signed x y (a.signed x y h), fun x y h => b.publics x y (a.publics x y h), fun x h => b.secrets x (a.secrets x h), fun x h => b.used x (a.used x h)⟩
theorem OInv.init {l : List Int} (hl : ∀ d ∈ l, 0 ≤ d ∧ d < 18446744073709551616) : OInv (OS.init l) :=
  ⟨OS.init_ok l hl, fun x h => by simp [OS.init] at h, fun b h e => by simp [OS.init, alook] at e, fun b c h e => by simp [OS.init, alook] at e, fun q x e => by simp [OS.init, alook] at e, fun x q e => by simp [OS.init, alook] at e,
    fun x q e => by simp [OS.init, alook] at e, fun p s e => by simp [OS.init, alook] at e, fun p s e => by simp [OS.init, alook] at e, fun s h => by simp [OS.init] at h⟩
/-- after a fresh handle, the tables as they were. -/
theorem fresh_inv {S : OS} (h : OInv S) : OInv (freshOf S).2 ∧ OS.le S (freshOf S).2 ∧ (freshOf S).1 ∉ S.used ∧ (freshOf S).1 ∈ (freshOf S).2.used ∧ (freshOf S).1 ≠ 0 := by
  obtain ⟨a1, a2, a3, a4⟩ := freshOf_spec h.ok
  obtain ⟨c1, c2, c3, c4, c5, c6, c7, c8⟩ := freshOf_frame S
  have hsub : ∀ x ∈ S.used, x ∈ (freshOf S).2.used := fun x hx => by rw [a3]; simp [hx]
  refine ⟨⟨a4, fun x hx => ?_, fun b k e => hsub _ (h.hu b k (by rw [← c1]; exact e)), fun b c k e1 e2 => h.hi b c k (by rw [← c1]; exact e1) (by rw [← c1]; exact e2), fun q x e => ?_, fun x q e => ?_, fun x q e => ?_, fun p s e => ?_, fun p s e => ?_, fun s hs => ?_⟩,
    ⟨fun b k e => by rw [c1]; exact e, fun q x e => by rw [c5]; exact e, fun x q e => by rw [c6]; exact e, fun p s e => by rw [c4]; exact e, fun s hs => by rw [c3]; exact hs, hsub⟩, a2, by rw [a3]; simp, a1⟩
  · have hl : (freshOf S).2.used.length = S.used.length + 1 := by rw [a3]; simp
    rw [hl]
    rw [a3] at hx
    rcases List.mem_append.1 hx with hx | hx
    · have := h.rng x hx; omega
    · simp at hx; rw [hx]; have := fresh_rng h.ok; omega
  · rw [c5] at e; rw [c6]; exact h.sg q x e
  · rw [c6] at e; rw [c5]; exact h.gs x q e
  · rw [c6] at e; exact hsub _ (h.su x q e)
  · rw [c4] at e; exact hsub _ (h.pu p s e)
  · rw [c4] at e; rw [c3]; exact h.ps p s e
  · rw [c3] at hs; exact hsub _ (h.eu s hs)
theorem hash_inv {S : OS} (h : OInv S) (b : List UInt8) : OInv (hashOf S b).2 ∧ OS.le S (hashOf S b).2 ∧ alook (hashOf S b).2.hashes b = some (hashOf S b).1 ∧ (hashOf S b).1 ≠ 0 ∧
    (hashOf S b).2.signs = S.signs ∧ (hashOf S b).2.signed = S.signed ∧ (hashOf S b).2.publics = S.publics ∧ (hashOf S b).2.secrets = S.secrets := by
  obtain ⟨c1, c2, c3, c4, c5, c6, c7, c8⟩ := freshOf_frame S
  obtain ⟨f1, f2, f3, f4, f5⟩ := fresh_inv h
  unfold hashOf
  cases hk : alook S.hashes b with
  | some x => exact ⟨h, OS.le.refl _, hk, h.nz _ (h.hu b x hk), rfl, rfl, rfl, rfl⟩
  | none =>
    have hl : ∀ c k, alook (aput S.hashes b (freshOf S).1) c = some k → (b = c ∧ k = (freshOf S).1) ∨ alook S.hashes c = some k := fun c k e => by
      rw [alook_put] at e
      split at e
      · rename_i hbc; cases e; exact .inl ⟨hbc, rfl⟩
      · exact .inr e
    refine ⟨⟨f1.ok, f1.rng, fun c k e => ?_, fun c d k e1 e2 => ?_, f1.sg, f1.gs, f1.su, f1.pu, f1.ps, f1.eu⟩, ⟨fun c k e => ?_, f2.signs, f2.signed, f2.publics, f2.secrets, f2.used⟩, ?_, f5, c5, c6, c4, c3⟩
    · rcases hl c k e with ⟨_, rfl⟩ | e
      · exact f4
      · exact f2.used _ (h.hu c k e)
    · rcases hl c k e1 with ⟨rfl, rfl⟩ | e1 <;> rcases hl d _ e2 with ⟨rfl, _⟩ | e2
      · rfl
      · exact absurd (h.hu d _ e2) f3
      · rename_i hk2; subst hk2; exact absurd (h.hu c _ e1) f3
      · exact h.hi c d k e1 e2
    · show alook (aput S.hashes b (freshOf S).1) c = some k
      rw [alook_put, if_neg (fun e' => by subst e'; rw [hk] at e; cases e)]; exact e
    · show alook (aput S.hashes b (freshOf S).1) b = _
      rw [alook_put, if_pos rfl]
theorem hash_eq {S : OS} {b : List UInt8} {x : Int} (h : alook S.hashes b = some x) : hashOf S b = (x, S) := by unfold hashOf; rw [h]
theorem badd_mem {l : List Int} {x y : Int} : y ∈ badd l x ↔ y ∈ l ∨ y = x := by
  unfold badd
  split
  · constructor
    · exact .inl
    · rintro (h | rfl)
      · exact h
      · assumption
  · simp
theorem pair_inv {S : OS} (h : OInv S) : OInv (pairOf S).2 ∧ OS.le S (pairOf S).2 ∧ alook (pairOf S).2.publics (pairOf S).1.2 = some (pairOf S).1.1 ∧ (pairOf S).1.1 ∈ (pairOf S).2.secrets ∧ (pairOf S).1.2 ∉ (pairOf S).2.secrets ∧ (pairOf S).1.1 ∉ S.secrets ∧
    (pairOf S).2.hashes = S.hashes ∧ (pairOf S).2.signs = S.signs ∧ (pairOf S).2.signed = S.signed := by
  obtain ⟨a1, a2, a3, a4, a5, a6, a7, a8, a9, a10, a11, a12, a13, a14⟩ := pairOf_spec h.ok
  obtain ⟨k1, _⟩ := pairOf_ok h.ok
  have hsub : ∀ x ∈ S.used, x ∈ (pairOf S).2.used := fun x hx => by rw [a6]; simp [hx]
  have hl : ∀ c k, alook (pairOf S).2.publics c = some k → ((pairOf S).1.2 = c ∧ k = (pairOf S).1.1) ∨ alook S.publics c = some k := fun c k e => by
    rw [a8, alook_put] at e
    split at e
    · rename_i hbc; cases e; exact .inl ⟨hbc, rfl⟩
    · exact .inr e
  have hall : ∀ x ∈ (pairOf S).2.used, 0 < x ∧ (x < 18446744073709551616 ∨ x ≤ 2 * ((pairOf S).2.used.length : Int)) := fun x hx => by
    have h5 : OS.ok { (freshOf S).2 with secrets := badd S.secrets (freshOf S).1 } := (freshOf_spec h.ok).2.2.2
    have r1 := fresh_rng h.ok
    have r2 : 0 < (pairOf S).1.2 ∧ ((pairOf S).1.2 < 18446744073709551616 ∨ (pairOf S).1.2 ≤ 2 * (((freshOf S).2.used.length : Int) + 1)) := fresh_rng h5
    have r3 : (freshOf S).2.used.length = S.used.length + 1 := by rw [(freshOf_spec h.ok).2.2.1]; simp
    have r4 : (pairOf S).2.used.length = S.used.length + 2 := by rw [a6]; simp
    rw [r4]
    rw [a6] at hx
    rcases List.mem_append.1 hx with hx | hx
    · rcases List.mem_append.1 hx with hx | hx
      · have := h.rng x hx; omega
      · simp at hx; rw [hx]; show 0 < (freshOf S).1 ∧ ((freshOf S).1 < _ ∨ (freshOf S).1 ≤ _); omega
    · simp at hx; rw [hx]; omega
  refine ⟨⟨k1, hall, fun b k e => hsub _ (h.hu b k (by rw [← a9]; exact e)), fun b c k e1 e2 => h.hi b c k (by rw [← a9]; exact e1) (by rw [← a9]; exact e2), fun q x e => by rw [a11] at e; rw [a12]; exact h.sg q x e, fun x q e => by rw [a12] at e; rw [a11]; exact h.gs x q e,
    fun x q e => by rw [a12] at e; exact hsub _ (h.su x q e), fun p s e => ?_, fun p s e => ?_, fun s hs => ?_⟩, ⟨fun b k e => by rw [a9]; exact e, fun q x e => by rw [a11]; exact e, fun x q e => by rw [a12]; exact e, fun p s e => ?_, fun s hs => by rw [a7, badd_mem]; exact .inl hs, hsub⟩, ?_, by rw [a7, badd_mem]; exact .inr rfl, fun hs => ?_, fun hs => a3 (h.eu _ hs), a9, a11, a12⟩
  · rcases hl p s e with ⟨rfl, _⟩ | e
    · rw [a6]; simp
    · exact hsub _ (h.pu p s e)
  · rw [a7, badd_mem]
    rcases hl p s e with ⟨_, rfl⟩ | e
    · exact .inr rfl
    · exact .inl (h.ps p s e)
  · rw [a7, badd_mem] at hs
    rcases hs with hs | rfl
    · exact hsub _ (h.eu s hs)
    · rw [a6]; simp
  · rw [a8, alook_put, if_neg (fun e' => a4 (by rw [e']; exact h.pu p s e))]; exact e
  · rw [a8, alook_put, if_pos rfl]
  · rw [a7, badd_mem] at hs
    rcases hs with hs | hs
    · exact a4 (h.eu _ hs)
    · exact a5 hs.symm
theorem sign_inv {S : OS} (h : OInv S) {k : Int} (hk : k ∈ S.secrets) (b : List UInt8) : OInv (signOf S k b).2 ∧ OS.le S (signOf S k b).2 ∧ (signOf S k b).1.2 = true ∧ alook (signOf S k b).2.signed (signOf S k b).1.1 = some (k, b) ∧ alook (signOf S k b).2.signs (k, b) = some (signOf S k b).1.1 ∧
    (signOf S k b).2.hashes = S.hashes ∧ (signOf S k b).2.publics = S.publics ∧ (signOf S k b).2.secrets = S.secrets := by
  obtain ⟨c1, c2, c3, c4, c5, c6, c7, c8⟩ := freshOf_frame S
  obtain ⟨f1, f2, f3, f4, f5⟩ := fresh_inv h
  unfold signOf
  rw [if_pos hk]
  cases hs : alook S.signs (k, b) with
  | some x => exact ⟨h, OS.le.refl _, rfl, h.sg _ _ hs, hs, rfl, rfl, rfl⟩
  | none =>
    have hl : ∀ c z, alook (aput S.signs (k, b) (freshOf S).1) c = some z → ((k, b) = c ∧ z = (freshOf S).1) ∨ alook S.signs c = some z := fun c z e => by
      rw [alook_put] at e
      split at e
      · rename_i hbc; cases e; exact .inl ⟨hbc, rfl⟩
      · exact .inr e
    have hg : ∀ c z, alook (aput S.signed (freshOf S).1 (k, b)) c = some z → ((freshOf S).1 = c ∧ z = (k, b)) ∨ alook S.signed c = some z := fun c z e => by
      rw [alook_put] at e
      split at e
      · rename_i hbc; cases e; exact .inl ⟨hbc, rfl⟩
      · exact .inr e
    have hn : ∀ x q, alook S.signed x = some q → (freshOf S).1 ≠ x := fun x q e e' => f3 (by rw [e']; exact h.su x q e)
    refine ⟨⟨f1.ok, f1.rng, f1.hu, f1.hi, fun q x e => ?_, fun x q e => ?_, fun x q e => ?_, f1.pu, f1.ps, f1.eu⟩, ⟨f2.hashes, fun q x e => ?_, fun x q e => ?_, f2.publics, f2.secrets, f2.used⟩, rfl, ?_, ?_, c1, c4, c3⟩
    · show alook (aput S.signed (freshOf S).1 (k, b)) x = some q
      rcases hl q x e with ⟨rfl, rfl⟩ | e
      · rw [alook_put, if_pos rfl]
      · rw [alook_put, if_neg (hn x q (h.sg q x e))]; exact h.sg q x e
    · show alook (aput S.signs (k, b) (freshOf S).1) q = some x
      rcases hg x q e with ⟨rfl, rfl⟩ | e
      · rw [alook_put, if_pos rfl]
      · rw [alook_put, if_neg (fun e' => by subst e'; have := h.gs x _ e; rw [hs] at this; cases this)]; exact h.gs x q e
    · rcases hg x q e with ⟨rfl, rfl⟩ | e
      · exact f4
      · exact f2.used _ (h.su x q e)
    · show alook (aput S.signs (k, b) (freshOf S).1) q = some x
      rw [alook_put, if_neg (fun e' => by subst e'; rw [hs] at e; cases e)]; exact e
    · show alook (aput S.signed (freshOf S).1 (k, b)) x = some q
      rw [alook_put, if_neg (hn x q e)]; exact e
    · show alook (aput S.signed (freshOf S).1 (k, b)) (freshOf S).1 = _
      rw [alook_put, if_pos rfl]
    · show alook (aput S.signs (k, b) (freshOf S).1) (k, b) = _
      rw [alook_put, if_pos rfl]
theorem sign_no {S : OS} {k : Int} (hk : k ∉ S.secrets) (b : List UInt8) : signOf S k b = ((0, false), S) := by unfold signOf; rw [if_neg hk]
theorem sign_eq {S : OS} {k : Int} {b : List UInt8} {x : Int} (hk : k ∈ S.secrets) (h : alook S.signs (k, b) = some x) : signOf S k b = ((x, true), S) := by unfold signOf; rw [if_pos hk, h]
theorem verify_at {S : OS} {p s : Int} (hp : alook S.publics p = some s) (b : List UInt8) (x : Int) : verifyOf S p b x = decide (alook S.signed x = some (s, b)) := by
  unfold verifyOf
  rw [hp]
  cases alook S.signed x with
  | none => simp
  | some q => simp
theorem sign_inv' {S : OS} (h : OInv S) (k : Int) (b : List UInt8) : OInv (signOf S k b).2 ∧ OS.le S (signOf S k b).2 ∧ (signOf S k b).2.hashes = S.hashes ∧ (signOf S k b).2.publics = S.publics ∧ (signOf S k b).2.secrets = S.secrets := by
  by_cases hk : k ∈ S.secrets
  · obtain ⟨a1, a2, a3, a4, a5, a6, a7, a8⟩ := sign_inv h hk b; exact ⟨a1, a2, a6, a7, a8⟩
  · rw [sign_no hk]; exact ⟨h, OS.le.refl _, rfl, rfl, rfl⟩
end Go.Proofs.Ytfmdpjhkojbocaa

/- The two oracles side by side: tables against rows. -/
set_option linter.unusedVariables false
set_option linter.unusedSimpArgs false
namespace Go.Proofs.Ytfmdpjhkojbocaa
open Go Go.Mx Go.Proofs
structure Sim (S : OS) (d : List Int) (L : List RRow) : Prop where
  ok : S.ok
  dr : S.draws = d
  us : S.used = L.map RRow.h
  nd : (L.map RRow.h).Nodup
  nz : ∀ r ∈ L, r.h ≠ 0
  hs : ∀ b x, alook S.hashes b = some x ↔ ∃ r ∈ L, r.kind = 1 ∧ r.A = b ∧ r.h = x
  ky : ∀ k, k ∈ S.keys ↔ ∃ r ∈ L, r.kind = 2 ∧ r.h = k
  sc : ∀ s, s ∈ S.secrets ↔ ∃ r ∈ L, r.kind = 3 ∧ r.h = s
  pb : ∀ p s, alook S.publics p = some s ↔ ∃ r ∈ L, r.kind = 4 ∧ r.h = p ∧ r.n = s
  sg : ∀ q x, alook S.signs q = some x ↔ ∃ r ∈ L, r.kind = 5 ∧ (r.n, r.A) = q ∧ r.h = x
  sd : ∀ x q, alook S.signed x = some q ↔ ∃ r ∈ L, r.kind = 5 ∧ (r.n, r.A) = q ∧ r.h = x
  se : ∀ x q, alook S.sealed x = some q ↔ ∃ r ∈ L, r.kind = 6 ∧ r.h = x ∧ q = ⟨r.n, r.A, r.B⟩
  wr : ∀ x q, alook S.wrapped x = some q ↔ ∃ r ∈ L, r.kind = 7 ∧ r.h = x ∧ (r.n, r.m) = q
theorem Sim.init {l : List Int} (hl : ∀ d ∈ l, 0 ≤ d ∧ d < 18446744073709551616) : Sim (OS.init l) l [] := by
  refine ⟨OS.init_ok l hl, rfl, rfl, by simp, by simp, ?_, ?_, ?_, ?_, ?_, ?_, ?_, ?_⟩ <;> simp [OS.init, alook]
section
variable {S : OS} {d : List Int} {L : List RRow}
theorem Sim.mem_used (h : Sim S d L) {r : RRow} (hr : r ∈ L) : r.h ∈ S.used := by rw [h.us]; exact List.mem_map_of_mem hr
/-- the same handle. -/
theorem Sim.fresh (h : Sim S d L) (r : RRow) : (putR d L r).1 = (freshOf S).1 ∧ (putR d L r).2.1 = (freshOf S).2.draws := by
  obtain ⟨h1, h2, h3, h4⟩ := h.ok
  unfold putR freshOf freshR
  rw [← h.us, ← h.dr]
  cases hp : pickD S.draws S.used with
  | some q => exact ⟨rfl, rfl⟩
  | none =>
    refine ⟨?_, rfl⟩
    obtain ⟨a1, a2, a3, a4, a5⟩ := pickN_spec S.used (S.used.length + 1) S.next h1 (gap S.used _ _ (by omega))
    obtain ⟨b1, b2, b3, b4, b5⟩ := pickN_spec S.used (S.used.length + 1) 1 (Int.le_refl _) (gap S.used _ _ (by omega))
    show pickN S.used (S.used.length + 1) 1 = pickN S.used (S.used.length + 1) S.next
    generalize pickN S.used (S.used.length + 1) 1 = x at *
    generalize pickN S.used (S.used.length + 1) S.next = y at *
    rcases Int.lt_trichotomy x y with c | c | c
    · exfalso
      by_cases hx : x < S.next
      · exact b3 (h2 x b1 hx)
      · exact b3 (a5 x (by omega) c)
    · exact c
    · exact absurd (b5 y (by omega) c) a3
/-- a row more: all but the tables. -/
theorem Sim.put (h : Sim S d L) (r : RRow) : (freshOf S).2.ok ∧ (freshOf S).2.draws = (putR d L r).2.1 ∧ (freshOf S).2.used = (putR d L r).2.2.map RRow.h ∧ ((putR d L r).2.2.map RRow.h).Nodup ∧ (∀ z ∈ (putR d L r).2.2, z.h ≠ 0) ∧
    (putR d L r).2.2 = L ++ [{ r with h := (freshOf S).1 }] ∧ (∀ z ∈ L, z.h ≠ (freshOf S).1) := by
  obtain ⟨a1, a2, a3, a4⟩ := freshOf_spec h.ok
  obtain ⟨b1, b2⟩ := h.fresh r
  have e : (putR d L r).2.2 = L ++ [{ r with h := (freshOf S).1 }] := by rw [← b1]; rfl
  have hne : ∀ z ∈ L, z.h ≠ (freshOf S).1 := fun z hz he => a2 (he ▸ h.mem_used hz)
  refine ⟨a4, b2.symm, by rw [a3, e, h.us]; simp, ?_, ?_, e, hne⟩
  · rw [e, List.map_append, List.nodup_append]
    refine ⟨h.nd, by simp, fun a ha b hb => ?_⟩
    obtain ⟨z, hz, rfl⟩ := List.mem_map.1 ha
    simp at hb; subst hb; exact hne z hz
  · rw [e]
    intro z hz
    rcases List.mem_append.1 hz with hz | hz
    · exact h.nz z hz
    · simp at hz; subst hz; exact a1
theorem Sim.find (h : Sim S d L) {p : RRow → Bool} {x : Int} (hx : ∃ r ∈ L, p r = true ∧ r.h = x) (hu : ∀ r ∈ L, p r = true → r.h = x) : ∃ r, L.find? p = some r ∧ r.h = x := by
  cases hf : L.find? p with
  | none => obtain ⟨r, a, b, _⟩ := hx; rw [List.find?_eq_none] at hf; exact absurd b (hf r a)
  | some r => exact ⟨r, rfl, hu r (List.mem_of_find?_eq_some hf) (List.find?_some hf)⟩
end
end Go.Proofs.Ytfmdpjhkojbocaa

/- A function's own blocks, each its own owner. -/
set_option linter.unusedSimpArgs false
set_option linter.unusedVariables false
set_option linter.unusedSectionVars false
namespace Go.Mx
section
variable {K K1 : Nat → Prop} {w w1 w' : World} {o o1 o' : Own} {p q j : Nat}
def Mine (L : List Nat) (w : World) (o : Own) : Prop := ∀ p ∈ L, p < w.heap.size ∧ o p = some p
theorem Mine.nil : Mine [] w o := fun p hp => by simp at hp
theorem Mine.step {L : List Nat} (h : Mine L w o) (s : Step K w o w' o') : Mine L w' o' := fun p hp => ⟨Nat.lt_of_lt_of_le (h p hp).1 s.size, by rw [s.own (h p hp).1]; exact (h p hp).2⟩
theorem Mine.keep {L : List Nat} (h : Mine L w o) (s : Step K w o w' o') (hk : ∀ p ∈ L, ¬ K p) : Keep L w w' := s.keep fun p hp _ k hk' => by
  rw [(h p hp).2] at hk'; cases hk'; exact hk p hp
theorem Mine.sub {L M : List Nat} (h : Mine L w o) (k : ∀ p ∈ M, p ∈ L) : Mine M w o := fun p hp => h p (k p hp)
theorem Mine.app {L M : List Nat} (h : Mine L w o) (k : Mine M w o) : Mine (L ++ M) w o := fun p hp => (List.mem_append.1 hp).elim (h p) (k p)
theorem Mine.lt {L : List Nat} (h : Mine L w o) {p : Nat} (hp : p ∈ L) : p < w.heap.size := (h p hp).1
def tags (w : World) (o : Own) (L : List Nat) : Own := fun b => if b < w.heap.size then o b else if b ∈ L then some b else none
theorem Step.priv {L : List Nat} (h : Ext no w w') (hp : Priv w w' L) (ok : Tags w o) : Step no w o w' (tags w o L) ∧ Mine L w' (tags w o L) := by
  refine ⟨⟨h.mono fun _ h _ => h.elim, fun b hb => if_pos hb, ok, fun b j hb hj => ?_⟩, fun p hq => ⟨(hp p hq).2, ?_⟩⟩
  · unfold tags at hj
    split at hj
    · rename_i hl; exact Nat.lt_of_lt_of_le (ok b j hl hj) h.size
    · split at hj
      · cases hj; exact hb
      · cases hj
  · unfold tags
    rw [if_neg (by have := (hp p hq).1; omega), if_pos hq]
/-- stores into blocks of one's own. -/
theorem Step.stores {L : List Nat} {m : Nat → Prop} (h : Ext m w w') (ok : Tags w o) (hL : Mine L w o) (hm : ∀ b, m b → b ∈ L) : Step (fun j => j ∈ L) w o w' (grow w o) :=
  Step.of_exts h ok fun b hb _ => ⟨b, (hL b (hm b hb)).2, hm b hb⟩
end
end Go.Mx

/- The reference's rows, few and short; both oracles. -/
set_option linter.unusedVariables false
set_option linter.unusedSimpArgs false
set_option maxRecDepth 20000
namespace Go.Proofs.Ytfmdpjhkojbocaa
open Go Go.Mx Go.Proofs
/-- the rows are few, and short. -/
structure RFine (n : Nat) (d : List Int) (L : List RRow) : Prop where
  draws : ∀ x ∈ d, 0 ≤ x ∧ x < 18446744073709551616
  short : L.length ≤ n
  bytes : ∀ r ∈ L, r.A.length < 1000000 ∧ r.B.length < 1000000
section
variable {w w' : World} {o o' : Own} {k n : Nat} {K : Nat → Prop} {S : OS} {d : List Int} {L : List RRow}
theorem RFine.more (h : RFine n d L) : RFine (n + 1) d L := ⟨h.draws, Nat.le_succ_of_le h.short, h.bytes⟩
theorem RFine.put (h : RFine n d L) (r : RRow) (hr : r.A.length < 1000000 ∧ r.B.length < 1000000) : RFine (n + 1) (putR d L r).2.1 (putR d L r).2.2 := by
  refine ⟨freshR_draws h.draws, ?_, fun z hz => ?_⟩
  · have := h.short; rw [putR_len]; omega
  · rcases List.mem_append.1 hz with hz | hz
    · exact h.bytes z hz
    · simp at hz; subst hz; exact hr
theorem RFine.pair (h : RFine n d L) : RFine (n + 2) (pairR d L).2.1 (pairR d L).2.2 :=
  (h.put ⟨0, 3, [], [], 0, 0⟩ (by decide)).put _ ⟨by show (0 : Nat) < _; decide, by show (0 : Nat) < _; decide⟩
theorem RFine.sign (h : RFine n d L) (s : Int) {b : List UInt8} (hb : b.length < 1000000) : RFine (n + 1) (signR d L s b).2.1 (signR d L s b).2.2 := by
  unfold signR
  split
  · exact h.more
  · split
    · exact h.more
    · exact h.put _ ⟨hb, by show (0 : Nat) < _; decide⟩
/-- both oracles. -/
structure Two (w : World) (o : Own) (k j : Nat) (S : OS) (d : List Int) (L : List RRow) (n : Nat) : Prop where
  p : POrc w o k S
  r : ROrc w o j d L
  sim : Sim S d L
  inv : OInv S
  fine : RFine n d L
  ok : Tags w o
  ne : k ≠ j
variable {j : Nat}
theorem Two.step (h : Two w o k j S d L n) (s : Step no w o w' o') : Two w' o' k j S d L n := ⟨h.p.step s id, h.r.step s id, h.sim, h.inv, h.fine, s.ok, h.ne⟩
theorem Two.len (h : Two w o k j S d L n) : S.used.length ≤ n := by rw [h.sim.us, List.length_map]; exact h.fine.short
theorem Two.turn {w1 : World} {o1 : Own} {S' : OS} {d' : List Int} {L' : List RRow} {n' : Nat} (h : Two w o k j S d L n) (s1 : Step (fun i => i = k) w o w1 o1) (p1 : POrc w1 o1 k S') (s2 : Step (fun i => i = j) w1 o1 w' o') (r2 : ROrc w' o' j d' L')
    (sim : Sim S' d' L') (inv : OInv S') (fine : RFine n' d' L') : Two w' o' k j S' d' L' n' ∧ Step (fun i => i = k ∨ i = j) w o w' o' :=
  ⟨⟨p1.step s2 h.ne, r2, sim, inv, fine, s2.ok, h.ne⟩, (s1.mono fun _ h _ => .inl h).trans (s2.mono fun _ h _ => .inr h)⟩
end
/-- the reference's, as it is made. -/
theorem ROrc.init {w w' : World} {o : Own} {q : Nat} {da : Option Addr} {dc : Nat} {d : List Int} (X : Ext no w w') (hb : Blk w' q 63 [.slice da d.length dc, .slice none 0 0]) (h1 : w.heap.size ≤ q) (h2 : q < w'.heap.size) (ok : Tags w o) (hd : Row w o da (d.map u64V)) (hc : d.length ≤ dc) :
    ∃ o', Step no w o w' o' ∧ ROrc w' o' q d [] := by
  have s := (Step.of_no X ok).tag h1 h2
  refine ⟨_, s, [], rfl, tag_self, ⟨da, dc, none, 0, hb, hc, hd.step s, Grows.nil _ _ _ _ _, fun ad ha => by cases ha⟩, fun x hx => by cases hx⟩
end Go.Proofs.Ytfmdpjhkojbocaa

/- A struct of numbers: when two are the same. -/
set_option linter.unusedVariables false
set_option linter.unusedSimpArgs false
set_option maxRecDepth 20000
namespace Go.Proofs.Ytfmdpjhkojbocaa
open Go Go.Mx Go.Proofs
theorem W.eqf_step {P : Program} {w : World} {d : Nat} {xs ys : Array Value} {f : Field} {fs : List Field} {a b : Value} {r : Bool} (n : f.name ≠ "_") (qa : (part f.type xs f.offset).run P w = .ok a w) (qb : (part f.type ys f.offset).run P w = .ok b w) (he : (Op.equalIn d f.type a b).run P w = .ok r w) :
    (Op.eqFields d xs ys (f :: fs)).run P w = if r then (Op.eqFields d xs ys fs).run P w else .ok false w := by
  simp only [Op.eqFields, n, ne_eq, not_false_eq_true, if_true, Sem.run_bind, qa, qb, he, Result.andThen_ok]
  cases r <;> simp
theorem eqT27 (x0 : Int) (x1 : Int) (y0 : Int) (y1 : Int) (w : World) : (Op.equalIn 10000 27 (.agg #[.int .i64 x0, .int .i64 x1]) (.agg #[.int .i64 y0, .int .i64 y1])).run Try.prog w = .ok (decide (x0 = y0 ∧ x1 = y1)) w := by
  obtain ⟨f0, f1, ht, n0, o0, p0, u0, n1, o1, p1, u1, hp⟩ : ∃ f0 f1, Try.prog.underlying 27 = some (.struct #[f0, f1]) ∧ f0.name ≠ "_" ∧ f0.offset = 0 ∧ Try.prog.plainKey f0.type = true ∧ Try.prog.underlying f0.type = some (.int .i64) ∧ f1.name ≠ "_" ∧ f1.offset = 1 ∧ Try.prog.plainKey f1.type = true ∧ Try.prog.underlying f1.type = some (.int .i64) ∧ Try.prog.stoodInHeld 27 = false :=
    ⟨_, _, Try.underlying27, by decide, rfl, by kernel_rfl, by kernel_rfl, by decide, rfl, by kernel_rfl, by kernel_rfl, by kernel_rfl⟩
  have hf : Try.prog.fieldsOf 27 = #[f0, f1] := by simp [Program.fieldsOf, ht]
  rw [show (10000 : Nat) = 9998 + 1 + 1 from rfl, run_equalIn_struct w (9998 + 1) _ _ _ (by rw [hf]; exact ht) hp, hf]
  show (Op.eqFields (9998 + 1) _ _ [f0, f1]).run Try.prog w = _
  rw [W.eqf_step n0 (run_part_plain w p0 (by rw [o0]; rfl)) (run_part_plain w p0 (by rw [o0]; rfl)) (run_equalIn_int w _ _ _ _ _ _ u0), W.eqf_step n1 (run_part_plain w p1 (by rw [o1]; rfl)) (run_part_plain w p1 (by rw [o1]; rfl)) (run_equalIn_int w _ _ _ _ _ _ u1)]
  by_cases e0 : x0 = y0 <;> by_cases e1 : x1 = y1 <;> simp [e0, e1, Op.eqFields]
theorem eqT27_eq (x0 : Int) (x1 : Int) (y0 : Int) (y1 : Int) (w : World) : (binOp .eql 27 (.agg #[.int .i64 x0, .int .i64 x1]) (.agg #[.int .i64 y0, .int .i64 y1])).run Try.prog w = .ok (.bool (decide (x0 = y0 ∧ x1 = y1))) w := by rw [run_eql_struct, eqT27]; rfl
end Go.Proofs.Ytfmdpjhkojbocaa

/- Wire: so many bytes of a reader; the reference's whole numbers, and bytes with their length. -/
set_option linter.unusedVariables false
set_option linter.unusedSimpArgs false
set_option maxRecDepth 20000
namespace Go.Proofs.Ytfmdpjhkojbocaa
open Go Go.Mx Go.Proofs
open W (OwnB GivesW numR countR doneR zig unzig intR)
section
variable {w w' : World} {a : Option Addr} {c N p : Nat} {bs : List UInt8} {k : Int}
/-! ### the reference's -/
end
end Go.Proofs.Ytfmdpjhkojbocaa

/- Entries: what is plain of them. -/
set_option linter.unusedVariables false
set_option linter.unusedSimpArgs false
set_option maxRecDepth 20000
namespace Go.Proofs.Ytfmdpjhkojbocaa
open Go Go.Mx Go.Proofs
open W (OwnB GivesW numR countR doneR zig unzig intR)
/-- entry.within -/
def entry_within.M (n1 : Int) (a1 : Int) (a0 : Int) (R : Value → World → Prop) (w : World) : Prop :=
 bif decide (n1 ≥ a1) then (
 R (.bool (decide (n1 < a0))) w) else (
 R (.bool false) w)

theorem entry_within.eq (n1 : Int) (least2 : Int) (below3 : Int) (R : Value → World → Prop) (w : World) : mfunc Try.prog [] 63 [.int .i64 n1, .int .i64 least2, .int .i64 below3] R w = entry_within.M n1 least2 below3 R w := by kernel_rfl
theorem entry_within.ok (n1 : Int) (a1 : Int) (a0 : Int) {R : Value → World → Prop} {w : World} (h : entry_within.M n1 a1 a0 R w) : Calls Try.prog 63 #[.int .i64 n1, .int .i64 a1, .int .i64 a0] w fun e w' => ∃ v, e = .returned v ∧ R v w' :=
  mfunc_ok follows (H := []) (args := [.int .i64 n1, .int .i64 a1, .int .i64 a0]) (by rw [entry_within.eq]; exact h)

def entry_within.N (n1 : Int) (a0 : Int) (a1 : Int) (R : Value → World → Prop) (w : World) : Prop :=
 (n1 ≥ a0 →
 R (.bool (decide (n1 < a1))) w) ∧
 (n1 < a0 →
 R (.bool false) w)

theorem entry_within.up (n1 : Int) (a1 : Int) (a0 : Int) {R : Value → World → Prop} {w : World} (h : entry_within.N n1 a1 a0 R w) : entry_within.M n1 a1 a0 R w := by
  unfold entry_within.M
  unfold entry_within.N at h
  refine bif_of (fun c4 => ?_) (fun c4 => ?_)
  · have h := h.1 (of_decide_eq_true c4)
    exact h
  · have h := h.2 (Int.not_le.1 (of_decide_eq_false c4))
    exact h

theorem entry_within.go (n1 : Int) (a1 : Int) (a0 : Int) {R : Value → World → Prop} {w : World} (h : entry_within.N n1 a1 a0 R w) : Calls Try.prog 63 #[.int .i64 n1, .int .i64 a1, .int .i64 a0] w fun e w' => ∃ v, e = .returned v ∧ R v w' := entry_within.ok n1 a1 a0 (entry_within.up n1 a1 a0 h)
theorem entry_within.run (n1 : Int) (a1 : Int) (a0 : Int) {V : Value} {Q : World → Prop} {w : World} (h : entry_within.N n1 a1 a0 (fun v w' => v = V ∧ Q w') w) : Calls Try.prog 63 #[.int .i64 n1, .int .i64 a1, .int .i64 a0] w (Ret V Q) := (entry_within.go n1 a1 a0 h).mono fun e w' ⟨v, he, hv, hq⟩ => ⟨by rw [he, hv], hq⟩

def entry_within.F (n1 : Int) (a1 : Int) (a0 : Int) : Bool :=
  if n1 ≥ a1 then
    (decide (n1 < a0))
  else
    false
theorem entry_within.pure (n1 : Int) (a1 : Int) (a0 : Int) {w : World} : Calls Try.prog 63 #[.int .i64 n1, .int .i64 a1, .int .i64 a0] w (Ret (.bool (entry_within.F n1 a1 a0)) fun w' => Ext no w w') := by
  refine entry_within.run n1 a1 a0 ?_
  unfold entry_within.N
  refine ⟨fun c0 => ?_, fun c0 => ?_⟩
  · exact ⟨by unfold entry_within.F; rw [if_pos c0], Ext.refl _ _⟩
  · exact ⟨by unfold entry_within.F; rw [if_neg (by omega)], Ext.refl _ _⟩

/-- stamp.member -/
def stamp_member.M (a0 : Int) (R : Value → World → Prop) (w : World) : Prop :=
 bif decide (a0 ≥ 0) then (
 R (.bool (decide (a0 < 8))) w) else (
 R (.bool false) w)

theorem stamp_member.eq (wv1 : Int) (R : Value → World → Prop) (w : World) : mfunc Try.prog [] 79 [.int .i64 wv1] R w = stamp_member.M wv1 R w := by kernel_rfl
theorem stamp_member.ok (a0 : Int) {R : Value → World → Prop} {w : World} (h : stamp_member.M a0 R w) : Calls Try.prog 79 #[.int .i64 a0] w fun e w' => ∃ v, e = .returned v ∧ R v w' :=
  mfunc_ok follows (H := []) (args := [.int .i64 a0]) (by rw [stamp_member.eq]; exact h)

def stamp_member.N (a0 : Int) (R : Value → World → Prop) (w : World) : Prop :=
 (a0 ≥ 0 →
 R (.bool (decide (a0 < 8))) w) ∧
 (a0 < 0 →
 R (.bool false) w)

theorem stamp_member.up (a0 : Int) {R : Value → World → Prop} {w : World} (h : stamp_member.N a0 R w) : stamp_member.M a0 R w := by
  unfold stamp_member.M
  unfold stamp_member.N at h
  refine bif_of (fun c2 => ?_) (fun c2 => ?_)
  · have h := h.1 (of_decide_eq_true c2)
    exact h
  · have h := h.2 (Int.not_le.1 (of_decide_eq_false c2))
    exact h

theorem stamp_member.go (a0 : Int) {R : Value → World → Prop} {w : World} (h : stamp_member.N a0 R w) : Calls Try.prog 79 #[.int .i64 a0] w fun e w' => ∃ v, e = .returned v ∧ R v w' := stamp_member.ok a0 (stamp_member.up a0 h)
theorem stamp_member.run (a0 : Int) {V : Value} {Q : World → Prop} {w : World} (h : stamp_member.N a0 (fun v w' => v = V ∧ Q w') w) : Calls Try.prog 79 #[.int .i64 a0] w (Ret V Q) := (stamp_member.go a0 h).mono fun e w' ⟨v, he, hv, hq⟩ => ⟨by rw [he, hv], hq⟩

def stamp_member.F (a0 : Int) : Bool :=
  if a0 ≥ 0 then
    (decide (a0 < 8))
  else
    false
theorem stamp_member.pure (a0 : Int) {w : World} : Calls Try.prog 79 #[.int .i64 a0] w (Ret (.bool (stamp_member.F a0)) fun w' => Ext no w w') := by
  refine stamp_member.run a0 ?_
  unfold stamp_member.N
  refine ⟨fun c0 => ?_, fun c0 => ?_⟩
  · exact ⟨by unfold stamp_member.F; rw [if_pos c0], Ext.refl _ _⟩
  · exact ⟨by unfold stamp_member.F; rw [if_neg (by omega)], Ext.refl _ _⟩

/-- stamp.Right -/
def stamp_Right.M (a2 : Int) (a3 : Int) (R : Value → World → Prop) (w : World) : Prop :=
 thenW (w.alloc (.cells #[.int .i64 a2, .int .i64 a3] 27)) fun a1 =>
 ∃ (T4 : Int), a1.cell? ((blk w.heap.size).add 0) = some (.int .i64 T4) ∧
 bif decide (T4 > 0) then (
 ∃ (T5 : Int), a1.cell? ((blk w.heap.size).add 0) = some (.int .i64 T5) ∧
 bif decide (T5 ≤ 1099511627776) then (
 ∃ (W6 : Int), a1.cell? ((blk w.heap.size).add 1) = some (.int .i64 W6) ∧
 Calls Try.prog 79 #[.int .i64 W6] a1 fun a5 a4 => ∃ (a0 : Bool), a5 = .returned (.bool a0) ∧
 R (.bool a0) a4) else (
 R (.bool false) a1)) else (
 R (.bool false) a1)

theorem stamp_Right.eq (sT1 : Int) (sW2 : Int) (R : Value → World → Prop) (w : World) : mfunc Try.prog [] 64 [.agg #[.int .i64 sT1, .int .i64 sW2]] R w = stamp_Right.M sT1 sW2 R w := by kernel_rfl
theorem stamp_Right.ok (a0 : Int) (a1 : Int) {R : Value → World → Prop} {w : World} (h : stamp_Right.M a0 a1 R w) : Calls Try.prog 64 #[.agg #[.int .i64 a0, .int .i64 a1]] w fun e w' => ∃ v, e = .returned v ∧ R v w' :=
  mfunc_ok follows (H := []) (args := [.agg #[.int .i64 a0, .int .i64 a1]]) (by rw [stamp_Right.eq]; exact h)

def stamp_Right.N (a1 : Int) (a3 : Int) (R : Value → World → Prop) (w : World) : Prop :=
 (a1 > 0 →
 (a1 ≤ 1099511627776 →
 ∀ (a2 : World), Ext no w a2 →
 R (.bool (stamp_member.F a3)) a2) ∧
 ((1099511627776 : Int) < a1 →
 ∀ (a0 : World), Ext no w a0 →
 R (.bool false) a0)) ∧
 (a1 ≤ 0 →
 ∀ (a0 : World), Ext no w a0 →
 R (.bool false) a0)

theorem stamp_Right.up (a1 : Int) (a0 : Int) {R : Value → World → Prop} {w : World} (h : stamp_Right.N a1 a0 R w) : stamp_Right.M a1 a0 R w := by
  unfold stamp_Right.M
  unfold stamp_Right.N at h
  refine thenW_in fun a4 e3 => ?_
  have a2 := Blk.of_new e3
  have a6 := ((Ext.refl no w)).size
  have a3 := (Ext.refl no w).x_alloc e3
  refine ⟨a1, a2.celli 0 rfl rfl, ?_⟩
  refine bif_of (fun c4 => ?_) (fun c4 => ?_)
  · have h := h.1 (of_decide_eq_true c4)
    refine ⟨a1, a2.celli 0 rfl rfl, ?_⟩
    refine bif_of (fun c5 => ?_) (fun c5 => ?_)
    · have h := h.1 (of_decide_eq_true c5)
      refine ⟨a0, a2.celli 1 rfl rfl, ?_⟩
      refine (stamp_member.pure a0).mono fun ee ww6 ⟨he, hxx⟩ => ⟨(stamp_member.F a0), he, ?_⟩
      have a5 := a3.trans hxx
      have h := h ww6 a5
      exact h
    · have h := h.2 (Int.not_le.1 (of_decide_eq_false c5))
      have h := h a4 a3
      exact h
  · have h := h.2 (Int.not_lt.1 (of_decide_eq_false c4))
    have h := h a4 a3
    exact h

theorem stamp_Right.go (a0 : Int) (a1 : Int) {R : Value → World → Prop} {w : World} (h : stamp_Right.N a0 a1 R w) : Calls Try.prog 64 #[.agg #[.int .i64 a0, .int .i64 a1]] w fun e w' => ∃ v, e = .returned v ∧ R v w' := stamp_Right.ok a0 a1 (stamp_Right.up a0 a1 h)
theorem stamp_Right.run (a0 : Int) (a1 : Int) {V : Value} {Q : World → Prop} {w : World} (h : stamp_Right.N a0 a1 (fun v w' => v = V ∧ Q w') w) : Calls Try.prog 64 #[.agg #[.int .i64 a0, .int .i64 a1]] w (Ret V Q) := (stamp_Right.go a0 a1 h).mono fun e w' ⟨v, he, hv, hq⟩ => ⟨by rw [he, hv], hq⟩

def stamp_Right.F (a0 : Int) (a1 : Int) : Bool :=
  if a0 > 0 then
    if a0 ≤ 1099511627776 then
      (stamp_member.F a1)
    else
      false
  else
    false
theorem stamp_Right.pure (a0 : Int) (a1 : Int) {w : World} : Calls Try.prog 64 #[.agg #[.int .i64 a0, .int .i64 a1]] w (Ret (.bool (stamp_Right.F a0 a1)) fun w' => Ext no w w') := by
  refine stamp_Right.run a0 a1 ?_
  unfold stamp_Right.N
  refine ⟨fun c0 => ?_, fun c0 => ?_⟩
  · refine ⟨fun c1 => ?_, fun c1 => ?_⟩
    · intro w' hx; exact ⟨by unfold stamp_Right.F; rw [if_pos c0, if_pos c1], hx⟩
    · intro w' hx; exact ⟨by unfold stamp_Right.F; rw [if_pos c0, if_neg (by omega)], hx⟩
  · intro w' hx; exact ⟨by unfold stamp_Right.F; rw [if_neg (by omega)], hx⟩

/-- entry.Right -/
def entry_Right.M (b2 : Int) (bc : Int) (bn : Int) (bp : Int) (bo : Int) (bf : Int) (b8 : Option Addr) (be : Nat) (b6 : Nat) (bq : Int) (R : Value → World → Prop) (w : World) : Prop :=
 thenW (w.alloc (.cells #[.int .i64 b2, .int .i64 bc, .int .u64 bn, .int .i64 bp, .int .i64 bo, .int .i64 bf, .slice b8 be b6, .int .u64 bq] 29)) fun c1 =>
 ∃ (ac : Int), c1.cell? ((blk w.heap.size).add 0) = some (.int .i64 ac) ∧
 Calls Try.prog 63 #[.int .i64 ac, .int .i64 0, .int .i64 8] c1 fun bx aw => ∃ (a5 : Bool), bx = .returned (.bool a5) ∧
 bif !a5 then (
 bif !a5 then (
 R (.bool false) aw) else (
 ∃ (bg : Int) (bi : Int), cellsAt aw ((blk w.heap.size).add 3) [.int .i64 bg, .int .i64 bi] 0 ∧
 Calls Try.prog 64 #[.agg #[.int .i64 bg, .int .i64 bi]] aw fun bt a0 => ∃ (a8 : Bool), bt = .returned (.bool a8) ∧
 bif !a8 then (
 bif !a8 then (
 R (.bool false) a0) else (
 ∃ (b1 : Int), a0.cell? ((blk w.heap.size).add 2) = some (.int .u64 b1) ∧
 ∃ (aq : Int), a0.cell? ((blk w.heap.size).add 1) = some (.int .i64 aq) ∧
 R (.bool ((b1 == 0) == (aq == 0))) a0)) else (
 ∃ (bw : Int), a0.cell? (((blk w.heap.size).add 3).add 1) = some (.int .i64 bw) ∧
 ∃ (a7 : Int), a0.cell? ((blk w.heap.size).add 0) = some (.int .i64 a7) ∧
 bif bw != a7 then (
 bif bw != a7 then (
 R (.bool false) a0) else (
 ∃ (ar : Int), a0.cell? ((blk w.heap.size).add 2) = some (.int .u64 ar) ∧
 ∃ (ag : Int), a0.cell? ((blk w.heap.size).add 1) = some (.int .i64 ag) ∧
 R (.bool ((ar == 0) == (ag == 0))) a0)) else (
 ∃ (bb : Option Addr) (ap : Nat) (b7 : Nat), a0.cell? ((blk w.heap.size).add 6) = some (.slice bb ap b7) ∧
 bif decide ((ap : Int) > 1100) then (
 R (.bool false) a0) else (
 ∃ (az : Int), a0.cell? ((blk w.heap.size).add 2) = some (.int .u64 az) ∧
 ∃ (ah : Int), a0.cell? ((blk w.heap.size).add 1) = some (.int .i64 ah) ∧
 R (.bool ((az == 0) == (ah == 0))) a0))))) else (
 ∃ (al : Int), aw.cell? ((blk w.heap.size).add 1) = some (.int .i64 al) ∧
 Calls Try.prog 63 #[.int .i64 al, .int .i64 0, .int .i64 200] aw fun bu b3 => ∃ (a4 : Bool), bu = .returned (.bool a4) ∧
 bif !a4 then (
 bif !a4 then (
 R (.bool false) b3) else (
 ∃ (bl : Int) (bk : Int), cellsAt b3 ((blk w.heap.size).add 3) [.int .i64 bl, .int .i64 bk] 0 ∧
 Calls Try.prog 64 #[.agg #[.int .i64 bl, .int .i64 bk]] b3 fun bv a1 => ∃ (aa : Bool), bv = .returned (.bool aa) ∧
 bif !aa then (
 bif !aa then (
 R (.bool false) a1) else (
 ∃ (ay : Int), a1.cell? ((blk w.heap.size).add 2) = some (.int .u64 ay) ∧
 ∃ (ai : Int), a1.cell? ((blk w.heap.size).add 1) = some (.int .i64 ai) ∧
 R (.bool ((ay == 0) == (ai == 0))) a1)) else (
 ∃ (c0 : Int), a1.cell? (((blk w.heap.size).add 3).add 1) = some (.int .i64 c0) ∧
 ∃ (a3 : Int), a1.cell? ((blk w.heap.size).add 0) = some (.int .i64 a3) ∧
 bif c0 != a3 then (
 bif c0 != a3 then (
 R (.bool false) a1) else (
 ∃ (b4 : Int), a1.cell? ((blk w.heap.size).add 2) = some (.int .u64 b4) ∧
 ∃ (af : Int), a1.cell? ((blk w.heap.size).add 1) = some (.int .i64 af) ∧
 R (.bool ((b4 == 0) == (af == 0))) a1)) else (
 ∃ (ba : Option Addr) (ao : Nat) (bd : Nat), a1.cell? ((blk w.heap.size).add 6) = some (.slice ba ao bd) ∧
 bif decide ((ao : Int) > 1100) then (
 R (.bool false) a1) else (
 ∃ (av : Int), a1.cell? ((blk w.heap.size).add 2) = some (.int .u64 av) ∧
 ∃ (ak : Int), a1.cell? ((blk w.heap.size).add 1) = some (.int .i64 ak) ∧
 R (.bool ((av == 0) == (ak == 0))) a1))))) else (
 ∃ (an : Int), b3.cell? ((blk w.heap.size).add 5) = some (.int .i64 an) ∧
 Calls Try.prog 63 #[.int .i64 an, .int .i64 (-1), .int .i64 20] b3 fun bz bm => ∃ (ab : Bool), bz = .returned (.bool ab) ∧
 bif !ab then (
 R (.bool false) bm) else (
 ∃ (bj : Int) (bh : Int), cellsAt bm ((blk w.heap.size).add 3) [.int .i64 bj, .int .i64 bh] 0 ∧
 Calls Try.prog 64 #[.agg #[.int .i64 bj, .int .i64 bh]] bm fun br a2 => ∃ (a9 : Bool), br = .returned (.bool a9) ∧
 bif !a9 then (
 bif !a9 then (
 R (.bool false) a2) else (
 ∃ (au : Int), a2.cell? ((blk w.heap.size).add 2) = some (.int .u64 au) ∧
 ∃ (ae : Int), a2.cell? ((blk w.heap.size).add 1) = some (.int .i64 ae) ∧
 R (.bool ((au == 0) == (ae == 0))) a2)) else (
 ∃ (bs : Int), a2.cell? (((blk w.heap.size).add 3).add 1) = some (.int .i64 bs) ∧
 ∃ (a6 : Int), a2.cell? ((blk w.heap.size).add 0) = some (.int .i64 a6) ∧
 bif bs != a6 then (
 bif bs != a6 then (
 R (.bool false) a2) else (
 ∃ (b0 : Int), a2.cell? ((blk w.heap.size).add 2) = some (.int .u64 b0) ∧
 ∃ (ad : Int), a2.cell? ((blk w.heap.size).add 1) = some (.int .i64 ad) ∧
 R (.bool ((b0 == 0) == (ad == 0))) a2)) else (
 ∃ (b9 : Option Addr) (am : Nat) (b5 : Nat), a2.cell? ((blk w.heap.size).add 6) = some (.slice b9 am b5) ∧
 bif decide ((am : Int) > 1100) then (
 R (.bool false) a2) else (
 ∃ (ax : Int), a2.cell? ((blk w.heap.size).add 2) = some (.int .u64 ax) ∧
 ∃ (aj : Int), a2.cell? ((blk w.heap.size).add 1) = some (.int .i64 aj) ∧
 R (.bool ((ax == 0) == (aj == 0))) a2))))))

theorem entry_Right.eq (eWriter1 : Int) (eIndex2 : Int) (ePrev3 : Int) (eAtT4 : Int) (eAtW5 : Int) (eEpoch6 : Int) (eBody7a : Option Addr) (eBody7n : Nat) (eBody7c : Nat) (eSig8 : Int) (R : Value → World → Prop) (w : World) : mfunc Try.prog [] 34 [.agg #[.int .i64 eWriter1, .int .i64 eIndex2, .int .u64 ePrev3, .int .i64 eAtT4, .int .i64 eAtW5, .int .i64 eEpoch6, .slice eBody7a eBody7n eBody7c, .int .u64 eSig8]] R w = entry_Right.M eWriter1 eIndex2 ePrev3 eAtT4 eAtW5 eEpoch6 eBody7a eBody7n eBody7c eSig8 R w := by kernel_rfl
theorem entry_Right.ok (a0 : Int) (a1 : Int) (a6 : Int) (a8 : Int) (a9 : Int) (a5 : Int) (a2 : Option Addr) (a4 : Nat) (a3 : Nat) (a7 : Int) {R : Value → World → Prop} {w : World} (h : entry_Right.M a0 a1 a6 a8 a9 a5 a2 a4 a3 a7 R w) : Calls Try.prog 34 #[.agg #[.int .i64 a0, .int .i64 a1, .int .u64 a6, .int .i64 a8, .int .i64 a9, .int .i64 a5, .slice a2 a4 a3, .int .u64 a7]] w fun e w' => ∃ v, e = .returned v ∧ R v w' :=
  mfunc_ok follows (H := []) (args := [.agg #[.int .i64 a0, .int .i64 a1, .int .u64 a6, .int .i64 a8, .int .i64 a9, .int .i64 a5, .slice a2 a4 a3, .int .u64 a7]]) (by rw [entry_Right.eq]; exact h)

def entry_Right.N (a0 : Int) (a2 : Int) (a7 : Int) (a6 : Int) (a5 : Int) (a4 : Int) (ab : Option Addr) (a3 : Nat) (ac : Nat) (ad : Int) (R : Value → World → Prop) (w : World) : Prop :=
 ((entry_within.F a0 0 8) = false →
 ∀ (a8 : World), Ext no w a8 →
 R (.bool false) a8) ∧
 ((entry_within.F a0 0 8) = true →
 ((entry_within.F a2 0 200) = false →
 ∀ (aa : World), Ext no w aa →
 R (.bool false) aa) ∧
 ((entry_within.F a2 0 200) = true →
 ((entry_within.F a4 (-1) 20) = false →
 ∀ (a9 : World), Ext no w a9 →
 R (.bool false) a9) ∧
 ((entry_within.F a4 (-1) 20) = true →
 ((stamp_Right.F a6 a5) = false →
 ∀ (a1 : World), Ext no w a1 →
 R (.bool false) a1) ∧
 ((stamp_Right.F a6 a5) = true →
 (a5 ≠ a0 →
 ∀ (a1 : World), Ext no w a1 →
 R (.bool false) a1) ∧
 (a5 = a0 →
 ((a3 : Int) > 1100 →
 ∀ (a1 : World), Ext no w a1 →
 R (.bool false) a1) ∧
 ((a3 : Int) ≤ 1100 →
 ∀ (a1 : World), Ext no w a1 →
 R (.bool ((a7 == 0) == (a2 == 0))) a1))))))

theorem entry_Right.up (a0 : Int) (a1 : Int) (a9 : Int) (a8 : Int) (a3 : Int) (a2 : Int) (a5 : Option Addr) (a6 : Nat) (a4 : Nat) (ab : Int) {R : Value → World → Prop} {w : World} (h : entry_Right.N a0 a1 a9 a8 a3 a2 a5 a6 a4 ab R w) : entry_Right.M a0 a1 a9 a8 a3 a2 a5 a6 a4 ab R w := by
  unfold entry_Right.M
  unfold entry_Right.N at h
  refine thenW_in fun am e9 => ?_
  have a7 := Blk.of_new e9
  have an := ((Ext.refl no w)).size
  have al := (Ext.refl no w).x_alloc e9
  refine ⟨a0, a7.celli 0 rfl rfl, ?_⟩
  refine (entry_within.pure a0 0 8).mono fun ee ww10 ⟨he, hxx⟩ => ⟨(entry_within.F a0 0 8), he, ?_⟩
  have ae := al.trans hxx
  have a7 := a7.ext hxx id
  refine bif_of (fun ah => ?_) (fun ah => ?_)
  · have h := h.1 (not_t ah)
    refine bif_tt ah ?_
    have h := h ww10 ae
    exact h
  · have h := h.2 (not_f ah)
    refine ⟨a1, a7.celli 1 rfl rfl, ?_⟩
    refine (entry_within.pure a1 0 200).mono fun ee ww13 ⟨he, hxx⟩ => ⟨(entry_within.F a1 0 200), he, ?_⟩
    have ad := ae.trans hxx
    have a7 := a7.ext hxx id
    refine bif_of (fun af => ?_) (fun af => ?_)
    · have h := h.1 (not_t af)
      refine bif_tt af ?_
      have h := h ww13 ad
      exact h
    · have h := h.2 (not_f af)
      refine ⟨a2, a7.celli 5 rfl rfl, ?_⟩
      refine (entry_within.pure a2 (-1) 20).mono fun ee ww16 ⟨he, hxx⟩ => ⟨(entry_within.F a2 (-1) 20), he, ?_⟩
      have ac := ad.trans hxx
      have a7 := a7.ext hxx id
      refine bif_of (fun ak => ?_) (fun ak => ?_)
      · have h := h.1 (not_t ak)
        have h := h ww16 ac
        exact h
      · have h := h.2 (not_f ak)
        refine ⟨a8, a3, ⟨a7.celli 3 rfl rfl, a7.celli 4 rfl rfl, trivial⟩, ?_⟩
        refine (stamp_Right.pure a8 a3).mono fun ee ww19 ⟨he, hxx⟩ => ⟨(stamp_Right.F a8 a3), he, ?_⟩
        have aa := ac.trans hxx
        have a7 := a7.ext hxx id
        refine bif_of (fun ai => ?_) (fun ai => ?_)
        · have h := h.1 (not_t ai)
          refine bif_tt ai ?_
          have h := h ww19 aa
          exact h
        · have h := h.2 (not_f ai)
          refine ⟨a3, a7.celli 4 rfl rfl, ?_⟩
          refine ⟨a0, a7.celli 0 rfl rfl, ?_⟩
          refine bif_of (fun ag => ?_) (fun ag => ?_)
          · have h := h.1 (bne_t ag)
            refine bif_tt ag ?_
            have h := h ww19 aa
            exact h
          · have h := h.2 (bne_f ag)
            refine ⟨a5, a6, a4, a7.celli 6 rfl rfl, ?_⟩
            refine bif_of (fun aj => ?_) (fun aj => ?_)
            · have h := h.1 (of_decide_eq_true aj)
              have h := h ww19 aa
              exact h
            · have h := h.2 (Int.not_lt.1 (of_decide_eq_false aj))
              refine ⟨a9, a7.celli 2 rfl rfl, ?_⟩
              refine ⟨a1, a7.celli 1 rfl rfl, ?_⟩
              have h := h ww19 aa
              exact h

theorem entry_Right.go (a0 : Int) (a1 : Int) (a6 : Int) (a8 : Int) (a9 : Int) (a5 : Int) (a2 : Option Addr) (a4 : Nat) (a3 : Nat) (a7 : Int) {R : Value → World → Prop} {w : World} (h : entry_Right.N a0 a1 a6 a8 a9 a5 a2 a4 a3 a7 R w) : Calls Try.prog 34 #[.agg #[.int .i64 a0, .int .i64 a1, .int .u64 a6, .int .i64 a8, .int .i64 a9, .int .i64 a5, .slice a2 a4 a3, .int .u64 a7]] w fun e w' => ∃ v, e = .returned v ∧ R v w' := entry_Right.ok a0 a1 a6 a8 a9 a5 a2 a4 a3 a7 (entry_Right.up a0 a1 a6 a8 a9 a5 a2 a4 a3 a7 h)
theorem entry_Right.run (a0 : Int) (a1 : Int) (a6 : Int) (a8 : Int) (a9 : Int) (a5 : Int) (a2 : Option Addr) (a4 : Nat) (a3 : Nat) (a7 : Int) {V : Value} {Q : World → Prop} {w : World} (h : entry_Right.N a0 a1 a6 a8 a9 a5 a2 a4 a3 a7 (fun v w' => v = V ∧ Q w') w) : Calls Try.prog 34 #[.agg #[.int .i64 a0, .int .i64 a1, .int .u64 a6, .int .i64 a8, .int .i64 a9, .int .i64 a5, .slice a2 a4 a3, .int .u64 a7]] w (Ret V Q) := (entry_Right.go a0 a1 a6 a8 a9 a5 a2 a4 a3 a7 h).mono fun e w' ⟨v, he, hv, hq⟩ => ⟨by rw [he, hv], hq⟩

def entry_Right.F (a0 : Int) (a1 : Int) (a5 : Int) (a6 : Int) (a4 : Int) (a3 : Int) (a7 : Option Addr) (a2 : Nat) (a8 : Nat) (a9 : Int) : Bool :=
  if (entry_within.F a0 0 8) = false then
    false
  else
    if (entry_within.F a1 0 200) = false then
      false
    else
      if (entry_within.F a3 (-1) 20) = false then
        false
      else
        if (stamp_Right.F a6 a4) = false then
          false
        else
          if a4 ≠ a0 then
            false
          else
            if (a2 : Int) > 1100 then
              false
            else
              ((a5 == 0) == (a1 == 0))
theorem entry_Right.pure (a0 : Int) (a1 : Int) (a6 : Int) (a8 : Int) (a9 : Int) (a5 : Int) (a2 : Option Addr) (a4 : Nat) (a3 : Nat) (a7 : Int) {w : World} : Calls Try.prog 34 #[.agg #[.int .i64 a0, .int .i64 a1, .int .u64 a6, .int .i64 a8, .int .i64 a9, .int .i64 a5, .slice a2 a4 a3, .int .u64 a7]] w (Ret (.bool (entry_Right.F a0 a1 a6 a8 a9 a5 a2 a4 a3 a7)) fun w' => Ext no w w') := by
  refine entry_Right.run a0 a1 a6 a8 a9 a5 a2 a4 a3 a7 ?_
  unfold entry_Right.N
  refine ⟨fun c0 => ?_, fun c0 => ?_⟩
  · intro w' hx; exact ⟨by unfold entry_Right.F; rw [if_pos c0], hx⟩
  · refine ⟨fun c1 => ?_, fun c1 => ?_⟩
    · intro w' hx; exact ⟨by unfold entry_Right.F; rw [if_neg (by rw [c0]; decide), if_pos c1], hx⟩
    · refine ⟨fun c2 => ?_, fun c2 => ?_⟩
      · intro w' hx; exact ⟨by unfold entry_Right.F; rw [if_neg (by rw [c0]; decide), if_neg (by rw [c1]; decide), if_pos c2], hx⟩
      · refine ⟨fun c3 => ?_, fun c3 => ?_⟩
        · intro w' hx; exact ⟨by unfold entry_Right.F; rw [if_neg (by rw [c0]; decide), if_neg (by rw [c1]; decide), if_neg (by rw [c2]; decide), if_pos c3], hx⟩
        · refine ⟨fun c4 => ?_, fun c4 => ?_⟩
          · intro w' hx; exact ⟨by unfold entry_Right.F; rw [if_neg (by rw [c0]; decide), if_neg (by rw [c1]; decide), if_neg (by rw [c2]; decide), if_neg (by rw [c3]; decide), if_pos c4], hx⟩
          · refine ⟨fun c5 => ?_, fun c5 => ?_⟩
            · intro w' hx; exact ⟨by unfold entry_Right.F; rw [if_neg (by rw [c0]; decide), if_neg (by rw [c1]; decide), if_neg (by rw [c2]; decide), if_neg (by rw [c3]; decide), if_neg (not_not_intro c4), if_pos c5], hx⟩
            · intro w' hx; exact ⟨by unfold entry_Right.F; rw [if_neg (by rw [c0]; decide), if_neg (by rw [c1]; decide), if_neg (by rw [c2]; decide), if_neg (by rw [c3]; decide), if_neg (not_not_intro c4), if_neg (by omega)], hx⟩

/-- an entry. -/
structure Ent where
  w : Int
  i : Int
  pv : Int
  t : Int
  tw : Int
  ep : Int
  body : List UInt8
  sg : Int
deriving DecidableEq
def Ent.zero : Ent := ⟨0, 0, 0, 0, 0, 0, [], 0⟩
/-- its cells; where the bytes of its body lie. -/
def entC (e : Ent) (a : Option Addr) (c : Nat) : List Value := [.int .i64 e.w, .int .i64 e.i, .int .u64 e.pv, .int .i64 e.t, .int .i64 e.tw, .int .i64 e.ep, .slice a e.body.length c, .int .u64 e.sg]
def entV (e : Ent) (a : Option Addr) (c : Nat) : Value := .agg #[.int .i64 e.w, .int .i64 e.i, .int .u64 e.pv, .int .i64 e.t, .int .i64 e.tw, .int .i64 e.ep, .slice a e.body.length c, .int .u64 e.sg]
/-- numbers that are of their kinds. -/
structure Ent.fit (e : Ent) : Prop where
  pv0 : 0 ≤ e.pv
  pv1 : e.pv < 18446744073709551616
  sg0 : 0 ≤ e.sg
  sg1 : e.sg < 18446744073709551616
def entRight (e : Ent) : Bool := decide (0 ≤ e.w ∧ e.w < 8 ∧ 0 ≤ e.i ∧ e.i < 200 ∧ -1 ≤ e.ep ∧ e.ep < 20 ∧ 0 < e.t ∧ e.t ≤ 1099511627776 ∧ e.tw = e.w ∧ e.body.length ≤ 1100 ∧ (e.pv = 0 ↔ e.i = 0))
theorem beq_dec (x y : Int) : ((x == 0) == (y == 0)) = decide (x = 0 ↔ y = 0) := by
  rw [Bool.eq_iff_iff, decide_eq_true_eq, beq_iff_eq, Bool.eq_iff_iff, beq_iff_eq, beq_iff_eq]
theorem within_F (n a b : Int) : entry_within.F n a b = decide (a ≤ n ∧ n < b) := by
  unfold entry_within.F
  by_cases h : n ≥ a
  · rw [if_pos h, decide_eq_decide]; omega
  · rw [if_neg h, eq_comm, decide_eq_false_iff_not]; omega
theorem stampRight_F (t w : Int) : stamp_Right.F t w = decide (0 < t ∧ t ≤ 1099511627776 ∧ 0 ≤ w ∧ w < 8) := by
  unfold stamp_Right.F stamp_member.F
  by_cases h : t > 0
  · rw [if_pos h]
    by_cases h1 : t ≤ 1099511627776
    · rw [if_pos h1]
      by_cases h2 : w ≥ 0
      · rw [if_pos h2, decide_eq_decide]; omega
      · rw [if_neg h2, eq_comm, decide_eq_false_iff_not]; omega
    · rw [if_neg h1, eq_comm, decide_eq_false_iff_not]; omega
  · rw [if_neg h, eq_comm, decide_eq_false_iff_not]; omega
theorem entRight_F (e : Ent) (a : Option Addr) (c : Nat) : entry_Right.F e.w e.i e.pv e.t e.tw e.ep a e.body.length c e.sg = entRight e := by
  unfold entry_Right.F entRight
  rw [beq_dec]
  simp only [within_F, stampRight_F, decide_eq_false_iff_not]
  rw [Bool.eq_iff_iff, decide_eq_true_eq]
  (repeat' split) <;> simp only [Bool.false_eq_true, decide_eq_true_eq, false_iff] <;> omega
def stampL (t w : Int) : List UInt8 := numL (zig t) ++ numL w.toNat
def textL (e : Ent) : List UInt8 := numL e.w.toNat ++ numL e.i.toNat ++ numL e.pv.toNat ++ stampL e.t e.tw ++ numL (zig e.ep) ++ (numL e.body.length ++ e.body)
def bytesL (e : Ent) : List UInt8 := textL e ++ numL e.sg.toNat
theorem stampL_le (t w : Int) : (stampL t w).length ≤ 20 := by
  have h1 := W.numL_le (zig t); have h2 := W.numL_le w.toNat
  unfold stampL; rw [List.length_append]; omega
theorem textL_le (e : Ent) : (textL e).length ≤ 70 + e.body.length := by
  have h1 := W.numL_le e.w.toNat; have h2 := W.numL_le e.i.toNat; have h3 := W.numL_le e.pv.toNat; have h4 := stampL_le e.t e.tw; have h5 := W.numL_le (zig e.ep); have h6 := W.numL_le e.body.length
  unfold textL; simp only [List.length_append]; omega
/-! ### the plain law -/
theorem entRight_iff (e : Ent) : entRight e = true ↔ (0 ≤ e.w ∧ e.w < 8 ∧ 0 ≤ e.i ∧ e.i < 200 ∧ -1 ≤ e.ep ∧ e.ep < 20 ∧ 0 < e.t ∧ e.t ≤ 1099511627776 ∧ e.tw = e.w ∧ e.body.length ≤ 1100 ∧ (e.pv = 0 ↔ e.i = 0)) := decide_eq_true_iff
end Go.Proofs.Ytfmdpjhkojbocaa

/- Entries: their bytes, and the entry of bytes (the program's). -/
set_option linter.unusedVariables false
set_option linter.unusedSimpArgs false
set_option maxRecDepth 20000
namespace Go.Proofs.Ytfmdpjhkojbocaa
open Go Go.Mx Go.Proofs
open W (OwnB GivesW numR countR doneR zig unzig intR)
/-- bytes.Equal -/
def bytes_Equal.M (a0 : Option Addr) (a2 : Nat) (a3 : Nat) (a4 : Option Addr) (a1 : Nat) (a5 : Nat) (R : Value → World → Prop) (w : World) : Prop :=
 ∃ (s3 : ByteArray), (convert 23 9 (.slice a0 a2 a3)).run Try.prog w = .ok (.string s3) w ∧
 ∃ (s4 : ByteArray), (convert 23 9 (.slice a4 a1 a5)).run Try.prog w = .ok (.string s4) w ∧
 R (.bool (s3.toList == s4.toList)) w

theorem bytes_Equal.eq (a1a : Option Addr) (a1n : Nat) (a1c : Nat) (b2a : Option Addr) (b2n : Nat) (b2c : Nat) (R : Value → World → Prop) (w : World) : mfunc Try.prog [] 69 [.slice a1a a1n a1c, .slice b2a b2n b2c] R w = bytes_Equal.M a1a a1n a1c b2a b2n b2c R w := by kernel_rfl
theorem bytes_Equal.ok (a0 : Option Addr) (a2 : Nat) (a3 : Nat) (a4 : Option Addr) (a1 : Nat) (a5 : Nat) {R : Value → World → Prop} {w : World} (h : bytes_Equal.M a0 a2 a3 a4 a1 a5 R w) : Calls Try.prog 69 #[.slice a0 a2 a3, .slice a4 a1 a5] w fun e w' => ∃ v, e = .returned v ∧ R v w' :=
  mfunc_ok follows (H := []) (args := [.slice a0 a2 a3, .slice a4 a1 a5]) (by rw [bytes_Equal.eq]; exact h)

def bytes_Equal.N (a0 : Option Addr) (a2 : Nat) (a3 : Nat) (a4 : Option Addr) (a1 : Nat) (a5 : Nat) (R : Value → World → Prop) (w : World) : Prop :=
 ∃ (s3 : ByteArray), (convert 23 9 (.slice a0 a2 a3)).run Try.prog w = .ok (.string s3) w ∧
 ∃ (s5 : ByteArray), (convert 23 9 (.slice a4 a1 a5)).run Try.prog w = .ok (.string s5) w ∧
 R (.bool (s3.toList == s5.toList)) w

theorem bytes_Equal.up (a0 : Option Addr) (a2 : Nat) (a3 : Nat) (a4 : Option Addr) (a1 : Nat) (a5 : Nat) {R : Value → World → Prop} {w : World} (h : bytes_Equal.N a0 a2 a3 a4 a1 a5 R w) : bytes_Equal.M a0 a2 a3 a4 a1 a5 R w := by
  unfold bytes_Equal.M
  unfold bytes_Equal.N at h
  obtain ⟨s3, a6, h⟩ := h
  refine ⟨s3, a6, ?_⟩
  obtain ⟨s5, a7, h⟩ := h
  refine ⟨s5, a7, ?_⟩
  exact h

theorem bytes_Equal.go (a0 : Option Addr) (a2 : Nat) (a3 : Nat) (a4 : Option Addr) (a1 : Nat) (a5 : Nat) {R : Value → World → Prop} {w : World} (h : bytes_Equal.N a0 a2 a3 a4 a1 a5 R w) : Calls Try.prog 69 #[.slice a0 a2 a3, .slice a4 a1 a5] w fun e w' => ∃ v, e = .returned v ∧ R v w' := bytes_Equal.ok a0 a2 a3 a4 a1 a5 (bytes_Equal.up a0 a2 a3 a4 a1 a5 h)
theorem bytes_Equal.run (a0 : Option Addr) (a2 : Nat) (a3 : Nat) (a4 : Option Addr) (a1 : Nat) (a5 : Nat) {V : Value} {Q : World → Prop} {w : World} (h : bytes_Equal.N a0 a2 a3 a4 a1 a5 (fun v w' => v = V ∧ Q w') w) : Calls Try.prog 69 #[.slice a0 a2 a3, .slice a4 a1 a5] w (Ret V Q) := (bytes_Equal.go a0 a2 a3 a4 a1 a5 h).mono fun e w' ⟨v, he, hv, hq⟩ => ⟨by rw [he, hv], hq⟩

/-- stamp.Put -/
def stamp_Put.M (af : Option Addr) (ag : Nat) (ac : Nat) (ae : Int) (ab : Int) (R : Value → World → Prop) (w : World) : Prop :=
 thenW (w.alloc (.cells #[.int .i64 ae, .int .i64 ab] 27)) fun aa =>
 thenW (aa.drew) fun a7 =>
 ∃ (T6 : Int), a7.cell? ((blk w.heap.size).add 0) = some (.int .i64 T6) ∧
 ∃ (W7 : Int), a7.cell? ((blk w.heap.size).add 1) = some (.int .i64 W7) ∧
 Calls Try.prog 87 #[.slice af ag ac, .int .i64 T6] a7 fun ad a6 => ∃ (a3 : Option Addr) (a5 : Nat) (a4 : Nat), ad = .returned (.slice a3 a5 a4) ∧
 a6.cell? ((blk w.heap.size).add 1) = some (.int .i64 W7) ∧
 Calls Try.prog 49 #[.slice a3 a5 a4, .int .u64 (IntKind.u64.wrap (if (0 : Int) > W7 then 0 else W7))] a6 fun a8 a9 => ∃ (a1 : Option Addr) (a2 : Nat) (a0 : Nat), a8 = .returned (.slice a1 a2 a0) ∧
 R (.slice a1 a2 a0) a9

theorem stamp_Put.eq (b1a : Option Addr) (b1n : Nat) (b1c : Nat) (sT2 : Int) (sW3 : Int) (R : Value → World → Prop) (w : World) : mfunc Try.prog [] 88 [.slice b1a b1n b1c, .agg #[.int .i64 sT2, .int .i64 sW3]] R w = stamp_Put.M b1a b1n b1c sT2 sW3 R w := by kernel_rfl
theorem stamp_Put.ok (a3 : Option Addr) (a4 : Nat) (a1 : Nat) (a2 : Int) (a0 : Int) {R : Value → World → Prop} {w : World} (h : stamp_Put.M a3 a4 a1 a2 a0 R w) : Calls Try.prog 88 #[.slice a3 a4 a1, .agg #[.int .i64 a2, .int .i64 a0]] w fun e w' => ∃ v, e = .returned v ∧ R v w' :=
  mfunc_ok follows (H := []) (args := [.slice a3 a4 a1, .agg #[.int .i64 a2, .int .i64 a0]]) (by rw [stamp_Put.eq]; exact h)

def stamp_Put.N (ae : Option Addr) (af : Nat) (ac : Nat) (ad : Int) (aa : Int) (R : Value → World → Prop) (w : World) : Prop :=
 ∀ (a6 : World) (p6 : Nat), Ext no w a6 → Priv w a6 [p6] →
 Calls Try.prog 87 #[.slice ae af ac, .int .i64 ad] a6 fun ab a9 => ∃ (a3 : Option Addr) (a4 : Nat) (a5 : Nat), ab = .returned (.slice a3 a4 a5) ∧
 Keep [p6] a6 a9 ∧
 Calls Try.prog 49 #[.slice a3 a4 a5, .int .u64 (IntKind.u64.wrap (if (0 : Int) > aa then 0 else aa))] a9 fun a8 a7 => ∃ (a0 : Option Addr) (a1 : Nat) (a2 : Nat), a8 = .returned (.slice a0 a1 a2) ∧
 R (.slice a0 a1 a2) a7

theorem stamp_Put.up (ab : Option Addr) (a9 : Nat) (aa : Nat) (a8 : Int) (a7 : Int) {R : Value → World → Prop} {w : World} (h : stamp_Put.N ab a9 aa a8 a7 R w) : stamp_Put.M ab a9 aa a8 a7 R w := by
  unfold stamp_Put.M
  unfold stamp_Put.N at h
  refine thenW_in fun aj e4 => ?_
  have a0 := Blk.of_new e4
  have ae := ((Ext.refl no w)).size
  have af := (Ext.refl no w).x_alloc e4
  refine thenW_in fun ag e5 => ?_
  have ah := af.x_drew e5
  have a0 := a0.x_drew e5
  refine ⟨a8, a0.celli 0 rfl rfl, ?_⟩
  refine ⟨a7, a0.celli 1 rfl rfl, ?_⟩
  have h := h ag (w.heap.size) ah (Priv.cons ae a0.lt Priv.nil)
  refine h.mono fun ak ai h => ?_
  obtain ⟨a4, a6, a5, he, hk, h⟩ := h
  refine ⟨a4, a6, a5, he, ?_⟩
  have a0 := hk.blk a0 (by simp)
  refine ⟨a0.celli 1 rfl rfl, ?_⟩
  refine h.mono fun ad ac h => ?_
  obtain ⟨a1, a2, a3, he, h⟩ := h
  refine ⟨a1, a2, a3, he, ?_⟩
  exact h

theorem stamp_Put.go (a3 : Option Addr) (a4 : Nat) (a1 : Nat) (a2 : Int) (a0 : Int) {R : Value → World → Prop} {w : World} (h : stamp_Put.N a3 a4 a1 a2 a0 R w) : Calls Try.prog 88 #[.slice a3 a4 a1, .agg #[.int .i64 a2, .int .i64 a0]] w fun e w' => ∃ v, e = .returned v ∧ R v w' := stamp_Put.ok a3 a4 a1 a2 a0 (stamp_Put.up a3 a4 a1 a2 a0 h)
/-- (*entry.writer).nums -/
def entry_writer_nums.M (ad : Option Addr) (ag : Option Addr) (ac : Nat) (ah : Nat) (R : Value → World → Prop) (w : World) : Prop :=
 ∃ (I0 : Nat → List Value → World → Prop) (m4 : Nat), I0 m4 [.int .i64 0] w ∧ ∀ (m5 : Nat) (a4 : World) (t3 : Int), I0 m5 [.int .i64 t3] a4 →
 bif decide (t3 < (ac : Int)) then (
 ag.elim False fun a7 =>
 0 ≤ (t3 : Int) ∧ (t3 : Int) < (ac : Int) ∧
 ∃ (x8 : Int), a4.cell? (a7.add (Int.toNat t3 * 1)) = some (.int .u64 x8) ∧
 ad.elim False fun a9 =>
 ∃ (a3 : Option Addr) (a8 : Nat) (a6 : Nat), a4.cell? a9 = some (.slice a3 a8 a6) ∧
 Calls Try.prog 49 #[.slice a3 a8 a6, .int .u64 x8] a4 fun ab a5 => ∃ (a1 : Option Addr) (a2 : Nat) (a0 : Nat), ab = .returned (.slice a1 a2 a0) ∧
 ad.elim False fun af =>
 canStore a5 (af.add 0) ∧
 thenW (a5.setCell (af.add 0) (.slice a1 a2 a0)) fun aa =>
 ∃ ae, ae < m5 ∧ I0 ae [.int .i64 (IntKind.i64.wrap (t3 + 1))] aa) else (
 R (.tuple #[]) a4)

theorem entry_writer_nums.eq (wv1 : Option Addr) (l2a : Option Addr) (l2n : Nat) (l2c : Nat) (R : Value → World → Prop) (w : World) : mfunc Try.prog [(0, [0, 6, 7], [(8, (.one (.int .i64)))])] 86 [.pointer wv1, .slice l2a l2n l2c] R w = entry_writer_nums.M wv1 l2a l2n l2c R w := by kernel_rfl
theorem entry_writer_nums.ok (a3 : Option Addr) (a0 : Option Addr) (a1 : Nat) (a2 : Nat) {R : Value → World → Prop} {w : World} (h : entry_writer_nums.M a3 a0 a1 a2 R w) : Calls Try.prog 86 #[.pointer a3, .slice a0 a1 a2] w fun e w' => ∃ v, e = .returned v ∧ R v w' :=
  mfunc_ok follows (H := [(0, [0, 6, 7], [(8, (.one (.int .i64)))])]) (args := [.pointer a3, .slice a0 a1 a2]) (by rw [entry_writer_nums.eq]; exact h)

def entry_writer_nums.N (af : Option Addr) (ag : Option Addr) (aa : Nat) (ah : Nat) (R : Value → World → Prop) (w : World) : Prop :=
 ∃ (I0 : Nat → List Value → World → Prop) (m4 : Nat), I0 m4 [.int .i64 0] w ∧ ∀ (m5 : Nat) (a5 : World) (t3 : Int), I0 m5 [.int .i64 t3] a5 →
 (t3 < (aa : Int) →
 ∃ a8 : Addr, ag = some a8 ∧
 0 ≤ (t3 : Int) ∧ (t3 : Int) < (aa : Int) ∧
 ∃ (ad : Int), a5.cell? (a8.add (Int.toNat t3 * 1)) = some (.int .u64 ad) ∧
 ∃ a9 : Addr, af = some a9 ∧
 ∃ (a3 : Option Addr) (a7 : Nat) (a4 : Nat), a5.cell? a9 = some (.slice a3 a7 a4) ∧
 Calls Try.prog 49 #[.slice a3 a7 a4, .int .u64 ad] a5 fun ac a6 => ∃ (a2 : Option Addr) (a0 : Nat) (a1 : Nat), ac = .returned (.slice a2 a0 a1) ∧
 canStore a6 (a9.add 0) ∧
 thenW (a6.setCell (a9.add 0) (.slice a2 a0 a1)) fun ab =>
 (-9223372036854775808 : Int) ≤ (t3 + 1) ∧ (t3 + 1) < 9223372036854775808 ∧
 ∃ ae, ae < m5 ∧ I0 ae [.int .i64 (t3 + 1)] ab) ∧
 ((aa : Int) ≤ t3 →
 R (.tuple #[]) a5)

theorem entry_writer_nums.up (ac : Option Addr) (ab : Option Addr) (aa : Nat) (a9 : Nat) {R : Value → World → Prop} {w : World} (h : entry_writer_nums.N ac ab aa a9 R w) : entry_writer_nums.M ac ab aa a9 R w := by
  unfold entry_writer_nums.M
  unfold entry_writer_nums.N at h
  obtain ⟨I0, m4, h0, h⟩ := h
  refine ⟨I0, m4, h0, fun m5 af t3 hI => ?_⟩
  have h := h m5 af t3 hI
  refine bif_of (fun c7 => ?_) (fun c7 => ?_)
  · have h := h.1 (of_decide_eq_true c7)
    obtain ⟨a8, aj, h⟩ := h
    refine elim_some aj ?_
    obtain ⟨ap, ad, h⟩ := h
    refine ⟨ap, ad, ?_⟩
    obtain ⟨ae, ag, h⟩ := h
    refine ⟨ae, ag, ?_⟩
    obtain ⟨aq, a3, h⟩ := h
    refine elim_some a3 ?_
    obtain ⟨a4, a6, a5, a7, h⟩ := h
    refine ⟨a4, a6, a5, a7, ?_⟩
    refine h.mono fun ai am h => ?_
    obtain ⟨a1, a2, a0, he, h⟩ := h
    refine ⟨a1, a2, a0, he, ?_⟩
    refine elim_some a3 ?_
    obtain ⟨hcs, h⟩ := h
    refine ⟨hcs, thenW_in fun ah al => ?_⟩
    replace h := thenW_out h al
    obtain ⟨ak, ao, h⟩ := h
    try rw [w64 ak ao]
    obtain ⟨an, hk, h⟩ := h
    exact ⟨an, hk, h⟩
  · have h := h.2 (Int.not_lt.1 (of_decide_eq_false c7))
    exact h

theorem entry_writer_nums.go (a3 : Option Addr) (a0 : Option Addr) (a1 : Nat) (a2 : Nat) {R : Value → World → Prop} {w : World} (h : entry_writer_nums.N a3 a0 a1 a2 R w) : Calls Try.prog 86 #[.pointer a3, .slice a0 a1 a2] w fun e w' => ∃ v, e = .returned v ∧ R v w' := entry_writer_nums.ok a3 a0 a1 a2 (entry_writer_nums.up a3 a0 a1 a2 h)
/-- entry.text -/
def entry_text.M (ag : Int) (am : Int) (aq : Int) (aw : Int) (av : Int) (al : Int) (aj : Option Addr) (an : Nat) (ai : Nat) (ay : Int) (R : Value → World → Prop) (w : World) : Prop :=
 thenW (w.alloc (.cells #[.int .i64 ag, .int .i64 am, .int .u64 aq, .int .i64 aw, .int .i64 av, .int .i64 al, .slice aj an ai, .int .u64 ay] 29)) fun b1 =>
 thenW (b1.alloc (.cells #[.slice none 0 0] 146)) fun ac =>
 ∃ (a3 : Int), ac.cell? ((blk w.heap.size).add 0) = some (.int .i64 a3) ∧
 ∃ (a5 : Int), ac.cell? ((blk w.heap.size).add 1) = some (.int .i64 a5) ∧
 ∃ (ah : Int), ac.cell? ((blk w.heap.size).add 2) = some (.int .u64 ah) ∧
 thenW (ac.alloc (.cells #[.int .u64 (IntKind.u64.wrap a3), .int .u64 (IntKind.u64.wrap a5), .int .u64 ah] 25)) fun b8 =>
 Calls Try.prog 86 #[.pointer (some (blk b1.heap.size)), .slice (some (blk ac.heap.size)) 3 3] b8 fun b3 b4 => b3 = .returned (.tuple #[]) ∧
 thenW (b4.drew) fun ak =>
 ∃ (au : Option Addr) (ax : Nat) (ar : Nat), ak.cell? (blk b1.heap.size) = some (.slice au ax ar) ∧
 ∃ (ao : Int) (ap : Int), cellsAt ak ((blk w.heap.size).add 3) [.int .i64 ao, .int .i64 ap] 0 ∧
 ∃ (a0 : Int), ak.cell? ((blk w.heap.size).add 5) = some (.int .i64 a0) ∧
 Calls Try.prog 88 #[.slice au ax ar, .agg #[.int .i64 ao, .int .i64 ap]] ak fun b5 az => ∃ (ae : Option Addr) (ad : Nat) (a9 : Nat), b5 = .returned (.slice ae ad a9) ∧
 az.cell? ((blk w.heap.size).add 5) = some (.int .i64 a0) ∧
 Calls Try.prog 87 #[.slice ae ad a9, .int .i64 a0] az fun b7 b0 => ∃ (af : Option Addr) (ab : Nat) (aa : Nat), b7 = .returned (.slice af ab aa) ∧
 ∃ (a7 : Option Addr) (a6 : Nat) (a8 : Nat), b0.cell? ((blk w.heap.size).add 6) = some (.slice a7 a6 a8) ∧
 Calls Try.prog 89 #[.slice af ab aa, .slice a7 a6 a8] b0 fun b2 b6 => ∃ (a4 : Option Addr) (a2 : Nat) (a1 : Nat), b2 = .returned (.slice a4 a2 a1) ∧
 R (.slice a4 a2 a1) b6

theorem entry_text.eq (eWriter1 : Int) (eIndex2 : Int) (ePrev3 : Int) (eAtT4 : Int) (eAtW5 : Int) (eEpoch6 : Int) (eBody7a : Option Addr) (eBody7n : Nat) (eBody7c : Nat) (eSig8 : Int) (R : Value → World → Prop) (w : World) : mfunc Try.prog [] 78 [.agg #[.int .i64 eWriter1, .int .i64 eIndex2, .int .u64 ePrev3, .int .i64 eAtT4, .int .i64 eAtW5, .int .i64 eEpoch6, .slice eBody7a eBody7n eBody7c, .int .u64 eSig8]] R w = entry_text.M eWriter1 eIndex2 ePrev3 eAtT4 eAtW5 eEpoch6 eBody7a eBody7n eBody7c eSig8 R w := by kernel_rfl
theorem entry_text.ok (a0 : Int) (a1 : Int) (a6 : Int) (a8 : Int) (a9 : Int) (a5 : Int) (a2 : Option Addr) (a4 : Nat) (a3 : Nat) (a7 : Int) {R : Value → World → Prop} {w : World} (h : entry_text.M a0 a1 a6 a8 a9 a5 a2 a4 a3 a7 R w) : Calls Try.prog 78 #[.agg #[.int .i64 a0, .int .i64 a1, .int .u64 a6, .int .i64 a8, .int .i64 a9, .int .i64 a5, .slice a2 a4 a3, .int .u64 a7]] w fun e w' => ∃ v, e = .returned v ∧ R v w' :=
  mfunc_ok follows (H := []) (args := [.agg #[.int .i64 a0, .int .i64 a1, .int .u64 a6, .int .i64 a8, .int .i64 a9, .int .i64 a5, .slice a2 a4 a3, .int .u64 a7]]) (by rw [entry_text.eq]; exact h)

def entry_text.N (a9 : Int) (ae : Int) (ak : Int) (aq : Int) (ao : Int) (ag : Int) (ad : Option Addr) (af : Nat) (ac : Nat) (b1 : Int) (R : Value → World → Prop) (w : World) : Prop :=
 ∀ (a8 : World) (al : Nat) (av : Nat), Ext no w a8 → Blk a8 al 146 [.slice none 0 0] → w.heap.size ≤ al → al < a8.heap.size → Privq w al [av] →
 ∀ (a6 : World) (au : Nat), Ext no a8 a6 → Blk a6 au 25 [.int .u64 (IntKind.u64.wrap a9), .int .u64 (IntKind.u64.wrap ae), .int .u64 ak] → a8.heap.size ≤ au → au < a6.heap.size →
 Calls Try.prog 86 #[.pointer (some (blk al)), .slice (some (blk au)) 3 3] a6 fun ay aj => ay = .returned (.tuple #[]) ∧
 Keep [av] a6 aj ∧
 ∃ (ap : Option Addr) (ar : Nat) (am : Nat), aj.cell? (blk al) = some (.slice ap ar am) ∧
 ∀ (ah : World), Ext no aj ah →
 Calls Try.prog 88 #[.slice ap ar am, .agg #[.int .i64 aq, .int .i64 ao]] ah fun b0 ai => ∃ (aa : Option Addr) (a5 : Nat) (a4 : Nat), b0 = .returned (.slice aa a5 a4) ∧
 Keep [av] ah ai ∧
 Calls Try.prog 87 #[.slice aa a5 a4, .int .i64 ag] ai fun az an => ∃ (ab : Option Addr) (a3 : Nat) (a7 : Nat), az = .returned (.slice ab a3 a7) ∧
 Keep [av] ai an ∧
 Calls Try.prog 89 #[.slice ab a3 a7, .slice ad af ac] an fun ax aw => ∃ (a1 : Option Addr) (a0 : Nat) (a2 : Nat), ax = .returned (.slice a1 a0 a2) ∧
 R (.slice a1 a0 a2) aw

theorem entry_text.up (a0 : Int) (a5 : Int) (a7 : Int) (ab : Int) (aa : Int) (a4 : Int) (a3 : Option Addr) (a6 : Nat) (a2 : Nat) (ae : Int) {R : Value → World → Prop} {w : World} (h : entry_text.N a0 a5 a7 ab aa a4 a3 a6 a2 ae R w) : entry_text.M a0 a5 a7 ab aa a4 a3 a6 a2 ae R w := by
  unfold entry_text.M
  unfold entry_text.N at h
  refine thenW_in fun az e9 => ?_
  have a1 := Blk.of_new e9
  have b4 := ((Ext.refl no w)).size
  have ax := (Ext.refl no w).x_alloc e9
  refine thenW_in fun ad an => ?_
  have b1 := a1.lt
  have a1 := a1.x_alloc an
  have h := h ad az.heap.size (w.heap.size) (ax.x_alloc an) (Blk.of_new an) (ax).size (size_lt_alloc an) (Privq.cons b4 b1 Privq.nil)
  refine ⟨a0, a1.celli 0 rfl rfl, ?_⟩
  refine ⟨a5, a1.celli 1 rfl rfl, ?_⟩
  refine ⟨a7, a1.celli 2 rfl rfl, ?_⟩
  refine thenW_in fun ao am => ?_
  have a1 := a1.x_alloc am
  have h := h ao ad.heap.size ((Ext.refl no ad).x_alloc am) (Blk.of_new am) ((Ext.refl no ad)).size (size_lt_alloc am)
  refine h.mono fun b5 av h => ?_
  obtain ⟨he, hk, h⟩ := h
  refine ⟨he, ?_⟩
  have a1 := hk.blk a1 (by simp)
  refine thenW_in fun ap ay => ?_
  have al := (Ext.refl no av).x_drew ay
  have a1 := a1.x_drew ay
  obtain ⟨au, aw, aq, ar, h⟩ := h
  refine ⟨au, aw, aq, (al).cell ar id, ?_⟩
  refine ⟨ab, aa, ⟨a1.celli 3 rfl rfl, a1.celli 4 rfl rfl, trivial⟩, ?_⟩
  refine ⟨a4, a1.celli 5 rfl rfl, ?_⟩
  have h := h ap al
  refine h.mono fun b8 b6 h => ?_
  obtain ⟨aj, ah, ag, he, hk, h⟩ := h
  refine ⟨aj, ah, ag, he, ?_⟩
  have a1 := hk.blk a1 (by simp)
  refine ⟨a1.celli 5 rfl rfl, ?_⟩
  refine h.mono fun b7 b3 h => ?_
  obtain ⟨ak, af, ai, he, hk, h⟩ := h
  refine ⟨ak, af, ai, he, ?_⟩
  have a1 := hk.blk a1 (by simp)
  refine ⟨a3, a6, a2, a1.celli 6 rfl rfl, ?_⟩
  refine h.mono fun b2 b0 h => ?_
  obtain ⟨a9, a8, ac, he, h⟩ := h
  refine ⟨a9, a8, ac, he, ?_⟩
  exact h

theorem entry_text.go (a0 : Int) (a1 : Int) (a6 : Int) (a8 : Int) (a9 : Int) (a5 : Int) (a2 : Option Addr) (a4 : Nat) (a3 : Nat) (a7 : Int) {R : Value → World → Prop} {w : World} (h : entry_text.N a0 a1 a6 a8 a9 a5 a2 a4 a3 a7 R w) : Calls Try.prog 78 #[.agg #[.int .i64 a0, .int .i64 a1, .int .u64 a6, .int .i64 a8, .int .i64 a9, .int .i64 a5, .slice a2 a4 a3, .int .u64 a7]] w fun e w' => ∃ v, e = .returned v ∧ R v w' := entry_text.ok a0 a1 a6 a8 a9 a5 a2 a4 a3 a7 (entry_text.up a0 a1 a6 a8 a9 a5 a2 a4 a3 a7 h)
/-- entry.Text -/
def entry_Text.M (ao : Int) (ar : Int) (ax : Int) (az : Int) (ay : Int) (av : Int) (aq : Option Addr) (au : Nat) (ap : Nat) (b0 : Int) (R : Value → World → Prop) (w : World) : Prop :=
 thenW (w.alloc (.cells #[.int .i64 ao, .int .i64 ar, .int .u64 ax, .int .i64 az, .int .i64 ay, .int .i64 av, .slice aq au ap, .int .u64 b0] 29)) fun b4 =>
 ∃ (a0 : Int) (a6 : Int) (ac : Int) (ai : Int) (an : Int) (a7 : Int) (a4 : Option Addr) (a8 : Nat) (aa : Nat) (al : Int), cellsAt b4 (blk w.heap.size) [.int .i64 a0, .int .i64 a6, .int .u64 ac, .int .i64 ai, .int .i64 an, .int .i64 a7, .slice a4 a8 aa, .int .u64 al] 0 ∧
 Calls Try.prog 34 #[.agg #[.int .i64 a0, .int .i64 a6, .int .u64 ac, .int .i64 ai, .int .i64 an, .int .i64 a7, .slice a4 a8 aa, .int .u64 al]] b4 fun b1 aw => ∃ (af : Bool), b1 = .returned (.bool af) ∧
 bif !af then (
 R (.tuple #[.slice none 0 0, .int .i64 1]) aw) else (
 ∃ (a1 : Int) (a9 : Int) (ah : Int) (ak : Int) (aj : Int) (a5 : Int) (ab : Option Addr) (a2 : Nat) (a3 : Nat) (am : Int), cellsAt aw (blk w.heap.size) [.int .i64 a1, .int .i64 a9, .int .u64 ah, .int .i64 ak, .int .i64 aj, .int .i64 a5, .slice ab a2 a3, .int .u64 am] 0 ∧
 Calls Try.prog 78 #[.agg #[.int .i64 a1, .int .i64 a9, .int .u64 ah, .int .i64 ak, .int .i64 aj, .int .i64 a5, .slice ab a2 a3, .int .u64 am]] aw fun b2 b3 => ∃ (ae : Option Addr) (ad : Nat) (ag : Nat), b2 = .returned (.slice ae ad ag) ∧
 R (.tuple #[.slice ae ad ag, .int .i64 0]) b3)

theorem entry_Text.eq (eWriter1 : Int) (eIndex2 : Int) (ePrev3 : Int) (eAtT4 : Int) (eAtW5 : Int) (eEpoch6 : Int) (eBody7a : Option Addr) (eBody7n : Nat) (eBody7c : Nat) (eSig8 : Int) (R : Value → World → Prop) (w : World) : mfunc Try.prog [] 60 [.agg #[.int .i64 eWriter1, .int .i64 eIndex2, .int .u64 ePrev3, .int .i64 eAtT4, .int .i64 eAtW5, .int .i64 eEpoch6, .slice eBody7a eBody7n eBody7c, .int .u64 eSig8]] R w = entry_Text.M eWriter1 eIndex2 ePrev3 eAtT4 eAtW5 eEpoch6 eBody7a eBody7n eBody7c eSig8 R w := by kernel_rfl
theorem entry_Text.ok (a0 : Int) (a1 : Int) (a6 : Int) (a8 : Int) (a9 : Int) (a5 : Int) (a2 : Option Addr) (a4 : Nat) (a3 : Nat) (a7 : Int) {R : Value → World → Prop} {w : World} (h : entry_Text.M a0 a1 a6 a8 a9 a5 a2 a4 a3 a7 R w) : Calls Try.prog 60 #[.agg #[.int .i64 a0, .int .i64 a1, .int .u64 a6, .int .i64 a8, .int .i64 a9, .int .i64 a5, .slice a2 a4 a3, .int .u64 a7]] w fun e w' => ∃ v, e = .returned v ∧ R v w' :=
  mfunc_ok follows (H := []) (args := [.agg #[.int .i64 a0, .int .i64 a1, .int .u64 a6, .int .i64 a8, .int .i64 a9, .int .i64 a5, .slice a2 a4 a3, .int .u64 a7]]) (by rw [entry_Text.eq]; exact h)

def entry_Text.N (a0 : Int) (a1 : Int) (a6 : Int) (ab : Int) (ad : Int) (a5 : Int) (a2 : Option Addr) (a4 : Nat) (a3 : Nat) (aa : Int) (R : Value → World → Prop) (w : World) : Prop :=
 ((entry_Right.F a0 a1 a6 ab ad a5 a2 a4 a3 aa) = false →
 ∀ (ac : World), Ext no w ac →
 R (.tuple #[.slice none 0 0, .int .i64 1]) ac) ∧
 ((entry_Right.F a0 a1 a6 ab ad a5 a2 a4 a3 aa) = true →
 ∀ (ac : World), Ext no w ac →
 Calls Try.prog 78 #[.agg #[.int .i64 a0, .int .i64 a1, .int .u64 a6, .int .i64 ab, .int .i64 ad, .int .i64 a5, .slice a2 a4 a3, .int .u64 aa]] ac fun af ae => ∃ (a8 : Option Addr) (a9 : Nat) (a7 : Nat), af = .returned (.slice a8 a9 a7) ∧
 R (.tuple #[.slice a8 a9 a7, .int .i64 0]) ae)

theorem entry_Text.up (a0 : Int) (a4 : Int) (a6 : Int) (a8 : Int) (a7 : Int) (a3 : Int) (a2 : Option Addr) (a5 : Nat) (a1 : Nat) (a9 : Int) {R : Value → World → Prop} {w : World} (h : entry_Text.N a0 a4 a6 a8 a7 a3 a2 a5 a1 a9 R w) : entry_Text.M a0 a4 a6 a8 a7 a3 a2 a5 a1 a9 R w := by
  unfold entry_Text.M
  unfold entry_Text.N at h
  refine thenW_in fun aj e9 => ?_
  have aa := Blk.of_new e9
  have ak := ((Ext.refl no w)).size
  have ai := (Ext.refl no w).x_alloc e9
  refine ⟨a0, a4, a6, a8, a7, a3, a2, a5, a1, a9, ⟨aa.celli 0 rfl rfl, aa.celli 1 rfl rfl, aa.celli 2 rfl rfl, aa.celli 3 rfl rfl, aa.celli 4 rfl rfl, aa.celli 5 rfl rfl, aa.celli 6 rfl rfl, aa.celli 7 rfl rfl, trivial⟩, ?_⟩
  refine (entry_Right.pure a0 a4 a6 a8 a7 a3 a2 a5 a1 a9).mono fun ee ww10 ⟨he, hxx⟩ => ⟨(entry_Right.F a0 a4 a6 a8 a7 a3 a2 a5 a1 a9), he, ?_⟩
  have ae := ai.trans hxx
  have aa := aa.ext hxx id
  refine bif_of (fun af => ?_) (fun af => ?_)
  · have h := h.1 (not_t af)
    have h := h ww10 ae
    exact h
  · have h := h.2 (not_f af)
    refine ⟨a0, a4, a6, a8, a7, a3, a2, a5, a1, a9, ⟨aa.celli 0 rfl rfl, aa.celli 1 rfl rfl, aa.celli 2 rfl rfl, aa.celli 3 rfl rfl, aa.celli 4 rfl rfl, aa.celli 5 rfl rfl, aa.celli 6 rfl rfl, aa.celli 7 rfl rfl, trivial⟩, ?_⟩
    have h := h ww10 ae
    refine h.mono fun ag ah h => ?_
    obtain ⟨ab, ac, ad, he, h⟩ := h
    refine ⟨ab, ac, ad, he, ?_⟩
    exact h

theorem entry_Text.go (a0 : Int) (a1 : Int) (a6 : Int) (a8 : Int) (a9 : Int) (a5 : Int) (a2 : Option Addr) (a4 : Nat) (a3 : Nat) (a7 : Int) {R : Value → World → Prop} {w : World} (h : entry_Text.N a0 a1 a6 a8 a9 a5 a2 a4 a3 a7 R w) : Calls Try.prog 60 #[.agg #[.int .i64 a0, .int .i64 a1, .int .u64 a6, .int .i64 a8, .int .i64 a9, .int .i64 a5, .slice a2 a4 a3, .int .u64 a7]] w fun e w' => ∃ v, e = .returned v ∧ R v w' := entry_Text.ok a0 a1 a6 a8 a9 a5 a2 a4 a3 a7 (entry_Text.up a0 a1 a6 a8 a9 a5 a2 a4 a3 a7 h)
/-- entry.Bytes -/
def entry_Bytes.M (ar : Int) (ax : Int) (b1 : Int) (b5 : Int) (b3 : Int) (az : Int) (aw : Option Addr) (ay : Nat) (av : Nat) (b6 : Int) (R : Value → World → Prop) (w : World) : Prop :=
 thenW (w.alloc (.cells #[.int .i64 ar, .int .i64 ax, .int .u64 b1, .int .i64 b5, .int .i64 b3, .int .i64 az, .slice aw ay av, .int .u64 b6] 29)) fun bb =>
 ∃ (a1 : Int) (a5 : Int) (ac : Int) (aj : Int) (aq : Int) (a8 : Int) (a4 : Option Addr) (a9 : Nat) (aa : Nat) (ao : Int), cellsAt bb (blk w.heap.size) [.int .i64 a1, .int .i64 a5, .int .u64 ac, .int .i64 aj, .int .i64 aq, .int .i64 a8, .slice a4 a9 aa, .int .u64 ao] 0 ∧
 Calls Try.prog 34 #[.agg #[.int .i64 a1, .int .i64 a5, .int .u64 ac, .int .i64 aj, .int .i64 aq, .int .i64 a8, .slice a4 a9 aa, .int .u64 ao]] bb fun b8 b4 => ∃ (ae : Bool), b8 = .returned (.bool ae) ∧
 bif !ae then (
 R (.tuple #[.slice none 0 0, .int .i64 1]) b4) else (
 thenW (b4.drew) fun b0 =>
 ∃ (a0 : Int) (a7 : Int) (ad : Int) (ak : Int) (am : Int) (a3 : Int) (a6 : Option Addr) (a2 : Nat) (ab : Nat) (ai : Int), cellsAt b0 (blk w.heap.size) [.int .i64 a0, .int .i64 a7, .int .u64 ad, .int .i64 ak, .int .i64 am, .int .i64 a3, .slice a6 a2 ab, .int .u64 ai] 0 ∧
 ∃ (al : Int), b0.cell? ((blk w.heap.size).add 7) = some (.int .u64 al) ∧
 Calls Try.prog 78 #[.agg #[.int .i64 a0, .int .i64 a7, .int .u64 ad, .int .i64 ak, .int .i64 am, .int .i64 a3, .slice a6 a2 ab, .int .u64 ai]] b0 fun b7 b2 => ∃ (af : Option Addr) (ag : Nat) (ah : Nat), b7 = .returned (.slice af ag ah) ∧
 b2.cell? ((blk w.heap.size).add 7) = some (.int .u64 al) ∧
 Calls Try.prog 49 #[.slice af ag ah, .int .u64 al] b2 fun b9 ba => ∃ (au : Option Addr) (an : Nat) (ap : Nat), b9 = .returned (.slice au an ap) ∧
 R (.tuple #[.slice au an ap, .int .i64 0]) ba)

theorem entry_Bytes.eq (eWriter1 : Int) (eIndex2 : Int) (ePrev3 : Int) (eAtT4 : Int) (eAtW5 : Int) (eEpoch6 : Int) (eBody7a : Option Addr) (eBody7n : Nat) (eBody7c : Nat) (eSig8 : Int) (R : Value → World → Prop) (w : World) : mfunc Try.prog [] 81 [.agg #[.int .i64 eWriter1, .int .i64 eIndex2, .int .u64 ePrev3, .int .i64 eAtT4, .int .i64 eAtW5, .int .i64 eEpoch6, .slice eBody7a eBody7n eBody7c, .int .u64 eSig8]] R w = entry_Bytes.M eWriter1 eIndex2 ePrev3 eAtT4 eAtW5 eEpoch6 eBody7a eBody7n eBody7c eSig8 R w := by kernel_rfl
theorem entry_Bytes.ok (a0 : Int) (a1 : Int) (a6 : Int) (a8 : Int) (a9 : Int) (a5 : Int) (a2 : Option Addr) (a4 : Nat) (a3 : Nat) (a7 : Int) {R : Value → World → Prop} {w : World} (h : entry_Bytes.M a0 a1 a6 a8 a9 a5 a2 a4 a3 a7 R w) : Calls Try.prog 81 #[.agg #[.int .i64 a0, .int .i64 a1, .int .u64 a6, .int .i64 a8, .int .i64 a9, .int .i64 a5, .slice a2 a4 a3, .int .u64 a7]] w fun e w' => ∃ v, e = .returned v ∧ R v w' :=
  mfunc_ok follows (H := []) (args := [.agg #[.int .i64 a0, .int .i64 a1, .int .u64 a6, .int .i64 a8, .int .i64 a9, .int .i64 a5, .slice a2 a4 a3, .int .u64 a7]]) (by rw [entry_Bytes.eq]; exact h)

def entry_Bytes.N (a0 : Int) (a3 : Int) (a6 : Int) (ad : Int) (ac : Int) (a5 : Int) (a2 : Option Addr) (a4 : Nat) (a1 : Nat) (aa : Int) (R : Value → World → Prop) (w : World) : Prop :=
 ((entry_Right.F a0 a3 a6 ad ac a5 a2 a4 a1 aa) = false →
 ∀ (ai : World), Ext no w ai →
 R (.tuple #[.slice none 0 0, .int .i64 1]) ai) ∧
 ((entry_Right.F a0 a3 a6 ad ac a5 a2 a4 a1 aa) = true →
 ∀ (ag : World) (am : Nat), Ext no w ag → Priv w ag [am] →
 Calls Try.prog 78 #[.agg #[.int .i64 a0, .int .i64 a3, .int .u64 a6, .int .i64 ad, .int .i64 ac, .int .i64 a5, .slice a2 a4 a1, .int .u64 aa]] ag fun ak ah => ∃ (a9 : Option Addr) (a8 : Nat) (a7 : Nat), ak = .returned (.slice a9 a8 a7) ∧
 Keep [am] ag ah ∧
 Calls Try.prog 49 #[.slice a9 a8 a7, .int .u64 aa] ah fun aj al => ∃ (af : Option Addr) (ab : Nat) (ae : Nat), aj = .returned (.slice af ab ae) ∧
 R (.tuple #[.slice af ab ae, .int .i64 0]) al)

theorem entry_Bytes.up (a0 : Int) (a4 : Int) (a6 : Int) (aa : Int) (a9 : Int) (a3 : Int) (a2 : Option Addr) (a5 : Nat) (a1 : Nat) (a8 : Int) {R : Value → World → Prop} {w : World} (h : entry_Bytes.N a0 a4 a6 aa a9 a3 a2 a5 a1 a8 R w) : entry_Bytes.M a0 a4 a6 aa a9 a3 a2 a5 a1 a8 R w := by
  unfold entry_Bytes.M
  unfold entry_Bytes.N at h
  refine thenW_in fun au e9 => ?_
  have a7 := Blk.of_new e9
  have ao := ((Ext.refl no w)).size
  have ar := (Ext.refl no w).x_alloc e9
  refine ⟨a0, a4, a6, aa, a9, a3, a2, a5, a1, a8, ⟨a7.celli 0 rfl rfl, a7.celli 1 rfl rfl, a7.celli 2 rfl rfl, a7.celli 3 rfl rfl, a7.celli 4 rfl rfl, a7.celli 5 rfl rfl, a7.celli 6 rfl rfl, a7.celli 7 rfl rfl, trivial⟩, ?_⟩
  refine (entry_Right.pure a0 a4 a6 aa a9 a3 a2 a5 a1 a8).mono fun ee ww10 ⟨he, hxx⟩ => ⟨(entry_Right.F a0 a4 a6 aa a9 a3 a2 a5 a1 a8), he, ?_⟩
  have ah := ar.trans hxx
  have a7 := a7.ext hxx id
  refine bif_of (fun ai => ?_) (fun ai => ?_)
  · have h := h.1 (not_t ai)
    have h := h ww10 ah
    exact h
  · have h := h.2 (not_f ai)
    refine thenW_in fun aj al => ?_
    have ak := ah.x_drew al
    have a7 := a7.x_drew al
    refine ⟨a0, a4, a6, aa, a9, a3, a2, a5, a1, a8, ⟨a7.celli 0 rfl rfl, a7.celli 1 rfl rfl, a7.celli 2 rfl rfl, a7.celli 3 rfl rfl, a7.celli 4 rfl rfl, a7.celli 5 rfl rfl, a7.celli 6 rfl rfl, a7.celli 7 rfl rfl, trivial⟩, ?_⟩
    refine ⟨a8, a7.celli 7 rfl rfl, ?_⟩
    have h := h aj (w.heap.size) ak (Priv.cons ao a7.lt Priv.nil)
    refine h.mono fun ap an h => ?_
    obtain ⟨ad, ac, ab, he, hk, h⟩ := h
    refine ⟨ad, ac, ab, he, ?_⟩
    have a7 := hk.blk a7 (by simp)
    refine ⟨a7.celli 7 rfl rfl, ?_⟩
    refine h.mono fun am aq h => ?_
    obtain ⟨ag, ae, af, he, h⟩ := h
    refine ⟨ag, ae, af, he, ?_⟩
    exact h

theorem entry_Bytes.go (a0 : Int) (a1 : Int) (a6 : Int) (a8 : Int) (a9 : Int) (a5 : Int) (a2 : Option Addr) (a4 : Nat) (a3 : Nat) (a7 : Int) {R : Value → World → Prop} {w : World} (h : entry_Bytes.N a0 a1 a6 a8 a9 a5 a2 a4 a3 a7 R w) : Calls Try.prog 81 #[.agg #[.int .i64 a0, .int .i64 a1, .int .u64 a6, .int .i64 a8, .int .i64 a9, .int .i64 a5, .slice a2 a4 a3, .int .u64 a7]] w fun e w' => ∃ v, e = .returned v ∧ R v w' := entry_Bytes.ok a0 a1 a6 a8 a9 a5 a2 a4 a3 a7 (entry_Bytes.up a0 a1 a6 a8 a9 a5 a2 a4 a3 a7 h)
/-- entry.Same -/
def entry_Same.M (ag : Int) (ap : Int) (b3 : Int) (b8 : Int) (b7 : Int) (av : Int) (au : Option Addr) (ar : Nat) (ao : Nat) (b9 : Int) (ai : Int) (al : Int) (aq : Int) (b4 : Int) (b2 : Int) (aj : Int) (af : Option Addr) (an : Nat) (ah : Nat) (b6 : Int) (R : Value → World → Prop) (w : World) : Prop :=
 thenW (w.alloc (.cells #[.int .i64 ag, .int .i64 ap, .int .u64 b3, .int .i64 b8, .int .i64 b7, .int .i64 av, .slice au ar ao, .int .u64 b9] 29)) fun a2 =>
 thenW (a2.alloc (.cells #[.int .i64 ai, .int .i64 al, .int .u64 aq, .int .i64 b4, .int .i64 b2, .int .i64 aj, .slice af an ah, .int .u64 b6] 29)) fun ba =>
 thenW (ba.drew) fun b5 =>
 ∃ (a9 : Option Addr) (ac : Nat) (a8 : Nat), b5.cell? ((blk w.heap.size).add 6) = some (.slice a9 ac a8) ∧
 ∃ (a4 : Option Addr) (aa : Nat) (a5 : Nat), b5.cell? ((blk a2.heap.size).add 6) = some (.slice a4 aa a5) ∧
 Calls Try.prog 69 #[.slice a9 ac a8, .slice a4 aa a5] b5 fun bb a0 => ∃ (ad : Bool), bb = .returned (.bool ad) ∧
 bif ad then (
 ∃ (a1 : Int), a0.cell? ((blk w.heap.size).add 0) = some (.int .i64 a1) ∧
 ∃ (a3 : Int), a0.cell? ((blk a2.heap.size).add 0) = some (.int .i64 a3) ∧
 bif a1 == a3 then (
 ∃ (a6 : Int), a0.cell? ((blk w.heap.size).add 1) = some (.int .i64 a6) ∧
 ∃ (ab : Int), a0.cell? ((blk a2.heap.size).add 1) = some (.int .i64 ab) ∧
 bif a6 == ab then (
 ∃ (ak : Int), a0.cell? ((blk w.heap.size).add 2) = some (.int .u64 ak) ∧
 ∃ (am : Int), a0.cell? ((blk a2.heap.size).add 2) = some (.int .u64 am) ∧
 bif ak == am then (
 ∃ (ax : Int) (b1 : Int), cellsAt a0 ((blk w.heap.size).add 3) [.int .i64 ax, .int .i64 b1] 0 ∧
 ∃ (b0 : Int) (ay : Int), cellsAt a0 ((blk a2.heap.size).add 3) [.int .i64 b0, .int .i64 ay] 0 ∧
 ∃ (bc : Bool), (binOp .eql 27 (.agg #[.int .i64 ax, .int .i64 b1]) (.agg #[.int .i64 b0, .int .i64 ay])).run Try.prog a0 = .ok (.bool bc) a0 ∧
 bif bc then (
 ∃ (ae : Int), a0.cell? ((blk w.heap.size).add 5) = some (.int .i64 ae) ∧
 ∃ (a7 : Int), a0.cell? ((blk a2.heap.size).add 5) = some (.int .i64 a7) ∧
 bif ae == a7 then (
 ∃ (az : Int), a0.cell? ((blk w.heap.size).add 7) = some (.int .u64 az) ∧
 ∃ (aw : Int), a0.cell? ((blk a2.heap.size).add 7) = some (.int .u64 aw) ∧
 R (.bool (az == aw)) a0) else (
 R (.bool false) a0)) else (
 R (.bool false) a0)) else (
 R (.bool false) a0)) else (
 R (.bool false) a0)) else (
 R (.bool false) a0)) else (
 R (.bool false) a0)

theorem entry_Same.eq (aWriter1 : Int) (aIndex2 : Int) (aPrev3 : Int) (aAtT4 : Int) (aAtW5 : Int) (aEpoch6 : Int) (aBody7a : Option Addr) (aBody7n : Nat) (aBody7c : Nat) (aSig8 : Int) (bWriter9 : Int) (bIndex10 : Int) (bPrev11 : Int) (bAtT12 : Int) (bAtW13 : Int) (bEpoch14 : Int) (bBody15a : Option Addr) (bBody15n : Nat) (bBody15c : Nat) (bSig16 : Int) (R : Value → World → Prop) (w : World) : mfunc Try.prog [] 38 [.agg #[.int .i64 aWriter1, .int .i64 aIndex2, .int .u64 aPrev3, .int .i64 aAtT4, .int .i64 aAtW5, .int .i64 aEpoch6, .slice aBody7a aBody7n aBody7c, .int .u64 aSig8], .agg #[.int .i64 bWriter9, .int .i64 bIndex10, .int .u64 bPrev11, .int .i64 bAtT12, .int .i64 bAtW13, .int .i64 bEpoch14, .slice bBody15a bBody15n bBody15c, .int .u64 bSig16]] R w = entry_Same.M aWriter1 aIndex2 aPrev3 aAtT4 aAtW5 aEpoch6 aBody7a aBody7n aBody7c aSig8 bWriter9 bIndex10 bPrev11 bAtT12 bAtW13 bEpoch14 bBody15a bBody15n bBody15c bSig16 R w := by kernel_rfl
theorem entry_Same.ok (a1 : Int) (a8 : Int) (ae : Int) (ai : Int) (ah : Int) (ac : Int) (ab : Option Addr) (aa : Nat) (a7 : Nat) (aj : Int) (a3 : Int) (a5 : Int) (a9 : Int) (af : Int) (ad : Int) (a4 : Int) (a0 : Option Addr) (a6 : Nat) (a2 : Nat) (ag : Int) {R : Value → World → Prop} {w : World} (h : entry_Same.M a1 a8 ae ai ah ac ab aa a7 aj a3 a5 a9 af ad a4 a0 a6 a2 ag R w) : Calls Try.prog 38 #[.agg #[.int .i64 a1, .int .i64 a8, .int .u64 ae, .int .i64 ai, .int .i64 ah, .int .i64 ac, .slice ab aa a7, .int .u64 aj], .agg #[.int .i64 a3, .int .i64 a5, .int .u64 a9, .int .i64 af, .int .i64 ad, .int .i64 a4, .slice a0 a6 a2, .int .u64 ag]] w fun e w' => ∃ v, e = .returned v ∧ R v w' :=
  mfunc_ok follows (H := []) (args := [.agg #[.int .i64 a1, .int .i64 a8, .int .u64 ae, .int .i64 ai, .int .i64 ah, .int .i64 ac, .slice ab aa a7, .int .u64 aj], .agg #[.int .i64 a3, .int .i64 a5, .int .u64 a9, .int .i64 af, .int .i64 ad, .int .i64 a4, .slice a0 a6 a2, .int .u64 ag]]) (by rw [entry_Same.eq]; exact h)

def entry_Same.N (a1 : Int) (a6 : Int) (aa : Int) (ak : Int) (aj : Int) (a8 : Int) (ai : Option Addr) (ah : Nat) (af : Nat) (am : Int) (a2 : Int) (a4 : Int) (a7 : Int) (ac : Int) (a9 : Int) (a3 : Int) (ab : Option Addr) (ae : Nat) (ad : Nat) (al : Int) (R : Value → World → Prop) (w : World) : Prop :=
 ∀ (ag : World) (ap : Nat) (ao : Nat), Ext no w ag → Priv w ag [ap, ao] →
 Calls Try.prog 69 #[.slice ai ah af, .slice ab ae ad] ag fun an a5 => ∃ (a0 : Bool), an = .returned (.bool a0) ∧
 Keep [ap, ao] ag a5 ∧
 (a0 = true →
 (a1 = a2 →
 (a6 = a4 →
 (aa = a7 →
 (ak = ac ∧ aj = a9 →
 (a8 = a3 →
 R (.bool (am == al)) a5) ∧
 (a8 ≠ a3 →
 R (.bool false) a5)) ∧
 (¬ (ak = ac ∧ aj = a9) →
 R (.bool false) a5)) ∧
 (aa ≠ a7 →
 R (.bool false) a5)) ∧
 (a6 ≠ a4 →
 R (.bool false) a5)) ∧
 (a1 ≠ a2 →
 R (.bool false) a5)) ∧
 (a0 = false →
 R (.bool false) a5)

theorem entry_Same.up (a1 : Int) (aa : Int) (ag : Int) (aj : Int) (ai : Int) (ae : Int) (ad : Option Addr) (ac : Nat) (a8 : Nat) (al : Int) (a3 : Int) (a5 : Int) (ab : Int) (a9 : Int) (a7 : Int) (a4 : Int) (a0 : Option Addr) (a6 : Nat) (a2 : Nat) (ah : Int) {R : Value → World → Prop} {w : World} (h : entry_Same.N a1 aa ag aj ai ae ad ac a8 al a3 a5 ab a9 a7 a4 a0 a6 a2 ah R w) : entry_Same.M a1 aa ag aj ai ae ad ac a8 al a3 a5 ab a9 a7 a4 a0 a6 a2 ah R w := by
  unfold entry_Same.M
  unfold entry_Same.N at h
  refine thenW_in fun aw b3 => ?_
  have af := Blk.of_new b3
  have b5 := ((Ext.refl no w)).size
  have an := (Ext.refl no w).x_alloc b3
  refine thenW_in fun b4 ar => ?_
  have ak := Blk.of_new ar
  have b6 := (an).size
  have b2 := Nat.ne_of_lt af.lt
  have af := af.x_alloc ar
  have aq := an.x_alloc ar
  refine thenW_in fun au az => ?_
  have b0 := aq.x_drew az
  have af := af.x_drew az
  have ak := ak.x_drew az
  refine ⟨ad, ac, a8, af.celli 6 rfl rfl, ?_⟩
  refine ⟨a0, a6, a2, ak.celli 6 rfl rfl, ?_⟩
  have h := h au (w.heap.size) (aw.heap.size) b0 (Priv.cons b5 af.lt (Priv.cons b6 ak.lt Priv.nil))
  refine h.mono fun b7 b8 h => ?_
  obtain ⟨am, he, hk, h⟩ := h
  refine ⟨am, he, ?_⟩
  have af := hk.blk af (by simp)
  have ak := hk.blk ak (by simp)
  refine bif_of (fun av => ?_) (fun av => ?_)
  · have h := h.1 av
    refine ⟨a1, af.celli 0 rfl rfl, ?_⟩
    refine ⟨a3, ak.celli 0 rfl rfl, ?_⟩
    refine bif_of (fun ay => ?_) (fun ay => ?_)
    · have h := h.1 (beq_t ay)
      refine ⟨aa, af.celli 1 rfl rfl, ?_⟩
      refine ⟨a5, ak.celli 1 rfl rfl, ?_⟩
      refine bif_of (fun b1 => ?_) (fun b1 => ?_)
      · have h := h.1 (beq_t b1)
        refine ⟨ag, af.celli 2 rfl rfl, ?_⟩
        refine ⟨ab, ak.celli 2 rfl rfl, ?_⟩
        refine bif_of (fun ax => ?_) (fun ax => ?_)
        · have h := h.1 (beq_t ax)
          refine ⟨aj, ai, ⟨af.celli 3 rfl rfl, af.celli 4 rfl rfl, trivial⟩, ?_⟩
          refine ⟨a9, a7, ⟨ak.celli 3 rfl rfl, ak.celli 4 rfl rfl, trivial⟩, ?_⟩
          refine ⟨_, eqT27_eq aj ai a9 a7 _, ?_⟩
          refine bif_of (fun ao => ?_) (fun ao => ?_)
          · have h := h.1 (of_decide_eq_true ao)
            refine ⟨ae, af.celli 5 rfl rfl, ?_⟩
            refine ⟨a4, ak.celli 5 rfl rfl, ?_⟩
            refine bif_of (fun ap => ?_) (fun ap => ?_)
            · have h := h.1 (beq_t ap)
              refine ⟨al, af.celli 7 rfl rfl, ?_⟩
              refine ⟨ah, ak.celli 7 rfl rfl, ?_⟩
              exact h
            · have h := h.2 (beq_f ap)
              exact h
          · have h := h.2 (of_decide_eq_false ao)
            exact h
        · have h := h.2 (beq_f ax)
          exact h
      · have h := h.2 (beq_f b1)
        exact h
    · have h := h.2 (beq_f ay)
      exact h
  · have h := h.2 av
    exact h

theorem entry_Same.go (a1 : Int) (a8 : Int) (ae : Int) (ai : Int) (ah : Int) (ac : Int) (ab : Option Addr) (aa : Nat) (a7 : Nat) (aj : Int) (a3 : Int) (a5 : Int) (a9 : Int) (af : Int) (ad : Int) (a4 : Int) (a0 : Option Addr) (a6 : Nat) (a2 : Nat) (ag : Int) {R : Value → World → Prop} {w : World} (h : entry_Same.N a1 a8 ae ai ah ac ab aa a7 aj a3 a5 a9 af ad a4 a0 a6 a2 ag R w) : Calls Try.prog 38 #[.agg #[.int .i64 a1, .int .i64 a8, .int .u64 ae, .int .i64 ai, .int .i64 ah, .int .i64 ac, .slice ab aa a7, .int .u64 aj], .agg #[.int .i64 a3, .int .i64 a5, .int .u64 a9, .int .i64 af, .int .i64 ad, .int .i64 a4, .slice a0 a6 a2, .int .u64 ag]] w fun e w' => ∃ v, e = .returned v ∧ R v w' := entry_Same.ok a1 a8 ae ai ah ac ab aa a7 aj a3 a5 a9 af ad a4 a0 a6 a2 ag (entry_Same.up a1 a8 ae ai ah ac ab aa a7 aj a3 a5 a9 af ad a4 a0 a6 a2 ag h)
theorem entry_Same.run (a1 : Int) (a8 : Int) (ae : Int) (ai : Int) (ah : Int) (ac : Int) (ab : Option Addr) (aa : Nat) (a7 : Nat) (aj : Int) (a3 : Int) (a5 : Int) (a9 : Int) (af : Int) (ad : Int) (a4 : Int) (a0 : Option Addr) (a6 : Nat) (a2 : Nat) (ag : Int) {V : Value} {Q : World → Prop} {w : World} (h : entry_Same.N a1 a8 ae ai ah ac ab aa a7 aj a3 a5 a9 af ad a4 a0 a6 a2 ag (fun v w' => v = V ∧ Q w') w) : Calls Try.prog 38 #[.agg #[.int .i64 a1, .int .i64 a8, .int .u64 ae, .int .i64 ai, .int .i64 ah, .int .i64 ac, .slice ab aa a7, .int .u64 aj], .agg #[.int .i64 a3, .int .i64 a5, .int .u64 a9, .int .i64 af, .int .i64 ad, .int .i64 a4, .slice a0 a6 a2, .int .u64 ag]] w (Ret V Q) := (entry_Same.go a1 a8 ae ai ah ac ab aa a7 aj a3 a5 a9 af ad a4 a0 a6 a2 ag h).mono fun e w' ⟨v, he, hv, hq⟩ => ⟨by rw [he, hv], hq⟩

theorem keep1 {w w' : World} {m : Nat → Prop} {p : Nat} (h : Ext m w w') (hp : ¬ m p) : Keep [p] w w' := h.keep fun q hq _ => by simp at hq; subst hq; exact hp
theorem keep2 {w w' : World} {m : Nat → Prop} {p q : Nat} (h : Ext m w w') (hp : ¬ m p) (hq : ¬ m q) : Keep [p, q] w w' := h.keep fun r hr _ => by
  simp at hr
  rcases hr with rfl | rfl
  · exact hp
  · exact hq
theorem OwnB.up {N M : Nat} {w : World} {a : Option Addr} {c : Nat} {bs : List UInt8} (h : OwnB N w a c bs) (hM : M ≤ N) : OwnB M w a c bs := ⟨h.own, fun ad ha => ⟨Nat.le_trans hM (h.fr ad ha).1, (h.fr ad ha).2⟩⟩
/-- a row of one's own, and bytes that came behind it. -/
theorem app {w0 wi w1 : World} {N : Nat} {a xa : Option Addr} {c xc : Nat} {l x : List UInt8} (hB : OwnB N wi a c l) (X : Ext no w0 wi) (h0 : w0.heap.size ≤ N) (hN : N ≤ wi.heap.size) (hx : Ext no wi w1) (hO : RowAt w1 xa (bytesV x)) (hl : l.length + x.length ≤ 100000000) :
    ∃ a' c' w', (Builtin.append_ #[23, 23] 23 #[.slice a l.length c, .slice xa x.length xc]).run Try.prog w1 = .ok (.slice a' (l ++ x).length c') w' ∧ OwnB N w' a' c' (l ++ x) ∧ Ext no w0 w' ∧ Ext (fun b => N ≤ b) w1 w' ∧ N ≤ w'.heap.size := by
  obtain ⟨a', c', w', hr, hO2, hx2⟩ := (hB.no hx).append (t := 23) (ty := 23) Try.underlying23 (Nat.le_trans hN hx.size) (xc := xc) hO hl
  exact ⟨a', c', w', hr, hO2, (X.trans hx).then hx2 fun b hb => .inr (Nat.le_trans h0 hb), hx2, Nat.le_trans hN (Nat.le_trans hx.size hx2.size)⟩
section
variable {w w' : World} {a : Option Addr} {c N p : Nat} {bs : List UInt8} {k : Int}
theorem Put_spec (h : RowAt w a (bytesV bs)) (hl : bs.length ≤ 900000) {t s : Int} (h0 : -9223372036854775808 ≤ t) (h1 : t < 9223372036854775808) (hs : s < 9223372036854775808) :
    Calls Try.prog 88 #[.slice a bs.length c, .agg #[.int .i64 t, .int .i64 s]] w (fun e w' => ∃ a' c', e = .returned (.slice a' (bs ++ stampL t s).length c') ∧ OwnB w.heap.size w' a' c' (bs ++ stampL t s) ∧ Ext no w w') := by
  refine (stamp_Put.go _ _ _ _ _ (R := fun v w' => ∃ a' c', v = (.slice a' (bs ++ stampL t s).length c') ∧ OwnB w.heap.size w' a' c' (bs ++ stampL t s) ∧ Ext no w w') ?_).mono fun e w' ⟨v, he, a, c, hv, hw⟩ => ⟨a, c, by rw [he, hv], hw⟩
  unfold stamp_Put.N
  intro w5 p6 hx5 hp
  refine (W.Int_spec (h.no hx5) (by omega) h0 h1).mono fun e w9 ⟨a9, c9, he, hO, hx9⟩ => ⟨a9, _, c9, he, hx9.kept, ?_⟩
  have e1 : IntKind.u64.wrap (if (0 : Int) > s then 0 else s) = ((s.toNat : Nat) : Int) := by split <;> rw [wu64 (by omega) (by omega)] <;> omega
  rw [e1]
  have hz := W.numL_le (zig t)
  refine (W.Num_spec hO.row (by rw [List.length_append]; omega) (n := s.toNat) (by omega)).mono fun e w12 ⟨a12, c12, he, hO2, hx12⟩ => ⟨a12, _, c12, he, a12, c12, ?_, ?_, (hx5.trans hx9).trans hx12⟩
  · unfold stampL; rw [List.append_assoc]
  · unfold stampL; rw [← List.append_assoc]; exact OwnB.up hO2 (Nat.le_trans hx5.size hx9.size)
theorem nums_spec {q : Nat} (hq : Blk w q 146 [.slice a bs.length c]) (h : RowAt w a (bytesV bs)) (ho : ∀ ad, a = some ad → ad.block ≠ q) {la : Option Addr} {lc : Nat} {xs : List Nat} (hx : RowAt w la (xs.map fun (n : Nat) => Value.int .u64 (n : Int))) (hla : ∀ ad, la = some ad → ad.block ≠ q)
    (hxs : ∀ n ∈ xs, n < 18446744073709551616) (hl : bs.length + xs.length * 10 ≤ 900000) :
    Calls Try.prog 86 #[.pointer (some (blk q)), .slice la xs.length lc] w (fun e w' => e = .returned (.tuple #[]) ∧ ∃ a' c', Blk w' q 146 [.slice a' (bs ++ xs.flatMap numL).length c'] ∧ RowAt w' a' (bytesV (bs ++ xs.flatMap numL)) ∧ (∀ ad, a' = some ad → ad.block ≠ q ∧ (a' = a ∨ w.heap.size ≤ ad.block)) ∧ Ext (fun b => b = q) w w') := by
  refine (entry_writer_nums.go _ _ _ _ (R := fun v w' => v = .tuple #[] ∧ ∃ a' c', Blk w' q 146 [.slice a' (bs ++ xs.flatMap numL).length c'] ∧ RowAt w' a' (bytesV (bs ++ xs.flatMap numL)) ∧ (∀ ad, a' = some ad → ad.block ≠ q ∧ (a' = a ∨ w.heap.size ≤ ad.block)) ∧ Ext (fun b => b = q) w w') ?_).mono fun e w' ⟨v, he, hv, hw⟩ => ⟨by rw [he, hv], hw⟩
  unfold entry_writer_nums.N
  refine ⟨fun k vs w1 => ∃ (t : Nat) (a1 : Option Addr) (c1 : Nat) (l1 : List UInt8), vs = [.int .i64 t] ∧ k + t = xs.length ∧ l1 = bs ++ (xs.take t).flatMap numL ∧ l1.length ≤ bs.length + t * 10 ∧ Blk w1 q 146 [.slice a1 l1.length c1] ∧ RowAt w1 a1 (bytesV l1) ∧ (∀ ad, a1 = some ad → ad.block ≠ q ∧ (a1 = a ∨ w.heap.size ≤ ad.block)) ∧ Ext (fun b => b = q) w w1, xs.length,
    ⟨0, a, c, bs, rfl, rfl, by simp, by omega, hq, h, fun ad ha => ⟨ho ad ha, .inl rfl⟩, Ext.refl _ _⟩, ?_⟩
  rintro k w1 i ⟨t, a1, c1, l1, hi, hk, hl1, hlen, hb, hr, hf, X⟩
  simp only [List.cons.injEq, Value.int.injEq, true_and, and_true] at hi
  subst hi
  refine ⟨fun ht => ?_, fun ht => ?_⟩
  · have htl : t < xs.length := by omega
    have hx1 := hx.ext' X fun _ ad ha => hla ad ha
    obtain ⟨ad, rfl⟩ := hx1.addr (by intro e; rw [List.map_eq_nil_iff] at e; subst e; simp at htl)
    have hnb := hxs xs[t] (List.getElem_mem htl)
    refine ⟨ad, rfl, by omega, by omega, xs[t], by rw [Int.toNat_natCast, Nat.mul_one]; exact hx1.at_ (by simp [htl]), blk q, rfl, a1, _, c1, hb.cella (i := 0) rfl, ?_⟩
    refine (W.Num_spec hr (by omega) hnb).mono fun e w16 ⟨a2, c2, he, hO, hx16⟩ => ⟨a2, _, c2, he, (hb.ext hx16 id).cana (i := 0) rfl, thenW_in fun w18 e18 => ?_⟩
    have hb18 := (hb.ext hx16 id).seti 0 rfl e18
    have x18 : Ext (fun b => b = q) w16 w18 := (Ext.refl (fun b => b = q) w16).x_set (q := q) (i := 0) rfl (.inl rfl) e18
    have hne : ∀ ad, a2 = some ad → ad.block ≠ q := fun ad ha e => by have := (hO.fr ad ha).1; have := hb.lt; omega
    have htk : xs.take (t + 1) = xs.take t ++ [xs[t]] := by rw [List.take_add_one]; simp [htl]
    have hnl := W.numL_le xs[t]
    refine ⟨by omega, by omega, k - 1, by omega, t + 1, a2, c2, l1 ++ numL xs[t], rfl, by omega, ?_, by rw [List.length_append]; omega, hb18, hO.row.ext' x18 fun _ ad ha => hne ad ha, fun ad ha => ⟨hne ad ha, .inr (Nat.le_trans X.size (hO.fr ad ha).1)⟩, (X.trans hx16.none).trans x18⟩
    rw [hl1, htk, List.flatMap_append, List.append_assoc]; simp
  · obtain rfl : t = xs.length := by omega
    rw [List.take_length] at hl1
    subst hl1
    exact ⟨rfl, a1, c1, hb, hr, hf, X⟩
theorem text_spec {e : Ent} (hr : entRight e = true) (hf : e.fit) {ba : Option Addr} {bc : Nat} (hb : RowAt w ba (bytesV e.body)) :
    Calls Try.prog 78 #[entV e ba bc] w (fun x w' => ∃ a' c', x = .returned (.slice a' (textL e).length c') ∧ OwnB w.heap.size w' a' c' (textL e) ∧ Ext no w w') := by
  obtain ⟨h1, h2, h3, h4, h5, h6, h7, h8, h9, h10, h11⟩ := (entRight_iff e).1 hr
  have f1 := hf.pv0; have f2 := hf.pv1
  refine (entry_text.go e.w e.i e.pv e.t e.tw e.ep ba e.body.length bc e.sg (R := fun v w' => ∃ a' c', v = (.slice a' (textL e).length c') ∧ OwnB w.heap.size w' a' c' (textL e) ∧ Ext no w w') ?_).mono fun x w' ⟨v, he, a, c, hv, hw⟩ => ⟨a, c, by rw [he, hv], hw⟩
  unfold entry_text.N
  intro w10 q p X10 hq hq1 hq2 hp w13 q2 X13 hq3 hq4 hq5
  rw [wu64 (n := e.w) h1 (by omega), wu64 (n := e.i) h3 (by omega)] at hq3
  have hrow : RowAt w13 (some (blk q2)) (([e.w.toNat, e.i.toNat, e.pv.toNat] : List Nat).map fun (n : Nat) => Value.int .u64 (n : Int)) := by
    have := RowAt.of_blk hq3
    simp only [List.map_cons, List.map_nil, Int.toNat_of_nonneg h1, Int.toNat_of_nonneg h3, Int.toNat_of_nonneg f1]
    exact this
  have hp1 := hp.one
  refine (nums_spec (bs := []) (q := q) (hq.ext X13 id) (RowAt.nil _ _) (fun ad ha => by cases ha) hrow (fun ad ha => by cases ha; simp only [blk]; omega) (by simp; omega) (by simp)).mono fun x w16 ⟨he, a1, c1, hb1, hr1, hf1, X16⟩ => ?_
  have hw16 : Ext no w w16 := (X10.trans X13).then X16 fun b hb => .inr (by omega)
  have hpq : p ≠ q := by omega
  have e1 : ([] ++ [e.w.toNat, e.i.toNat, e.pv.toNat].flatMap numL) = numL e.w.toNat ++ numL e.i.toNat ++ numL e.pv.toNat := by simp
  rw [e1] at hr1 hb1
  refine ⟨he, keep1 X16 hpq, a1, _, c1, hb1.cell (i := 0) rfl, fun w17 X17 => ?_⟩
  have g1 := W.numL_le e.w.toNat; have g2 := W.numL_le e.i.toNat; have g3 := W.numL_le e.pv.toNat; have g4 := stampL_le e.t e.tw; have g5 := W.numL_le (zig e.ep)
  have h17 := hw16.trans X17
  refine (Put_spec (hr1.no X17) (by simp only [List.length_append]; omega) (by omega) (by omega) (by omega)).mono fun x w22 ⟨a2, c2, he, hO2, X22⟩ => ⟨a2, _, c2, he, X22.kept, ?_⟩
  refine (W.Int_spec hO2.row (by simp only [List.length_append]; omega) (by omega) (by omega)).mono fun x w25 ⟨a3, c3, he, hO3, X25⟩ => ⟨a3, _, c3, he, X25.kept, ?_⟩
  have h25 := (h17.trans X22).trans X25
  refine (W.Bytes_spec hO3.row (by simp only [List.length_append]; omega) (hb.no h25) (by omega)).mono fun x w28 ⟨a4, c4, he, hO4, X28⟩ => ⟨a4, _, c4, he, a4, c4, ?_, ?_, h25.trans X28⟩
  · unfold textL; simp only [List.append_assoc]
  · unfold textL; rw [← List.append_assoc]; exact OwnB.up hO4 h25.size
theorem Text_spec {e : Ent} (hf : entRight e = true → e.fit) {ba : Option Addr} {bc : Nat} (hb : RowAt w ba (bytesV e.body)) :
    Calls Try.prog 60 #[entV e ba bc] w (fun x w' => Ext no w w' ∧ ((entRight e = false ∧ x = .returned (.tuple #[.slice none 0 0, .int .i64 1])) ∨ (entRight e = true ∧ ∃ a' c', x = .returned (.tuple #[.slice a' (textL e).length c', .int .i64 0]) ∧ OwnB w.heap.size w' a' c' (textL e)))) := by
  refine (entry_Text.go e.w e.i e.pv e.t e.tw e.ep ba e.body.length bc e.sg (R := fun v w' => Ext no w w' ∧ ((entRight e = false ∧ v = (.tuple #[.slice none 0 0, .int .i64 1])) ∨ (entRight e = true ∧ ∃ a' c', v = (.tuple #[.slice a' (textL e).length c', .int .i64 0]) ∧ OwnB w.heap.size w' a' c' (textL e)))) ?_).mono fun x w' ⟨v, he, hx, hv⟩ => ⟨hx, hv.imp (fun ⟨h1, h2⟩ => ⟨h1, by rw [he, h2]⟩) fun ⟨h1, a, c, h2, h3⟩ => ⟨h1, a, c, by rw [he, h2], h3⟩⟩
  unfold entry_Text.N
  rw [entRight_F]
  refine ⟨fun h w10 X => ⟨X, .inl ⟨h, rfl⟩⟩, fun h w10 X => ?_⟩
  exact (text_spec h (hf h) (hb.no X)).mono fun x w16 ⟨a1, c1, he, hO, X16⟩ => ⟨a1, _, c1, he, X.trans X16, .inr ⟨h, a1, c1, rfl, OwnB.up hO X.size⟩⟩
theorem EBytes_spec {e : Ent} (hf : entRight e = true → e.fit) {ba : Option Addr} {bc : Nat} (hb : RowAt w ba (bytesV e.body)) :
    Calls Try.prog 81 #[entV e ba bc] w (fun x w' => Ext no w w' ∧ ((entRight e = false ∧ x = .returned (.tuple #[.slice none 0 0, .int .i64 1])) ∨ (entRight e = true ∧ ∃ a' c', x = .returned (.tuple #[.slice a' (bytesL e).length c', .int .i64 0]) ∧ OwnB w.heap.size w' a' c' (bytesL e)))) := by
  refine (entry_Bytes.go e.w e.i e.pv e.t e.tw e.ep ba e.body.length bc e.sg (R := fun v w' => Ext no w w' ∧ ((entRight e = false ∧ v = (.tuple #[.slice none 0 0, .int .i64 1])) ∨ (entRight e = true ∧ ∃ a' c', v = (.tuple #[.slice a' (bytesL e).length c', .int .i64 0]) ∧ OwnB w.heap.size w' a' c' (bytesL e)))) ?_).mono fun x w' ⟨v, he, hx, hv⟩ => ⟨hx, hv.imp (fun ⟨h1, h2⟩ => ⟨h1, by rw [he, h2]⟩) fun ⟨h1, a, c, h2, h3⟩ => ⟨h1, a, c, by rw [he, h2], h3⟩⟩
  unfold entry_Bytes.N
  rw [entRight_F]
  refine ⟨fun h w10 X => ⟨X, .inl ⟨h, rfl⟩⟩, fun h w13 p X hp => ?_⟩
  have hf := hf h
  have f3 := hf.sg0; have f4 := hf.sg1
  have hbl := ((entRight_iff e).1 h).2.2.2.2.2.2.2.2.2.1
  have htl := textL_le e
  refine (text_spec h hf (hb.no X)).mono fun x w17 ⟨a1, c1, he, hO, X17⟩ => ⟨a1, _, c1, he, X17.kept, ?_⟩
  rw [← Int.toNat_of_nonneg f3]
  refine (W.Num_spec hO.row (by omega) (n := e.sg.toNat) (by omega)).mono fun x w20 ⟨a2, c2, he, hO2, X20⟩ => ⟨a2, _, c2, he, (X.trans X17).trans X20, .inr ⟨h, a2, c2, rfl, OwnB.up hO2 (X.trans X17).size⟩⟩
/-! ### reading -/
end
end Go.Proofs.Ytfmdpjhkojbocaa

/- Entries that are the same; EntryBack. -/
set_option linter.unusedVariables false
set_option linter.unusedSimpArgs false
set_option maxRecDepth 20000
namespace Go.Proofs.Ytfmdpjhkojbocaa
open Go Go.Mx Go.Proofs
open W (OwnB GivesW numR countR doneR zig unzig intR)
/-- bytes of a literal. -/
theorem litB {w w1 : World} {t e : TypeId} (hs : Try.prog.underlying t = some (.slice e)) (he : Try.prog.underlying e = some (.int .u8)) (bs : List UInt8) {q : Nat} (X : Ext no w w1) (hb : Blk w1 q e (bytesV bs)) (hq : w.heap.size ≤ q) :
    ∃ w2, (convert t t (.slice (some (blk q)) bs.length bs.length)).run Try.prog w1 = .ok (.slice (some (blk q)) bs.length bs.length) w2 ∧ RowAt w2 (some (blk q)) (bytesV bs) ∧ Ext no w w2 :=
  ⟨_, conv_mark hs he hb, (RowAt.of_blk hb).freeze _ _, X.freeze (.inr hq) _⟩
section
variable {w w' : World} {a : Option Addr} {c N p : Nat} {bs : List UInt8} {k : Int}
theorem Equal_spec {b : Option Addr} {d : Nat} {x y : List UInt8} (ha : RowAt w a (bytesV x)) (hb : RowAt w b (bytesV y)) :
    Calls Try.prog 69 #[.slice a x.length c, .slice b y.length d] w (Ret (.bool (decide (x = y))) fun w' => w' = w) := by
  refine bytes_Equal.run _ _ _ _ _ _ ?_
  unfold bytes_Equal.N
  refine ⟨_, conv_str Try.underlying23 Try.underlying5 Try.underlying9 ha, _, conv_str Try.underlying23 Try.underlying5 Try.underlying9 hb, ?_, rfl⟩
  have key := bytes_beq x y
  have e : ∀ s : List UInt8, (ByteArray.mk s.toArray).toList = s := fun s => by
    simp
  congr 1
  rw [e, e, Bool.eq_iff_iff]
  simp
theorem ESame_spec {e f : Ent} {b : Option Addr} {d : Nat} (ha : RowAt w a (bytesV e.body)) (hb : RowAt w b (bytesV f.body)) :
    Calls Try.prog 38 #[entV e a c, entV f b d] w (Ret (.bool (decide (e = f))) fun w' => Ext no w w') := by
  refine entry_Same.run _ _ _ _ _ _ _ _ _ _ _ _ _ _ _ _ _ _ _ _ ?_
  unfold entry_Same.N
  intro w19 p20 p21 X hp
  refine (Equal_spec (ha.no X) (hb.no X)).mono fun x w24 ⟨he, hw⟩ => ⟨_, he, by subst hw; exact Keep.refl _ _, ?_⟩
  subst hw
  obtain ⟨e1, e2, e3, e4, e5, e6, e7, e8⟩ := e
  obtain ⟨f1, f2, f3, f4, f5, f6, f7, f8⟩ := f
  simp only [Ent.mk.injEq]
  refine ⟨fun h => ?_, fun h => ?_⟩
  · have h := of_decide_eq_true h
    subst h
    refine ⟨fun c1 => ⟨fun c2 => ⟨fun c3 => ⟨fun c4 => ⟨fun c5 => ?_, fun c5 => ?_⟩, fun c4 => ?_⟩, fun c3 => ?_⟩, fun c2 => ?_⟩, fun c1 => ?_⟩ <;> refine ⟨?_, X⟩
    · congr 1; rw [Bool.eq_iff_iff, beq_iff_eq, decide_eq_true_eq]; exact ⟨fun h => ⟨c1, c2, c3, c4.1, c4.2, c5, rfl, h⟩, fun h => h.2.2.2.2.2.2.2⟩
    · rw [decide_eq_false fun h => c5 h.2.2.2.2.2.1]
    · rw [decide_eq_false fun h => c4 ⟨h.2.2.2.1, h.2.2.2.2.1⟩]
    · rw [decide_eq_false fun h => c3 h.2.2.1]
    · rw [decide_eq_false fun h => c2 h.2.1]
    · rw [decide_eq_false fun h => c1 h.1]
  · have h := of_decide_eq_false h
    exact ⟨by rw [decide_eq_false fun q => h q.2.2.2.2.2.2.1], X⟩
end
end Go.Proofs.Ytfmdpjhkojbocaa

/- Entries: the reference's bytes, and its entry of bytes. -/
set_option linter.unusedVariables false
set_option linter.unusedSimpArgs false
set_option maxRecDepth 20000
namespace Go.Proofs.Ytfmdpjhkojbocaa
open Go Go.Mx Go.Proofs
open W (OwnB GivesW numR countR doneR zig unzig intR)
/-- cachetteref06.Same -/
def cachetteref06_Same.M (ag : Int) (ap : Int) (b3 : Int) (b7 : Int) (b6 : Int) (av : Int) (au : Option Addr) (ar : Nat) (ao : Nat) (b8 : Int) (aj : Int) (al : Int) (aq : Int) (b4 : Int) (b2 : Int) (ak : Int) (af : Option Addr) (an : Nat) (ai : Nat) (b5 : Int) (R : Value → World → Prop) (w : World) : Prop :=
 thenW (w.alloc (.cells #[.int .i64 ag, .int .i64 ap, .int .u64 b3, .int .i64 b7, .int .i64 b6, .int .i64 av, .slice au ar ao, .int .u64 b8] 29)) fun a3 =>
 thenW (a3.alloc (.cells #[.int .i64 aj, .int .i64 al, .int .u64 aq, .int .i64 b4, .int .i64 b2, .int .i64 ak, .slice af an ai, .int .u64 b5] 29)) fun a0 =>
 ∃ (a1 : Int), a0.cell? ((blk w.heap.size).add 0) = some (.int .i64 a1) ∧
 ∃ (a2 : Int), a0.cell? ((blk a3.heap.size).add 0) = some (.int .i64 a2) ∧
 bif a1 == a2 then (
 ∃ (aa : Int), a0.cell? ((blk w.heap.size).add 1) = some (.int .i64 aa) ∧
 ∃ (a6 : Int), a0.cell? ((blk a3.heap.size).add 1) = some (.int .i64 a6) ∧
 bif aa == a6 then (
 ∃ (ae : Int), a0.cell? ((blk w.heap.size).add 2) = some (.int .u64 ae) ∧
 ∃ (ah : Int), a0.cell? ((blk a3.heap.size).add 2) = some (.int .u64 ah) ∧
 bif ae == ah then (
 ∃ (ax : Int) (b1 : Int), cellsAt a0 ((blk w.heap.size).add 3) [.int .i64 ax, .int .i64 b1] 0 ∧
 ∃ (ay : Int) (az : Int), cellsAt a0 ((blk a3.heap.size).add 3) [.int .i64 ay, .int .i64 az] 0 ∧
 ∃ (bb : Bool), (binOp .eql 27 (.agg #[.int .i64 ax, .int .i64 b1]) (.agg #[.int .i64 ay, .int .i64 az])).run Try.prog a0 = .ok (.bool bb) a0 ∧
 bif bb then (
 ∃ (a8 : Int), a0.cell? ((blk w.heap.size).add 5) = some (.int .i64 a8) ∧
 ∃ (ab : Int), a0.cell? ((blk a3.heap.size).add 5) = some (.int .i64 ab) ∧
 bif a8 == ab then (
 ∃ (b0 : Int), a0.cell? ((blk w.heap.size).add 7) = some (.int .u64 b0) ∧
 ∃ (aw : Int), a0.cell? ((blk a3.heap.size).add 7) = some (.int .u64 aw) ∧
 bif b0 == aw then (
 ∃ (a4 : Option Addr) (ad : Nat) (a5 : Nat), a0.cell? ((blk w.heap.size).add 6) = some (.slice a4 ad a5) ∧
 ∃ (a9 : Option Addr) (a7 : Nat) (ac : Nat), a0.cell? ((blk a3.heap.size).add 6) = some (.slice a9 a7 ac) ∧
 Calls Try.prog 13 #[.slice a4 ad a5, .slice a9 a7 ac] a0 fun b9 ba => ∃ (am : Bool), b9 = .returned (.bool am) ∧
 R (.bool am) ba) else (
 R (.bool false) a0)) else (
 R (.bool false) a0)) else (
 R (.bool false) a0)) else (
 R (.bool false) a0)) else (
 R (.bool false) a0)) else (
 R (.bool false) a0)

theorem cachetteref06_Same.eq (aWriter1 : Int) (aIndex2 : Int) (aPrev3 : Int) (aAtT4 : Int) (aAtW5 : Int) (aEpoch6 : Int) (aBody7a : Option Addr) (aBody7n : Nat) (aBody7c : Nat) (aSig8 : Int) (bWriter9 : Int) (bIndex10 : Int) (bPrev11 : Int) (bAtT12 : Int) (bAtW13 : Int) (bEpoch14 : Int) (bBody15a : Option Addr) (bBody15n : Nat) (bBody15c : Nat) (bSig16 : Int) (R : Value → World → Prop) (w : World) : mfunc Try.prog [] 46 [.agg #[.int .i64 aWriter1, .int .i64 aIndex2, .int .u64 aPrev3, .int .i64 aAtT4, .int .i64 aAtW5, .int .i64 aEpoch6, .slice aBody7a aBody7n aBody7c, .int .u64 aSig8], .agg #[.int .i64 bWriter9, .int .i64 bIndex10, .int .u64 bPrev11, .int .i64 bAtT12, .int .i64 bAtW13, .int .i64 bEpoch14, .slice bBody15a bBody15n bBody15c, .int .u64 bSig16]] R w = cachetteref06_Same.M aWriter1 aIndex2 aPrev3 aAtT4 aAtW5 aEpoch6 aBody7a aBody7n aBody7c aSig8 bWriter9 bIndex10 bPrev11 bAtT12 bAtW13 bEpoch14 bBody15a bBody15n bBody15c bSig16 R w := by kernel_rfl
theorem cachetteref06_Same.ok (a1 : Int) (a8 : Int) (ae : Int) (ai : Int) (ah : Int) (ac : Int) (ab : Option Addr) (aa : Nat) (a7 : Nat) (aj : Int) (a3 : Int) (a5 : Int) (a9 : Int) (af : Int) (ad : Int) (a4 : Int) (a0 : Option Addr) (a6 : Nat) (a2 : Nat) (ag : Int) {R : Value → World → Prop} {w : World} (h : cachetteref06_Same.M a1 a8 ae ai ah ac ab aa a7 aj a3 a5 a9 af ad a4 a0 a6 a2 ag R w) : Calls Try.prog 46 #[.agg #[.int .i64 a1, .int .i64 a8, .int .u64 ae, .int .i64 ai, .int .i64 ah, .int .i64 ac, .slice ab aa a7, .int .u64 aj], .agg #[.int .i64 a3, .int .i64 a5, .int .u64 a9, .int .i64 af, .int .i64 ad, .int .i64 a4, .slice a0 a6 a2, .int .u64 ag]] w fun e w' => ∃ v, e = .returned v ∧ R v w' :=
  mfunc_ok follows (H := []) (args := [.agg #[.int .i64 a1, .int .i64 a8, .int .u64 ae, .int .i64 ai, .int .i64 ah, .int .i64 ac, .slice ab aa a7, .int .u64 aj], .agg #[.int .i64 a3, .int .i64 a5, .int .u64 a9, .int .i64 af, .int .i64 ad, .int .i64 a4, .slice a0 a6 a2, .int .u64 ag]]) (by rw [cachetteref06_Same.eq]; exact h)

def cachetteref06_Same.N (a1 : Int) (a5 : Int) (a9 : Int) (ak : Int) (aj : Int) (a7 : Int) (ai : Option Addr) (ah : Nat) (ag : Nat) (al : Int) (a2 : Int) (a4 : Int) (a6 : Int) (ac : Int) (a8 : Int) (a3 : Int) (aa : Option Addr) (af : Nat) (ad : Nat) (ae : Int) (R : Value → World → Prop) (w : World) : Prop :=
 (a1 = a2 →
 (a5 = a4 →
 (a9 = a6 →
 (ak = ac ∧ aj = a8 →
 (a7 = a3 →
 (al = ae →
 ∀ (a0 : World), Ext no w a0 →
 Calls Try.prog 13 #[.slice ai ah ag, .slice aa af ad] a0 fun an am => ∃ (ab : Bool), an = .returned (.bool ab) ∧
 R (.bool ab) am) ∧
 (al ≠ ae →
 ∀ (a0 : World), Ext no w a0 →
 R (.bool false) a0)) ∧
 (a7 ≠ a3 →
 ∀ (a0 : World), Ext no w a0 →
 R (.bool false) a0)) ∧
 (¬ (ak = ac ∧ aj = a8) →
 ∀ (a0 : World), Ext no w a0 →
 R (.bool false) a0)) ∧
 (a9 ≠ a6 →
 ∀ (a0 : World), Ext no w a0 →
 R (.bool false) a0)) ∧
 (a5 ≠ a4 →
 ∀ (a0 : World), Ext no w a0 →
 R (.bool false) a0)) ∧
 (a1 ≠ a2 →
 ∀ (a0 : World), Ext no w a0 →
 R (.bool false) a0)

theorem cachetteref06_Same.up (a1 : Int) (aa : Int) (ag : Int) (ak : Int) (aj : Int) (ae : Int) (ad : Option Addr) (ac : Nat) (a8 : Nat) (al : Int) (a3 : Int) (a5 : Int) (ab : Int) (a9 : Int) (a7 : Int) (a4 : Int) (a0 : Option Addr) (a6 : Nat) (a2 : Nat) (ai : Int) {R : Value → World → Prop} {w : World} (h : cachetteref06_Same.N a1 aa ag ak aj ae ad ac a8 al a3 a5 ab a9 a7 a4 a0 a6 a2 ai R w) : cachetteref06_Same.M a1 aa ag ak aj ae ad ac a8 al a3 a5 ab a9 a7 a4 a0 a6 a2 ai R w := by
  unfold cachetteref06_Same.M
  unfold cachetteref06_Same.N at h
  refine thenW_in fun b1 b0 => ?_
  have am := Blk.of_new b0
  have b4 := ((Ext.refl no w)).size
  have ap := (Ext.refl no w).x_alloc b0
  refine thenW_in fun af ar => ?_
  have an := Blk.of_new ar
  have b5 := (ap).size
  have az := Nat.ne_of_lt am.lt
  have am := am.x_alloc ar
  have ah := ap.x_alloc ar
  refine ⟨a1, am.celli 0 rfl rfl, ?_⟩
  refine ⟨a3, an.celli 0 rfl rfl, ?_⟩
  refine bif_of (fun ay => ?_) (fun ay => ?_)
  · have h := h.1 (beq_t ay)
    refine ⟨aa, am.celli 1 rfl rfl, ?_⟩
    refine ⟨a5, an.celli 1 rfl rfl, ?_⟩
    refine bif_of (fun au => ?_) (fun au => ?_)
    · have h := h.1 (beq_t au)
      refine ⟨ag, am.celli 2 rfl rfl, ?_⟩
      refine ⟨ab, an.celli 2 rfl rfl, ?_⟩
      refine bif_of (fun av => ?_) (fun av => ?_)
      · have h := h.1 (beq_t av)
        refine ⟨ak, aj, ⟨am.celli 3 rfl rfl, am.celli 4 rfl rfl, trivial⟩, ?_⟩
        refine ⟨a9, a7, ⟨an.celli 3 rfl rfl, an.celli 4 rfl rfl, trivial⟩, ?_⟩
        refine ⟨_, eqT27_eq ak aj a9 a7 _, ?_⟩
        refine bif_of (fun aq => ?_) (fun aq => ?_)
        · have h := h.1 (of_decide_eq_true aq)
          refine ⟨ae, am.celli 5 rfl rfl, ?_⟩
          refine ⟨a4, an.celli 5 rfl rfl, ?_⟩
          refine bif_of (fun aw => ?_) (fun aw => ?_)
          · have h := h.1 (beq_t aw)
            refine ⟨al, am.celli 7 rfl rfl, ?_⟩
            refine ⟨ai, an.celli 7 rfl rfl, ?_⟩
            refine bif_of (fun ax => ?_) (fun ax => ?_)
            · have h := h.1 (beq_t ax)
              refine ⟨ad, ac, a8, am.celli 6 rfl rfl, ?_⟩
              refine ⟨a0, a6, a2, an.celli 6 rfl rfl, ?_⟩
              have h := h af ah
              refine h.mono fun b3 b2 h => ?_
              obtain ⟨ao, he, h⟩ := h
              refine ⟨ao, he, ?_⟩
              exact h
            · have h := h.2 (beq_f ax)
              have h := h af ah
              exact h
          · have h := h.2 (beq_f aw)
            have h := h af ah
            exact h
        · have h := h.2 (of_decide_eq_false aq)
          have h := h af ah
          exact h
      · have h := h.2 (beq_f av)
        have h := h af ah
        exact h
    · have h := h.2 (beq_f au)
      have h := h af ah
      exact h
  · have h := h.2 (beq_f ay)
    have h := h af ah
    exact h

theorem cachetteref06_Same.go (a1 : Int) (a8 : Int) (ae : Int) (ai : Int) (ah : Int) (ac : Int) (ab : Option Addr) (aa : Nat) (a7 : Nat) (aj : Int) (a3 : Int) (a5 : Int) (a9 : Int) (af : Int) (ad : Int) (a4 : Int) (a0 : Option Addr) (a6 : Nat) (a2 : Nat) (ag : Int) {R : Value → World → Prop} {w : World} (h : cachetteref06_Same.N a1 a8 ae ai ah ac ab aa a7 aj a3 a5 a9 af ad a4 a0 a6 a2 ag R w) : Calls Try.prog 46 #[.agg #[.int .i64 a1, .int .i64 a8, .int .u64 ae, .int .i64 ai, .int .i64 ah, .int .i64 ac, .slice ab aa a7, .int .u64 aj], .agg #[.int .i64 a3, .int .i64 a5, .int .u64 a9, .int .i64 af, .int .i64 ad, .int .i64 a4, .slice a0 a6 a2, .int .u64 ag]] w fun e w' => ∃ v, e = .returned v ∧ R v w' := cachetteref06_Same.ok a1 a8 ae ai ah ac ab aa a7 aj a3 a5 a9 af ad a4 a0 a6 a2 ag (cachetteref06_Same.up a1 a8 ae ai ah ac ab aa a7 aj a3 a5 a9 af ad a4 a0 a6 a2 ag h)
theorem cachetteref06_Same.run (a1 : Int) (a8 : Int) (ae : Int) (ai : Int) (ah : Int) (ac : Int) (ab : Option Addr) (aa : Nat) (a7 : Nat) (aj : Int) (a3 : Int) (a5 : Int) (a9 : Int) (af : Int) (ad : Int) (a4 : Int) (a0 : Option Addr) (a6 : Nat) (a2 : Nat) (ag : Int) {V : Value} {Q : World → Prop} {w : World} (h : cachetteref06_Same.N a1 a8 ae ai ah ac ab aa a7 aj a3 a5 a9 af ad a4 a0 a6 a2 ag (fun v w' => v = V ∧ Q w') w) : Calls Try.prog 46 #[.agg #[.int .i64 a1, .int .i64 a8, .int .u64 ae, .int .i64 ai, .int .i64 ah, .int .i64 ac, .slice ab aa a7, .int .u64 aj], .agg #[.int .i64 a3, .int .i64 a5, .int .u64 a9, .int .i64 af, .int .i64 ad, .int .i64 a4, .slice a0 a6 a2, .int .u64 ag]] w (Ret V Q) := (cachetteref06_Same.go a1 a8 ae ai ah ac ab aa a7 aj a3 a5 a9 af ad a4 a0 a6 a2 ag h).mono fun e w' ⟨v, he, hv, hq⟩ => ⟨by rw [he, hv], hq⟩

section
variable {w w' : World} {a : Option Addr} {c N p : Nat} {bs : List UInt8} {k : Int}
theorem rESame_spec {e f : Ent} {b : Option Addr} {d : Nat} (ha : RowAt w a (bytesV e.body)) (hb : RowAt w b (bytesV f.body)) (hl : e.body.length < 1000000) :
    Calls Try.prog 46 #[entV e a c, entV f b d] w (Ret (.bool (decide (e = f))) fun w' => Ext no w w') := by
  refine cachetteref06_Same.run _ _ _ _ _ _ _ _ _ _ _ _ _ _ _ _ _ _ _ _ ?_
  unfold cachetteref06_Same.N
  obtain ⟨e1, e2, e3, e4, e5, e6, e7, e8⟩ := e
  obtain ⟨f1, f2, f3, f4, f5, f6, f7, f8⟩ := f
  simp only [Ent.mk.injEq]
  refine ⟨fun c1 => ⟨fun c2 => ⟨fun c3 => ⟨fun c4 => ⟨fun c5 => ⟨fun c6 w18 X => ?_, fun c6 w18 X => ⟨?_, X⟩⟩, fun c5 w18 X => ⟨?_, X⟩⟩, fun c4 w18 X => ⟨?_, X⟩⟩, fun c3 w18 X => ⟨?_, X⟩⟩, fun c2 w18 X => ⟨?_, X⟩⟩, fun c1 w18 X => ⟨?_, X⟩⟩
  · refine (W.sameB_spec (ha.no X) (hb.no X) hl).mono fun x w31 ⟨he, X31⟩ => ⟨_, he, ?_, X.trans X31⟩
    congr 1; rw [Bool.eq_iff_iff, decide_eq_true_eq, decide_eq_true_eq]; exact ⟨fun h => ⟨c1, c2, c3, c4.1, c4.2, c5, h, c6⟩, fun h => h.2.2.2.2.2.2.1⟩
  · rw [decide_eq_false fun h => c6 h.2.2.2.2.2.2.2]
  · rw [decide_eq_false fun h => c5 h.2.2.2.2.2.1]
  · rw [decide_eq_false fun h => c4 ⟨h.2.2.2.1, h.2.2.2.2.1⟩]
  · rw [decide_eq_false fun h => c3 h.2.2.1]
  · rw [decide_eq_false fun h => c2 h.2.1]
  · rw [decide_eq_false fun h => c1 h.1]
end
end Go.Proofs.Ytfmdpjhkojbocaa

/- An entry that is handed in. -/
set_option linter.unusedVariables false
set_option linter.unusedSimpArgs false
set_option maxRecDepth 20000
namespace Go.Proofs.Ytfmdpjhkojbocaa
open Go Go.Mx Go.Proofs
/-- numbers that are of their kinds. -/
structure Ent.wide (e : Ent) : Prop where
  w : -9223372036854775808 ≤ e.w ∧ e.w < 9223372036854775808
  i : -9223372036854775808 ≤ e.i ∧ e.i < 9223372036854775808
  t : -9223372036854775808 ≤ e.t ∧ e.t < 9223372036854775808
  tw : -9223372036854775808 ≤ e.tw ∧ e.tw < 9223372036854775808
  ep : -9223372036854775808 ≤ e.ep ∧ e.ep < 9223372036854775808
def EntQ (W : World) (cs : List Value) : Prop := ∃ (e : Ent) (a : Option Addr) (c : Nat), cs = entC e a c ∧ e.fit ∧ e.wide ∧ e.body.length ≤ c ∧ c ≤ maxLen ∧ RowAt W a (bytesV e.body)
theorem list8 {α : Type} : ∀ {l : List α}, l.length = 8 → ∃ a b c d e f g h, l = [a, b, c, d, e, f, g, h]
  | [a, b, c, d, e, f, g, h], _ => ⟨a, b, c, d, e, f, g, h, rfl⟩
theorem cellsOf_entry : Try.prog.cellsOf 29 = 8 := by kernel_rfl
theorem cellsOf_stamp : Try.prog.cellsOf 27 = 2 := by kernel_rfl
theorem opens_entry : Opens Try.prog 29 EntQ := (opens_struct Try.underlying29 cellsOf_entry).mono fun W cs ⟨hl, hf⟩ => by
  obtain ⟨c0, c1, c2, c3, c4, c5, c6, c7, rfl⟩ := list8 hl
  have e0 : ∃ n, (([c0, c1, c2, c3, c4, c5, c6, c7] : List Value).drop 0).take (Try.prog.cellsOf 3) = [.int .i64 n] ∧ _ := hf 0 _ rfl _ (opens_int Try.underlying3)
  have e1 : ∃ n, (([c0, c1, c2, c3, c4, c5, c6, c7] : List Value).drop 1).take (Try.prog.cellsOf 3) = [.int .i64 n] ∧ _ := hf 1 _ rfl _ (opens_int Try.underlying3)
  have e2 : ∃ n, (([c0, c1, c2, c3, c4, c5, c6, c7] : List Value).drop 2).take (Try.prog.cellsOf 25) = [.int .u64 n] ∧ _ := hf 2 _ rfl _ (opens_int Try.underlying25)
  have e3 := hf 3 _ rfl _ (opens_struct Try.underlying27 cellsOf_stamp)
  change (((([c0, c1, c2, c3, c4, c5, c6, c7] : List Value).drop 3).take (Try.prog.cellsOf 27)).length = 2 ∧ _) at e3
  have e4 : ∃ n, (([c0, c1, c2, c3, c4, c5, c6, c7] : List Value).drop 5).take (Try.prog.cellsOf 3) = [.int .i64 n] ∧ _ := hf 4 _ rfl _ (opens_int Try.underlying3)
  have e5 : BytesQ W ((([c0, c1, c2, c3, c4, c5, c6, c7] : List Value).drop 6).take (Try.prog.cellsOf 23)) := hf 5 _ rfl _ (opens_bytes Try.underlying23 (by kernel_rfl) Try.underlying5)
  have e6 : ∃ n, (([c0, c1, c2, c3, c4, c5, c6, c7] : List Value).drop 7).take (Try.prog.cellsOf 25) = [.int .u64 n] ∧ _ := hf 6 _ rfl _ (opens_int Try.underlying25)
  have o1 : Try.prog.cellsOf 3 = 1 := by kernel_rfl
  have o2 : Try.prog.cellsOf 25 = 1 := by kernel_rfl
  have o3 : Try.prog.cellsOf 23 = 1 := by kernel_rfl
  have o4 : Try.prog.cellsOf 2 = 1 := by kernel_rfl
  simp only [o1, o2, o3, cellsOf_stamp, List.drop_zero, List.drop_succ_cons, List.take_succ_cons, List.take_zero] at e0 e1 e2 e4 e5 e6
  obtain ⟨_, hs⟩ := e3
  have s0 : ∃ n, ((((([c0, c1, c2, c3, c4, c5, c6, c7] : List Value).drop 3).take (Try.prog.cellsOf 27)).drop 0).take (Try.prog.cellsOf 2)) = [.int .i64 n] ∧ _ := hs 0 _ rfl _ (opens_int Try.underlying2)
  have s1 : ∃ n, ((((([c0, c1, c2, c3, c4, c5, c6, c7] : List Value).drop 3).take (Try.prog.cellsOf 27)).drop 1).take (Try.prog.cellsOf 3)) = [.int .i64 n] ∧ _ := hs 1 _ rfl _ (opens_int Try.underlying3)
  simp only [o1, o4, cellsOf_stamp, List.drop_zero, List.drop_succ_cons, List.take_succ_cons, List.take_zero] at s0 s1
  obtain ⟨n0, q0, w0⟩ := e0
  obtain ⟨n1, q1, w1⟩ := e1
  obtain ⟨n2, q2, w2⟩ := e2
  obtain ⟨n3, q3, w3⟩ := s0
  obtain ⟨n4, q4, w4⟩ := s1
  obtain ⟨n5, q5, w5⟩ := e4
  obtain ⟨a, c, bs, q6, l1, l2, r⟩ := e5
  obtain ⟨n7, q7, w7⟩ := e6
  simp only [List.cons.injEq, and_true] at q0 q1 q2 q3 q4 q5 q6 q7
  subst q0; subst q1; subst q2; subst q3; subst q4; subst q5; subst q6; subst q7
  exact ⟨⟨n0, n1, n2, n3, n4, n5, bs, n7⟩, a, c, rfl, ⟨(wf_u64 w2).1, (wf_u64 w2).2, (wf_u64 w7).1, (wf_u64 w7).2⟩, ⟨wf_i64 w0, wf_i64 w1, wf_i64 w3, wf_i64 w4, wf_i64 w5⟩, l1, l2, r⟩
end Go.Proofs.Ytfmdpjhkojbocaa

/- EntryForms: what the law's function answers. -/
set_option linter.unusedVariables false
set_option linter.unusedSimpArgs false
set_option maxRecDepth 20000
namespace Go.Proofs.Ytfmdpjhkojbocaa
open Go Go.Mx Go.Proofs
open W (OwnB GivesW numR countR doneR zig unzig intR)
def textK (e : Ent) : List UInt8 × Int := if entRight e = true then (textL e, 0) else ([], 1)
def bytesK (e : Ent) : List UInt8 × Int := if entRight e = true then (bytesL e, 0) else ([], 1)
def Tup (w : World) (k : List UInt8 × Int) (x : Ending) (w' : World) : Prop := ∃ a' c', x = .returned (.tuple #[.slice a' k.1.length c', .int .i64 k.2]) ∧ OwnB w.heap.size w' a' c' k.1 ∧ Ext no w w'
section
variable {w w' : World} {a : Option Addr} {c N p : Nat} {bs : List UInt8} {k : Int}
theorem TextK_spec {e : Ent} (hf : entRight e = true → e.fit) {ba : Option Addr} {bc : Nat} (hb : RowAt w ba (bytesV e.body)) : Calls Try.prog 60 #[entV e ba bc] w (Tup w (textK e)) :=
  (Text_spec hf hb).mono fun x w' ⟨X, h⟩ => by
    unfold textK
    rcases h with ⟨h, he⟩ | ⟨h, a', c', he, hO⟩
    · rw [if_neg (by simp [h])]; exact ⟨none, 0, he, OwnB.nil _ _, X⟩
    · rw [if_pos h]; exact ⟨a', c', he, hO, X⟩
theorem EBytesK_spec {e : Ent} (hf : entRight e = true → e.fit) {ba : Option Addr} {bc : Nat} (hb : RowAt w ba (bytesV e.body)) : Calls Try.prog 81 #[entV e ba bc] w (Tup w (bytesK e)) :=
  (EBytes_spec hf hb).mono fun x w' ⟨X, h⟩ => by
    unfold bytesK
    rcases h with ⟨h, he⟩ | ⟨h, a', c', he, hO⟩
    · rw [if_neg (by simp [h])]; exact ⟨none, 0, he, OwnB.nil _ _, X⟩
    · rw [if_pos h]; exact ⟨a', c', he, hO, X⟩
end
end Go.Proofs.Ytfmdpjhkojbocaa
