/- The oracle's state, told by lists; what it is in memory; what its steps do. -/
import Derived.Test.YtdelmfpchbpafaaZA
import Derived.Test.YtdelmfpchbpafaaProg
import Derived.KernelRfl
import Derived.Laws.StructEq
set_option linter.unusedVariables false
set_option linter.unusedSimpArgs false
set_option linter.unusedSectionVars false
namespace Go.Proofs.Ytdelmfpchbpafaa
open Go Go.Mx Go.Proofs

/-- what was sealed. -/
structure Sealed where
  key : Int
  bound : List UInt8
  plain : List UInt8
/-- the oracle's state. -/
structure OS where
  draws : List Int
  used : List Int
  next : Int
  hashes : List (List UInt8 × Int)
  keys : List Int
  secrets : List Int
  publics : List (Int × Int)
  signs : List ((Int × List UInt8) × Int)
  signed : List (Int × (Int × List UInt8))
  sealed : List (Int × Sealed)
  wrapped : List (Int × (Int × Int))

/-- its blocks. -/
structure OG where
  p : Nat
  used : Nat
  hashes : Nat
  keys : Nat
  secrets : Nat
  publics : Nat
  signs : Nat
  signed : Nat
  sealed : Nat
  wrapped : Nat
  x : Nat → Prop
def OG.list (g : OG) : List Nat := [g.p, g.used, g.hashes, g.keys, g.secrets, g.publics, g.signs, g.signed, g.sealed, g.wrapped]
def OG.m (g : OG) : Nat → Prop := fun b => b ∈ g.list
/-- its blocks, and those that others turn. -/
def OG.M (g : OG) : Nat → Prop := fun b => g.m b ∨ g.x b

def u64V (n : Int) : Value := .int .u64 n
def signedV (x : Int × List UInt8) : Value := .agg #[.int .u64 x.1, strV x.2]
def bset (l : List Int) : List (Int × Value) := l.map fun n => (n, .bool true)
def SealedV (w : World) (m : Nat → Prop) (s : Sealed) (v : Value) : Prop :=
  ∃ ba bc pa pc, v = .agg #[.int .u64 s.key, .slice ba s.bound.length bc, .slice pa s.plain.length pc] ∧ RowAt w ba (bytesV s.bound) ∧ (bytesV s.bound ≠ [] → Out m ba) ∧ RowAt w pa (bytesV s.plain) ∧ (bytesV s.plain ≠ [] → Out m pa)
def SealedL (w : World) (m : Nat → Prop) : List (Int × Sealed) → List (Int × Value) → Prop
  | [], [] => True
  | p :: r, q :: s => p.1 = q.1 ∧ SealedV w m p.2 q.2 ∧ SealedL w m r s
  | _, _ => False

/-- the struct, and the draws that are left. -/
def OrcP (w : World) (g : OG) (draws : List Int) (next : Int) : Prop :=
  ∃ da dc, Blk w g.p 76 [.slice da draws.length dc, .map (some g.used), .int .u64 next, .map (some g.hashes), .map (some g.keys), .map (some g.secrets), .map (some g.publics), .map (some g.signs), .map (some g.signed), .map (some g.sealed), .map (some g.wrapped)] ∧
    draws.length ≤ dc ∧ RowAt w da (draws.map u64V) ∧ (draws.map u64V ≠ [] → Out g.M da)

structure Orc (w : World) (g : OG) (S : OS) : Prop where
  nd : g.list.Nodup
  st : OrcP w g S.draws S.next
  used : MapIs w g.used u64V (bset S.used)
  hashes : MapIs w g.hashes strV (S.hashes.map fun p => (p.1, u64V p.2))
  keys : MapIs w g.keys u64V (bset S.keys)
  secrets : MapIs w g.secrets u64V (bset S.secrets)
  publics : MapIs w g.publics u64V (S.publics.map fun p => (p.1, u64V p.2))
  signs : MapIs w g.signs signedV (S.signs.map fun p => (p.1, u64V p.2))
  signed : MapIs w g.signed u64V (S.signed.map fun p => (p.1, signedV p.2))
  sealed : ∃ lv, MapIs w g.sealed u64V lv ∧ SealedL w g.M S.sealed lv
  wrapped : MapIs w g.wrapped u64V (S.wrapped.map fun p => (p.1, .agg #[.int .u64 p.2.1, .int .u64 p.2.2]))
  xm : ∀ b, g.m b → ¬ g.x b
  xlt : ∀ b, g.x b → b < w.heap.size

theorem SealedL.ext {w w' : World} {m n : Nat → Prop} (k : Ext n w w') (hn : ∀ b, n b → m b) : ∀ {l : List (Int × Sealed)} {lv : List (Int × Value)}, SealedL w m l lv → SealedL w' m l lv
  | [], [], _ => trivial
  | p :: r, q :: s, h => by
    obtain ⟨h1, ⟨ba, bc, pa, pc, hv, h2, h3, h4, h5⟩, h6⟩ := h
    exact ⟨h1, ⟨ba, bc, pa, pc, hv, h2.ext' k (fun h0 ad ha hb => h3 h0 ad ha (hn _ hb)), h3, h4.ext' k (fun h0 ad ha hb => h5 h0 ad ha (hn _ hb)), h5⟩, SealedL.ext k hn h6⟩
  | [], _ :: _, h => h.elim
  | _ :: _, [], h => h.elim
theorem OrcP.ext {w w' : World} {g : OG} {d : List Int} {x : Int} {n : Nat → Prop} (h : OrcP w g d x) (k : Ext n w w') (hn : ∀ b, n b → g.M b) (hp : ¬ n g.p) : OrcP w' g d x := by
  obtain ⟨da, dc, h1, h2, h3, h4⟩ := h
  exact ⟨da, dc, h1.ext k hp, h2, h3.ext' k (fun h0 ad ha hb => h4 h0 ad ha (hn _ hb)), h4⟩

section
variable {w w' : World} {g : OG} {S : OS}
theorem m_list {g : OG} : g.m g.p ∧ g.m g.used ∧ g.m g.hashes ∧ g.m g.keys ∧ g.m g.secrets ∧ g.m g.publics ∧ g.m g.signs ∧ g.m g.signed ∧ g.m g.sealed ∧ g.m g.wrapped := by simp [OG.m, OG.list]
/-- whatever else turns. -/
theorem Orc.ext {m : Nat → Prop} (h : Orc w g S) (k : Ext m w w') (hd : ∀ b, b < w.heap.size → m b → g.x b) : Orc w' g S := by
  have k' : Ext g.x w w' := k.mono fun b hb hlt => hd b hlt hb
  obtain ⟨lv, h1, h2⟩ := h.sealed
  obtain ⟨q1, q2, q3, q4, q5, q6, q7, q8, q9, q10⟩ := m_list (g := g)
  exact ⟨h.nd, h.st.ext k' (fun b hb => .inr hb) (h.xm _ q1), h.used.ext k' (h.xm _ q2), h.hashes.ext k' (h.xm _ q3), h.keys.ext k' (h.xm _ q4), h.secrets.ext k' (h.xm _ q5), h.publics.ext k' (h.xm _ q6), h.signs.ext k' (h.xm _ q7), h.signed.ext k' (h.xm _ q8), ⟨lv, h1.ext k' (h.xm _ q9), h2.ext k' fun b hb => .inr hb⟩, h.wrapped.ext k' (h.xm _ q10), h.xm, fun b hb => Nat.lt_of_lt_of_le (h.xlt b hb) k.size⟩
theorem Orc.none (h : Orc w g S) (k : Ext no w w') : Orc w' g S := h.ext k fun b _ hb => hb.elim
theorem Orc.mlt (h : Orc w g S) : ∀ b, g.m b → b < w.heap.size := fun b hb => by
  obtain ⟨da, dc, hp, _⟩ := h.st
  obtain ⟨lv, hse, _⟩ := h.sealed
  simp only [OG.m, OG.list, List.mem_cons, List.not_mem_nil, or_false] at hb
  rcases hb with rfl | rfl | rfl | rfl | rfl | rfl | rfl | rfl | rfl | rfl
  · exact hp.lt
  · exact h.used.lt
  · exact h.hashes.lt
  · exact h.keys.lt
  · exact h.secrets.lt
  · exact h.publics.lt
  · exact h.signs.lt
  · exact h.signed.lt
  · exact hse.lt
  · exact h.wrapped.lt
/-- all that is new is others'. -/
def OG.more (g : OG) (w w' : World) : OG := { g with x := fun b => g.x b ∨ (w.heap.size ≤ b ∧ b < w'.heap.size) }
theorem SealedL.wide {w : World} {m n : Nat → Prop} (hn : ∀ b, n b → m b ∨ w.heap.size ≤ b) : ∀ {l : List (Int × Sealed)} {lv : List (Int × Value)}, SealedL w m l lv → SealedL w n l lv
  | [], [], _ => trivial
  | p :: r, q :: s, h => by
    obtain ⟨h1, ⟨ba, bc, pa, pc, hv, h2, h3, h4, h5⟩, h6⟩ := h
    refine ⟨h1, ⟨ba, bc, pa, pc, hv, h2, fun h0 ad ha hb => ?_, h4, fun h0 ad ha hb => ?_⟩, SealedL.wide hn h6⟩
    · rcases hn _ hb with h | h
      · exact h3 h0 ad ha h
      · have := h2.lt h0 ha; omega
    · rcases hn _ hb with h | h
      · exact h5 h0 ad ha h
      · have := h4.lt h0 ha; omega
  | [], _ :: _, h => h.elim
  | _ :: _, [], h => h.elim
/-- a step of others: what it turns is theirs, or new. -/
theorem Orc.foreign {n : Nat → Prop} (h : Orc w g S) (k : Ext n w w') (hd : ∀ b, b < w.heap.size → n b → g.x b) : Orc w' (g.more w w') S := by
  have hw := h.ext k hd
  have k' : Ext g.x w w' := k.mono fun b hb hlt => hd b hlt hb
  have hM : ∀ b, (g.more w w').M b → g.M b ∨ w.heap.size ≤ b := fun b hb => by
    rcases hb with hb | hb | hb
    · exact .inl (.inl hb)
    · exact .inl (.inr hb)
    · exact .inr hb.1
  obtain ⟨lv, h1, h2⟩ := h.sealed
  obtain ⟨lv', h1', h2'⟩ := hw.sealed
  obtain ⟨da, dc, hp, h3, h4, h5⟩ := h.st
  refine ⟨hw.nd, ⟨da, dc, hp.ext k' (h.xm _ m_list.1), h3, h4.ext' k' (fun h0 ad ha hb => h5 h0 ad ha (.inr hb)), fun h0 ad ha hb => ?_⟩, hw.used, hw.hashes, hw.keys, hw.secrets, hw.publics, hw.signs, hw.signed,
    ⟨lv, h1.ext k' (h.xm _ m_list.2.2.2.2.2.2.2.2.1), (h2.wide hM).ext k' fun b hb => .inr (.inl hb)⟩, hw.wrapped, fun b hb hx => ?_, fun b hb => ?_⟩
  · rcases hM _ hb with h | h
    · exact h5 h0 ad ha h
    · have := h4.lt h0 ha; omega
  · rcases hx with hx | hx
    · exact h.xm b hb hx
    · have := h.mlt b hb; omega
  · rcases hb with hb | hb
    · exact Nat.lt_of_lt_of_le (h.xlt b hb) k.size
    · exact hb.2
theorem Orc.drew (h : Orc w g S) : Orc w.drew g S := h.none (Ext.refl _ _).drew

theorem nd_ne (h : Orc w g S) : g.p ≠ g.used ∧ g.p ≠ g.hashes ∧ g.p ≠ g.keys ∧ g.p ≠ g.secrets ∧ g.p ≠ g.publics ∧ g.p ≠ g.signs ∧ g.p ≠ g.signed ∧ g.p ≠ g.sealed ∧ g.p ≠ g.wrapped ∧
    g.used ≠ g.hashes ∧ g.used ≠ g.keys ∧ g.used ≠ g.secrets ∧ g.used ≠ g.publics ∧ g.used ≠ g.signs ∧ g.used ≠ g.signed ∧ g.used ≠ g.sealed ∧ g.used ≠ g.wrapped ∧
    g.hashes ≠ g.keys ∧ g.hashes ≠ g.secrets ∧ g.hashes ≠ g.publics ∧ g.hashes ≠ g.signs ∧ g.hashes ≠ g.signed ∧ g.hashes ≠ g.sealed ∧ g.hashes ≠ g.wrapped ∧
    g.keys ≠ g.secrets ∧ g.keys ≠ g.publics ∧ g.keys ≠ g.signs ∧ g.keys ≠ g.signed ∧ g.keys ≠ g.sealed ∧ g.keys ≠ g.wrapped ∧
    g.secrets ≠ g.publics ∧ g.secrets ≠ g.signs ∧ g.secrets ≠ g.signed ∧ g.secrets ≠ g.sealed ∧ g.secrets ≠ g.wrapped ∧
    g.publics ≠ g.signs ∧ g.publics ≠ g.signed ∧ g.publics ≠ g.sealed ∧ g.publics ≠ g.wrapped ∧
    g.signs ≠ g.signed ∧ g.signs ≠ g.sealed ∧ g.signs ≠ g.wrapped ∧ g.signed ≠ g.sealed ∧ g.signed ≠ g.wrapped ∧ g.sealed ≠ g.wrapped := by
  have := h.nd
  simp only [OG.list, List.nodup_cons, List.mem_cons, not_or, List.not_mem_nil, not_false_eq_true, List.nodup_nil, and_true] at this
  simp only [this, ne_eq, not_false_eq_true, and_self]

/-- one block of its own turns: all else stays. -/
theorem one_sub {g : OG} {b : Nat} (hb : b ∈ g.list) : ∀ c, (fun x => x = b) c → g.M c := fun c hc => by subst hc; exact .inl hb

theorem Orc.set_used (h : Orc w g S) (k : Ext (fun b => b = g.used) w w') {l : List Int} (hl : MapIs w' g.used u64V (bset l)) : Orc w' g { S with used := l } := by
  have hn := nd_ne h
  have hs := one_sub (g := g) (b := g.used) (by simp [OG.list])
  obtain ⟨lv, h1, h2⟩ := h.sealed
  exact ⟨h.nd, h.st.ext k hs (by simp_all), hl, h.hashes.ext k (by simp_all [eq_comm]), h.keys.ext k (by simp_all [eq_comm]), h.secrets.ext k (by simp_all [eq_comm]), h.publics.ext k (by simp_all [eq_comm]), h.signs.ext k (by simp_all [eq_comm]), h.signed.ext k (by simp_all [eq_comm]), ⟨lv, h1.ext k (by simp_all [eq_comm]), h2.ext k hs⟩, h.wrapped.ext k (by simp_all [eq_comm]), h.xm, fun b hb => Nat.lt_of_lt_of_le (h.xlt b hb) k.size⟩
theorem Orc.set_hashes (h : Orc w g S) (k : Ext (fun b => b = g.hashes) w w') {l : List (List UInt8 × Int)} (hl : MapIs w' g.hashes strV (l.map fun p => (p.1, u64V p.2))) : Orc w' g { S with hashes := l } := by
  have hn := nd_ne h
  have hs := one_sub (g := g) (b := g.hashes) (by simp [OG.list])
  obtain ⟨lv, h1, h2⟩ := h.sealed
  exact ⟨h.nd, h.st.ext k hs (by simp_all), h.used.ext k (by simp_all [eq_comm]), hl, h.keys.ext k (by simp_all [eq_comm]), h.secrets.ext k (by simp_all [eq_comm]), h.publics.ext k (by simp_all [eq_comm]), h.signs.ext k (by simp_all [eq_comm]), h.signed.ext k (by simp_all [eq_comm]), ⟨lv, h1.ext k (by simp_all [eq_comm]), h2.ext k hs⟩, h.wrapped.ext k (by simp_all [eq_comm]), h.xm, fun b hb => Nat.lt_of_lt_of_le (h.xlt b hb) k.size⟩
theorem Orc.set_secrets (h : Orc w g S) (k : Ext (fun b => b = g.secrets) w w') {l : List Int} (hl : MapIs w' g.secrets u64V (bset l)) : Orc w' g { S with secrets := l } := by
  have hn := nd_ne h
  have hs := one_sub (g := g) (b := g.secrets) (by simp [OG.list])
  obtain ⟨lv, h1, h2⟩ := h.sealed
  exact ⟨h.nd, h.st.ext k hs (by simp_all), h.used.ext k (by simp_all [eq_comm]), h.hashes.ext k (by simp_all [eq_comm]), h.keys.ext k (by simp_all [eq_comm]), hl, h.publics.ext k (by simp_all [eq_comm]), h.signs.ext k (by simp_all [eq_comm]), h.signed.ext k (by simp_all [eq_comm]), ⟨lv, h1.ext k (by simp_all [eq_comm]), h2.ext k hs⟩, h.wrapped.ext k (by simp_all [eq_comm]), h.xm, fun b hb => Nat.lt_of_lt_of_le (h.xlt b hb) k.size⟩
theorem Orc.set_publics (h : Orc w g S) (k : Ext (fun b => b = g.publics) w w') {l : List (Int × Int)} (hl : MapIs w' g.publics u64V (l.map fun p => (p.1, u64V p.2))) : Orc w' g { S with publics := l } := by
  have hn := nd_ne h
  have hs := one_sub (g := g) (b := g.publics) (by simp [OG.list])
  obtain ⟨lv, h1, h2⟩ := h.sealed
  exact ⟨h.nd, h.st.ext k hs (by simp_all), h.used.ext k (by simp_all [eq_comm]), h.hashes.ext k (by simp_all [eq_comm]), h.keys.ext k (by simp_all [eq_comm]), h.secrets.ext k (by simp_all [eq_comm]), hl, h.signs.ext k (by simp_all [eq_comm]), h.signed.ext k (by simp_all [eq_comm]), ⟨lv, h1.ext k (by simp_all [eq_comm]), h2.ext k hs⟩, h.wrapped.ext k (by simp_all [eq_comm]), h.xm, fun b hb => Nat.lt_of_lt_of_le (h.xlt b hb) k.size⟩
theorem Orc.set_signs (h : Orc w g S) (k : Ext (fun b => b = g.signs) w w') {l : List ((Int × List UInt8) × Int)} (hl : MapIs w' g.signs signedV (l.map fun p => (p.1, u64V p.2))) : Orc w' g { S with signs := l } := by
  have hn := nd_ne h
  have hs := one_sub (g := g) (b := g.signs) (by simp [OG.list])
  obtain ⟨lv, h1, h2⟩ := h.sealed
  exact ⟨h.nd, h.st.ext k hs (by simp_all), h.used.ext k (by simp_all [eq_comm]), h.hashes.ext k (by simp_all [eq_comm]), h.keys.ext k (by simp_all [eq_comm]), h.secrets.ext k (by simp_all [eq_comm]), h.publics.ext k (by simp_all [eq_comm]), hl, h.signed.ext k (by simp_all [eq_comm]), ⟨lv, h1.ext k (by simp_all [eq_comm]), h2.ext k hs⟩, h.wrapped.ext k (by simp_all [eq_comm]), h.xm, fun b hb => Nat.lt_of_lt_of_le (h.xlt b hb) k.size⟩
theorem Orc.set_signed (h : Orc w g S) (k : Ext (fun b => b = g.signed) w w') {l : List (Int × (Int × List UInt8))} (hl : MapIs w' g.signed u64V (l.map fun p => (p.1, signedV p.2))) : Orc w' g { S with signed := l } := by
  have hn := nd_ne h
  have hs := one_sub (g := g) (b := g.signed) (by simp [OG.list])
  obtain ⟨lv, h1, h2⟩ := h.sealed
  exact ⟨h.nd, h.st.ext k hs (by simp_all), h.used.ext k (by simp_all [eq_comm]), h.hashes.ext k (by simp_all [eq_comm]), h.keys.ext k (by simp_all [eq_comm]), h.secrets.ext k (by simp_all [eq_comm]), h.publics.ext k (by simp_all [eq_comm]), h.signs.ext k (by simp_all [eq_comm]), hl, ⟨lv, h1.ext k (by simp_all [eq_comm]), h2.ext k hs⟩, h.wrapped.ext k (by simp_all [eq_comm]), h.xm, fun b hb => Nat.lt_of_lt_of_le (h.xlt b hb) k.size⟩
theorem Orc.set_p (h : Orc w g S) (k : Ext (fun b => b = g.p) w w') {d : List Int} {x : Int} (hl : OrcP w' g d x) : Orc w' g { S with draws := d, next := x } := by
  have hn := nd_ne h
  have hs := one_sub (g := g) (b := g.p) (by simp [OG.list])
  obtain ⟨lv, h1, h2⟩ := h.sealed
  exact ⟨h.nd, hl, h.used.ext k (by simp_all [eq_comm]), h.hashes.ext k (by simp_all [eq_comm]), h.keys.ext k (by simp_all [eq_comm]), h.secrets.ext k (by simp_all [eq_comm]), h.publics.ext k (by simp_all [eq_comm]), h.signs.ext k (by simp_all [eq_comm]), h.signed.ext k (by simp_all [eq_comm]), ⟨lv, h1.ext k (by simp_all [eq_comm]), h2.ext k hs⟩, h.wrapped.ext k (by simp_all [eq_comm]), h.xm, fun b hb => Nat.lt_of_lt_of_le (h.xlt b hb) k.size⟩
end

theorem mlook_bset {l : List Int} {h : Int} : mlook (bset l) h = if h ∈ l then some (.bool true) else none := by
  induction l with
  | nil => rfl
  | cons a r ih =>
    simp only [bset, List.map_cons, mlook] at ih ⊢
    by_cases ha : a = h
    · simp [ha]
    · simp only [ha, if_false, List.mem_cons, Ne.symm ha, false_or]; exact ih
theorem mput_bset {l : List Int} {h : Int} (hn : h ∉ l) : mput (bset l) h (.bool true) = bset (l ++ [h]) := by
  induction l with
  | nil => rfl
  | cons a r ih =>
    simp only [List.mem_cons, not_or] at hn
    simp only [bset, List.map_cons, List.cons_append, mput, Ne.symm hn.1, if_false] at ih ⊢
    rw [ih hn.2]
theorem mput_bset_in {l : List Int} {h : Int} (hn : h ∈ l) : mput (bset l) h (.bool true) = bset l := by
  induction l with
  | nil => cases hn
  | cons a r ih =>
    simp only [bset, List.map_cons, mput] at ih ⊢
    by_cases ha : a = h
    · simp [ha]
    · simp only [ha, if_false]
      rw [ih (by rcases List.mem_cons.1 hn with h | h; exact absurd h.symm ha; exact h)]

/-! ### lists of pairs -/
section
variable {κ β : Type} [DecidableEq κ]
def alook : List (κ × β) → κ → Option β
  | [], _ => none
  | p :: r, x => if p.1 = x then some p.2 else alook r x
def aput : List (κ × β) → κ → β → List (κ × β)
  | [], x, v => [(x, v)]
  | p :: r, x, v => if p.1 = x then (x, v) :: r else p :: aput r x v
theorem mlook_map (f : β → Value) : ∀ (l : List (κ × β)) (x : κ), mlook (l.map fun p => (p.1, f p.2)) x = (alook l x).map f
  | [], x => rfl
  | p :: r, x => by
    simp only [List.map_cons, mlook, alook]
    by_cases h : p.1 = x
    · simp [h]
    · simp only [h, if_false]; exact mlook_map f r x
theorem mput_map (f : β → Value) : ∀ (l : List (κ × β)) (x : κ) (v : β), mput (l.map fun p => (p.1, f p.2)) x (f v) = (aput l x v).map fun p => (p.1, f p.2)
  | [], x, v => rfl
  | p :: r, x, v => by
    simp only [List.map_cons, mput, aput]
    by_cases h : p.1 = x
    · simp [h]
    · simp only [h, if_false, List.map_cons]; rw [mput_map f r x v]
theorem alook_put : ∀ (l : List (κ × β)) (x y : κ) (v : β), alook (aput l x v) y = if x = y then some v else alook l y
  | [], x, y, v => rfl
  | p :: r, x, y, v => by
    simp only [aput]
    by_cases h : p.1 = x
    · subst h; simp only [if_true, alook]; split <;> rfl
    · simp only [h, if_false, alook, alook_put r x y v]
      by_cases h2 : p.1 = y
      · subst h2; simp [Ne.symm h]
      · simp [h2]
end

/-! ### a fresh handle -/
def pickD : List Int → List Int → Option (Int × List Int)
  | [], _ => none
  | h :: r, used => if h = 0 ∨ h ∈ used then pickD r used else some (h, r)
def pickN (used : List Int) : Nat → Int → Int
  | 0, n => n
  | k + 1, n => if n = 0 ∨ n ∈ used then pickN used k (n + 1) else n
def freshOf (S : OS) : Int × OS :=
  match pickD S.draws S.used with
  | some (h, r) => (h, { S with draws := r, used := S.used ++ [h] })
  | none => let h := pickN S.used (S.used.length + 1) S.next; (h, { S with draws := [], next := h, used := S.used ++ [h] })
/-- what the oracle keeps true of its counter. -/
def OS.ok (S : OS) : Prop := 1 ≤ S.next ∧ (∀ n, 1 ≤ n → n < S.next → n ∈ S.used) ∧ S.next ≤ S.used.length + 1 ∧ ∀ d ∈ S.draws, 0 ≤ d ∧ d < 18446744073709551616

theorem pickN_spec (used : List Int) : ∀ (k : Nat) (n : Int), 1 ≤ n → (∃ m, n ≤ m ∧ m < n + k ∧ m ∉ used) →
    n ≤ pickN used k n ∧ pickN used k n < n + k ∧ pickN used k n ∉ used ∧ pickN used k n ≠ 0 ∧ ∀ m, n ≤ m → m < pickN used k n → m ∈ used
  | 0, n, h1, ⟨m, h2, h3, _⟩ => by omega
  | k + 1, n, h1, ⟨m, h2, h3, h4⟩ => by
    simp only [pickN]
    by_cases hn : n = 0 ∨ n ∈ used
    · rw [if_pos hn]
      have hn' : n ∈ used := hn.resolve_left (by omega)
      have hm : m ≠ n := fun e => h4 (e ▸ hn')
      obtain ⟨a, b, c, d, e⟩ := pickN_spec used k (n + 1) (by omega) ⟨m, by omega, by omega, h4⟩
      refine ⟨by omega, by omega, c, d, fun q hq1 hq2 => ?_⟩
      by_cases hqn : q = n
      · subst hqn; exact hn'
      · exact e q (by omega) hq2
    · rw [if_neg hn]
      rw [not_or] at hn
      exact ⟨by omega, by omega, hn.2, hn.1, fun q h1 h2 => by omega⟩

/-- among so many numbers one is not there. -/
theorem gap (used : List Int) : ∀ (k : Nat) (n : Int), used.length < k → ∃ m, n ≤ m ∧ m < n + k ∧ m ∉ used := by
  induction used with
  | nil => intro k n hk; exact ⟨n, by omega, by simp at hk; omega, by simp⟩
  | cons a r ih =>
    intro k n hk
    simp only [List.length_cons] at hk
    -- numbers below and above a
    by_cases ha : n ≤ a ∧ a < n + k
    · by_cases hr : (r.length : Int) < a - n
      · obtain ⟨m, h1, h2, h3⟩ := ih (a - n).toNat n (by omega)
        exact ⟨m, h1, by omega, by simp only [List.mem_cons, not_or]; exact ⟨by omega, h3⟩⟩
      · -- count below and above together: move the numbers above a down by one
        obtain ⟨m, h1, h2, h3⟩ : ∃ m, n ≤ m ∧ m < n + (k - 1 : Nat) ∧ m ∉ r.map (fun x => if a < x then x - 1 else x) := by
          have hl : (r.map (fun x => if a < x then x - 1 else x)).length < k - 1 := by simp; omega
          have : ∀ (l : List Int) (k : Nat), l.length < k → ∃ m, n ≤ m ∧ m < n + k ∧ m ∉ l := by
            intro l
            induction hq : l.length generalizing l with
            | zero =>
              intro k hk
              have : l = [] := List.eq_nil_of_length_eq_zero hq
              subst this; exact ⟨n, by omega, by omega, by simp⟩
            | succ q ihq =>
              intro k hk
              by_cases hall : ∃ m, n ≤ m ∧ m < n + k ∧ m ∉ l
              · exact hall
              · exfalso
                -- the last number is in l: strike it
                have hlast : (n + k - 1) ∈ l := by
                  by_cases h : (n + k - 1) ∈ l
                  · exact h
                  · exact absurd ⟨n + k - 1, by omega, by omega, h⟩ hall
                have hlen : (l.erase (n + k - 1)).length = q := by rw [List.length_erase_of_mem hlast, hq]; rfl
                obtain ⟨m, h1, h2, h3⟩ := ihq (l.erase (n + k - 1)) hlen (k - 1) (by omega)
                refine hall ⟨m, h1, by omega, fun hm => h3 ?_⟩
                exact (List.mem_erase_of_ne (by omega)).2 hm
          exact this _ _ hl
        by_cases hma : m < a
        · refine ⟨m, h1, by omega, ?_⟩
          simp only [List.mem_cons, not_or]
          refine ⟨by omega, fun hm => h3 ?_⟩
          exact List.mem_map.2 ⟨m, hm, by rw [if_neg (by omega)]⟩
        · refine ⟨m + 1, by omega, by omega, ?_⟩
          simp only [List.mem_cons, not_or]
          refine ⟨by omega, fun hm => h3 ?_⟩
          exact List.mem_map.2 ⟨m + 1, hm, by rw [if_pos (by omega)]; omega⟩
    · obtain ⟨m, h1, h2, h3⟩ := ih k n (by omega)
      exact ⟨m, h1, h2, by simp only [List.mem_cons, not_or]; exact ⟨by omega, h3⟩⟩

theorem pickD_spec {d used : List Int} {h : Int} {r : List Int} (hp : pickD d used = some (h, r)) : h ≠ 0 ∧ h ∉ used ∧ h ∈ d := by
  induction d with
  | nil => simp [pickD] at hp
  | cons a d ih =>
    simp only [pickD] at hp
    by_cases ha : a = 0 ∨ a ∈ used
    · rw [if_pos ha] at hp
      obtain ⟨h1, h2, h3⟩ := ih hp
      exact ⟨h1, h2, List.mem_cons_of_mem _ h3⟩
    · rw [if_neg ha] at hp
      simp only [Option.some.injEq, Prod.mk.injEq] at hp
      rw [not_or] at ha
      exact ⟨hp.1 ▸ ha.1, hp.1 ▸ ha.2, hp.1 ▸ List.mem_cons_self⟩

theorem pickD_rest {d used : List Int} {h : Int} {r : List Int} (hp : pickD d used = some (h, r)) : ∀ x ∈ r, x ∈ d := by
  induction d with
  | nil => simp [pickD] at hp
  | cons a d ih =>
    simp only [pickD] at hp
    by_cases ha : a = 0 ∨ a ∈ used
    · rw [if_pos ha] at hp
      exact fun x hx => List.mem_cons_of_mem _ (ih hp x hx)
    · rw [if_neg ha] at hp
      simp only [Option.some.injEq, Prod.mk.injEq] at hp
      rw [← hp.2]
      exact fun x hx => List.mem_cons_of_mem _ hx
theorem freshOf_spec {S : OS} (h : S.ok) : (freshOf S).1 ≠ 0 ∧ (freshOf S).1 ∉ S.used ∧ (freshOf S).2.used = S.used ++ [(freshOf S).1] ∧ (freshOf S).2.ok := by
  obtain ⟨h1, h2, h3, h4⟩ := h
  unfold freshOf
  cases hp : pickD S.draws S.used with
  | some q =>
    obtain ⟨x, r⟩ := q
    obtain ⟨a, b, _⟩ := pickD_spec hp
    exact ⟨a, b, rfl, h1, fun n hn1 hn2 => List.mem_append_left _ (h2 n hn1 hn2), by simp; omega, fun d hd => h4 d (pickD_rest hp d hd)⟩
  | none =>
    obtain ⟨a, b, c, d, e⟩ := pickN_spec S.used (S.used.length + 1) S.next h1 (gap S.used _ _ (by omega))
    refine ⟨d, c, rfl, by show 1 ≤ pickN _ _ _; omega, fun n hn1 hn2 => ?_, ?_, fun d hd => by cases hd⟩
    · refine List.mem_append_left _ ?_
      by_cases hlt : n < S.next
      · exact h2 n hn1 hlt
      · exact e n (by omega) hn2
    · -- all numbers from 1 on below it are used, and they are apart
      show pickN S.used (S.used.length + 1) S.next ≤ ((S.used ++ [_]).length : Int) + 1
      have hall : ∀ m, 1 ≤ m → m < pickN S.used (S.used.length + 1) S.next → m ∈ S.used := fun m h1' h2' => by
        by_cases hlt : m < S.next
        · exact h2 m h1' hlt
        · exact e m (by omega) h2'
      by_cases hle : pickN S.used (S.used.length + 1) S.next ≤ (S.used.length : Int) + 2
      · simp; omega
      · obtain ⟨m, q1, q2, q3⟩ := gap S.used (S.used.length + 1) 1 (by omega)
        exact absurd (hall m q1 (by omega)) q3

theorem freshOf_frame (S : OS) : (freshOf S).2.hashes = S.hashes ∧ (freshOf S).2.keys = S.keys ∧ (freshOf S).2.secrets = S.secrets ∧ (freshOf S).2.publics = S.publics ∧
    (freshOf S).2.signs = S.signs ∧ (freshOf S).2.signed = S.signed ∧ (freshOf S).2.sealed = S.sealed ∧ (freshOf S).2.wrapped = S.wrapped := by
  unfold freshOf
  cases pickD S.draws S.used with
  | some q => exact ⟨rfl, rfl, rfl, rfl, rfl, rfl, rfl, rfl⟩
  | none => exact ⟨rfl, rfl, rfl, rfl, rfl, rfl, rfl, rfl⟩

def OS.init (l : List Int) : OS := ⟨l, [], 1, [], [], [], [], [], [], [], []⟩
theorem OS.init_ok (l : List Int) (hl : ∀ d ∈ l, 0 ≤ d ∧ d < 18446744073709551616) : (OS.init l).ok := ⟨Int.le_refl _, fun n h1 h2 => by simp only [OS.init] at h2; omega, by simp [OS.init], hl⟩
def hashOf (S : OS) (b : List UInt8) : Int × OS :=
  match alook S.hashes b with
  | some h => (h, S)
  | none => ((freshOf S).1, { (freshOf S).2 with hashes := aput S.hashes b (freshOf S).1 })
def badd (l : List Int) (x : Int) : List Int := if x ∈ l then l else l ++ [x]
theorem mput_badd (l : List Int) (x : Int) : mput (bset l) x (.bool true) = bset (badd l x) := by
  unfold badd
  split
  · exact mput_bset_in ‹_›
  · exact mput_bset ‹_›
theorem hashOf_ok {S : OS} (h : S.ok) (b : List UInt8) : (hashOf S b).2.ok ∧ (hashOf S b).2.used.length ≤ S.used.length + 1 := by
  unfold hashOf
  cases alook S.hashes b with
  | some x => exact ⟨h, Nat.le_succ _⟩
  | none =>
    obtain ⟨_, _, h3, h4⟩ := freshOf_spec h
    exact ⟨h4, by show (freshOf S).2.used.length ≤ _; rw [h3]; simp⟩
def pairOf (S : OS) : (Int × Int) × OS :=
  let S1 := { (freshOf S).2 with secrets := badd S.secrets (freshOf S).1 }
  (((freshOf S).1, (freshOf S1).1), { (freshOf S1).2 with publics := aput S.publics (freshOf S1).1 (freshOf S).1 })
theorem pairOf_ok {S : OS} (h : S.ok) : (pairOf S).2.ok ∧ (pairOf S).2.used.length ≤ S.used.length + 2 := by
  obtain ⟨_, _, h3, h4⟩ := freshOf_spec h
  have h5 : OS.ok { (freshOf S).2 with secrets := badd S.secrets (freshOf S).1 } := h4
  obtain ⟨_, _, h6, h7⟩ := freshOf_spec h5
  exact ⟨h7, by show (freshOf _).2.used.length ≤ _; rw [h6]; show ((freshOf S).2.used ++ _).length ≤ _; rw [h3]; simp⟩
/-- Sign: none where the secret is none. -/
def signOf (S : OS) (k : Int) (b : List UInt8) : (Int × Bool) × OS :=
  if k ∈ S.secrets then
    match alook S.signs (k, b) with
    | some h => ((h, true), S)
    | none => (((freshOf S).1, true), { (freshOf S).2 with signs := aput S.signs (k, b) (freshOf S).1, signed := aput S.signed (freshOf S).1 (k, b) })
  else ((0, false), S)
theorem signOf_ok {S : OS} (h : S.ok) (k : Int) (b : List UInt8) : (signOf S k b).2.ok ∧ (signOf S k b).2.used.length ≤ S.used.length + 1 := by
  unfold signOf
  split
  · cases alook S.signs (k, b) with
    | some x => exact ⟨h, Nat.le_succ _⟩
    | none =>
      obtain ⟨_, _, h3, h4⟩ := freshOf_spec h
      exact ⟨h4, by show (freshOf S).2.used.length ≤ _; rw [h3]; simp⟩
  · exact ⟨h, Nat.le_succ _⟩
def verifyOf (S : OS) (p : Int) (b : List UInt8) (x : Int) : Bool :=
  match alook S.publics p, alook S.signed x with
  | some s, some q => decide (q = (s, b))
  | _, _ => false

theorem pairOf_spec {S : OS} (h : S.ok) : (pairOf S).1.1 ≠ 0 ∧ (pairOf S).1.2 ≠ 0 ∧ (pairOf S).1.1 ∉ S.used ∧ (pairOf S).1.2 ∉ S.used ∧ (pairOf S).1.1 ≠ (pairOf S).1.2 ∧ (pairOf S).2.used = S.used ++ [(pairOf S).1.1] ++ [(pairOf S).1.2] ∧
    (pairOf S).2.secrets = badd S.secrets (pairOf S).1.1 ∧ (pairOf S).2.publics = aput S.publics (pairOf S).1.2 (pairOf S).1.1 ∧
    (pairOf S).2.hashes = S.hashes ∧ (pairOf S).2.keys = S.keys ∧ (pairOf S).2.signs = S.signs ∧ (pairOf S).2.signed = S.signed ∧ (pairOf S).2.sealed = S.sealed ∧ (pairOf S).2.wrapped = S.wrapped := by
  obtain ⟨a1, a2, a3, a4⟩ := freshOf_spec h
  have h5 : OS.ok { (freshOf S).2 with secrets := badd S.secrets (freshOf S).1 } := a4
  obtain ⟨b1, b2, b3, b4⟩ := freshOf_spec h5
  obtain ⟨c1, c2, c3, c4, c5, c6, c7, c8⟩ := freshOf_frame S
  obtain ⟨d1, d2, d3, d4, d5, d6, d7, d8⟩ := freshOf_frame { (freshOf S).2 with secrets := badd S.secrets (freshOf S).1 }
  have hu : ({ (freshOf S).2 with secrets := badd S.secrets (freshOf S).1 } : OS).used = S.used ++ [(freshOf S).1] := a3
  rw [hu] at b2 b3
  simp only [List.mem_append, List.mem_singleton, not_or] at b2
  exact ⟨a1, b1, a2, b2.1, fun e => b2.2 e.symm, b3, d3, rfl, d1.trans c1, d2.trans c2, d5.trans c5, d6.trans c6, d7.trans c7, d8.trans c8⟩

theorem SealedL.put {w : World} {m : Nat → Prop} {x : Int} {t : Sealed} {v : Value} (hv : SealedV w m t v) : ∀ {l : List (Int × Sealed)} {lv : List (Int × Value)}, SealedL w m l lv → SealedL w m (aput l x t) (mput lv x v)
  | [], [], _ => ⟨rfl, hv, trivial⟩
  | p :: r, q :: s, h => by
    obtain ⟨h1, h2, h3⟩ := h
    simp only [aput, mput, ← h1]
    by_cases hp : p.1 = x
    · rw [if_pos hp, if_pos hp]; exact ⟨rfl, hv, h3⟩
    · rw [if_neg hp, if_neg hp]; exact ⟨h1, h2, SealedL.put hv h3⟩
  | [], _ :: _, h => h.elim
  | _ :: _, [], h => h.elim
theorem Orc.lt {w : World} {g : OG} {S : OS} (h : Orc w g S) : ∀ b, g.m b → b < w.heap.size := h.mlt
end Go.Proofs.Ytdelmfpchbpafaa

/- What the oracle's methods do. -/
set_option linter.unusedVariables false
set_option linter.unusedSimpArgs false
namespace Go.Proofs.Ytdelmfpchbpafaa
open Go Go.Mx Go.Proofs

theorem keysU : Keys Try.prog 32 u64V := keys_int Try.underlying32
theorem keysS : Keys Try.prog 9 strV := keys_str Try.underlying9

/-- a step that hands back v. -/
def Gives (v : Value) (Q : World → Prop) (e : Ending) (w' : World) : Prop := e = .returned v ∧ Q w'

section
variable {w w' : World} {g : OG} {S : OS}
theorem Orc.pCell (h : Orc w g S) {i : Nat} {v : Value} (hv : ∀ da dc, ([.slice da S.draws.length dc, .map (some g.used), .int .u64 S.next, .map (some g.hashes), .map (some g.keys), .map (some g.secrets), .map (some g.publics), .map (some g.signs), .map (some g.signed), .map (some g.sealed), .map (some g.wrapped)] : List Value)[i]? = some v) :
    w.cell? ((blk g.p).add i) = some v := by
  obtain ⟨da, dc, hb, _⟩ := h.st
  exact hb.cella (hv da dc)

theorem m_used : g.m g.used := by simp [OG.m, OG.list]
theorem m_p : g.m g.p := by simp [OG.m, OG.list]
theorem m_hashes : g.m g.hashes := by simp [OG.m, OG.list]
theorem m_secrets : g.m g.secrets := by simp [OG.m, OG.list]
theorem m_publics : g.m g.publics := by simp [OG.m, OG.list]

theorem take_no (h : Orc w g S) {x : Int} (hx : x = 0 ∨ x ∈ S.used) :
    Calls Try.prog 45 #[.pointer (some (blk g.p)), .int .u64 x] w (Gives (.bool false) fun w' => w' = w) := by
  refine (oTake.ok _ _ (R := fun v w' => v = .bool false ∧ w' = w) ?_).mono fun e w' ⟨v, he, hv, hw⟩ => ⟨by rw [he, hv], hw⟩
  unfold oTake.M
  by_cases h0 : x = 0
  · subst h0; exact ⟨rfl, rfl⟩
  · have hx' : x ∈ S.used := hx.resolve_left h0
    have : (x == 0) = false := by simpa using h0
    rw [this]
    obtain ⟨i, hi, hz, _⟩ := info_of inf4
    have hl := h.used.lookup keysU Try.underlying68 hi hz x false
    rw [mlook_bset, if_pos hx'] at hl
    exact ⟨some g.used, h.pCell fun _ _ => rfl, true, hl, rfl, rfl⟩
theorem take_yes (h : Orc w g S) {x : Int} (h0 : x ≠ 0) (hx : x ∉ S.used) :
    Calls Try.prog 45 #[.pointer (some (blk g.p)), .int .u64 x] w (Gives (.bool true) fun w' => Orc w' g { S with used := S.used ++ [x] } ∧ Ext g.m w w') := by
  refine (oTake.ok _ _ (R := fun v w' => v = .bool true ∧ Orc w' g { S with used := S.used ++ [x] } ∧ Ext g.m w w') ?_).mono fun e w' ⟨v, he, hv, hw⟩ => ⟨by rw [he, hv], hw⟩
  unfold oTake.M
  have : (x == 0) = false := by simpa using h0
  rw [this]
  obtain ⟨i, hi, hz, _⟩ := info_of inf4
  have hl := h.used.lookup keysU Try.underlying68 hi hz x false
  rw [mlook_bset, if_neg hx] at hl
  obtain ⟨w1, hr, hm, hext⟩ := h.used.update keysU Try.underlying68 x (.bool true)
  rw [mput_bset hx] at hm
  exact ⟨some g.used, h.pCell fun _ _ => rfl, false, hl, some g.used, h.pCell fun _ _ => rfl, w1, hr, rfl, h.set_used (hext _ rfl) hm, hext _ m_used⟩

theorem fresh_spec (h : Orc w g S) (hok : S.ok) (hlen : S.used.length < 1000000) :
    Calls Try.prog 27 #[.pointer (some (blk g.p))] w (Gives (u64V (freshOf S).1) fun w' => Orc w' g (freshOf S).2 ∧ Ext g.m w w') := by
  refine (oFresh.ok _ (R := fun v w' => v = u64V (freshOf S).1 ∧ Orc w' g (freshOf S).2 ∧ Ext g.m w w') ?_).mono fun e w' ⟨v, he, hv, hw⟩ => ⟨by rw [he, hv], hw⟩
  unfold oFresh.M
  refine ⟨fun k vs w1 => ∃ d, k = d.length ∧ Orc w1 g { S with draws := d } ∧ pickD d S.used = pickD S.draws S.used ∧ Ext g.m w w1, S.draws.length, ⟨S.draws, rfl, h, rfl, Ext.refl _ _⟩, ?_⟩
  rintro k w1 ⟨d, rfl, h1, hp, hx⟩
  obtain ⟨da, dc, hb, hle, hrow, hout⟩ := h1.st
  refine ⟨da, d.length, dc, hb.cella rfl, ?_⟩
  cases d with
  | nil =>
    -- the counter
    simp only [List.length_nil, Int.natCast_zero, gt_iff_lt, Int.lt_irrefl, decide_false, cond_false]
    have hf : freshOf S = (pickN S.used (S.used.length + 1) S.next, { S with draws := [], next := pickN S.used (S.used.length + 1) S.next, used := S.used ++ [pickN S.used (S.used.length + 1) S.next] }) := by
      simp [freshOf, ← hp, pickD]
    obtain ⟨q1, q2, q3, q4⟩ := hok
    obtain ⟨a1, a2, a3, a4, a5⟩ := pickN_spec S.used (S.used.length + 1) S.next q1 (gap S.used _ _ (by omega))
    rw [hf]
    generalize hN : pickN S.used (S.used.length + 1) S.next = N at *
    refine ⟨fun k vs w1 => ∃ n, S.next ≤ n ∧ n ≤ N ∧ k = (N - n).toNat ∧ Orc w1 g { S with draws := [], next := n } ∧ Ext g.m w w1, (N - S.next).toNat, ⟨S.next, Int.le_refl _, a1, rfl, h1, hx⟩, ?_⟩
    rintro k w2 ⟨n, hn1, hn2, rfl, h2, hx2⟩
    refine ⟨n, h2.pCell fun _ _ => rfl, ?_⟩
    by_cases hn : n = N
    · subst hn
      refine (take_yes h2 a4 a3).mono fun e w3 ⟨he, h3, hx3⟩ => ⟨true, he, ?_⟩
      exact ⟨n, h3.pCell fun _ _ => rfl, rfl, h3, hx2.trans hx3⟩
    · refine (take_no h2 (.inr (a5 n hn1 (by omega)))).mono fun e w3 ⟨he, hw3⟩ => ⟨false, he, ?_⟩
      subst hw3
      obtain ⟨da2, dc2, hb2, hle2, hrow2, hout2⟩ := h2.st
      have hwr : IntKind.u64.wrap (n + 1) = n + 1 := by
        simp only [IntKind.wrap, IntKind.bits, IntKind.signed]
        simp
        omega
      refine ⟨n, h2.pCell fun _ _ => rfl, hb2.cana (i := 2) rfl, thenW_in fun w4 hw4 => ?_⟩
      rw [hwr] at hw4
      have hext : Ext (fun b => b = g.p) w3 w4 := by
        subst hw4; exact (Ext.refl _ _).setCell (.inl (by rw [add_zero, add_blk])) _
      have hb4 := hb2.seta 2 (.int .u64 (n + 1))
      refine ⟨(N - (n + 1)).toNat, by omega, n + 1, by omega, by omega, rfl, ?_, hx2.trans (hext.mono fun b hb _ => by subst hb; exact m_p)⟩
      refine h2.set_p hext ⟨da2, dc2, ?_, hle2, RowAt.nil _ _, hout2⟩
      subst hw4
      exact hb4
  | cons x r =>
    have hpos : decide (((x :: r).length : Int) > 0) = true := by simp
    rw [hpos]
    have hcell : w1.cell? (((blk g.p).add 0)) = some (.slice da (x :: r).length dc) := hb.cella rfl
    obtain ⟨ad, rfl⟩ := hrow.addr (by simp)
    have hx0 : w1.cell? (ad.add (Int.toNat 0 * 1)) = some (.int .u64 x) := hrow.at_ (i := 0) rfl
    refine ⟨_, _, dc, hcell, Int.le_refl _, by show (0 : Int) < ((x :: r).length : Int); rw [List.length_cons]; omega, x, hx0, _, _, dc, hcell, by omega, by show (1 : Int) ≤ ((x :: r).length : Int); rw [List.length_cons]; omega, hb.cana (i := 0) rfl, thenW_in fun w2 hw2 => ?_⟩
    have hext : Ext (fun b => b = g.p) w1 w2 := by
      subst hw2; exact (Ext.refl _ _).setCell (.inl (by rw [add_zero, add_blk])) _
    have hb2 := hb.seta 0 (.slice (if dc = Int.toNat 1 then some ad else Option.map (fun z : Addr => z.add ((Int.toNat 1) * 1)) (some ad)) ((x :: r).length - (Int.toNat 1)) (dc - (Int.toNat 1)))
    have hxm : Ext g.m w w2 := hx.trans (hext.mono fun b hb _ => by subst hb; exact m_p)
    have hrow2 : RowAt w1 (if dc = 1 then some ad else Option.map (·.add 1) (some ad)) (r.map u64V) := by
      have := hrow.drop 1 dc (fun e => by simp only [List.length_cons, List.length_map] at hle ⊢; omega)
      simpa using this
    have hout2 : r.map u64V ≠ [] → Out g.M (if dc = 1 then some ad else Option.map (·.add 1) (some ad)) := fun _ q hq => by
      split at hq
      · exact hout (by simp) q hq
      · simp only [Option.map_some, Option.some.injEq] at hq
        subst hq; rw [block_add]; exact hout (by simp) ad rfl
    have h2 : Orc w2 g { S with draws := r } := by
      refine h1.set_p (x := S.next) hext ⟨_, dc - 1, ?_, by simp at hle ⊢; omega, hrow2.ext' hext (fun h0 q hq hb => hout2 h0 q hq (.inl (by rw [hb]; exact m_p))), hout2⟩
      subst hw2
      exact hb2
    by_cases hxu : x = 0 ∨ x ∈ S.used
    · refine (take_no h2 hxu).mono fun e w3 ⟨he, hw3⟩ => ⟨false, he, ?_⟩
      subst hw3
      exact ⟨r.length, by simp, r, rfl, h2, by rw [← hp]; simp [pickD, hxu], hxm⟩
    · rw [not_or] at hxu
      refine (take_yes h2 hxu.1 hxu.2).mono fun e w3 ⟨he, h3, hx3⟩ => ⟨true, he, ?_⟩
      have hf : freshOf S = (x, { S with draws := r, used := S.used ++ [x] }) := by
        simp [freshOf, ← hp, pickD, hxu]
      rw [hf]
      exact ⟨rfl, h3, hxm.trans hx3⟩

theorem u64_one (l : List Int) : ∀ u ∈ l.map u64V, u.oneCell' = true := fun u hu => by
  obtain ⟨b, _, rfl⟩ := List.mem_map.1 hu; rfl
theorem clone64_spec {a : Option Addr} {c : Nat} {l : List Int} (h : RowAt w a (l.map u64V)) (hl : l.length ≤ 1000000) :
    Calls Try.prog 26 #[.slice a l.length c] w (fun e w' => ∃ a' c', e = .returned (.slice a' l.length c') ∧ l.length ≤ c' ∧ RowAt w' a' (l.map u64V) ∧ Ext no w w' ∧ Fresh w w' a') := by
  refine (clone64.ok a l.length c (R := fun v w' => ∃ a' c', v = (.slice a' l.length c') ∧ l.length ≤ c' ∧ RowAt w' a' (l.map u64V) ∧ Ext no w w' ∧ Fresh w w' a') ?_).mono fun e w' ⟨v, he, a', c', hv, hw⟩ => ⟨a', c', by rw [he, hv], hw⟩
  unfold clone64.M
  cases a with
  | none =>
    have : l = [] := by simpa using h.none_nil
    subst this
    exact ⟨none, 0, rfl, Nat.le_refl _, RowAt.nil _ _, Ext.refl _ _, fun ad ha => by cases ha⟩
  | some ad =>
    rw [Option.isNone_some, cond_false]
    refine thenW_in fun w2 hw2 => ?_
    subst hw2
    obtain ⟨i, hi, hz, hs, hb⟩ := info_of inf32
    obtain ⟨a', c', w', hr, h1, h2, h3, h4⟩ := clone_run (c := c) (m := l.length) (ty := 22) Try.underlying22 hi hz hs hb rfl (by simp) h (u64_one l) (by omega) (by omega)
    exact ⟨a', l.length, c', w', hr, a', c', rfl, h1, h2, h3, h4⟩
theorem new_map {κ : Type} [DecidableEq κ] (enc : κ → Value) {w1 w2 : World} (h : w2 = w1.alloc (.map #[] 0)) : MapIs w2 w1.heap.size enc [] ∧ Ext no w1 w2 ∧ w2.heap.size = w1.heap.size + 1 := by
  subst h; exact ⟨MapIs.new _ _, (Ext.refl _ _).alloc _, by simp⟩
theorem New_specX (x0 : Nat → Prop) (hx0 : ∀ b, x0 b → b < w.heap.size) {a : Option Addr} {c : Nat} {l : List Int} (h : RowAt w a (l.map u64V)) (hl : l.length ≤ 1000000) :
    Calls Try.prog 7 #[.slice a l.length c] w (fun e w' => ∃ g : OG, e = .returned (.pointer (some (blk g.p))) ∧ Orc w' g (OS.init l) ∧ Ext no w w' ∧ (∀ b, g.m b → w.heap.size ≤ b ∧ b < w'.heap.size) ∧ g.x = x0) := by
  refine (oNew.ok a l.length c (R := fun v w' => ∃ g : OG, v = (.pointer (some (blk g.p))) ∧ Orc w' g (OS.init l) ∧ Ext no w w' ∧ (∀ b, g.m b → w.heap.size ≤ b ∧ b < w'.heap.size) ∧ g.x = x0) ?_).mono fun e w' ⟨v, he, g, hv, hw⟩ => ⟨g, by rw [he, hv], hw⟩
  unfold oNew.M
  refine (clone64_spec h hl).mono fun e w4 ⟨a', c', he, hle, hrow, hx, hf⟩ => ⟨a', l.length, c', he, ?_⟩
  refine thenW_in fun w5 h5 => thenW_in fun w6 h6 => thenW_in fun w7 h7 => thenW_in fun w8 h8 => thenW_in fun w9 h9 => thenW_in fun w10 h10 => thenW_in fun w11 h11 => thenW_in fun w12 h12 => thenW_in fun w13 h13 => thenW_in fun w14 h14 => ?_
  obtain ⟨m5, e5, s5⟩ := new_map u64V h5
  obtain ⟨m6, e6, s6⟩ := new_map strV h6
  obtain ⟨m7, e7, s7⟩ := new_map u64V h7
  obtain ⟨m8, e8, s8⟩ := new_map u64V h8
  obtain ⟨m9, e9, s9⟩ := new_map u64V h9
  obtain ⟨m10, e10, s10⟩ := new_map signedV h10
  obtain ⟨m11, e11, s11⟩ := new_map u64V h11
  obtain ⟨m12, e12, s12⟩ := new_map u64V h12
  obtain ⟨m13, e13, s13⟩ := new_map u64V h13
  have e14 : Ext no w13 w14 := by rw [h14]; exact (Ext.refl _ _).alloc _
  have s14 : w14.heap.size = w13.heap.size + 1 := by rw [h14]; simp
  have x13 := e14
  have x12 := e13.trans x13
  have x11 := e12.trans x12
  have x10 := e11.trans x11
  have x9 := e10.trans x10
  have x8 := e9.trans x9
  have x7 := e8.trans x8
  have x6 := e7.trans x7
  have x5 := e6.trans x6
  have x4 := e5.trans x5
  have hsz := hx.size
  have hm : ∀ b, (OG.mk w13.heap.size w4.heap.size w5.heap.size w6.heap.size w7.heap.size w8.heap.size w9.heap.size w10.heap.size w11.heap.size w12.heap.size x0).m b → w4.heap.size ≤ b ∧ b < w14.heap.size := fun b hb => by
    simp only [OG.m, OG.list, List.mem_cons, List.not_mem_nil, or_false] at hb
    omega
  refine ⟨⟨w13.heap.size, w4.heap.size, w5.heap.size, w6.heap.size, w7.heap.size, w8.heap.size, w9.heap.size, w10.heap.size, w11.heap.size, w12.heap.size, x0⟩, rfl, ⟨?_, ?_, m5.ext x5 id, m6.ext x6 id, m7.ext x7 id, m8.ext x8 id, m9.ext x9 id, m10.ext x10 id, m11.ext x11 id, ⟨[], m12.ext x12 id, trivial⟩, m13.ext x13 id, fun b hb hxx => ?_, fun b hb => ?_⟩, hx.trans x4, fun b hb => ⟨?_, (hm b hb).2⟩, rfl⟩
  · simp only [OG.list, List.nodup_cons, List.mem_cons, not_or, List.not_mem_nil, not_false_eq_true, List.nodup_nil, and_true]
    omega
  · refine ⟨a', c', ?_, hle, hrow.ext x4 (fun _ _ h => h), fun _ => hf.out fun b hb => hb.elim (fun hb => .inr (hm b hb).1) (fun hb => .inl (hx0 b hb))⟩
    rw [h14]
    exact Blk.new _ _ _
  · have h1 := (hm b hb).1
    have h2 := hx0 b hxx
    omega
  · exact Nat.lt_of_lt_of_le (hx0 b hb) (hx.trans x4).size
  · exact Nat.le_trans hsz (hm b hb).1

theorem Hash_spec (h : Orc w g S) (hok : S.ok) (hlen : S.used.length < 1000000) {a : Option Addr} {c : Nat} {bs : List UInt8} (hr : RowAt w a (bytesV bs)) (ho : bytesV bs ≠ [] → Out g.m a) :
    Calls Try.prog 48 #[.pointer (some (blk g.p)), .slice a bs.length c] w (Gives (u64V (hashOf S bs).1) fun w' => Orc w' g (hashOf S bs).2 ∧ Ext g.m w w') := by
  refine (oHash.ok _ _ _ _ (R := fun v w' => v = u64V (hashOf S bs).1 ∧ Orc w' g (hashOf S bs).2 ∧ Ext g.m w w') ?_).mono fun e w' ⟨v, he, hv, hw⟩ => ⟨by rw [he, hv], hw⟩
  unfold oHash.M
  rw [Option.isNone_some, cond_false]
  refine thenW_in fun w3 h3 => ?_
  have hx3 : Ext no w w3 := by subst h3; exact (Ext.refl _ _).drew
  have hO := h.none hx3
  obtain ⟨i, hi, hz, _⟩ := info_of inf32
  have hl := hO.hashes.lookup keysS Try.underlying69 hi hz bs true
  rw [mlook_map] at hl
  have hcv := conv_str (P := Try.prog) (c := c) Try.underlying43 Try.underlying5 Try.underlying9 (hr.ext hx3 (fun _ _ h => h))
  cases hk : alook S.hashes bs with
  | some x =>
    rw [hk] at hl
    refine ⟨some g.hashes, hO.pCell fun _ _ => rfl, _, hcv, x, true, hl, ?_⟩
    have : hashOf S bs = (x, S) := by unfold hashOf; rw [hk]
    rw [this]
    exact ⟨rfl, hO, hx3.none⟩
  | none =>
    rw [hk] at hl
    refine ⟨some g.hashes, hO.pCell fun _ _ => rfl, _, hcv, 0, false, hl, ?_⟩
    refine (fresh_spec hO hok hlen).mono fun e w11 ⟨he, hO2, hx11⟩ => ⟨(freshOf S).1, he, thenW_in fun w12 h12 => ?_⟩
    have hx12 : Ext no w11 w12 := by subst h12; exact (Ext.refl _ _).drew
    have hO3 := hO2.none hx12
    have hcv2 := conv_str (P := Try.prog) (c := c) Try.underlying43 Try.underlying5 Try.underlying9 (((hr.ext hx3 (fun _ _ h => h)).ext' hx11 ho).ext hx12 (fun _ _ h => h))
    obtain ⟨w16, hu, hm, hext⟩ := hO3.hashes.update keysS Try.underlying69 bs (u64V (freshOf S).1)
    rw [mput_map, (freshOf_frame S).1] at hm
    refine ⟨some g.hashes, hO3.pCell fun _ _ => rfl, _, hcv2, w16, hu, ?_⟩
    have : hashOf S bs = ((freshOf S).1, { (freshOf S).2 with hashes := aput S.hashes bs (freshOf S).1 }) := by unfold hashOf; rw [hk]
    rw [this]
    exact ⟨rfl, hO3.set_hashes (hext _ rfl) hm, ((hx3.none.trans hx11).trans hx12.none).trans (hext _ m_hashes)⟩

end
end Go.Proofs.Ytdelmfpchbpafaa

/- What the oracle's pairs and signatures do. -/
set_option linter.unusedVariables false
set_option linter.unusedSimpArgs false
namespace Go.Proofs.Ytdelmfpchbpafaa
open Go Go.Mx Go.Proofs
theorem two_signed : Two Try.prog 116 (.int .u64) .string := Two.mk' Try.underlying116 (by kernel_rfl) Try.underlying32 Try.underlying9
theorem keysG : Keys Try.prog 116 signedV := keys_int_str two_signed
theorem infSigned : (Try.prog.info? 116).map (fun i => (i.zero, i.size, i.bytes)) = some (some (.agg #[.int .u64 0, .string ByteArray.empty]), 2, 24) := by kernel_rfl

section
variable {w w' : World} {g : OG} {S : OS}
theorem m_signs : g.m g.signs := by simp [OG.m, OG.list]
theorem m_signed : g.m g.signed := by simp [OG.m, OG.list]
theorem Pair_spec (h : Orc w g S) (hok : S.ok) (hlen : S.used.length + 1 < 1000000) :
    Calls Try.prog 8 #[.pointer (some (blk g.p))] w (Gives (.tuple #[u64V (pairOf S).1.1, u64V (pairOf S).1.2]) fun w' => Orc w' g (pairOf S).2 ∧ Ext g.m w w') := by
  refine (oPair.ok _ (R := fun v w' => v = .tuple #[u64V (pairOf S).1.1, u64V (pairOf S).1.2] ∧ Orc w' g (pairOf S).2 ∧ Ext g.m w w') ?_).mono fun e w' ⟨v, he, hv, hw⟩ => ⟨by rw [he, hv], hw⟩
  unfold oPair.M
  refine (fresh_spec h hok (by omega)).mono fun e w4 ⟨he, hO, hx⟩ => ⟨(freshOf S).1, he, ?_⟩
  obtain ⟨w7, hu, hm, hext⟩ := hO.secrets.update keysU Try.underlying68 (freshOf S).1 (.bool true)
  rw [(freshOf_frame S).2.2.1, mput_badd] at hm
  have hO7 := hO.set_secrets (hext _ rfl) hm
  obtain ⟨_, _, h3, h4⟩ := freshOf_spec hok
  refine ⟨some g.secrets, hO.pCell fun _ _ => rfl, w7, hu, ?_⟩
  refine (fresh_spec hO7 h4 (by show (freshOf S).2.used.length < _; rw [h3]; simp; omega)).mono fun e w10 ⟨he, hO10, hx10⟩ => ⟨_, he, ?_⟩
  obtain ⟨w13, hu13, hm13, hext13⟩ := hO10.publics.update keysU Try.underlying70 (pairOf S).1.2 (u64V (freshOf S).1)
  rw [mput_map, (freshOf_frame _).2.2.2.1] at hm13
  rw [show ({ (freshOf S).2 with secrets := badd S.secrets (freshOf S).1 } : OS).publics = S.publics from (freshOf_frame S).2.2.2.1] at hm13
  exact ⟨some g.publics, hO10.pCell fun _ _ => rfl, w13, hu13, rfl, hO10.set_publics (hext13 _ rfl) hm13, ((hx.trans (hext _ m_secrets)).trans hx10).trans (hext13 _ m_publics)⟩

theorem look_secret (h : Orc w g S) (k : Int) : (Instr.lookup 68 (.map (some g.secrets)) (.int .u64 k) false).run Try.prog w = .ok (.bool (decide (k ∈ S.secrets))) w := by
  obtain ⟨i, hi, hz, _⟩ := info_of inf4
  have hl := h.secrets.lookup keysU Try.underlying68 hi hz k false
  rw [mlook_bset] at hl
  refine hl.trans ?_
  by_cases hk : k ∈ S.secrets
  · simp [hk]
  · simp [hk]
theorem look_public (h : Orc w g S) (k : Int) : (Instr.lookup 70 (.map (some g.publics)) (.int .u64 k) true).run Try.prog w = .ok (.tuple #[.int .u64 ((alook S.publics k).getD 0), .bool (alook S.publics k).isSome]) w := by
  obtain ⟨i, hi, hz, _⟩ := info_of inf32
  have hl := h.publics.lookup keysU Try.underlying70 hi hz k true
  rw [mlook_map] at hl
  refine hl.trans ?_
  cases alook S.publics k <;> rfl

theorem Sign_spec (h : Orc w g S) (hok : S.ok) (hlen : S.used.length < 1000000) (k : Int) {a : Option Addr} {c : Nat} {bs : List UInt8} (hr : RowAt w a (bytesV bs)) (ho : bytesV bs ≠ [] → Out g.m a) :
    Calls Try.prog 55 #[.pointer (some (blk g.p)), .int .u64 k, .slice a bs.length c] w (Gives (.tuple #[u64V (signOf S k bs).1.1, .int .i64 (if (signOf S k bs).1.2 then 0 else 11)]) fun w' => Orc w' g (signOf S k bs).2 ∧ Ext g.m w w') := by
  refine (oSign.ok _ _ _ _ _ (R := fun v w' => v = .tuple #[u64V (signOf S k bs).1.1, .int .i64 (if (signOf S k bs).1.2 then 0 else 11)] ∧ Orc w' g (signOf S k bs).2 ∧ Ext g.m w w') ?_).mono fun e w' ⟨v, he, hv, hw⟩ => ⟨by rw [he, hv], hw⟩
  unfold oSign.M
  rw [Option.isNone_some, cond_false]
  refine ⟨some g.secrets, h.pCell fun _ _ => rfl, _, look_secret h k, ?_⟩
  by_cases hk' : ¬ k ∈ S.secrets
  · have hk := hk'
    have : signOf S k bs = ((0, false), S) := by unfold signOf; rw [if_neg hk]
    rw [this, decide_eq_false hk]
    exact ⟨rfl, h, Ext.refl _ _⟩
  have hk := Decidable.not_not.1 hk'
  rw [decide_eq_true hk, Bool.not_true, cond_false]
  have hcv := conv_str (P := Try.prog) (c := c) Try.underlying43 Try.underlying5 Try.underlying9 hr
  refine ⟨_, hcv, thenW_in fun w8 h8 => ?_⟩
  have hb8 : Blk w8 w.heap.size 116 [.int .u64 0, .string ByteArray.empty] := by subst h8; exact Blk.new _ _ _
  have e8 : Ext no w w8 := by subst h8; exact (Ext.refl _ _).alloc _
  refine ⟨hb8.cana (i := 0) rfl, thenW_in fun w9 h9 => ?_⟩
  have hb9 : Blk w9 w.heap.size 116 [.int .u64 k, .string ByteArray.empty] := by subst h9; exact hb8.seta 0 _
  have e9 : Ext no w w9 := by subst h9; exact e8.setCell (.inr (by rw [add_zero]; exact Nat.le_refl _)) _
  refine ⟨hb9.cana (i := 1) rfl, thenW_in fun w10 h10 => ?_⟩
  have hb10 : Blk w10 w.heap.size 116 [.int .u64 k, strV bs] := by subst h10; exact hb9.seta 1 _
  have e10 : Ext no w w10 := by subst h10; exact e9.setCell (.inr (by rw [add_blk]; exact Nat.le_refl _)) _
  refine thenW_in fun w11 h11 => ?_
  have hb11 : Blk w11 w.heap.size 116 [.int .u64 k, strV bs] := by subst h11; exact hb10
  have e11 : Ext no w w11 := by subst h11; exact e10.drew
  have hO11 := h.none e11
  have cells : ∀ w', Blk w' w.heap.size 116 [.int .u64 k, strV bs] → cellsAt w' (blk w.heap.size) [.int .u64 k, strV bs] 0 := fun w' hb => ⟨hb.cella rfl, hb.cella rfl, trivial⟩
  obtain ⟨i, hi, hz, _⟩ := info_of inf32
  have hl := hO11.signs.lookup keysG Try.underlying71 hi hz (k, bs) true
  rw [mlook_map] at hl
  cases hs : alook S.signs (k, bs) with
  | some x =>
    rw [hs] at hl
    refine ⟨some g.signs, hO11.pCell fun _ _ => rfl, k, _, cells _ hb11, x, true, hl, ?_⟩
    have : signOf S k bs = ((x, true), S) := by unfold signOf; rw [if_pos hk, hs]
    rw [this]
    exact ⟨rfl, hO11, e11.none⟩
  | none =>
    rw [hs] at hl
    refine ⟨some g.signs, hO11.pCell fun _ _ => rfl, k, _, cells _ hb11, 0, false, hl, ?_⟩
    have hsg : signOf S k bs = (((freshOf S).1, true), { (freshOf S).2 with signs := aput S.signs (k, bs) (freshOf S).1, signed := aput S.signed (freshOf S).1 (k, bs) }) := by unfold signOf; rw [if_pos hk, hs]
    have hnm : ¬ g.m w.heap.size := fun hm => by
      have : ∀ b, g.m b → b < w.heap.size := fun b hb => by
        obtain ⟨da, dc, hp, _⟩ := h.st
        obtain ⟨lv, hse, _⟩ := h.sealed
        simp only [OG.m, OG.list, List.mem_cons, List.not_mem_nil, or_false] at hb
        rcases hb with rfl | rfl | rfl | rfl | rfl | rfl | rfl | rfl | rfl | rfl
        · exact hp.lt
        · exact h.used.lt
        · exact h.hashes.lt
        · exact h.keys.lt
        · exact h.secrets.lt
        · exact h.publics.lt
        · exact h.signs.lt
        · exact h.signed.lt
        · exact hse.lt
        · exact h.wrapped.lt
      exact absurd (this _ hm) (Nat.lt_irrefl _)
    refine (fresh_spec hO11 hok hlen).mono fun e w20 ⟨he, hO20, hx20⟩ => ⟨(freshOf S).1, he, thenW_in fun w21 h21 => ?_⟩
    have hx21 : Ext no w20 w21 := by subst h21; exact (Ext.refl _ _).drew
    have hO21 := hO20.none hx21
    have hb21 := (hb11.ext hx20 hnm).ext hx21 id
    obtain ⟨n, w32, hme, hpend, hext32⟩ := hO21.signs.entry keysG Try.underlying71 hi hz (k, bs)
    obtain ⟨w33, hst, hm33, hext33⟩ := hpend.store (t := 71) (u64V (freshOf S).1)
    have hmm : mput (mput ((freshOf S).2.signs.map fun p => (p.1, u64V p.2)) (k, bs) ((mlook ((freshOf S).2.signs.map fun p => (p.1, u64V p.2)) (k, bs)).getD (.int .u64 0))) (k, bs) (u64V (freshOf S).1) = (aput S.signs (k, bs) (freshOf S).1).map fun p => (p.1, u64V p.2) := by
      rw [mput_mput, mput_map, (freshOf_frame S).2.2.2.2.1]
    rw [hmm] at hm33
    have x33 : ∀ m : Nat → Prop, m g.signs → Ext m w21 w33 := fun m hm => (hext32 m hm).trans (hext33 m hm)
    have hO33 := hO21.set_signs (x33 _ rfl) hm33
    have hns : ¬ (w.heap.size = g.signs) := fun e => hnm (e ▸ m_signs)
    have hb32 := hb21.ext (hext32 (fun b => b = g.signs) rfl) hns
    have hb33 := hb21.ext (x33 (fun b => b = g.signs) rfl) hns
    obtain ⟨i2, hi2, hz2, _⟩ := info_of infSigned
    obtain ⟨n2, w37, hme2, hpend2, hext37⟩ := hO33.signed.entry keysU Try.underlying72 hi2 hz2 (freshOf S).1
    obtain ⟨w38, hst2, hm38, hext38⟩ := hpend2.store (t := 72) (signedV (k, bs))
    have hold : ∃ v t, (mlook ((freshOf S).2.signed.map fun p => (p.1, signedV p.2)) (freshOf S).1).getD (.agg #[.int .u64 0, .string ByteArray.empty]) = .agg #[.int .u64 v, .string t] := by
      rw [mlook_map]
      cases alook (freshOf S).2.signed (freshOf S).1 with
      | none => exact ⟨0, _, rfl⟩
      | some q => exact ⟨q.1, _, rfl⟩
    obtain ⟨ov, ot, hold⟩ := hold
    have hme2' := hme2
    rw [show ({ (freshOf S).2 with signs := aput S.signs (k, bs) (freshOf S).1 } : OS).signed = (freshOf S).2.signed from rfl, hold] at hme2'
    rw [mput_mput, mput_map, show ({ (freshOf S).2 with signs := aput S.signs (k, bs) (freshOf S).1 } : OS).signed = S.signed from (freshOf_frame S).2.2.2.2.2.1] at hm38
    have x38 : ∀ m : Nat → Prop, m g.signed → Ext m w33 w38 := fun m hm => (hext37 m hm).trans (hext38 m hm)
    have hb37 := hb33.ext (hext37 (fun b => b = g.signed) rfl) (fun e => hnm (e ▸ m_signed))
    have hold1 : ∃ v, (mlook ((freshOf S).2.signs.map fun p => (p.1, u64V p.2)) (k, bs)).getD (.int .u64 0) = .int .u64 v := by
      rw [mlook_map]
      cases alook (freshOf S).2.signs (k, bs) with
      | none => exact ⟨0, rfl⟩
      | some q => exact ⟨q, rfl⟩
    obtain ⟨ov1, hold1⟩ := hold1
    rw [hold1] at hme
    refine ⟨some g.signs, hO21.pCell fun _ _ => rfl, k, _, cells _ hb21, some g.signed, hO21.pCell fun _ _ => rfl, k, _, cells _ hb21, ov1, n, w32, hme, cells _ hb32, w33, hst, cells _ hb33, ov, ot, n2, w37, hme2', cells _ hb37, w38, hst2, ?_⟩
    rw [hsg]
    refine ⟨rfl, hO33.set_signed (x38 _ rfl) hm38, ?_⟩
    exact (((e11.none.trans hx20).trans hx21.none).trans (x33 _ m_signs)).trans (x38 _ m_signed)

theorem look_signed (h : Orc w g S) (k : Int) : (Instr.lookup 72 (.map (some g.signed)) (.int .u64 k) true).run Try.prog w =
    .ok (.tuple #[signedV ((alook S.signed k).getD (0, [])), .bool (alook S.signed k).isSome]) w := by
  obtain ⟨i, hi, hz, _⟩ := info_of infSigned
  have hl := h.signed.lookup keysU Try.underlying72 hi hz k true
  rw [mlook_map] at hl
  refine hl.trans ?_
  cases alook S.signed k <;> rfl

theorem Verify_spec (h : Orc w g S) (p x : Int) {a : Option Addr} {c : Nat} {bs : List UInt8} (hr : RowAt w a (bytesV bs)) :
    Calls Try.prog 76 #[.pointer (some (blk g.p)), .int .u64 p, .slice a bs.length c, .int .u64 x] w (Gives (.bool (verifyOf S p bs x)) fun w' => Ext no w w') := by
  refine (oVerify.ok _ _ _ _ _ _ (R := fun v w' => v = .bool (verifyOf S p bs x) ∧ Ext no w w') ?_).mono fun e w' ⟨v, he, hv, hw⟩ => ⟨by rw [he, hv], hw⟩
  unfold oVerify.M
  rw [Option.isNone_some, cond_false]
  refine ⟨some g.publics, h.pCell fun _ _ => rfl, _, _, look_public h p, some g.signed, h.pCell fun _ _ => rfl, _, _, _, look_signed h x, thenW_in fun w14 h14 => ?_⟩
  have hb14 : Blk w14 w.heap.size 116 [.int .u64 0, .string ByteArray.empty] := by subst h14; exact Blk.new _ _ _
  have e14 : Ext no w w14 := by subst h14; exact (Ext.refl _ _).alloc _
  refine ⟨hb14.cana (i := 0) rfl, thenW_in fun w15 h15 => ?_⟩
  have hb15 : Blk w15 w.heap.size 116 [.int .u64 ((alook S.signed x).getD (0, [])).1, .string ByteArray.empty] := by subst h15; exact hb14.seta 0 _
  have e15 : Ext no w w15 := by subst h15; exact e14.setCell (.inr (by rw [add_zero]; exact Nat.le_refl _)) _
  refine ⟨hb15.cana (i := 1) rfl, thenW_in fun w16 h16 => ?_⟩
  have hb16 : Blk w16 w.heap.size 116 [.int .u64 ((alook S.signed x).getD (0, [])).1, strV ((alook S.signed x).getD (0, [])).2] := by subst h16; exact hb15.seta 1 _
  have e16 : Ext no w w16 := by subst h16; exact e15.setCell (.inr (by rw [add_blk]; exact Nat.le_refl _)) _
  unfold verifyOf
  cases hp : alook S.publics p with
  | none => exact ⟨rfl, e16⟩
  | some s =>
    cases hq : alook S.signed x with
    | none => exact ⟨rfl, e16⟩
    | some q =>
      rw [hq] at hb16
      have hcv := conv_str (P := Try.prog) (c := c) Try.underlying43 Try.underlying5 Try.underlying9 (hr.no e16)
      refine ⟨_, _, ⟨hb16.cella rfl, hb16.cella rfl, trivial⟩, _, hcv, decide (q = (s, bs)), ?_, rfl, e16⟩
      rw [run_eql_struct]
      have := equal_two two_signed w16 (fun n t ht => equal_int' (a := q.1) (b := s) n t ht) (fun n t ht => equal_str' (a := q.2) (b := bs) n t ht) 9998
      simp only [Nat.reduceAdd] at this
      simp only [strV, Option.getD_some] at this ⊢
      rw [this]
      have hd : (q.1 == s && decide (q.2 = bs)) = decide (q = (s, bs)) := by
        rw [Bool.eq_iff_iff]
        simp [Prod.ext_iff]
      rw [hd]
      rfl
end
end Go.Proofs.Ytdelmfpchbpafaa

/- The oracle, as an owner of blocks. -/
set_option linter.unusedVariables false
set_option linter.unusedSimpArgs false
set_option maxRecDepth 20000
namespace Go.Proofs.Ytdelmfpchbpafaa
open Go Go.Mx Go.Proofs
/-- the oracle of an owner. -/
def POrc (w : World) (o : Own) (k : Nat) (S : OS) : Prop := ∃ g : OG, g.p = k ∧ Orc w g S ∧ (∀ b, g.m b → o b = some k) ∧ (∀ b, b < w.heap.size → ∀ j, o b = some j → j ≠ k → g.x b)
/-- what a call hands back, whom it lets turn, and what then is. -/
def Gs (K : Nat → Prop) (w : World) (o : Own) (v : Value) (Q : World → Own → Prop) (e : Ending) (w' : World) : Prop := ∃ o', e = .returned v ∧ Step K w o w' o' ∧ Q w' o'
section
variable {w w' : World} {o o' : Own} {k : Nat} {S : OS} {K : Nat → Prop}
theorem POrc.lt (h : POrc w o k S) : k < w.heap.size := by obtain ⟨g, rfl, h1, _⟩ := h; exact h1.mlt _ m_p
theorem POrc.own (h : POrc w o k S) : o k = some k := by obtain ⟨g, rfl, _, h2, _⟩ := h; exact h2 _ m_p
theorem POrc.step (h : POrc w o k S) (s : Step K w o w' o') (hk : ¬ K k) : POrc w' o' k S := by
  obtain ⟨g, h0, h1, h2, h3⟩ := h
  refine ⟨g.more w w', h0, h1.foreign s.ext fun b hb ⟨j, hj, hK⟩ => h3 b hb j hj fun e => hk (e ▸ hK), fun b hb => ?_, fun b hb j hj hne => ?_⟩
  · rw [s.same b (h1.mlt b hb)]; exact h2 b hb
  · by_cases hl : b < w.heap.size
    · rw [s.same b hl] at hj; exact .inl (h3 b hl j hj hne)
    · exact .inr ⟨by omega, hb⟩
theorem own_out {g : OG} {a : Option Addr} {cs : List Value} (h2 : ∀ b, g.m b → o b = some k) (hr : Row w o a cs) : cs ≠ [] → Out g.m a := fun h0 ad ha hm => by
  have := h2 _ hm
  rw [hr.2 h0 ad ha] at this; cases this
theorem POrc.turn {g : OG} {S' : OS} (h2 : ∀ b, g.m b → o b = some g.p) (h3 : ∀ b, b < w.heap.size → ∀ j, o b = some j → j ≠ g.p → g.x b) (hl : ∀ b, g.m b → b < w.heap.size) (ok : Tags w o) (h : Orc w' g S') (X : Ext g.m w w') :
    Step (fun j => j = g.p) w o w' (grow w o) ∧ POrc w' (grow w o) g.p S' := by
  refine ⟨Step.of_ext X ok fun b hb _ => h2 b hb, g, rfl, h, fun b hb => ?_, fun b hb j hj hne => ?_⟩
  · rw [grow_lt (hl b hb)]; exact h2 b hb
  · by_cases hlt : b < w.heap.size
    · rw [grow_lt hlt] at hj; exact h3 b hlt j hj hne
    · rw [grow_ge (by omega)] at hj; cases hj
open Classical in
theorem NewO (ok : Tags w o) {a : Option Addr} {c : Nat} {l : List Int} (h : RowAt w a (l.map u64V)) (hl : l.length ≤ 1000000) :
    Calls Try.prog 7 #[.slice a l.length c] w (fun e w' => ∃ k o', e = .returned (.pointer (some (blk k))) ∧ w.heap.size ≤ k ∧ Step no w o w' o' ∧ POrc w' o' k (OS.init l)) := by
  refine (New_specX (fun b => b < w.heap.size ∧ o b ≠ none) (fun b hb => hb.1) h hl).mono fun e w' ⟨g, he, hO, hx, hg, hgx⟩ => ?_
  have hp := hg _ m_p
  refine ⟨g.p, fun b => if b < w.heap.size then o b else if g.m b then some g.p else none, he, hp.1, ⟨hx.mono fun _ h _ => h.elim, fun b hb => if_pos hb, ok, fun b j hb hj => ?_⟩, g, rfl, hO, fun b hb => ?_, fun b hb j hj hne => ?_⟩
  · by_cases hlt : b < w.heap.size
    · simp only [if_pos hlt] at hj; exact Nat.lt_of_lt_of_le (ok b j hlt hj) hx.size
    · simp only [if_neg hlt] at hj
      split at hj
      · cases hj; exact hp.2
      · cases hj
  · have := (hg b hb).1
    simp only [if_neg (by omega : ¬ b < w.heap.size), if_pos hb]
  · by_cases hlt : b < w.heap.size
    · simp only [if_pos hlt] at hj
      rw [hgx]
      exact ⟨hlt, by rw [hj]; simp⟩
    · simp only [if_neg hlt] at hj
      split at hj
      · cases hj; exact absurd rfl hne
      · cases hj
theorem HashO (h : POrc w o k S) (ok : Tags w o) (hok : S.ok) (hlen : S.used.length < 1000000) {a : Option Addr} {c : Nat} {bs : List UInt8} (hr : Row w o a (bytesV bs)) :
    Calls Try.prog 48 #[.pointer (some (blk k)), .slice a bs.length c] w (Gs (fun j => j = k) w o (u64V (hashOf S bs).1) fun w' o' => POrc w' o' k (hashOf S bs).2) := by
  obtain ⟨g, rfl, h1, h2, h3⟩ := h
  refine (Hash_spec h1 hok hlen hr.1 (own_out h2 hr)).mono fun e w' ⟨he, hO, hx⟩ => ?_
  obtain ⟨s, p⟩ := POrc.turn h2 h3 h1.mlt ok hO hx
  exact ⟨_, he, s, p⟩
theorem PairO (h : POrc w o k S) (ok : Tags w o) (hok : S.ok) (hlen : S.used.length + 1 < 1000000) :
    Calls Try.prog 8 #[.pointer (some (blk k))] w (Gs (fun j => j = k) w o (.tuple #[u64V (pairOf S).1.1, u64V (pairOf S).1.2]) fun w' o' => POrc w' o' k (pairOf S).2) := by
  obtain ⟨g, rfl, h1, h2, h3⟩ := h
  refine (Pair_spec h1 hok hlen).mono fun e w' ⟨he, hO, hx⟩ => ?_
  obtain ⟨s, p⟩ := POrc.turn h2 h3 h1.mlt ok hO hx
  exact ⟨_, he, s, p⟩
theorem SignO (h : POrc w o k S) (ok : Tags w o) (hok : S.ok) (hlen : S.used.length < 1000000) (s : Int) {a : Option Addr} {c : Nat} {bs : List UInt8} (hr : Row w o a (bytesV bs)) :
    Calls Try.prog 55 #[.pointer (some (blk k)), .int .u64 s, .slice a bs.length c] w (Gs (fun j => j = k) w o (.tuple #[u64V (signOf S s bs).1.1, .int .i64 (if (signOf S s bs).1.2 then 0 else 11)]) fun w' o' => POrc w' o' k (signOf S s bs).2) := by
  obtain ⟨g, rfl, h1, h2, h3⟩ := h
  refine (Sign_spec h1 hok hlen s hr.1 (own_out h2 hr)).mono fun e w' ⟨he, hO, hx⟩ => ?_
  obtain ⟨s, p⟩ := POrc.turn h2 h3 h1.mlt ok hO hx
  exact ⟨_, he, s, p⟩
theorem VerifyO (h : POrc w o k S) (ok : Tags w o) (p x : Int) {a : Option Addr} {c : Nat} {bs : List UInt8} (hr : Row w o a (bytesV bs)) :
    Calls Try.prog 76 #[.pointer (some (blk k)), .int .u64 p, .slice a bs.length c, .int .u64 x] w (Ret (.bool (verifyOf S p bs x)) fun w' => Ext no w w') := by
  obtain ⟨g, rfl, h1, h2, h3⟩ := h
  exact (Verify_spec h1 p x hr.1).mono fun e w' ⟨he, hx⟩ => ⟨he, hx⟩
end
end Go.Proofs.Ytdelmfpchbpafaa

/- Wire: numbers that are written and read, what a reader has left. -/
set_option linter.unusedVariables false
set_option linter.unusedSimpArgs false
set_option maxRecDepth 20000
namespace Go.Proofs.Ytdelmfpchbpafaa.W
open Go Go.Mx Go.Proofs
theorem follows : Try.prog.follows .mixedOrders = true := by kernel_rfl
/-- slices.Clone[[]byte,byte] -/
def wClone.M (a1 : Option Addr) (a6 : Nat) (a7 : Nat) (R : Value → World → Prop) (w : World) : Prop :=
 bif Option.isNone a1 then (
 R (.slice none 0 0) w) else (
 thenW (w.alloc (.cells #[] 5)) fun a5 =>
 ∃ (a2 : Option Addr) (a3 : Nat) (a0 : Nat) (a4 : World), (Builtin.append_ #[43, 43] 43 #[.slice (some (blk w.heap.size)) 0 0, .slice a1 a6 a7]).run Try.prog a5 = .ok (.slice a2 a3 a0) a4 ∧
 R (.slice a2 a3 a0) a4)

theorem wClone.eq (s1a : Option Addr) (s1n : Nat) (s1c : Nat) (R : Value → World → Prop) (w : World) : mfunc Try.prog [] 68 [.slice s1a s1n s1c] R w = wClone.M s1a s1n s1c R w := by kernel_rfl
theorem wClone.ok (a1 : Option Addr) (a0 : Nat) (a2 : Nat) {R : Value → World → Prop} {w : World} (h : wClone.M a1 a0 a2 R w) : Calls Try.prog 68 #[.slice a1 a0 a2] w fun e w' => ∃ v, e = .returned v ∧ R v w' :=
  mfunc_ok follows (H := []) (args := [.slice a1 a0 a2]) (by rw [wClone.eq]; exact h)

/-- wire.Num -/
def wNum.M (ai : Option Addr) (ak : Nat) (al : Nat) (n2 : Int) (R : Value → World → Prop) (w : World) : Prop :=
 Calls Try.prog 68 #[.slice ai ak al] w fun am aj => ∃ (a3 : Option Addr) (a5 : Nat) (a4 : Nat), am = .returned (.slice a3 a5 a4) ∧
 ∃ (I0 : Nat → List Value → World → Prop) (m8 : Nat), I0 m8 [.int .u64 n2, .slice a3 a5 a4] aj ∧ ∀ (m9 : Nat) (a6 : World) (n6 : Int) (a1 : Option Addr) (a0 : Nat) (a2 : Nat), I0 m9 [.int .u64 n6, .slice a1 a0 a2] a6 →
 bif decide (n6 ≥ 128) then (
 thenW (a6.alloc (.cells #[.int .u8 (IntKind.u8.wrap ((BitVec.ofInt (IntKind.bits .u8) (IntKind.u8.wrap n6) ||| BitVec.ofInt (IntKind.bits .u8) 128).toNat))] 5)) fun af =>
 ∃ (a8 : Option Addr) (ac : Nat) (ad : Nat) (aa : World), (Builtin.append_ #[43, 43] 43 #[.slice a1 a0 a2, .slice (some (blk a6.heap.size)) 1 1]).run Try.prog af = .ok (.slice a8 ac ad) aa ∧
 0 ≤ (7 : Int) ∧
 ∃ ah, ah < m9 ∧ I0 ah [.int .u64 (Int.fdiv n6 (2 ^ (min (Int.toNat 7) (IntKind.bits .u64)))), .slice a8 ac ad] aa) else (
 thenW (a6.alloc (.cells #[.int .u8 (IntKind.u8.wrap n6)] 5)) fun ag =>
 ∃ (a7 : Option Addr) (a9 : Nat) (ab : Nat) (ae : World), (Builtin.append_ #[43, 43] 43 #[.slice a1 a0 a2, .slice (some (blk a6.heap.size)) 1 1]).run Try.prog ag = .ok (.slice a7 a9 ab) ae ∧
 R (.slice a7 a9 ab) ae)

theorem wNum.eq (b1a : Option Addr) (b1n : Nat) (b1c : Nat) (n2 : Int) (R : Value → World → Prop) (w : World) : mfunc Try.prog [(0, [], [(1, (.one (.int .u64))), (5, (.one .slice))])] 64 [.slice b1a b1n b1c, .int .u64 n2] R w = wNum.M b1a b1n b1c n2 R w := by kernel_rfl
theorem wNum.ok (a0 : Option Addr) (a1 : Nat) (a2 : Nat) (n2 : Int) {R : Value → World → Prop} {w : World} (h : wNum.M a0 a1 a2 n2 R w) : Calls Try.prog 64 #[.slice a0 a1 a2, .int .u64 n2] w fun e w' => ∃ v, e = .returned v ∧ R v w' :=
  mfunc_ok follows (H := [(0, [], [(1, (.one (.int .u64))), (5, (.one .slice))])]) (args := [.slice a0 a1 a2, .int .u64 n2]) (by rw [wNum.eq]; exact h)

theorem infU8 : (Try.prog.info? 5).map (fun i => (i.zero, i.size, i.bytes)) = some (some (.int .u8 0), 1, 1) := by kernel_rfl
def GivesW (v : Value) (Q : World → Prop) (e : Ending) (w' : World) : Prop := e = .returned v ∧ Q w'

/-- bytes in a row of one's own, from block N on. -/
structure OwnB (N : Nat) (w : World) (a : Option Addr) (c : Nat) (bs : List UInt8) : Prop where
  own : w.ownsRow 0 5 1 (.slice a bs.length c) bs.length (bytesV bs)
  fr : ∀ ad, a = some ad → N ≤ ad.block ∧ ad.block < w.heap.size
section
variable {w w' : World} {a : Option Addr} {c N : Nat} {bs : List UInt8}
theorem OwnB.row (h : OwnB N w a c bs) : RowAt w a (bytesV bs) := by
  obtain ⟨_, _, hv, hr⟩ := RowAt.of_owns h.own
  cases hv; exact hr
theorem OwnB.le (h : OwnB N w a c bs) : bs.length ≤ c := (own_fresh h.own).1
theorem OwnB.ext {m : Nat → Prop} (h : OwnB N w a c bs) (k : Ext m w w') (hm : ∀ ad, a = some ad → ¬ m ad.block) : OwnB N w' a c bs := by
  refine ⟨⟨h.own.1, ?_⟩, fun ad ha => ⟨(h.fr ad ha).1, Nat.lt_of_lt_of_le (h.fr ad ha).2 k.size⟩⟩
  rcases h.own.2 with h2 | ⟨g, cap, cur, hv, hb, hg, hr⟩
  · exact .inl h2
  · have ha : a = some ⟨g, 0, none⟩ := by cases hv; rfl
    exact .inr ⟨g, cap, cur, hv, hb, k.get hg (hm _ ha), hr⟩
theorem OwnB.no (h : OwnB N w a c bs) (k : Ext no w w') : OwnB N w' a c bs := h.ext k fun _ _ h => h
theorem OwnB.nil (N : Nat) (w : World) : OwnB N w none 0 [] := ⟨⟨by simp [bytesV], .inl ⟨rfl, rfl⟩⟩, fun ad ha => by cases ha⟩
/-- 'append(out, x...)'. -/
theorem OwnB.append {t ty : TypeId} (ht : Try.prog.underlying t = some (.slice 5)) (h : OwnB N w a c bs) (hN : N ≤ w.heap.size) {xa : Option Addr} {xc : Nat} {xs : List UInt8} (hx : RowAt w xa (bytesV xs)) (hl : bs.length + xs.length ≤ 100000000) :
    ∃ a' c' w', (Builtin.append_ #[t, t] ty #[.slice a bs.length c, .slice xa xs.length xc]).run Try.prog w = .ok (.slice a' (bs ++ xs).length c') w' ∧ OwnB N w' a' c' (bs ++ xs) ∧ Ext (fun b => N ≤ b) w w' := by
  obtain ⟨i, hi, hz, hs, hb⟩ := info_of infU8
  obtain ⟨a', c', w', hr, ho, hg, hbk⟩ := run_append (ty := ty) ht hi hz hs hb rfl (by decide) h.own (xa := xa) (m := xs.length) (c := xc) (by rw [bytesV_length]; omega) hx (bytesV_one xs) (by omega) (by omega)
  have hrow : ∀ q, (Value.slice a bs.length c).ownBlock = some q → N ≤ q := fun q hq => by
    cases a with
    | none => simp [Value.ownBlock] at hq
    | some ad => simp only [Value.ownBlock, Option.some.injEq] at hq; subst hq; exact (h.fr ad rfl).1
  refine ⟨a', c', w', by rw [List.length_append]; exact hr, ⟨by rw [List.length_append, show bytesV (bs ++ xs) = bytesV bs ++ bytesV xs by simp [bytesV]]; exact ho, fun ad ha => ⟨?_, (own_fresh ho).2 ad ha⟩⟩, Ext.of_grown hg fun q hq => .inl (hrow q hq)⟩
  subst ha
  rcases hbk with hq | hq
  · exact hrow _ hq.symm
  · simp only [Value.ownBlock, Option.some.injEq] at hq; omega
theorem clone_spec (h : RowAt w a (bytesV bs)) (hl : bs.length ≤ 1000000) :
    Calls Try.prog 68 #[.slice a bs.length c] w (fun e w' => ∃ a' c', e = .returned (.slice a' bs.length c') ∧ OwnB w.heap.size w' a' c' bs ∧ Ext no w w') := by
  refine (wClone.ok a bs.length c (R := fun v w' => ∃ a' c', v = (.slice a' bs.length c') ∧ OwnB w.heap.size w' a' c' bs ∧ Ext no w w') ?_).mono fun e w' ⟨v, he, a', c', hv, hw⟩ => ⟨a', c', by rw [he, hv], hw⟩
  unfold wClone.M
  cases a with
  | none =>
    have : bs = [] := by simpa [bytesV] using h.none_nil
    subst this
    exact ⟨none, 0, rfl, OwnB.nil _ _, Ext.refl _ _⟩
  | some ad =>
    rw [Option.isNone_some, cond_false]
    refine thenW_in fun w2 hw2 => ?_
    subst hw2
    obtain ⟨i, hi, hz, hs, hb⟩ := info_of infU8
    obtain ⟨a', c', w', hr, h1, h2, h3, h4, h5⟩ := clone_owns (c := c) (m := bs.length) (ty := 43) Try.underlying43 hi hz hs hb rfl (bytesV_length bs) h (bytesV_one bs) (by omega) (by omega)
    exact ⟨a', bs.length, c', w', hr, a', c', rfl, ⟨h2, h5⟩, h4⟩
/-- wire.Num: the bytes, and the number's behind them. -/
theorem Num_spec (h : RowAt w a (bytesV bs)) (hl : bs.length ≤ 1000000) {n : Nat} (hn : n < 18446744073709551616) :
    Calls Try.prog 64 #[.slice a bs.length c, .int .u64 n] w (fun e w' => ∃ a' c', e = .returned (.slice a' (bs ++ numL n).length c') ∧ OwnB w.heap.size w' a' c' (bs ++ numL n) ∧ Ext no w w') := by
  refine (wNum.ok _ _ _ _ (R := fun v w' => ∃ a' c', v = (.slice a' (bs ++ numL n).length c') ∧ OwnB w.heap.size w' a' c' (bs ++ numL n) ∧ Ext no w w') ?_).mono fun e w' ⟨v, he, a', c', hv, hw⟩ => ⟨a', c', by rw [he, hv], hw⟩
  unfold wNum.M
  refine (clone_spec h hl).mono fun e w5 ⟨a5, c5, he, ho5, hx5⟩ => ⟨a5, _, c5, he, ?_⟩
  refine ⟨fun k vs w1 => ∃ (m : Nat) (l : List UInt8) (a1 : Option Addr) (c1 : Nat), vs = [.int .u64 m, .slice a1 l.length c1] ∧ m < 128 ^ k ∧ m < 18446744073709551616 ∧ 0 < k ∧ k ≤ 10 ∧ l ++ numF k m = bs ++ numL n ∧ l.length + k ≤ bs.length + 10 ∧ OwnB w.heap.size w1 a1 c1 l ∧ Ext no w w1, 10,
    ⟨n, bs, a5, c5, rfl, by omega, hn, by decide, by decide, rfl, by omega, ho5, hx5⟩, ?_⟩
  rintro k w1 m0 a0 n0 c0 ⟨m, l, a1, c1, hvs, hm, hm64, hk0, hk10, hl2, hlen, ho, hx⟩
  simp only [List.cons.injEq, Value.int.injEq, Value.slice.injEq, true_and, and_true] at hvs
  obtain ⟨rfl, rfl, rfl, rfl⟩ := hvs
  obtain ⟨k, rfl⟩ : ∃ q, k = q + 1 := ⟨k - 1, by omega⟩
  simp only [numF] at hl2
  by_cases h1 : m < 128
  · rw [show decide ((m : Int) ≥ 128) = false by simp; omega, cond_false]
    rw [if_pos h1] at hl2
    refine thenW_in fun w15 h15 => ?_
    have e15 : Ext no w1 w15 := by subst h15; exact (Ext.refl _ _).alloc _
    have hv : IntKind.u8.wrap (m : Int) = ((UInt8.ofNat m).toNat : Int) := by rw [wu8 (by omega) (by omega), ofNat_lt (by omega)]
    have hb15 : Blk w15 w1.heap.size 5 (bytesV [UInt8.ofNat m]) := by subst h15; rw [hv]; exact Blk.new _ _ _
    obtain ⟨a', c', w17, hr, ho17, hx17⟩ := (ho.no e15).append (t := 43) (ty := 43) Try.underlying43 (Nat.le_trans hx.size e15.size) (xc := 1) (RowAt.of_blk hb15) (by simp; omega)
    refine ⟨a', _, c', w17, hr, a', c', by rw [hl2], by rw [← hl2]; exact ho17, (hx.trans e15).then hx17 fun b hb => .inr hb⟩
  · rw [show decide ((m : Int) ≥ 128) = true by simp; omega, cond_true]
    rw [if_neg h1] at hl2
    refine thenW_in fun w15 h15 => ?_
    have e15 : Ext no w1 w15 := by subst h15; exact (Ext.refl _ _).alloc _
    have hb15 : Blk w15 w1.heap.size 5 (bytesV [UInt8.ofNat (m % 128 + 128)]) := by subst h15; rw [or128]; exact Blk.new _ _ _
    obtain ⟨a', c', w17, hr, ho17, hx17⟩ := (ho.no e15).append (t := 43) (ty := 43) Try.underlying43 (Nat.le_trans hx.size e15.size) (xc := 1) (RowAt.of_blk hb15) (by simp; omega)
    have hdiv : Int.fdiv (m : Int) (2 ^ (min (Int.toNat 7) (IntKind.bits .u64))) = ((m / 128 : Nat) : Int) := by
      rw [show min (Int.toNat 7) (IntKind.bits .u64) = 7 from rfl, Int.fdiv_eq_ediv_of_nonneg _ (by decide)]; omega
    have hkk : 0 < k := Nat.pos_of_ne_zero fun e => by subst e; simp at hm; omega
    refine ⟨a', _, c', w17, hr, by decide, k, by omega, m / 128, l ++ [UInt8.ofNat (m % 128 + 128)], a', c', by rw [hdiv], by rw [Nat.pow_succ] at hm; omega, by omega, hkk, by omega, by rw [← hl2]; simp, by simp; omega, ho17, (hx.trans e15).then hx17 fun b hb => .inr hb⟩

/-! ### a reader -/
variable {p : Nat} {k : Int}
end
end Go.Proofs.Ytdelmfpchbpafaa.W

/- Wire: the numbers of a reader. -/
set_option linter.unusedVariables false
set_option linter.unusedSimpArgs false
set_option maxRecDepth 20000
namespace Go.Proofs.Ytdelmfpchbpafaa.W
open Go Go.Mx Go.Proofs
section
variable {w w' : World} {p : Nat} {bs : List UInt8} {k : Int}
/-- Num of a reader: the number, and what the reader then has. -/
def numR (s : List UInt8 × Int) : Nat × (List UInt8 × Int) :=
  if s.2 = 0 then (match rdNum s.1 with | some (n, r) => (n, (r, 0)) | none => (0, ([], 4))) else (0, s)
/-- Count: a number that is not above so much. -/
def countR (m : Int) (s : List UInt8 × Int) : Nat × (List UInt8 × Int) :=
  if (numR s).2.2 = 0 then (if m < 0 ∨ ((numR s).1 : Int) > m then (0, ([], 3)) else numR s) else (0, (numR s).2)
def doneR (s : List UInt8 × Int) : Int := if s.2 = 0 then (if s.1.length > 0 then 4 else 0) else s.2
end
end Go.Proofs.Ytdelmfpchbpafaa.W

/- Wire: whole numbers with a sign, bytes with their length. -/
set_option linter.unusedVariables false
set_option linter.unusedSimpArgs false
set_option maxRecDepth 20000
namespace Go.Proofs.Ytdelmfpchbpafaa.W
open Go Go.Mx Go.Proofs
/-- wire.Int -/
def wInt.M (a5 : Option Addr) (a6 : Nat) (a7 : Nat) (n2 : Int) (R : Value → World → Prop) (w : World) : Prop :=
 0 ≤ (1 : Int) ∧
 0 ≤ (63 : Int) ∧
 Calls Try.prog 64 #[.slice a5 a6 a7, .int .u64 (IntKind.u64.wrap ((BitVec.ofInt (IntKind.bits .u64) (IntKind.u64.wrap ((IntKind.u64.wrap n2) * 2 ^ (min (Int.toNat 1) (IntKind.bits .u64)))) ^^^ BitVec.ofInt (IntKind.bits .u64) (IntKind.u64.wrap (Int.fdiv n2 (2 ^ (min (Int.toNat 63) (IntKind.bits .i64)))))).toNat))] w fun a4 a3 => ∃ (a2 : Option Addr) (a1 : Nat) (a0 : Nat), a4 = .returned (.slice a2 a1 a0) ∧
 R (.slice a2 a1 a0) a3

theorem wInt.eq (b1a : Option Addr) (b1n : Nat) (b1c : Nat) (n2 : Int) (R : Value → World → Prop) (w : World) : mfunc Try.prog [] 79 [.slice b1a b1n b1c, .int .i64 n2] R w = wInt.M b1a b1n b1c n2 R w := by kernel_rfl
theorem wInt.ok (a0 : Option Addr) (a1 : Nat) (a2 : Nat) (n2 : Int) {R : Value → World → Prop} {w : World} (h : wInt.M a0 a1 a2 n2 R w) : Calls Try.prog 79 #[.slice a0 a1 a2, .int .i64 n2] w fun e w' => ∃ v, e = .returned v ∧ R v w' :=
  mfunc_ok follows (H := []) (args := [.slice a0 a1 a2, .int .i64 n2]) (by rw [wInt.eq]; exact h)

/-- wire.Bytes -/
def wBytes.M (ab : Option Addr) (ac : Nat) (ad : Nat) (a9 : Option Addr) (a3 : Nat) (ae : Nat) (R : Value → World → Prop) (w : World) : Prop :=
 Calls Try.prog 64 #[.slice ab ac ad, .int .u64 (IntKind.u64.wrap (a3 : Int))] w fun aa a8 => ∃ (a2 : Option Addr) (a1 : Nat) (a0 : Nat), aa = .returned (.slice a2 a1 a0) ∧
 ∃ (a4 : Option Addr) (a5 : Nat) (a7 : Nat) (a6 : World), (Builtin.append_ #[43, 43] 43 #[.slice a2 a1 a0, .slice a9 a3 ae]).run Try.prog a8 = .ok (.slice a4 a5 a7) a6 ∧
 R (.slice a4 a5 a7) a6

theorem wBytes.eq (b1a : Option Addr) (b1n : Nat) (b1c : Nat) (x2a : Option Addr) (x2n : Nat) (x2c : Nat) (R : Value → World → Prop) (w : World) : mfunc Try.prog [] 81 [.slice b1a b1n b1c, .slice x2a x2n x2c] R w = wBytes.M b1a b1n b1c x2a x2n x2c R w := by kernel_rfl
theorem wBytes.ok (a2 : Option Addr) (a3 : Nat) (a4 : Nat) (a1 : Option Addr) (a0 : Nat) (a5 : Nat) {R : Value → World → Prop} {w : World} (h : wBytes.M a2 a3 a4 a1 a0 a5 R w) : Calls Try.prog 81 #[.slice a2 a3 a4, .slice a1 a0 a5] w fun e w' => ∃ v, e = .returned v ∧ R v w' :=
  mfunc_ok follows (H := []) (args := [.slice a2 a3 a4, .slice a1 a0 a5]) (by rw [wBytes.eq]; exact h)

/-- a number with a sign, as one without. -/
def zig (n : Int) : Nat := if 0 ≤ n then (2 * n).toNat else (-2 * n - 1).toNat
def unzig (m : Nat) : Int := if m % 2 = 0 then (m / 2 : Nat) else -((m / 2 : Nat) : Int) - 1
theorem unzig_zig (n : Int) : unzig (zig n) = n := by
  unfold unzig zig
  by_cases h : 0 ≤ n
  · rw [if_pos h, if_pos (by omega)]; omega
  · rw [if_neg h, if_neg (by omega)]; omega
theorem zig_bits {n : Int} (h0 : -9223372036854775808 ≤ n) (h1 : n < 9223372036854775808) :
    IntKind.u64.wrap ((BitVec.ofInt (IntKind.bits .u64) (IntKind.u64.wrap ((IntKind.u64.wrap n) * 2 ^ (min (Int.toNat 1) (IntKind.bits .u64)))) ^^^ BitVec.ofInt (IntKind.bits .u64) (IntKind.u64.wrap (Int.fdiv n (2 ^ (min (Int.toNat 63) (IntKind.bits .i64)))))).toNat : Int) = ((zig n : Nat) : Int) := by
  rw [show min (Int.toNat 1) (IntKind.bits .u64) = 1 from rfl, show min (Int.toNat 63) (IntKind.bits .i64) = 63 from rfl, show IntKind.bits .u64 = 64 from rfl, Int.fdiv_eq_ediv_of_nonneg _ (by decide)]
  unfold zig
  by_cases h : 0 ≤ n
  · rw [if_pos h, wu64 (n := n) h (by omega), show n / 2 ^ 63 = 0 by omega, wu64 (n := n * 2 ^ 1) (by omega) (by omega), wu64 (n := 0) (by decide) (by decide)]
    obtain ⟨m, rfl⟩ : ∃ m : Nat, n = m := ⟨n.toNat, by omega⟩
    rw [show ((m : Int) * 2 ^ 1) = ((m * 2 : Nat) : Int) by omega, BitVec.ofInt_natCast, show BitVec.ofInt 64 0 = 0#64 from rfl, BitVec.xor_zero, BitVec.toNat_ofNat, Nat.mod_eq_of_lt (by omega), wu64 (by omega) (by omega)]
    omega
  · rw [if_neg h, show n / 2 ^ 63 = -1 by omega]
    have e1 : IntKind.u64.wrap (-1) = ((18446744073709551615 : Nat) : Int) := by rw [IntKind.wrap_u64]; rfl
    have e2 : IntKind.u64.wrap (IntKind.u64.wrap n * 2 ^ 1) = (((18446744073709551616 + 2 * n).toNat : Nat) : Int) := by rw [IntKind.wrap_u64, IntKind.wrap_u64]; omega
    rw [e1, e2, BitVec.ofInt_natCast, BitVec.ofInt_natCast, show BitVec.ofNat 64 18446744073709551615 = BitVec.allOnes 64 from rfl, BitVec.xor_allOnes, BitVec.toNat_not, BitVec.toNat_ofNat, Nat.mod_eq_of_lt (by omega), wu64 (by omega) (by omega)]
    omega
theorem zig_lt {n : Int} (h0 : -9223372036854775808 ≤ n) (h1 : n < 9223372036854775808) : zig n < 18446744073709551616 := by
  unfold zig; split <;> omega
section
variable {w w' : World} {a : Option Addr} {c N p : Nat} {bs : List UInt8} {k : Int}
theorem Int_spec (h : RowAt w a (bytesV bs)) (hl : bs.length ≤ 1000000) {n : Int} (h0 : -9223372036854775808 ≤ n) (h1 : n < 9223372036854775808) :
    Calls Try.prog 79 #[.slice a bs.length c, .int .i64 n] w (fun e w' => ∃ a' c', e = .returned (.slice a' (bs ++ numL (zig n)).length c') ∧ OwnB w.heap.size w' a' c' (bs ++ numL (zig n)) ∧ Ext no w w') := by
  refine (wInt.ok _ _ _ _ (R := fun v w' => ∃ a' c', v = (.slice a' (bs ++ numL (zig n)).length c') ∧ OwnB w.heap.size w' a' c' (bs ++ numL (zig n)) ∧ Ext no w w') ?_).mono fun e w' ⟨v, he, a', c', hv, hw⟩ => ⟨a', c', by rw [he, hv], hw⟩
  unfold wInt.M
  refine ⟨by decide, by decide, ?_⟩
  rw [zig_bits h0 h1]
  exact (Num_spec h hl (zig_lt h0 h1)).mono fun e w5 ⟨a', c', he, hO, hx⟩ => ⟨a', _, c', he, a', c', rfl, hO, hx⟩
theorem Bytes_spec (h : RowAt w a (bytesV bs)) (hl : bs.length ≤ 1000000) {xa : Option Addr} {xc : Nat} {xs : List UInt8} (hx : RowAt w xa (bytesV xs)) (hxl : xs.length ≤ 1000000) :
    Calls Try.prog 81 #[.slice a bs.length c, .slice xa xs.length xc] w (fun e w' => ∃ a' c', e = .returned (.slice a' (bs ++ numL xs.length ++ xs).length c') ∧ OwnB w.heap.size w' a' c' (bs ++ numL xs.length ++ xs) ∧ Ext no w w') := by
  refine (wBytes.ok _ _ _ _ _ _ (R := fun v w' => ∃ a' c', v = (.slice a' (bs ++ numL xs.length ++ xs).length c') ∧ OwnB w.heap.size w' a' c' (bs ++ numL xs.length ++ xs) ∧ Ext no w w') ?_).mono fun e w' ⟨v, he, a', c', hv, hw⟩ => ⟨a', c', by rw [he, hv], hw⟩
  unfold wBytes.M
  rw [wu64 (n := (xs.length : Int)) (by omega) (by omega)]
  refine (Num_spec h hl (by omega)).mono fun e w5 ⟨a5, c5, he, hO, hx5⟩ => ⟨a5, _, c5, he, ?_⟩
  have hnl : (numL xs.length).length ≤ 10 := numF_le 10 _
  obtain ⟨a', c', w7, hr, hO7, hx7⟩ := hO.append (t := 43) (ty := 43) Try.underlying43 hx5.size (xc := xc) (hx.no hx5) (by rw [List.length_append]; omega)
  exact ⟨a', _, c', w7, hr, a', c', rfl, hO7, hx5.then hx7 fun b hb => .inr hb⟩
def intR (s : List UInt8 × Int) : Int × (List UInt8 × Int) := (unzig (numR s).1, (numR s).2)
end
end Go.Proofs.Ytdelmfpchbpafaa.W

/- The reference's numbers, bytes and reader; bytes held beside each other. -/
set_option linter.unusedVariables false
set_option linter.unusedSimpArgs false
set_option maxRecDepth 20000
namespace Go.Proofs.Ytdelmfpchbpafaa.W
open Go Go.Mx Go.Proofs
/-- cachetteref01.Same -/
def wSame.M (a6 : Option Addr) (a1 : Nat) (ab : Nat) (a9 : Option Addr) (a5 : Nat) (aa : Nat) (R : Value → World → Prop) (w : World) : Prop :=
 bif (a1 : Int) != (a5 : Int) then (
 R (.bool false) w) else (
 ∃ (I0 : Nat → List Value → World → Prop) (m4 : Nat), I0 m4 [.int .i64 0] w ∧ ∀ (m5 : Nat) (a2 : World) (i3 : Int), I0 m5 [.int .i64 i3] a2 →
 bif decide (i3 < (a1 : Int)) then (
 thenW (a2.drew) fun a0 =>
 a6.elim False fun a8 =>
 0 ≤ (i3 : Int) ∧ (i3 : Int) < (a1 : Int) ∧
 ∃ (x9 : Int), a0.cell? (a8.add (Int.toNat i3 * 1)) = some (.int .u8 x9) ∧
 a9.elim False fun a7 =>
 0 ≤ (i3 : Int) ∧ (i3 : Int) < (a5 : Int) ∧
 ∃ (a3 : Int), a0.cell? (a7.add (Int.toNat i3 * 1)) = some (.int .u8 a3) ∧
 bif x9 != a3 then (
 R (.bool false) a0) else (
 ∃ a4, a4 < m5 ∧ I0 a4 [.int .i64 (IntKind.i64.wrap (i3 + 1))] a0)) else (
 R (.bool true) a2))

theorem wSame.eq (a1a : Option Addr) (a1n : Nat) (a1c : Nat) (b2a : Option Addr) (b2n : Nat) (b2c : Nat) (R : Value → World → Prop) (w : World) : mfunc Try.prog [(0, [0, 1], [(5, (.one (.int .i64)))])] 41 [.slice a1a a1n a1c, .slice b2a b2n b2c] R w = wSame.M a1a a1n a1c b2a b2n b2c R w := by kernel_rfl
theorem wSame.ok (a0 : Option Addr) (a4 : Nat) (a3 : Nat) (a2 : Option Addr) (a5 : Nat) (a1 : Nat) {R : Value → World → Prop} {w : World} (h : wSame.M a0 a4 a3 a2 a5 a1 R w) : Calls Try.prog 41 #[.slice a0 a4 a3, .slice a2 a5 a1] w fun e w' => ∃ v, e = .returned v ∧ R v w' :=
  mfunc_ok follows (H := [(0, [0, 1], [(5, (.one (.int .i64)))])]) (args := [.slice a0 a4 a3, .slice a2 a5 a1]) (by rw [wSame.eq]; exact h)

/-- cachetteref01.Num -/
def rNum.M (n1 : Int) (R : Value → World → Prop) (w : World) : Prop :=
 bif decide (n1 < 128) then (
 thenW (w.alloc (.cells #[.int .u8 (IntKind.u8.wrap n1)] 5)) fun a8 =>
 R (.slice (some (blk w.heap.size)) 1 1) a8) else (
 128 ≠ (0 : Int) ∧ thenW (w.alloc (.cells #[.int .u8 (IntKind.u8.wrap ((IntKind.u8.wrap (Int.tmod n1 128)) + 128))] 5)) fun a9 =>
 128 ≠ (0 : Int) ∧ Calls Try.prog 71 #[.int .u64 (IntKind.u64.wrap (Int.tdiv n1 128))] a9 fun a7 aa => ∃ (a1 : Option Addr) (a2 : Nat) (a0 : Nat), a7 = .returned (.slice a1 a2 a0) ∧
 ∃ (a4 : Option Addr) (a5 : Nat) (a3 : Nat) (a6 : World), (Builtin.append_ #[43, 43] 43 #[.slice (some (blk w.heap.size)) 1 1, .slice a1 a2 a0]).run Try.prog aa = .ok (.slice a4 a5 a3) a6 ∧
 R (.slice a4 a5 a3) a6)

theorem rNum.eq (n1 : Int) (R : Value → World → Prop) (w : World) : mfunc Try.prog [] 71 [.int .u64 n1] R w = rNum.M n1 R w := by kernel_rfl
theorem rNum.ok (n1 : Int) {R : Value → World → Prop} {w : World} (h : rNum.M n1 R w) : Calls Try.prog 71 #[.int .u64 n1] w fun e w' => ∃ v, e = .returned v ∧ R v w' :=
  mfunc_ok follows (H := []) (args := [.int .u64 n1]) (by rw [rNum.eq]; exact h)

theorem numL_le (n : Nat) : (numL n).length ≤ 10 := numF_le 10 n
theorem numF_more : ∀ (k m : Nat), m < 128 ^ k → 0 < k → numF (k + 1) m = numF k m
  | k + 1, m, h, _ => by
    by_cases h1 : m < 128
    · rw [numF, if_pos h1, numF, if_pos h1]
    · rw [numF, if_neg h1]
      conv => rhs; rw [numF, if_neg h1]
      have hk : 0 < k := Nat.pos_of_ne_zero fun e => by subst e; simp at h; omega
      rw [numF_more k (m / 128) (by rw [Nat.pow_succ] at h; omega) hk]
theorem numL_step {n : Nat} (h : n < 18446744073709551616) (h1 : ¬ n < 128) : numL n = UInt8.ofNat (n % 128 + 128) :: numL (n / 128) := by
  unfold numL
  rw [numF, if_neg h1, numF_more 9 (n / 128) (by omega) (by decide)]
section
variable {w w' : World} {a : Option Addr} {c : Nat}
theorem sameB_spec {a b : Option Addr} {c d : Nat} {x y : List UInt8} (ha : RowAt w a (bytesV x)) (hb : RowAt w b (bytesV y)) (hx : x.length < 1000000) :
    Calls Try.prog 41 #[.slice a x.length c, .slice b y.length d] w (GivesW (.bool (decide (x = y))) fun w' => Ext no w w') := by
  refine (wSame.ok _ _ _ _ _ _ (R := fun v w' => v = .bool (decide (x = y)) ∧ Ext no w w') ?_).mono fun e w' ⟨v, he, hv, hw⟩ => ⟨by rw [he, hv], hw⟩
  unfold wSame.M
  by_cases hl : x.length = y.length
  · have hl' : ((x.length : Int) != (y.length : Int)) = false := by simp [hl]
    rw [hl', cond_false]
    refine ⟨fun k vs w1 => ∃ i : Nat, vs = [.int .i64 i] ∧ k = x.length - i ∧ i ≤ x.length ∧ x.take i = y.take i ∧ Ext no w w1, x.length, ⟨0, rfl, rfl, Nat.zero_le _, rfl, Ext.refl _ _⟩, ?_⟩
    rintro k w1 i3 ⟨i, hi, rfl, hle, ht, hw⟩
    simp only [List.cons.injEq, Value.int.injEq, true_and, and_true] at hi
    subst hi
    by_cases hlt : i < x.length
    · have hd : decide ((i : Int) < (x.length : Int)) = true := by simp [hlt]
      rw [hd, cond_true]
      refine thenW_in fun w7 h7 => ?_
      have hw7 : Ext no w w7 := hw.trans (by subst h7; exact (Ext.refl _ _).drew)
      have hi2 : i < y.length := hl ▸ hlt
      have hax := ha.ext hw7 (fun _ _ h => h)
      have hby := hb.ext hw7 (fun _ _ h => h)
      obtain ⟨ad, rfl⟩ := hax.addr (by intro e; rw [bytesV, List.map_eq_nil_iff] at e; subst e; simp at hlt)
      obtain ⟨bd, rfl⟩ := hby.addr (by intro e; rw [bytesV, List.map_eq_nil_iff] at e; subst e; simp at hi2)
      refine ⟨by omega, by omega, x[i].toNat, ?_, by omega, by omega, y[i].toNat, ?_, ?_⟩
      · rw [show Int.toNat (i : Int) * 1 = i by omega]; exact hax.at_ (bytesV_get hlt)
      · rw [show Int.toNat (i : Int) * 1 = i by omega]; exact hby.at_ (bytesV_get hi2)
      · by_cases he : x[i] = y[i]
        · have h1 : ((x[i].toNat : Int) != (y[i].toNat : Int)) = false := by simp [he]
          rw [h1, cond_false]
          refine ⟨x.length - (i + 1), by omega, i + 1, by rw [w64 (by omega) (by omega)]; rfl, rfl, by omega, ?_, hw7⟩
          rw [List.take_add_one, List.take_add_one, ht]; simp [hlt, hi2, he]
        · have h1 : ((x[i].toNat : Int) != (y[i].toNat : Int)) = true := by
            simp only [bne_iff_ne, ne_eq, Int.natCast_inj, UInt8.toNat_inj]; exact he
          rw [h1, cond_true]
          exact ⟨by rw [decide_eq_false]; rintro rfl; exact he rfl, hw7⟩
    · have hd : decide ((i : Int) < (x.length : Int)) = false := by simp; omega
      rw [hd, cond_false]
      obtain rfl : i = x.length := by omega
      refine ⟨?_, hw⟩
      have : x = y := by
        rw [List.take_length] at ht
        rw [hl, List.take_length] at ht
        exact ht
      simp [this]
  · have hl' : ((x.length : Int) != (y.length : Int)) = true := by simp; omega
    rw [hl', cond_true]
    exact ⟨by rw [decide_eq_false]; rintro rfl; exact hl rfl, Ext.refl _ _⟩
theorem rNum_spec : ∀ (n : Nat) (w : World), n < 18446744073709551616 → Calls Try.prog 71 #[.int .u64 n] w (fun e w' => ∃ a' c', e = .returned (.slice a' (numL n).length c') ∧ OwnB w.heap.size w' a' c' (numL n) ∧ Ext no w w') := by
  intro n
  induction n using Nat.strongRecOn with
  | _ n ih =>
    intro w hn
    refine (rNum.ok _ (R := fun v w' => ∃ a' c', v = (.slice a' (numL n).length c') ∧ OwnB w.heap.size w' a' c' (numL n) ∧ Ext no w w') ?_).mono fun e w' ⟨v, he, a', c', hv, hw⟩ => ⟨a', c', by rw [he, hv], hw⟩
    unfold rNum.M
    have one : ∀ (w2 : World) (x : UInt8), w2 = w.alloc (.cells #[.int .u8 (x.toNat : Int)] 5) → OwnB w.heap.size w2 (some (blk w.heap.size)) 1 [x] ∧ Ext no w w2 := fun w2 x h2 => by
      have hb : Blk w2 w.heap.size 5 (bytesV [x]) := by subst h2; exact Blk.new _ _ _
      exact ⟨⟨owns_of_blk hb rfl (by simp [maxLen]), fun ad ha => by cases ha; exact ⟨Nat.le_refl _, hb.lt⟩⟩, by subst h2; exact (Ext.refl _ _).alloc _⟩
    by_cases h1 : n < 128
    · rw [show decide ((n : Int) < 128) = true by simp; omega, cond_true]
      have hv : IntKind.u8.wrap (n : Int) = ((UInt8.ofNat n).toNat : Int) := by rw [wu8 (by omega) (by omega), ofNat_lt (by omega)]
      have hL : numL n = [UInt8.ofNat n] := by unfold numL; rw [numF, if_pos h1]
      rw [hv, hL]
      refine thenW_in fun w2 h2 => ?_
      obtain ⟨q1, q2⟩ := one w2 _ h2
      exact ⟨_, 1, rfl, q1, q2⟩
    · rw [show decide ((n : Int) < 128) = false by simp; omega, cond_false]
      have hm : Int.tmod (n : Int) 128 = ((n % 128 : Nat) : Int) := by rw [Int.tmod_eq_emod_of_nonneg (by omega)]; omega
      have hd : Int.tdiv (n : Int) 128 = ((n / 128 : Nat) : Int) := by rw [Int.tdiv_eq_ediv_of_nonneg (by omega)]; omega
      have hv : IntKind.u8.wrap ((IntKind.u8.wrap (Int.tmod (n : Int) 128)) + 128) = ((UInt8.ofNat (n % 128 + 128)).toNat : Int) := by
        rw [hm, wu8 (n := ((n % 128 : Nat) : Int)) (by omega) (by omega), wu8 (by omega) (by omega), ofNat_lt (by omega)]; omega
      rw [hv, hd, wu64 (by omega) (by omega), numL_step hn h1]
      refine ⟨by decide, thenW_in fun w3 h3 => ⟨by decide, ?_⟩⟩
      obtain ⟨q1, q2⟩ := one w3 _ h3
      refine (ih (n / 128) (by omega) w3 (by omega)).mono fun e w6 ⟨a6, c6, he, ho6, x6⟩ => ⟨a6, _, c6, he, ?_⟩
      obtain ⟨a', c', w8, hr, ho8, x8⟩ := (W.OwnB.no q1 x6).append (t := 43) (ty := 43) Try.underlying43 (Nat.le_trans q2.size x6.size) (xc := c6) (W.OwnB.row ho6) (by have := numL_le (n / 128); simp; omega)
      exact ⟨a', _, c', w8, hr, a', c', rfl, ho8, (q2.trans x6).then x8 fun b hb => .inr hb⟩

end
theorem numR_write {n : Nat} (h : n < 18446744073709551616) (r : List UInt8) : numR (numL n ++ r, 0) = (n, (r, 0)) := by
  unfold numR; rw [if_pos rfl, rd_num h]
theorem countR_write {n : Nat} {m : Int} (h : n < 18446744073709551616) (hm : (n : Int) ≤ m) (r : List UInt8) : countR m (numL n ++ r, 0) = (n, (r, 0)) := by
  unfold countR
  rw [numR_write h, if_pos rfl, if_neg (by show ¬ (m < 0 ∨ (n : Int) > m); omega)]
section
variable {w w' : World} {a : Option Addr} {c : Nat} {bs : List UInt8} {p N : Nat} {k : Int}
/-! ### where the number ends -/
end
end Go.Proofs.Ytdelmfpchbpafaa.W

/- A struct of numbers: when two are the same. -/
set_option linter.unusedVariables false
set_option linter.unusedSimpArgs false
set_option maxRecDepth 20000
namespace Go.Proofs.Ytdelmfpchbpafaa
open Go Go.Mx Go.Proofs
theorem W.eqf_step {P : Program} {w : World} {d : Nat} {xs ys : Array Value} {f : Field} {fs : List Field} {a b : Value} {r : Bool} (n : f.name ≠ "_") (qa : (part f.type xs f.offset).run P w = .ok a w) (qb : (part f.type ys f.offset).run P w = .ok b w) (he : (Op.equalIn d f.type a b).run P w = .ok r w) :
    (Op.eqFields d xs ys (f :: fs)).run P w = if r then (Op.eqFields d xs ys fs).run P w else .ok false w := by
  simp only [Op.eqFields, n, ne_eq, not_false_eq_true, if_true, Sem.run_bind, qa, qb, he, Result.andThen_ok]
  cases r <;> simp
theorem eqT45 (x0 : Int) (x1 : Int) (y0 : Int) (y1 : Int) (w : World) : (Op.equalIn 10000 45 (.agg #[.int .i64 x0, .int .i64 x1]) (.agg #[.int .i64 y0, .int .i64 y1])).run Try.prog w = .ok (decide (x0 = y0 ∧ x1 = y1)) w := by
  obtain ⟨f0, f1, ht, n0, o0, p0, u0, n1, o1, p1, u1, hp⟩ : ∃ f0 f1, Try.prog.underlying 45 = some (.struct #[f0, f1]) ∧ f0.name ≠ "_" ∧ f0.offset = 0 ∧ Try.prog.plainKey f0.type = true ∧ Try.prog.underlying f0.type = some (.int .i64) ∧ f1.name ≠ "_" ∧ f1.offset = 1 ∧ Try.prog.plainKey f1.type = true ∧ Try.prog.underlying f1.type = some (.int .i64) ∧ Try.prog.stoodInHeld 45 = false :=
    ⟨_, _, Try.underlying45, by decide, rfl, by kernel_rfl, by kernel_rfl, by decide, rfl, by kernel_rfl, by kernel_rfl, by kernel_rfl⟩
  have hf : Try.prog.fieldsOf 45 = #[f0, f1] := by simp [Program.fieldsOf, ht]
  rw [show (10000 : Nat) = 9998 + 1 + 1 from rfl, run_equalIn_struct w (9998 + 1) _ _ _ (by rw [hf]; exact ht) hp, hf]
  show (Op.eqFields (9998 + 1) _ _ [f0, f1]).run Try.prog w = _
  rw [W.eqf_step n0 (run_part_plain w p0 (by rw [o0]; rfl)) (run_part_plain w p0 (by rw [o0]; rfl)) (run_equalIn_int w _ _ _ _ _ _ u0), W.eqf_step n1 (run_part_plain w p1 (by rw [o1]; rfl)) (run_part_plain w p1 (by rw [o1]; rfl)) (run_equalIn_int w _ _ _ _ _ _ u1)]
  by_cases e0 : x0 = y0 <;> by_cases e1 : x1 = y1 <;> simp [e0, e1, Op.eqFields]
theorem eqT45_eq (x0 : Int) (x1 : Int) (y0 : Int) (y1 : Int) (w : World) : (binOp .eql 45 (.agg #[.int .i64 x0, .int .i64 x1]) (.agg #[.int .i64 y0, .int .i64 y1])).run Try.prog w = .ok (.bool (decide (x0 = y0 ∧ x1 = y1))) w := by rw [run_eql_struct, eqT45]; rfl
end Go.Proofs.Ytdelmfpchbpafaa

/- Wire: so many bytes of a reader; the reference's whole numbers, and bytes with their length. -/
set_option linter.unusedVariables false
set_option linter.unusedSimpArgs false
set_option maxRecDepth 20000
namespace Go.Proofs.Ytdelmfpchbpafaa
open Go Go.Mx Go.Proofs
open W (OwnB GivesW numR countR doneR zig unzig intR)
/-- cachetteref01.Int -/
def cachetteref01_Int.M (n1 : Int) (R : Value → World → Prop) (w : World) : Prop :=
 bif decide (n1 ≥ 0) then (
 Calls Try.prog 71 #[.int .u64 (IntKind.u64.wrap ((IntKind.u64.wrap n1) * 2))] w fun a7 a9 => ∃ (a2 : Option Addr) (a4 : Nat) (a5 : Nat), a7 = .returned (.slice a2 a4 a5) ∧
 R (.slice a2 a4 a5) a9) else (
 Calls Try.prog 71 #[.int .u64 (IntKind.u64.wrap ((IntKind.u64.wrap ((IntKind.u64.wrap (IntKind.i64.wrap (0 - (IntKind.i64.wrap (n1 + 1))))) * 2)) + 1))] w fun a6 a8 => ∃ (a3 : Option Addr) (a0 : Nat) (a1 : Nat), a6 = .returned (.slice a3 a0 a1) ∧
 R (.slice a3 a0 a1) a8)

theorem cachetteref01_Int.eq (n1 : Int) (R : Value → World → Prop) (w : World) : mfunc Try.prog [] 73 [.int .i64 n1] R w = cachetteref01_Int.M n1 R w := by kernel_rfl
theorem cachetteref01_Int.ok (n1 : Int) {R : Value → World → Prop} {w : World} (h : cachetteref01_Int.M n1 R w) : Calls Try.prog 73 #[.int .i64 n1] w fun e w' => ∃ v, e = .returned v ∧ R v w' :=
  mfunc_ok follows (H := []) (args := [.int .i64 n1]) (by rw [cachetteref01_Int.eq]; exact h)

def cachetteref01_Int.N (n1 : Int) (R : Value → World → Prop) (w : World) : Prop :=
 (n1 ≥ 0 →
 Calls Try.prog 71 #[.int .u64 (IntKind.u64.wrap ((IntKind.u64.wrap n1) * 2))] w fun a8 a7 => ∃ (a4 : Option Addr) (a2 : Nat) (a1 : Nat), a8 = .returned (.slice a4 a2 a1) ∧
 R (.slice a4 a2 a1) a7) ∧
 (n1 < 0 →
 (-9223372036854775808 : Int) ≤ (n1 + 1) ∧ (n1 + 1) < 9223372036854775808 ∧
 (-9223372036854775808 : Int) ≤ (0 - (n1 + 1)) ∧ (0 - (n1 + 1)) < 9223372036854775808 ∧
 Calls Try.prog 71 #[.int .u64 (IntKind.u64.wrap ((IntKind.u64.wrap ((IntKind.u64.wrap (0 - (n1 + 1))) * 2)) + 1))] w fun a6 a9 => ∃ (a5 : Option Addr) (a0 : Nat) (a3 : Nat), a6 = .returned (.slice a5 a0 a3) ∧
 R (.slice a5 a0 a3) a9)

theorem cachetteref01_Int.up (n1 : Int) {R : Value → World → Prop} {w : World} (h : cachetteref01_Int.N n1 R w) : cachetteref01_Int.M n1 R w := by
  unfold cachetteref01_Int.M
  unfold cachetteref01_Int.N at h
  refine bif_of (fun c2 => ?_) (fun c2 => ?_)
  · have h := h.1 (of_decide_eq_true c2)
    refine h.mono fun aa a9 h => ?_
    obtain ⟨a4, a2, a1, he, h⟩ := h
    refine ⟨a4, a2, a1, he, ?_⟩
    exact h
  · have h := h.2 (Int.not_le.1 (of_decide_eq_false c2))
    obtain ⟨a7, a6, h⟩ := h
    try rw [w64 a7 a6]
    obtain ⟨a7, a6, h⟩ := h
    try rw [w64 a7 a6]
    refine h.mono fun a8 ab h => ?_
    obtain ⟨a5, a0, a3, he, h⟩ := h
    refine ⟨a5, a0, a3, he, ?_⟩
    exact h

theorem cachetteref01_Int.go (n1 : Int) {R : Value → World → Prop} {w : World} (h : cachetteref01_Int.N n1 R w) : Calls Try.prog 73 #[.int .i64 n1] w fun e w' => ∃ v, e = .returned v ∧ R v w' := cachetteref01_Int.ok n1 (cachetteref01_Int.up n1 h)
/-- cachetteref01.Bytes -/
def cachetteref01_Bytes.M (a9 : Option Addr) (a4 : Nat) (a8 : Nat) (R : Value → World → Prop) (w : World) : Prop :=
 Calls Try.prog 71 #[.int .u64 (IntKind.u64.wrap (a4 : Int))] w fun aa ab => ∃ (a1 : Option Addr) (a2 : Nat) (a0 : Nat), aa = .returned (.slice a1 a2 a0) ∧
 ∃ (a7 : Option Addr) (a5 : Nat) (a3 : Nat) (a6 : World), (Builtin.append_ #[43, 43] 43 #[.slice a1 a2 a0, .slice a9 a4 a8]).run Try.prog ab = .ok (.slice a7 a5 a3) a6 ∧
 R (.slice a7 a5 a3) a6

theorem cachetteref01_Bytes.eq (x1a : Option Addr) (x1n : Nat) (x1c : Nat) (R : Value → World → Prop) (w : World) : mfunc Try.prog [] 74 [.slice x1a x1n x1c] R w = cachetteref01_Bytes.M x1a x1n x1c R w := by kernel_rfl
theorem cachetteref01_Bytes.ok (a0 : Option Addr) (a2 : Nat) (a1 : Nat) {R : Value → World → Prop} {w : World} (h : cachetteref01_Bytes.M a0 a2 a1 R w) : Calls Try.prog 74 #[.slice a0 a2 a1] w fun e w' => ∃ v, e = .returned v ∧ R v w' :=
  mfunc_ok follows (H := []) (args := [.slice a0 a2 a1]) (by rw [cachetteref01_Bytes.eq]; exact h)

def cachetteref01_Bytes.N (a9 : Option Addr) (a4 : Nat) (a8 : Nat) (R : Value → World → Prop) (w : World) : Prop :=
 Calls Try.prog 71 #[.int .u64 (IntKind.u64.wrap (a4 : Int))] w fun aa ab => ∃ (a1 : Option Addr) (a2 : Nat) (a0 : Nat), aa = .returned (.slice a1 a2 a0) ∧
 ∃ (a7 : Option Addr) (a5 : Nat) (a3 : Nat) (a6 : World), (Builtin.append_ #[43, 43] 43 #[.slice a1 a2 a0, .slice a9 a4 a8]).run Try.prog ab = .ok (.slice a7 a5 a3) a6 ∧
 R (.slice a7 a5 a3) a6

theorem cachetteref01_Bytes.up (a4 : Option Addr) (a5 : Nat) (a3 : Nat) {R : Value → World → Prop} {w : World} (h : cachetteref01_Bytes.N a4 a5 a3 R w) : cachetteref01_Bytes.M a4 a5 a3 R w := by
  unfold cachetteref01_Bytes.M
  unfold cachetteref01_Bytes.N at h
  refine h.mono fun aa ab h => ?_
  obtain ⟨a0, a1, a2, he, h⟩ := h
  refine ⟨a0, a1, a2, he, ?_⟩
  obtain ⟨a7, a8, a6, a9, hr, h⟩ := h
  refine ⟨a7, a8, a6, a9, hr, ?_⟩
  exact h

theorem cachetteref01_Bytes.go (a0 : Option Addr) (a2 : Nat) (a1 : Nat) {R : Value → World → Prop} {w : World} (h : cachetteref01_Bytes.N a0 a2 a1 R w) : Calls Try.prog 74 #[.slice a0 a2 a1] w fun e w' => ∃ v, e = .returned v ∧ R v w' := cachetteref01_Bytes.ok a0 a2 a1 (cachetteref01_Bytes.up a0 a2 a1 h)
abbrev RS := List UInt8 × Int
/-- so many bytes. -/
def takeR (n : Nat) (s : RS) : List UInt8 × RS := if s.2 = 0 then (if s.1.length < n then ([], ([], 4)) else (s.1.take n, (s.1.drop n, 0))) else ([], s)
def bytesR (m : Int) (s : RS) : List UInt8 × RS := takeR (countR m s).1 (countR m s).2
section
variable {w w' : World} {a : Option Addr} {c N p : Nat} {bs : List UInt8} {k : Int}
/-! ### the reference's -/
theorem rInt_spec {n : Int} (h0 : -9223372036854775808 ≤ n) (h1 : n < 9223372036854775808) :
    Calls Try.prog 73 #[.int .i64 n] w (fun e w' => ∃ a' c', e = .returned (.slice a' (numL (zig n)).length c') ∧ OwnB w.heap.size w' a' c' (numL (zig n)) ∧ Ext no w w') := by
  refine (cachetteref01_Int.go _ (R := fun v w' => ∃ a' c', v = (.slice a' (numL (zig n)).length c') ∧ OwnB w.heap.size w' a' c' (numL (zig n)) ∧ Ext no w w') ?_).mono fun e w' ⟨v, he, a, c, hv, hw⟩ => ⟨a, c, by rw [he, hv], hw⟩
  unfold cachetteref01_Int.N
  have hz := W.zig_lt h0 h1
  refine ⟨fun hn => ?_, fun hn => ?_⟩
  · rw [wu64 (n := n) (by omega) (by omega), wu64 (n := n * 2) (by omega) (by omega)]
    have e : n * 2 = ((zig n : Nat) : Int) := by unfold zig; rw [if_pos (by omega)]; omega
    rw [e]
    exact (W.rNum_spec (zig n) w hz).mono fun e w5 ⟨a', c', he, hO, hx⟩ => ⟨a', _, c', he, a', c', rfl, hO, hx⟩
  · refine ⟨by omega, by omega, by omega, by omega, ?_⟩
    rw [wu64 (n := 0 - (n + 1)) (by omega) (by omega), wu64 (n := (0 - (n + 1)) * 2) (by omega) (by omega), wu64 (by omega) (by omega)]
    have e : (0 - (n + 1)) * 2 + 1 = ((zig n : Nat) : Int) := by unfold zig; rw [if_neg (by omega)]; omega
    rw [e]
    exact (W.rNum_spec (zig n) w hz).mono fun e w5 ⟨a', c', he, hO, hx⟩ => ⟨a', _, c', he, a', c', rfl, hO, hx⟩
theorem rBytes_spec {xs : List UInt8} {xa : Option Addr} {xc : Nat} (hx : RowAt w xa (bytesV xs)) (hl : xs.length ≤ 1000000) :
    Calls Try.prog 74 #[.slice xa xs.length xc] w (fun e w' => ∃ a' c', e = .returned (.slice a' (numL xs.length ++ xs).length c') ∧ OwnB w.heap.size w' a' c' (numL xs.length ++ xs) ∧ Ext no w w') := by
  refine (cachetteref01_Bytes.go _ _ _ (R := fun v w' => ∃ a' c', v = (.slice a' (numL xs.length ++ xs).length c') ∧ OwnB w.heap.size w' a' c' (numL xs.length ++ xs) ∧ Ext no w w') ?_).mono fun e w' ⟨v, he, a, c, hv, hw⟩ => ⟨a, c, by rw [he, hv], hw⟩
  unfold cachetteref01_Bytes.N
  rw [wu64 (n := (xs.length : Int)) (by omega) (by omega)]
  refine (W.rNum_spec xs.length w (by omega)).mono fun e w4 ⟨a4, c4, he, hO, hx4⟩ => ⟨a4, _, c4, he, ?_⟩
  have hnl : (numL xs.length).length ≤ 10 := numF_le 10 _
  obtain ⟨a', c', w7, hr, hO7, hx7⟩ := hO.append (t := 43) (ty := 43) Try.underlying43 hx4.size (xc := xc) (hx.no hx4) (by omega)
  exact ⟨a', _, c', w7, hr, a', c', rfl, hO7, hx4.then hx7 fun b hb => .inr hb⟩
end
end Go.Proofs.Ytdelmfpchbpafaa

/- Entries: what is plain of them. -/
set_option linter.unusedVariables false
set_option linter.unusedSimpArgs false
set_option maxRecDepth 20000
namespace Go.Proofs.Ytdelmfpchbpafaa
open Go Go.Mx Go.Proofs
open W (OwnB GivesW numR countR doneR zig unzig intR)
/-- entry.within -/
def entry_within.M (n1 : Int) (a0 : Int) (a1 : Int) (R : Value → World → Prop) (w : World) : Prop :=
 bif decide (n1 ≥ a0) then (
 R (.bool (decide (n1 < a1))) w) else (
 R (.bool false) w)

theorem entry_within.eq (n1 : Int) (least2 : Int) (below3 : Int) (R : Value → World → Prop) (w : World) : mfunc Try.prog [] 51 [.int .i64 n1, .int .i64 least2, .int .i64 below3] R w = entry_within.M n1 least2 below3 R w := by kernel_rfl
theorem entry_within.ok (n1 : Int) (a0 : Int) (a1 : Int) {R : Value → World → Prop} {w : World} (h : entry_within.M n1 a0 a1 R w) : Calls Try.prog 51 #[.int .i64 n1, .int .i64 a0, .int .i64 a1] w fun e w' => ∃ v, e = .returned v ∧ R v w' :=
  mfunc_ok follows (H := []) (args := [.int .i64 n1, .int .i64 a0, .int .i64 a1]) (by rw [entry_within.eq]; exact h)

def entry_within.N (n1 : Int) (a0 : Int) (a1 : Int) (R : Value → World → Prop) (w : World) : Prop :=
 (n1 ≥ a0 →
 R (.bool (decide (n1 < a1))) w) ∧
 (n1 < a0 →
 R (.bool false) w)

theorem entry_within.up (n1 : Int) (a0 : Int) (a1 : Int) {R : Value → World → Prop} {w : World} (h : entry_within.N n1 a0 a1 R w) : entry_within.M n1 a0 a1 R w := by
  unfold entry_within.M
  unfold entry_within.N at h
  refine bif_of (fun c4 => ?_) (fun c4 => ?_)
  · have h := h.1 (of_decide_eq_true c4)
    exact h
  · have h := h.2 (Int.not_le.1 (of_decide_eq_false c4))
    exact h

theorem entry_within.go (n1 : Int) (a0 : Int) (a1 : Int) {R : Value → World → Prop} {w : World} (h : entry_within.N n1 a0 a1 R w) : Calls Try.prog 51 #[.int .i64 n1, .int .i64 a0, .int .i64 a1] w fun e w' => ∃ v, e = .returned v ∧ R v w' := entry_within.ok n1 a0 a1 (entry_within.up n1 a0 a1 h)
theorem entry_within.run (n1 : Int) (a0 : Int) (a1 : Int) {V : Value} {Q : World → Prop} {w : World} (h : entry_within.N n1 a0 a1 (fun v w' => v = V ∧ Q w') w) : Calls Try.prog 51 #[.int .i64 n1, .int .i64 a0, .int .i64 a1] w (Ret V Q) := (entry_within.go n1 a0 a1 h).mono fun e w' ⟨v, he, hv, hq⟩ => ⟨by rw [he, hv], hq⟩

def entry_within.F (n1 : Int) (a0 : Int) (a1 : Int) : Bool :=
  if n1 ≥ a0 then
    (decide (n1 < a1))
  else
    false
theorem entry_within.pure (n1 : Int) (a0 : Int) (a1 : Int) {w : World} : Calls Try.prog 51 #[.int .i64 n1, .int .i64 a0, .int .i64 a1] w (Ret (.bool (entry_within.F n1 a0 a1)) fun w' => Ext no w w') := by
  refine entry_within.run n1 a0 a1 ?_
  unfold entry_within.N
  refine ⟨fun c0 => ?_, fun c0 => ?_⟩
  · exact ⟨by unfold entry_within.F; rw [if_pos c0], Ext.refl _ _⟩
  · exact ⟨by unfold entry_within.F; rw [if_neg (by omega)], Ext.refl _ _⟩

/-- stamp.member -/
def stamp_member.M (a0 : Int) (R : Value → World → Prop) (w : World) : Prop :=
 bif decide (a0 ≥ 0) then (
 R (.bool (decide (a0 < 8))) w) else (
 R (.bool false) w)

theorem stamp_member.eq (wv1 : Int) (R : Value → World → Prop) (w : World) : mfunc Try.prog [] 69 [.int .i64 wv1] R w = stamp_member.M wv1 R w := by kernel_rfl
theorem stamp_member.ok (a0 : Int) {R : Value → World → Prop} {w : World} (h : stamp_member.M a0 R w) : Calls Try.prog 69 #[.int .i64 a0] w fun e w' => ∃ v, e = .returned v ∧ R v w' :=
  mfunc_ok follows (H := []) (args := [.int .i64 a0]) (by rw [stamp_member.eq]; exact h)

def stamp_member.N (a0 : Int) (R : Value → World → Prop) (w : World) : Prop :=
 (a0 ≥ 0 →
 R (.bool (decide (a0 < 8))) w) ∧
 (a0 < 0 →
 R (.bool false) w)

theorem stamp_member.up (a0 : Int) {R : Value → World → Prop} {w : World} (h : stamp_member.N a0 R w) : stamp_member.M a0 R w := by
  unfold stamp_member.M
  unfold stamp_member.N at h
  refine bif_of (fun c2 => ?_) (fun c2 => ?_)
  · have h := h.1 (of_decide_eq_true c2)
    exact h
  · have h := h.2 (Int.not_le.1 (of_decide_eq_false c2))
    exact h

theorem stamp_member.go (a0 : Int) {R : Value → World → Prop} {w : World} (h : stamp_member.N a0 R w) : Calls Try.prog 69 #[.int .i64 a0] w fun e w' => ∃ v, e = .returned v ∧ R v w' := stamp_member.ok a0 (stamp_member.up a0 h)
theorem stamp_member.run (a0 : Int) {V : Value} {Q : World → Prop} {w : World} (h : stamp_member.N a0 (fun v w' => v = V ∧ Q w') w) : Calls Try.prog 69 #[.int .i64 a0] w (Ret V Q) := (stamp_member.go a0 h).mono fun e w' ⟨v, he, hv, hq⟩ => ⟨by rw [he, hv], hq⟩

def stamp_member.F (a0 : Int) : Bool :=
  if a0 ≥ 0 then
    (decide (a0 < 8))
  else
    false
theorem stamp_member.pure (a0 : Int) {w : World} : Calls Try.prog 69 #[.int .i64 a0] w (Ret (.bool (stamp_member.F a0)) fun w' => Ext no w w') := by
  refine stamp_member.run a0 ?_
  unfold stamp_member.N
  refine ⟨fun c0 => ?_, fun c0 => ?_⟩
  · exact ⟨by unfold stamp_member.F; rw [if_pos c0], Ext.refl _ _⟩
  · exact ⟨by unfold stamp_member.F; rw [if_neg (by omega)], Ext.refl _ _⟩

/-- stamp.Right -/
def stamp_Right.M (a4 : Int) (a2 : Int) (R : Value → World → Prop) (w : World) : Prop :=
 thenW (w.alloc (.cells #[.int .i64 a4, .int .i64 a2] 45)) fun a1 =>
 ∃ (T4 : Int), a1.cell? ((blk w.heap.size).add 0) = some (.int .i64 T4) ∧
 bif decide (T4 > 0) then (
 ∃ (T5 : Int), a1.cell? ((blk w.heap.size).add 0) = some (.int .i64 T5) ∧
 bif decide (T5 ≤ 1099511627776) then (
 ∃ (W6 : Int), a1.cell? ((blk w.heap.size).add 1) = some (.int .i64 W6) ∧
 Calls Try.prog 69 #[.int .i64 W6] a1 fun a5 a3 => ∃ (a0 : Bool), a5 = .returned (.bool a0) ∧
 R (.bool a0) a3) else (
 R (.bool false) a1)) else (
 R (.bool false) a1)

theorem stamp_Right.eq (sT1 : Int) (sW2 : Int) (R : Value → World → Prop) (w : World) : mfunc Try.prog [] 52 [.agg #[.int .i64 sT1, .int .i64 sW2]] R w = stamp_Right.M sT1 sW2 R w := by kernel_rfl
theorem stamp_Right.ok (a1 : Int) (a0 : Int) {R : Value → World → Prop} {w : World} (h : stamp_Right.M a1 a0 R w) : Calls Try.prog 52 #[.agg #[.int .i64 a1, .int .i64 a0]] w fun e w' => ∃ v, e = .returned v ∧ R v w' :=
  mfunc_ok follows (H := []) (args := [.agg #[.int .i64 a1, .int .i64 a0]]) (by rw [stamp_Right.eq]; exact h)

def stamp_Right.N (a1 : Int) (a3 : Int) (R : Value → World → Prop) (w : World) : Prop :=
 (a1 > 0 →
 (a1 ≤ 1099511627776 →
 ∀ (a2 : World), Ext no w a2 →
 R (.bool (stamp_member.F a3)) a2) ∧
 ((1099511627776 : Int) < a1 →
 ∀ (a0 : World), Ext no w a0 →
 R (.bool false) a0)) ∧
 (a1 ≤ 0 →
 ∀ (a0 : World), Ext no w a0 →
 R (.bool false) a0)

theorem stamp_Right.up (a1 : Int) (a0 : Int) {R : Value → World → Prop} {w : World} (h : stamp_Right.N a1 a0 R w) : stamp_Right.M a1 a0 R w := by
  unfold stamp_Right.M
  unfold stamp_Right.N at h
  refine thenW_in fun a4 e3 => ?_
  have a2 := Blk.of_new e3
  have a6 := ((Ext.refl no w)).size
  have a3 := (Ext.refl no w).x_alloc e3
  refine ⟨a1, a2.celli 0 rfl rfl, ?_⟩
  refine bif_of (fun c4 => ?_) (fun c4 => ?_)
  · have h := h.1 (of_decide_eq_true c4)
    refine ⟨a1, a2.celli 0 rfl rfl, ?_⟩
    refine bif_of (fun c5 => ?_) (fun c5 => ?_)
    · have h := h.1 (of_decide_eq_true c5)
      refine ⟨a0, a2.celli 1 rfl rfl, ?_⟩
      refine (stamp_member.pure a0).mono fun ee ww6 ⟨he, hxx⟩ => ⟨(stamp_member.F a0), he, ?_⟩
      have a5 := a3.trans hxx
      have h := h ww6 a5
      exact h
    · have h := h.2 (Int.not_le.1 (of_decide_eq_false c5))
      have h := h a4 a3
      exact h
  · have h := h.2 (Int.not_lt.1 (of_decide_eq_false c4))
    have h := h a4 a3
    exact h

theorem stamp_Right.go (a1 : Int) (a0 : Int) {R : Value → World → Prop} {w : World} (h : stamp_Right.N a1 a0 R w) : Calls Try.prog 52 #[.agg #[.int .i64 a1, .int .i64 a0]] w fun e w' => ∃ v, e = .returned v ∧ R v w' := stamp_Right.ok a1 a0 (stamp_Right.up a1 a0 h)
theorem stamp_Right.run (a1 : Int) (a0 : Int) {V : Value} {Q : World → Prop} {w : World} (h : stamp_Right.N a1 a0 (fun v w' => v = V ∧ Q w') w) : Calls Try.prog 52 #[.agg #[.int .i64 a1, .int .i64 a0]] w (Ret V Q) := (stamp_Right.go a1 a0 h).mono fun e w' ⟨v, he, hv, hq⟩ => ⟨by rw [he, hv], hq⟩

def stamp_Right.F (a0 : Int) (a1 : Int) : Bool :=
  if a0 > 0 then
    if a0 ≤ 1099511627776 then
      (stamp_member.F a1)
    else
      false
  else
    false
theorem stamp_Right.pure (a1 : Int) (a0 : Int) {w : World} : Calls Try.prog 52 #[.agg #[.int .i64 a1, .int .i64 a0]] w (Ret (.bool (stamp_Right.F a1 a0)) fun w' => Ext no w w') := by
  refine stamp_Right.run a1 a0 ?_
  unfold stamp_Right.N
  refine ⟨fun c0 => ?_, fun c0 => ?_⟩
  · refine ⟨fun c1 => ?_, fun c1 => ?_⟩
    · intro w' hx; exact ⟨by unfold stamp_Right.F; rw [if_pos c0, if_pos c1], hx⟩
    · intro w' hx; exact ⟨by unfold stamp_Right.F; rw [if_pos c0, if_neg (by omega)], hx⟩
  · intro w' hx; exact ⟨by unfold stamp_Right.F; rw [if_neg (by omega)], hx⟩

/-- entry.Right -/
def entry_Right.M (b3 : Int) (b9 : Int) (bm : Int) (bq : Int) (bo : Int) (b5 : Int) (bd : Option Addr) (b7 : Nat) (bc : Nat) (bp : Int) (R : Value → World → Prop) (w : World) : Prop :=
 thenW (w.alloc (.cells #[.int .i64 b3, .int .i64 b9, .int .u64 bm, .int .i64 bq, .int .i64 bo, .int .i64 b5, .slice bd b7 bc, .int .u64 bp] 47)) fun c1 =>
 ∃ (ab : Int), c1.cell? ((blk w.heap.size).add 0) = some (.int .i64 ab) ∧
 Calls Try.prog 51 #[.int .i64 ab, .int .i64 0, .int .i64 8] c1 fun bw ay => ∃ (a6 : Bool), bw = .returned (.bool a6) ∧
 bif !a6 then (
 bif !a6 then (
 R (.bool false) ay) else (
 ∃ (bg : Int) (bk : Int), cellsAt ay ((blk w.heap.size).add 3) [.int .i64 bg, .int .i64 bk] 0 ∧
 Calls Try.prog 52 #[.agg #[.int .i64 bg, .int .i64 bk]] ay fun bx a0 => ∃ (aa : Bool), bx = .returned (.bool aa) ∧
 bif !aa then (
 bif !aa then (
 R (.bool false) a0) else (
 ∃ (b1 : Int), a0.cell? ((blk w.heap.size).add 2) = some (.int .u64 b1) ∧
 ∃ (ag : Int), a0.cell? ((blk w.heap.size).add 1) = some (.int .i64 ag) ∧
 R (.bool ((b1 == 0) == (ag == 0))) a0)) else (
 ∃ (br : Int), a0.cell? (((blk w.heap.size).add 3).add 1) = some (.int .i64 br) ∧
 ∃ (a7 : Int), a0.cell? ((blk w.heap.size).add 0) = some (.int .i64 a7) ∧
 bif br != a7 then (
 bif br != a7 then (
 R (.bool false) a0) else (
 ∃ (au : Int), a0.cell? ((blk w.heap.size).add 2) = some (.int .u64 au) ∧
 ∃ (ak : Int), a0.cell? ((blk w.heap.size).add 1) = some (.int .i64 ak) ∧
 R (.bool ((au == 0) == (ak == 0))) a0)) else (
 ∃ (ba : Option Addr) (aj : Nat) (be : Nat), a0.cell? ((blk w.heap.size).add 6) = some (.slice ba aj be) ∧
 bif decide ((aj : Int) > 1100) then (
 R (.bool false) a0) else (
 ∃ (az : Int), a0.cell? ((blk w.heap.size).add 2) = some (.int .u64 az) ∧
 ∃ (ad : Int), a0.cell? ((blk w.heap.size).add 1) = some (.int .i64 ad) ∧
 R (.bool ((az == 0) == (ad == 0))) a0))))) else (
 ∃ (ah : Int), ay.cell? ((blk w.heap.size).add 1) = some (.int .i64 ah) ∧
 Calls Try.prog 51 #[.int .i64 ah, .int .i64 0, .int .i64 200] ay fun bt ax => ∃ (a3 : Bool), bt = .returned (.bool a3) ∧
 bif !a3 then (
 bif !a3 then (
 R (.bool false) ax) else (
 ∃ (bl : Int) (bh : Int), cellsAt ax ((blk w.heap.size).add 3) [.int .i64 bl, .int .i64 bh] 0 ∧
 Calls Try.prog 52 #[.agg #[.int .i64 bl, .int .i64 bh]] ax fun bz a2 => ∃ (a8 : Bool), bz = .returned (.bool a8) ∧
 bif !a8 then (
 bif !a8 then (
 R (.bool false) a2) else (
 ∃ (ar : Int), a2.cell? ((blk w.heap.size).add 2) = some (.int .u64 ar) ∧
 ∃ (ai : Int), a2.cell? ((blk w.heap.size).add 1) = some (.int .i64 ai) ∧
 R (.bool ((ar == 0) == (ai == 0))) a2)) else (
 ∃ (c0 : Int), a2.cell? (((blk w.heap.size).add 3).add 1) = some (.int .i64 c0) ∧
 ∃ (a5 : Int), a2.cell? ((blk w.heap.size).add 0) = some (.int .i64 a5) ∧
 bif c0 != a5 then (
 bif c0 != a5 then (
 R (.bool false) a2) else (
 ∃ (aw : Int), a2.cell? ((blk w.heap.size).add 2) = some (.int .u64 aw) ∧
 ∃ (al : Int), a2.cell? ((blk w.heap.size).add 1) = some (.int .i64 al) ∧
 R (.bool ((aw == 0) == (al == 0))) a2)) else (
 ∃ (bf : Option Addr) (ao : Nat) (bb : Nat), a2.cell? ((blk w.heap.size).add 6) = some (.slice bf ao bb) ∧
 bif decide ((ao : Int) > 1100) then (
 R (.bool false) a2) else (
 ∃ (b4 : Int), a2.cell? ((blk w.heap.size).add 2) = some (.int .u64 b4) ∧
 ∃ (am : Int), a2.cell? ((blk w.heap.size).add 1) = some (.int .i64 am) ∧
 R (.bool ((b4 == 0) == (am == 0))) a2))))) else (
 ∃ (an : Int), ax.cell? ((blk w.heap.size).add 5) = some (.int .i64 an) ∧
 Calls Try.prog 51 #[.int .i64 an, .int .i64 (-1), .int .i64 20] ax fun bs bn => ∃ (ac : Bool), bs = .returned (.bool ac) ∧
 bif !ac then (
 R (.bool false) bn) else (
 ∃ (bj : Int) (bi : Int), cellsAt bn ((blk w.heap.size).add 3) [.int .i64 bj, .int .i64 bi] 0 ∧
 Calls Try.prog 52 #[.agg #[.int .i64 bj, .int .i64 bi]] bn fun bv a1 => ∃ (a9 : Bool), bv = .returned (.bool a9) ∧
 bif !a9 then (
 bif !a9 then (
 R (.bool false) a1) else (
 ∃ (b2 : Int), a1.cell? ((blk w.heap.size).add 2) = some (.int .u64 b2) ∧
 ∃ (aq : Int), a1.cell? ((blk w.heap.size).add 1) = some (.int .i64 aq) ∧
 R (.bool ((b2 == 0) == (aq == 0))) a1)) else (
 ∃ (bu : Int), a1.cell? (((blk w.heap.size).add 3).add 1) = some (.int .i64 bu) ∧
 ∃ (a4 : Int), a1.cell? ((blk w.heap.size).add 0) = some (.int .i64 a4) ∧
 bif bu != a4 then (
 bif bu != a4 then (
 R (.bool false) a1) else (
 ∃ (b0 : Int), a1.cell? ((blk w.heap.size).add 2) = some (.int .u64 b0) ∧
 ∃ (ap : Int), a1.cell? ((blk w.heap.size).add 1) = some (.int .i64 ap) ∧
 R (.bool ((b0 == 0) == (ap == 0))) a1)) else (
 ∃ (b8 : Option Addr) (ae : Nat) (b6 : Nat), a1.cell? ((blk w.heap.size).add 6) = some (.slice b8 ae b6) ∧
 bif decide ((ae : Int) > 1100) then (
 R (.bool false) a1) else (
 ∃ (av : Int), a1.cell? ((blk w.heap.size).add 2) = some (.int .u64 av) ∧
 ∃ (af : Int), a1.cell? ((blk w.heap.size).add 1) = some (.int .i64 af) ∧
 R (.bool ((av == 0) == (af == 0))) a1))))))

theorem entry_Right.eq (eWriter1 : Int) (eIndex2 : Int) (ePrev3 : Int) (eAtT4 : Int) (eAtW5 : Int) (eEpoch6 : Int) (eBody7a : Option Addr) (eBody7n : Nat) (eBody7c : Nat) (eSig8 : Int) (R : Value → World → Prop) (w : World) : mfunc Try.prog [] 34 [.agg #[.int .i64 eWriter1, .int .i64 eIndex2, .int .u64 ePrev3, .int .i64 eAtT4, .int .i64 eAtW5, .int .i64 eEpoch6, .slice eBody7a eBody7n eBody7c, .int .u64 eSig8]] R w = entry_Right.M eWriter1 eIndex2 ePrev3 eAtT4 eAtW5 eEpoch6 eBody7a eBody7n eBody7c eSig8 R w := by kernel_rfl
theorem entry_Right.ok (a0 : Int) (a2 : Int) (a6 : Int) (a7 : Int) (a9 : Int) (a3 : Int) (a1 : Option Addr) (a4 : Nat) (a5 : Nat) (a8 : Int) {R : Value → World → Prop} {w : World} (h : entry_Right.M a0 a2 a6 a7 a9 a3 a1 a4 a5 a8 R w) : Calls Try.prog 34 #[.agg #[.int .i64 a0, .int .i64 a2, .int .u64 a6, .int .i64 a7, .int .i64 a9, .int .i64 a3, .slice a1 a4 a5, .int .u64 a8]] w fun e w' => ∃ v, e = .returned v ∧ R v w' :=
  mfunc_ok follows (H := []) (args := [.agg #[.int .i64 a0, .int .i64 a2, .int .u64 a6, .int .i64 a7, .int .i64 a9, .int .i64 a3, .slice a1 a4 a5, .int .u64 a8]]) (by rw [entry_Right.eq]; exact h)

def entry_Right.N (a0 : Int) (a2 : Int) (a7 : Int) (a6 : Int) (a5 : Int) (a3 : Int) (ab : Option Addr) (a4 : Nat) (ac : Nat) (ad : Int) (R : Value → World → Prop) (w : World) : Prop :=
 ((entry_within.F a0 0 8) = false →
 ∀ (a9 : World), Ext no w a9 →
 R (.bool false) a9) ∧
 ((entry_within.F a0 0 8) = true →
 ((entry_within.F a2 0 200) = false →
 ∀ (aa : World), Ext no w aa →
 R (.bool false) aa) ∧
 ((entry_within.F a2 0 200) = true →
 ((entry_within.F a3 (-1) 20) = false →
 ∀ (a8 : World), Ext no w a8 →
 R (.bool false) a8) ∧
 ((entry_within.F a3 (-1) 20) = true →
 ((stamp_Right.F a6 a5) = false →
 ∀ (a1 : World), Ext no w a1 →
 R (.bool false) a1) ∧
 ((stamp_Right.F a6 a5) = true →
 (a5 ≠ a0 →
 ∀ (a1 : World), Ext no w a1 →
 R (.bool false) a1) ∧
 (a5 = a0 →
 ((a4 : Int) > 1100 →
 ∀ (a1 : World), Ext no w a1 →
 R (.bool false) a1) ∧
 ((a4 : Int) ≤ 1100 →
 ∀ (a1 : World), Ext no w a1 →
 R (.bool ((a7 == 0) == (a2 == 0))) a1))))))

theorem entry_Right.up (a0 : Int) (a1 : Int) (a9 : Int) (a8 : Int) (a3 : Int) (a2 : Int) (a6 : Option Addr) (a4 : Nat) (a5 : Nat) (ab : Int) {R : Value → World → Prop} {w : World} (h : entry_Right.N a0 a1 a9 a8 a3 a2 a6 a4 a5 ab R w) : entry_Right.M a0 a1 a9 a8 a3 a2 a6 a4 a5 ab R w := by
  unfold entry_Right.M
  unfold entry_Right.N at h
  refine thenW_in fun an e9 => ?_
  have a7 := Blk.of_new e9
  have am := ((Ext.refl no w)).size
  have al := (Ext.refl no w).x_alloc e9
  refine ⟨a0, a7.celli 0 rfl rfl, ?_⟩
  refine (entry_within.pure a0 0 8).mono fun ee ww10 ⟨he, hxx⟩ => ⟨(entry_within.F a0 0 8), he, ?_⟩
  have ae := al.trans hxx
  have a7 := a7.ext hxx id
  refine bif_of (fun ag => ?_) (fun ag => ?_)
  · have h := h.1 (not_t ag)
    refine bif_tt ag ?_
    have h := h ww10 ae
    exact h
  · have h := h.2 (not_f ag)
    refine ⟨a1, a7.celli 1 rfl rfl, ?_⟩
    refine (entry_within.pure a1 0 200).mono fun ee ww13 ⟨he, hxx⟩ => ⟨(entry_within.F a1 0 200), he, ?_⟩
    have ac := ae.trans hxx
    have a7 := a7.ext hxx id
    refine bif_of (fun ah => ?_) (fun ah => ?_)
    · have h := h.1 (not_t ah)
      refine bif_tt ah ?_
      have h := h ww13 ac
      exact h
    · have h := h.2 (not_f ah)
      refine ⟨a2, a7.celli 5 rfl rfl, ?_⟩
      refine (entry_within.pure a2 (-1) 20).mono fun ee ww16 ⟨he, hxx⟩ => ⟨(entry_within.F a2 (-1) 20), he, ?_⟩
      have ad := ac.trans hxx
      have a7 := a7.ext hxx id
      refine bif_of (fun aj => ?_) (fun aj => ?_)
      · have h := h.1 (not_t aj)
        have h := h ww16 ad
        exact h
      · have h := h.2 (not_f aj)
        refine ⟨a8, a3, ⟨a7.celli 3 rfl rfl, a7.celli 4 rfl rfl, trivial⟩, ?_⟩
        refine (stamp_Right.pure a8 a3).mono fun ee ww19 ⟨he, hxx⟩ => ⟨(stamp_Right.F a8 a3), he, ?_⟩
        have aa := ad.trans hxx
        have a7 := a7.ext hxx id
        refine bif_of (fun af => ?_) (fun af => ?_)
        · have h := h.1 (not_t af)
          refine bif_tt af ?_
          have h := h ww19 aa
          exact h
        · have h := h.2 (not_f af)
          refine ⟨a3, a7.celli 4 rfl rfl, ?_⟩
          refine ⟨a0, a7.celli 0 rfl rfl, ?_⟩
          refine bif_of (fun ai => ?_) (fun ai => ?_)
          · have h := h.1 (bne_t ai)
            refine bif_tt ai ?_
            have h := h ww19 aa
            exact h
          · have h := h.2 (bne_f ai)
            refine ⟨a6, a4, a5, a7.celli 6 rfl rfl, ?_⟩
            refine bif_of (fun ak => ?_) (fun ak => ?_)
            · have h := h.1 (of_decide_eq_true ak)
              have h := h ww19 aa
              exact h
            · have h := h.2 (Int.not_lt.1 (of_decide_eq_false ak))
              refine ⟨a9, a7.celli 2 rfl rfl, ?_⟩
              refine ⟨a1, a7.celli 1 rfl rfl, ?_⟩
              have h := h ww19 aa
              exact h

theorem entry_Right.go (a0 : Int) (a2 : Int) (a6 : Int) (a7 : Int) (a9 : Int) (a3 : Int) (a1 : Option Addr) (a4 : Nat) (a5 : Nat) (a8 : Int) {R : Value → World → Prop} {w : World} (h : entry_Right.N a0 a2 a6 a7 a9 a3 a1 a4 a5 a8 R w) : Calls Try.prog 34 #[.agg #[.int .i64 a0, .int .i64 a2, .int .u64 a6, .int .i64 a7, .int .i64 a9, .int .i64 a3, .slice a1 a4 a5, .int .u64 a8]] w fun e w' => ∃ v, e = .returned v ∧ R v w' := entry_Right.ok a0 a2 a6 a7 a9 a3 a1 a4 a5 a8 (entry_Right.up a0 a2 a6 a7 a9 a3 a1 a4 a5 a8 h)
theorem entry_Right.run (a0 : Int) (a2 : Int) (a6 : Int) (a7 : Int) (a9 : Int) (a3 : Int) (a1 : Option Addr) (a4 : Nat) (a5 : Nat) (a8 : Int) {V : Value} {Q : World → Prop} {w : World} (h : entry_Right.N a0 a2 a6 a7 a9 a3 a1 a4 a5 a8 (fun v w' => v = V ∧ Q w') w) : Calls Try.prog 34 #[.agg #[.int .i64 a0, .int .i64 a2, .int .u64 a6, .int .i64 a7, .int .i64 a9, .int .i64 a3, .slice a1 a4 a5, .int .u64 a8]] w (Ret V Q) := (entry_Right.go a0 a2 a6 a7 a9 a3 a1 a4 a5 a8 h).mono fun e w' ⟨v, he, hv, hq⟩ => ⟨by rw [he, hv], hq⟩

def entry_Right.F (a0 : Int) (a1 : Int) (a5 : Int) (a6 : Int) (a4 : Int) (a2 : Int) (a7 : Option Addr) (a3 : Nat) (a8 : Nat) (a9 : Int) : Bool :=
  if (entry_within.F a0 0 8) = false then
    false
  else
    if (entry_within.F a1 0 200) = false then
      false
    else
      if (entry_within.F a2 (-1) 20) = false then
        false
      else
        if (stamp_Right.F a6 a4) = false then
          false
        else
          if a4 ≠ a0 then
            false
          else
            if (a3 : Int) > 1100 then
              false
            else
              ((a5 == 0) == (a1 == 0))
theorem entry_Right.pure (a0 : Int) (a2 : Int) (a6 : Int) (a7 : Int) (a9 : Int) (a3 : Int) (a1 : Option Addr) (a4 : Nat) (a5 : Nat) (a8 : Int) {w : World} : Calls Try.prog 34 #[.agg #[.int .i64 a0, .int .i64 a2, .int .u64 a6, .int .i64 a7, .int .i64 a9, .int .i64 a3, .slice a1 a4 a5, .int .u64 a8]] w (Ret (.bool (entry_Right.F a0 a2 a6 a7 a9 a3 a1 a4 a5 a8)) fun w' => Ext no w w') := by
  refine entry_Right.run a0 a2 a6 a7 a9 a3 a1 a4 a5 a8 ?_
  unfold entry_Right.N
  refine ⟨fun c0 => ?_, fun c0 => ?_⟩
  · intro w' hx; exact ⟨by unfold entry_Right.F; rw [if_pos c0], hx⟩
  · refine ⟨fun c1 => ?_, fun c1 => ?_⟩
    · intro w' hx; exact ⟨by unfold entry_Right.F; rw [if_neg (by rw [c0]; decide), if_pos c1], hx⟩
    · refine ⟨fun c2 => ?_, fun c2 => ?_⟩
      · intro w' hx; exact ⟨by unfold entry_Right.F; rw [if_neg (by rw [c0]; decide), if_neg (by rw [c1]; decide), if_pos c2], hx⟩
      · refine ⟨fun c3 => ?_, fun c3 => ?_⟩
        · intro w' hx; exact ⟨by unfold entry_Right.F; rw [if_neg (by rw [c0]; decide), if_neg (by rw [c1]; decide), if_neg (by rw [c2]; decide), if_pos c3], hx⟩
        · refine ⟨fun c4 => ?_, fun c4 => ?_⟩
          · intro w' hx; exact ⟨by unfold entry_Right.F; rw [if_neg (by rw [c0]; decide), if_neg (by rw [c1]; decide), if_neg (by rw [c2]; decide), if_neg (by rw [c3]; decide), if_pos c4], hx⟩
          · refine ⟨fun c5 => ?_, fun c5 => ?_⟩
            · intro w' hx; exact ⟨by unfold entry_Right.F; rw [if_neg (by rw [c0]; decide), if_neg (by rw [c1]; decide), if_neg (by rw [c2]; decide), if_neg (by rw [c3]; decide), if_neg (not_not_intro c4), if_pos c5], hx⟩
            · intro w' hx; exact ⟨by unfold entry_Right.F; rw [if_neg (by rw [c0]; decide), if_neg (by rw [c1]; decide), if_neg (by rw [c2]; decide), if_neg (by rw [c3]; decide), if_neg (not_not_intro c4), if_neg (by omega)], hx⟩

/-- cachetteref04.Right -/
def cachetteref04_Right.M (a2 : Int) (a1 : Int) (R : Value → World → Prop) (w : World) : Prop :=
 thenW (w.alloc (.cells #[.int .i64 a2, .int .i64 a1] 45)) fun a0 =>
 ∃ (T4 : Int), a0.cell? ((blk w.heap.size).add 0) = some (.int .i64 T4) ∧
 bif decide (T4 ≥ 1) then (
 ∃ (T5 : Int), a0.cell? ((blk w.heap.size).add 0) = some (.int .i64 T5) ∧
 bif decide (T5 ≤ 1099511627776) then (
 ∃ (W6 : Int), a0.cell? ((blk w.heap.size).add 1) = some (.int .i64 W6) ∧
 bif decide (W6 ≥ 0) then (
 ∃ (W7 : Int), a0.cell? ((blk w.heap.size).add 1) = some (.int .i64 W7) ∧
 R (.bool (decide (W7 < 8))) a0) else (
 R (.bool false) a0)) else (
 R (.bool false) a0)) else (
 R (.bool false) a0)

theorem cachetteref04_Right.eq (sT1 : Int) (sW2 : Int) (R : Value → World → Prop) (w : World) : mfunc Try.prog [] 57 [.agg #[.int .i64 sT1, .int .i64 sW2]] R w = cachetteref04_Right.M sT1 sW2 R w := by kernel_rfl
theorem cachetteref04_Right.ok (a1 : Int) (a0 : Int) {R : Value → World → Prop} {w : World} (h : cachetteref04_Right.M a1 a0 R w) : Calls Try.prog 57 #[.agg #[.int .i64 a1, .int .i64 a0]] w fun e w' => ∃ v, e = .returned v ∧ R v w' :=
  mfunc_ok follows (H := []) (args := [.agg #[.int .i64 a1, .int .i64 a0]]) (by rw [cachetteref04_Right.eq]; exact h)

def cachetteref04_Right.N (a1 : Int) (a2 : Int) (R : Value → World → Prop) (w : World) : Prop :=
 (a1 ≥ 1 →
 (a1 ≤ 1099511627776 →
 (a2 ≥ 0 →
 ∀ (a0 : World), Ext no w a0 →
 R (.bool (decide (a2 < 8))) a0) ∧
 (a2 < 0 →
 ∀ (a0 : World), Ext no w a0 →
 R (.bool false) a0)) ∧
 ((1099511627776 : Int) < a1 →
 ∀ (a0 : World), Ext no w a0 →
 R (.bool false) a0)) ∧
 (a1 < 1 →
 ∀ (a0 : World), Ext no w a0 →
 R (.bool false) a0)

theorem cachetteref04_Right.up (a4 : Int) (a1 : Int) {R : Value → World → Prop} {w : World} (h : cachetteref04_Right.N a4 a1 R w) : cachetteref04_Right.M a4 a1 R w := by
  unfold cachetteref04_Right.M
  unfold cachetteref04_Right.N at h
  refine thenW_in fun a3 e3 => ?_
  have a0 := Blk.of_new e3
  have a5 := ((Ext.refl no w)).size
  have a2 := (Ext.refl no w).x_alloc e3
  refine ⟨a4, a0.celli 0 rfl rfl, ?_⟩
  refine bif_of (fun c4 => ?_) (fun c4 => ?_)
  · have h := h.1 (of_decide_eq_true c4)
    refine ⟨a4, a0.celli 0 rfl rfl, ?_⟩
    refine bif_of (fun c5 => ?_) (fun c5 => ?_)
    · have h := h.1 (of_decide_eq_true c5)
      refine ⟨a1, a0.celli 1 rfl rfl, ?_⟩
      refine bif_of (fun c6 => ?_) (fun c6 => ?_)
      · have h := h.1 (of_decide_eq_true c6)
        refine ⟨a1, a0.celli 1 rfl rfl, ?_⟩
        have h := h a3 a2
        exact h
      · have h := h.2 (Int.not_le.1 (of_decide_eq_false c6))
        have h := h a3 a2
        exact h
    · have h := h.2 (Int.not_le.1 (of_decide_eq_false c5))
      have h := h a3 a2
      exact h
  · have h := h.2 (Int.not_le.1 (of_decide_eq_false c4))
    have h := h a3 a2
    exact h

theorem cachetteref04_Right.go (a1 : Int) (a0 : Int) {R : Value → World → Prop} {w : World} (h : cachetteref04_Right.N a1 a0 R w) : Calls Try.prog 57 #[.agg #[.int .i64 a1, .int .i64 a0]] w fun e w' => ∃ v, e = .returned v ∧ R v w' := cachetteref04_Right.ok a1 a0 (cachetteref04_Right.up a1 a0 h)
theorem cachetteref04_Right.run (a1 : Int) (a0 : Int) {V : Value} {Q : World → Prop} {w : World} (h : cachetteref04_Right.N a1 a0 (fun v w' => v = V ∧ Q w') w) : Calls Try.prog 57 #[.agg #[.int .i64 a1, .int .i64 a0]] w (Ret V Q) := (cachetteref04_Right.go a1 a0 h).mono fun e w' ⟨v, he, hv, hq⟩ => ⟨by rw [he, hv], hq⟩

def cachetteref04_Right.F (a1 : Int) (a0 : Int) : Bool :=
  if a1 ≥ 1 then
    if a1 ≤ 1099511627776 then
      if a0 ≥ 0 then
        (decide (a0 < 8))
      else
        false
    else
      false
  else
    false
theorem cachetteref04_Right.pure (a1 : Int) (a0 : Int) {w : World} : Calls Try.prog 57 #[.agg #[.int .i64 a1, .int .i64 a0]] w (Ret (.bool (cachetteref04_Right.F a1 a0)) fun w' => Ext no w w') := by
  refine cachetteref04_Right.run a1 a0 ?_
  unfold cachetteref04_Right.N
  refine ⟨fun c0 => ?_, fun c0 => ?_⟩
  · refine ⟨fun c1 => ?_, fun c1 => ?_⟩
    · refine ⟨fun c2 => ?_, fun c2 => ?_⟩
      · intro w' hx; exact ⟨by unfold cachetteref04_Right.F; rw [if_pos c0, if_pos c1, if_pos c2], hx⟩
      · intro w' hx; exact ⟨by unfold cachetteref04_Right.F; rw [if_pos c0, if_pos c1, if_neg (by omega)], hx⟩
    · intro w' hx; exact ⟨by unfold cachetteref04_Right.F; rw [if_pos c0, if_neg (by omega)], hx⟩
  · intro w' hx; exact ⟨by unfold cachetteref04_Right.F; rw [if_neg (by omega)], hx⟩

/-- cachetteref06.Right -/
def cachetteref06_Right.M (ad : Int) (ag : Int) (an : Int) (aq : Int) (ao : Int) (ae : Int) (aj : Option Addr) (af : Nat) (ai : Nat) (ap : Int) (R : Value → World → Prop) (w : World) : Prop :=
 thenW (w.alloc (.cells #[.int .i64 ad, .int .i64 ag, .int .u64 an, .int .i64 aq, .int .i64 ao, .int .i64 ae, .slice aj af ai, .int .u64 ap] 47)) fun ab =>
 ∃ (a2 : Int), ab.cell? ((blk w.heap.size).add 0) = some (.int .i64 a2) ∧
 bif decide (a2 ≥ 0) then (
 ∃ (a1 : Int), ab.cell? ((blk w.heap.size).add 0) = some (.int .i64 a1) ∧
 bif decide (a1 < 8) then (
 ∃ (aa : Int), ab.cell? ((blk w.heap.size).add 1) = some (.int .i64 aa) ∧
 bif decide (aa ≥ 0) then (
 ∃ (a4 : Int), ab.cell? ((blk w.heap.size).add 1) = some (.int .i64 a4) ∧
 bif decide (a4 < 200) then (
 ∃ (ac : Int), ab.cell? ((blk w.heap.size).add 2) = some (.int .u64 ac) ∧
 ∃ (a5 : Int), ab.cell? ((blk w.heap.size).add 1) = some (.int .i64 a5) ∧
 bif (ac == 0) == (a5 == 0) then (
 ∃ (am : Int) (al : Int), cellsAt ab ((blk w.heap.size).add 3) [.int .i64 am, .int .i64 al] 0 ∧
 Calls Try.prog 57 #[.agg #[.int .i64 am, .int .i64 al]] ab fun ar a0 => ∃ (a9 : Bool), ar = .returned (.bool a9) ∧
 bif a9 then (
 ∃ (au : Int), a0.cell? (((blk w.heap.size).add 3).add 1) = some (.int .i64 au) ∧
 ∃ (a3 : Int), a0.cell? ((blk w.heap.size).add 0) = some (.int .i64 a3) ∧
 bif au == a3 then (
 ∃ (a7 : Int), a0.cell? ((blk w.heap.size).add 5) = some (.int .i64 a7) ∧
 bif decide (a7 ≥ (-1)) then (
 ∃ (a8 : Int), a0.cell? ((blk w.heap.size).add 5) = some (.int .i64 a8) ∧
 bif decide (a8 < 20) then (
 ∃ (ah : Option Addr) (a6 : Nat) (ak : Nat), a0.cell? ((blk w.heap.size).add 6) = some (.slice ah a6 ak) ∧
 R (.bool (decide ((a6 : Int) ≤ 1100))) a0) else (
 R (.bool false) a0)) else (
 R (.bool false) a0)) else (
 R (.bool false) a0)) else (
 R (.bool false) a0)) else (
 R (.bool false) ab)) else (
 R (.bool false) ab)) else (
 R (.bool false) ab)) else (
 R (.bool false) ab)) else (
 R (.bool false) ab)

theorem cachetteref06_Right.eq (eWriter1 : Int) (eIndex2 : Int) (ePrev3 : Int) (eAtT4 : Int) (eAtW5 : Int) (eEpoch6 : Int) (eBody7a : Option Addr) (eBody7n : Nat) (eBody7c : Nat) (eSig8 : Int) (R : Value → World → Prop) (w : World) : mfunc Try.prog [] 38 [.agg #[.int .i64 eWriter1, .int .i64 eIndex2, .int .u64 ePrev3, .int .i64 eAtT4, .int .i64 eAtW5, .int .i64 eEpoch6, .slice eBody7a eBody7n eBody7c, .int .u64 eSig8]] R w = cachetteref06_Right.M eWriter1 eIndex2 ePrev3 eAtT4 eAtW5 eEpoch6 eBody7a eBody7n eBody7c eSig8 R w := by kernel_rfl
theorem cachetteref06_Right.ok (a0 : Int) (a2 : Int) (a6 : Int) (a7 : Int) (a9 : Int) (a3 : Int) (a1 : Option Addr) (a4 : Nat) (a5 : Nat) (a8 : Int) {R : Value → World → Prop} {w : World} (h : cachetteref06_Right.M a0 a2 a6 a7 a9 a3 a1 a4 a5 a8 R w) : Calls Try.prog 38 #[.agg #[.int .i64 a0, .int .i64 a2, .int .u64 a6, .int .i64 a7, .int .i64 a9, .int .i64 a3, .slice a1 a4 a5, .int .u64 a8]] w fun e w' => ∃ v, e = .returned v ∧ R v w' :=
  mfunc_ok follows (H := []) (args := [.agg #[.int .i64 a0, .int .i64 a2, .int .u64 a6, .int .i64 a7, .int .i64 a9, .int .i64 a3, .slice a1 a4 a5, .int .u64 a8]]) (by rw [cachetteref06_Right.eq]; exact h)

def cachetteref06_Right.N (a0 : Int) (a1 : Int) (a6 : Int) (a8 : Int) (a4 : Int) (a3 : Int) (a9 : Option Addr) (a7 : Nat) (aa : Nat) (ab : Int) (R : Value → World → Prop) (w : World) : Prop :=
 (a0 ≥ 0 →
 (a0 < 8 →
 (a1 ≥ 0 →
 (a1 < 200 →
 ((a6 == 0) = (a1 == 0) →
 ((cachetteref04_Right.F a8 a4) = true →
 (a4 = a0 →
 (a3 ≥ (-1) →
 (a3 < 20 →
 ∀ (a2 : World), Ext no w a2 →
 R (.bool (decide ((a7 : Int) ≤ 1100))) a2) ∧
 ((20 : Int) ≤ a3 →
 ∀ (a2 : World), Ext no w a2 →
 R (.bool false) a2)) ∧
 (a3 < (-1) →
 ∀ (a2 : World), Ext no w a2 →
 R (.bool false) a2)) ∧
 (a4 ≠ a0 →
 ∀ (a2 : World), Ext no w a2 →
 R (.bool false) a2)) ∧
 ((cachetteref04_Right.F a8 a4) = false →
 ∀ (a2 : World), Ext no w a2 →
 R (.bool false) a2)) ∧
 ((a6 == 0) ≠ (a1 == 0) →
 ∀ (a5 : World), Ext no w a5 →
 R (.bool false) a5)) ∧
 ((200 : Int) ≤ a1 →
 ∀ (a5 : World), Ext no w a5 →
 R (.bool false) a5)) ∧
 (a1 < 0 →
 ∀ (a5 : World), Ext no w a5 →
 R (.bool false) a5)) ∧
 ((8 : Int) ≤ a0 →
 ∀ (a5 : World), Ext no w a5 →
 R (.bool false) a5)) ∧
 (a0 < 0 →
 ∀ (a5 : World), Ext no w a5 →
 R (.bool false) a5)

theorem cachetteref06_Right.up (a0 : Int) (a1 : Int) (a8 : Int) (a7 : Int) (a3 : Int) (a2 : Int) (a6 : Option Addr) (a4 : Nat) (a5 : Nat) (ab : Int) {R : Value → World → Prop} {w : World} (h : cachetteref06_Right.N a0 a1 a8 a7 a3 a2 a6 a4 a5 ab R w) : cachetteref06_Right.M a0 a1 a8 a7 a3 a2 a6 a4 a5 ab R w := by
  unfold cachetteref06_Right.M
  unfold cachetteref06_Right.N at h
  refine thenW_in fun ad e9 => ?_
  have a9 := Blk.of_new e9
  have an := ((Ext.refl no w)).size
  have ac := (Ext.refl no w).x_alloc e9
  refine ⟨a0, a9.celli 0 rfl rfl, ?_⟩
  refine bif_of (fun am => ?_) (fun am => ?_)
  · have h := h.1 (of_decide_eq_true am)
    refine ⟨a0, a9.celli 0 rfl rfl, ?_⟩
    refine bif_of (fun af => ?_) (fun af => ?_)
    · have h := h.1 (of_decide_eq_true af)
      refine ⟨a1, a9.celli 1 rfl rfl, ?_⟩
      refine bif_of (fun ag => ?_) (fun ag => ?_)
      · have h := h.1 (of_decide_eq_true ag)
        refine ⟨a1, a9.celli 1 rfl rfl, ?_⟩
        refine bif_of (fun ae => ?_) (fun ae => ?_)
        · have h := h.1 (of_decide_eq_true ae)
          refine ⟨a8, a9.celli 2 rfl rfl, ?_⟩
          refine ⟨a1, a9.celli 1 rfl rfl, ?_⟩
          refine bif_of (fun ai => ?_) (fun ai => ?_)
          · have h := h.1 (bbeq_t ai)
            refine ⟨a7, a3, ⟨a9.celli 3 rfl rfl, a9.celli 4 rfl rfl, trivial⟩, ?_⟩
            refine (cachetteref04_Right.pure a7 a3).mono fun ee ww15 ⟨he, hxx⟩ => ⟨(cachetteref04_Right.F a7 a3), he, ?_⟩
            have aa := ac.trans hxx
            have a9 := a9.ext hxx id
            refine bif_of (fun al => ?_) (fun al => ?_)
            · have h := h.1 al
              refine ⟨a3, a9.celli 4 rfl rfl, ?_⟩
              refine ⟨a0, a9.celli 0 rfl rfl, ?_⟩
              refine bif_of (fun ah => ?_) (fun ah => ?_)
              · have h := h.1 (beq_t ah)
                refine ⟨a2, a9.celli 5 rfl rfl, ?_⟩
                refine bif_of (fun ak => ?_) (fun ak => ?_)
                · have h := h.1 (of_decide_eq_true ak)
                  refine ⟨a2, a9.celli 5 rfl rfl, ?_⟩
                  refine bif_of (fun aj => ?_) (fun aj => ?_)
                  · have h := h.1 (of_decide_eq_true aj)
                    refine ⟨a6, a4, a5, a9.celli 6 rfl rfl, ?_⟩
                    have h := h ww15 aa
                    exact h
                  · have h := h.2 (Int.not_lt.1 (of_decide_eq_false aj))
                    have h := h ww15 aa
                    exact h
                · have h := h.2 (Int.not_le.1 (of_decide_eq_false ak))
                  have h := h ww15 aa
                  exact h
              · have h := h.2 (beq_f ah)
                have h := h ww15 aa
                exact h
            · have h := h.2 al
              have h := h ww15 aa
              exact h
          · have h := h.2 (bbeq_f ai)
            have h := h ad ac
            exact h
        · have h := h.2 (Int.not_lt.1 (of_decide_eq_false ae))
          have h := h ad ac
          exact h
      · have h := h.2 (Int.not_le.1 (of_decide_eq_false ag))
        have h := h ad ac
        exact h
    · have h := h.2 (Int.not_lt.1 (of_decide_eq_false af))
      have h := h ad ac
      exact h
  · have h := h.2 (Int.not_le.1 (of_decide_eq_false am))
    have h := h ad ac
    exact h

theorem cachetteref06_Right.go (a0 : Int) (a2 : Int) (a6 : Int) (a7 : Int) (a9 : Int) (a3 : Int) (a1 : Option Addr) (a4 : Nat) (a5 : Nat) (a8 : Int) {R : Value → World → Prop} {w : World} (h : cachetteref06_Right.N a0 a2 a6 a7 a9 a3 a1 a4 a5 a8 R w) : Calls Try.prog 38 #[.agg #[.int .i64 a0, .int .i64 a2, .int .u64 a6, .int .i64 a7, .int .i64 a9, .int .i64 a3, .slice a1 a4 a5, .int .u64 a8]] w fun e w' => ∃ v, e = .returned v ∧ R v w' := cachetteref06_Right.ok a0 a2 a6 a7 a9 a3 a1 a4 a5 a8 (cachetteref06_Right.up a0 a2 a6 a7 a9 a3 a1 a4 a5 a8 h)
theorem cachetteref06_Right.run (a0 : Int) (a2 : Int) (a6 : Int) (a7 : Int) (a9 : Int) (a3 : Int) (a1 : Option Addr) (a4 : Nat) (a5 : Nat) (a8 : Int) {V : Value} {Q : World → Prop} {w : World} (h : cachetteref06_Right.N a0 a2 a6 a7 a9 a3 a1 a4 a5 a8 (fun v w' => v = V ∧ Q w') w) : Calls Try.prog 38 #[.agg #[.int .i64 a0, .int .i64 a2, .int .u64 a6, .int .i64 a7, .int .i64 a9, .int .i64 a3, .slice a1 a4 a5, .int .u64 a8]] w (Ret V Q) := (cachetteref06_Right.go a0 a2 a6 a7 a9 a3 a1 a4 a5 a8 h).mono fun e w' ⟨v, he, hv, hq⟩ => ⟨by rw [he, hv], hq⟩

def cachetteref06_Right.F (a0 : Int) (a1 : Int) (a5 : Int) (a6 : Int) (a4 : Int) (a2 : Int) (a7 : Option Addr) (a3 : Nat) (a8 : Nat) (a9 : Int) : Bool :=
  if a0 ≥ 0 then
    if a0 < 8 then
      if a1 ≥ 0 then
        if a1 < 200 then
          if (a5 == 0) = (a1 == 0) then
            if (cachetteref04_Right.F a6 a4) = true then
              if a4 = a0 then
                if a2 ≥ (-1) then
                  if a2 < 20 then
                    (decide ((a3 : Int) ≤ 1100))
                  else
                    false
                else
                  false
              else
                false
            else
              false
          else
            false
        else
          false
      else
        false
    else
      false
  else
    false
theorem cachetteref06_Right.pure (a0 : Int) (a2 : Int) (a6 : Int) (a7 : Int) (a9 : Int) (a3 : Int) (a1 : Option Addr) (a4 : Nat) (a5 : Nat) (a8 : Int) {w : World} : Calls Try.prog 38 #[.agg #[.int .i64 a0, .int .i64 a2, .int .u64 a6, .int .i64 a7, .int .i64 a9, .int .i64 a3, .slice a1 a4 a5, .int .u64 a8]] w (Ret (.bool (cachetteref06_Right.F a0 a2 a6 a7 a9 a3 a1 a4 a5 a8)) fun w' => Ext no w w') := by
  refine cachetteref06_Right.run a0 a2 a6 a7 a9 a3 a1 a4 a5 a8 ?_
  unfold cachetteref06_Right.N
  refine ⟨fun c0 => ?_, fun c0 => ?_⟩
  · refine ⟨fun c1 => ?_, fun c1 => ?_⟩
    · refine ⟨fun c2 => ?_, fun c2 => ?_⟩
      · refine ⟨fun c3 => ?_, fun c3 => ?_⟩
        · refine ⟨fun c4 => ?_, fun c4 => ?_⟩
          · refine ⟨fun c5 => ?_, fun c5 => ?_⟩
            · refine ⟨fun c6 => ?_, fun c6 => ?_⟩
              · refine ⟨fun c7 => ?_, fun c7 => ?_⟩
                · refine ⟨fun c8 => ?_, fun c8 => ?_⟩
                  · intro w' hx; exact ⟨by unfold cachetteref06_Right.F; rw [if_pos c0, if_pos c1, if_pos c2, if_pos c3, if_pos c4, if_pos c5, if_pos c6, if_pos c7, if_pos c8], hx⟩
                  · intro w' hx; exact ⟨by unfold cachetteref06_Right.F; rw [if_pos c0, if_pos c1, if_pos c2, if_pos c3, if_pos c4, if_pos c5, if_pos c6, if_pos c7, if_neg (by omega)], hx⟩
                · intro w' hx; exact ⟨by unfold cachetteref06_Right.F; rw [if_pos c0, if_pos c1, if_pos c2, if_pos c3, if_pos c4, if_pos c5, if_pos c6, if_neg (by omega)], hx⟩
              · intro w' hx; exact ⟨by unfold cachetteref06_Right.F; rw [if_pos c0, if_pos c1, if_pos c2, if_pos c3, if_pos c4, if_pos c5, if_neg c6], hx⟩
            · intro w' hx; exact ⟨by unfold cachetteref06_Right.F; rw [if_pos c0, if_pos c1, if_pos c2, if_pos c3, if_pos c4, if_neg (by rw [c5]; decide)], hx⟩
          · intro w' hx; exact ⟨by unfold cachetteref06_Right.F; rw [if_pos c0, if_pos c1, if_pos c2, if_pos c3, if_neg c4], hx⟩
        · intro w' hx; exact ⟨by unfold cachetteref06_Right.F; rw [if_pos c0, if_pos c1, if_pos c2, if_neg (by omega)], hx⟩
      · intro w' hx; exact ⟨by unfold cachetteref06_Right.F; rw [if_pos c0, if_pos c1, if_neg (by omega)], hx⟩
    · intro w' hx; exact ⟨by unfold cachetteref06_Right.F; rw [if_pos c0, if_neg (by omega)], hx⟩
  · intro w' hx; exact ⟨by unfold cachetteref06_Right.F; rw [if_neg (by omega)], hx⟩

/-- an entry. -/
structure Ent where
  w : Int
  i : Int
  pv : Int
  t : Int
  tw : Int
  ep : Int
  body : List UInt8
  sg : Int
deriving DecidableEq
def Ent.zero : Ent := ⟨0, 0, 0, 0, 0, 0, [], 0⟩
/-- its cells; where the bytes of its body lie. -/
def entC (e : Ent) (a : Option Addr) (c : Nat) : List Value := [.int .i64 e.w, .int .i64 e.i, .int .u64 e.pv, .int .i64 e.t, .int .i64 e.tw, .int .i64 e.ep, .slice a e.body.length c, .int .u64 e.sg]
def entV (e : Ent) (a : Option Addr) (c : Nat) : Value := .agg #[.int .i64 e.w, .int .i64 e.i, .int .u64 e.pv, .int .i64 e.t, .int .i64 e.tw, .int .i64 e.ep, .slice a e.body.length c, .int .u64 e.sg]
/-- numbers that are of their kinds. -/
structure Ent.fit (e : Ent) : Prop where
  pv0 : 0 ≤ e.pv
  pv1 : e.pv < 18446744073709551616
  sg0 : 0 ≤ e.sg
  sg1 : e.sg < 18446744073709551616
def entRight (e : Ent) : Bool := decide (0 ≤ e.w ∧ e.w < 8 ∧ 0 ≤ e.i ∧ e.i < 200 ∧ -1 ≤ e.ep ∧ e.ep < 20 ∧ 0 < e.t ∧ e.t ≤ 1099511627776 ∧ e.tw = e.w ∧ e.body.length ≤ 1100 ∧ (e.pv = 0 ↔ e.i = 0))
theorem beq_dec (x y : Int) : ((x == 0) == (y == 0)) = decide (x = 0 ↔ y = 0) := by
  rw [Bool.eq_iff_iff, decide_eq_true_eq, beq_iff_eq, Bool.eq_iff_iff, beq_iff_eq, beq_iff_eq]
theorem within_F (n a b : Int) : entry_within.F n a b = decide (a ≤ n ∧ n < b) := by
  unfold entry_within.F
  by_cases h : n ≥ a
  · rw [if_pos h, decide_eq_decide]; omega
  · rw [if_neg h, eq_comm, decide_eq_false_iff_not]; omega
theorem stampRight_F (t w : Int) : stamp_Right.F t w = decide (0 < t ∧ t ≤ 1099511627776 ∧ 0 ≤ w ∧ w < 8) := by
  unfold stamp_Right.F stamp_member.F
  by_cases h : t > 0
  · rw [if_pos h]
    by_cases h1 : t ≤ 1099511627776
    · rw [if_pos h1]
      by_cases h2 : w ≥ 0
      · rw [if_pos h2, decide_eq_decide]; omega
      · rw [if_neg h2, eq_comm, decide_eq_false_iff_not]; omega
    · rw [if_neg h1, eq_comm, decide_eq_false_iff_not]; omega
  · rw [if_neg h, eq_comm, decide_eq_false_iff_not]; omega
theorem refStamp_F (t w : Int) : cachetteref04_Right.F t w = decide (0 < t ∧ t ≤ 1099511627776 ∧ 0 ≤ w ∧ w < 8) := by
  unfold cachetteref04_Right.F
  by_cases h : t ≥ 1
  · rw [if_pos h]
    by_cases h1 : t ≤ 1099511627776
    · rw [if_pos h1]
      by_cases h2 : w ≥ 0
      · rw [if_pos h2, decide_eq_decide]; omega
      · rw [if_neg h2, eq_comm, decide_eq_false_iff_not]; omega
    · rw [if_neg h1, eq_comm, decide_eq_false_iff_not]; omega
  · rw [if_neg h, eq_comm, decide_eq_false_iff_not]; omega
theorem entRight_F (e : Ent) (a : Option Addr) (c : Nat) : entry_Right.F e.w e.i e.pv e.t e.tw e.ep a e.body.length c e.sg = entRight e := by
  unfold entry_Right.F entRight
  rw [beq_dec]
  simp only [within_F, stampRight_F, decide_eq_false_iff_not]
  rw [Bool.eq_iff_iff, decide_eq_true_eq]
  (repeat' split) <;> simp only [Bool.false_eq_true, decide_eq_true_eq, false_iff] <;> omega
theorem refRight_F (e : Ent) (a : Option Addr) (c : Nat) : cachetteref06_Right.F e.w e.i e.pv e.t e.tw e.ep a e.body.length c e.sg = entRight e := by
  unfold cachetteref06_Right.F entRight
  have h : ((e.pv == 0) = (e.i == 0)) ↔ (e.pv = 0 ↔ e.i = 0) := by rw [Bool.eq_iff_iff]; simp
  simp only [refStamp_F, h, decide_eq_true_eq, decide_eq_false_iff_not]
  rw [Bool.eq_iff_iff, decide_eq_true_eq]
  (repeat' split) <;> simp only [Bool.false_eq_true, decide_eq_true_eq, false_iff] <;> omega
def stampL (t w : Int) : List UInt8 := numL (zig t) ++ numL w.toNat
def textL (e : Ent) : List UInt8 := numL e.w.toNat ++ numL e.i.toNat ++ numL e.pv.toNat ++ stampL e.t e.tw ++ numL (zig e.ep) ++ (numL e.body.length ++ e.body)
def bytesL (e : Ent) : List UInt8 := textL e ++ numL e.sg.toNat
theorem stampL_le (t w : Int) : (stampL t w).length ≤ 20 := by
  have h1 := W.numL_le (zig t); have h2 := W.numL_le w.toNat
  unfold stampL; rw [List.length_append]; omega
theorem textL_le (e : Ent) : (textL e).length ≤ 70 + e.body.length := by
  have h1 := W.numL_le e.w.toNat; have h2 := W.numL_le e.i.toNat; have h3 := W.numL_le e.pv.toNat; have h4 := stampL_le e.t e.tw; have h5 := W.numL_le (zig e.ep); have h6 := W.numL_le e.body.length
  unfold textL; simp only [List.length_append]; omega
theorem bytesL_le (e : Ent) : (bytesL e).length ≤ 80 + e.body.length := by
  have h1 := textL_le e; have h2 := W.numL_le e.sg.toNat
  unfold bytesL; rw [List.length_append]; omega
/-- what is read of a stamp, of an entry. -/
def stampR (s : RS) : (Int × Nat) × RS := (((intR s).1, (countR 7 (intR s).2).1), (countR 7 (intR s).2).2)
def entR1 (s : RS) : RS := (countR 7 s).2
def entR2 (s : RS) : RS := (countR 199 (entR1 s)).2
def entR3 (s : RS) : RS := (numR (entR2 s)).2
def entR4 (s : RS) : RS := (stampR (entR3 s)).2
def entR5 (s : RS) : RS := (intR (entR4 s)).2
def entR6 (s : RS) : RS := (bytesR 1100 (entR5 s)).2
def entR7 (s : RS) : RS := (numR (entR6 s)).2
def entR (s : RS) : Ent := ⟨(countR 7 s).1, (countR 199 (entR1 s)).1, (numR (entR2 s)).1, (stampR (entR3 s)).1.1, (stampR (entR3 s)).1.2, (intR (entR4 s)).1, (bytesR 1100 (entR5 s)).1, (numR (entR6 s)).1⟩
def readE (b : List UInt8) : Ent × Int :=
  if doneR (entR7 (b, 0)) ≠ 0 then (Ent.zero, doneR (entR7 (b, 0))) else if entRight (entR (b, 0)) = true then (entR (b, 0), 0) else (Ent.zero, 4)
/-! ### the plain law -/
theorem zig_small {t : Int} (h0 : -9223372036854775808 ≤ t) (h1 : t < 9223372036854775808) (r : List UInt8) : intR (numL (zig t) ++ r, 0) = (t, (r, 0)) := by
  unfold intR
  rw [W.numR_write (W.zig_lt h0 h1), W.unzig_zig]
theorem takeR_write (x r : List UInt8) : takeR x.length (x ++ r, 0) = (x, (r, 0)) := by
  unfold takeR
  rw [if_pos rfl, if_neg (by simp), List.take_left' rfl, List.drop_left' rfl]
theorem bytesR_write {m : Int} {x : List UInt8} (hm : (x.length : Int) ≤ m) (hx : x.length < 18446744073709551616) (r : List UInt8) : bytesR m (numL x.length ++ (x ++ r), 0) = (x, (r, 0)) := by
  unfold bytesR
  rw [W.countR_write hx hm, takeR_write]
theorem entRight_iff (e : Ent) : entRight e = true ↔ (0 ≤ e.w ∧ e.w < 8 ∧ 0 ≤ e.i ∧ e.i < 200 ∧ -1 ≤ e.ep ∧ e.ep < 20 ∧ 0 < e.t ∧ e.t ≤ 1099511627776 ∧ e.tw = e.w ∧ e.body.length ≤ 1100 ∧ (e.pv = 0 ↔ e.i = 0)) := decide_eq_true_iff
theorem entR_write {e : Ent} (h : entRight e = true) (hf : e.fit) (r : List UInt8) : entR (bytesL e ++ r, 0) = e ∧ entR7 (bytesL e ++ r, 0) = (r, 0) := by
  obtain ⟨h1, h2, h3, h4, h5, h6, h7, h8, h9, h10, h11⟩ := (entRight_iff e).1 h
  obtain ⟨l2, l3, l4, l5, l6, l7, l8, e1, rfl, rfl, rfl, rfl, rfl, rfl, rfl⟩ : ∃ l2 l3 l4 l5 l6 l7 l8, bytesL e ++ r = numL e.w.toNat ++ l2 ∧ l2 = numL e.i.toNat ++ l3 ∧ l3 = numL e.pv.toNat ++ l4 ∧ l4 = numL (zig e.t) ++ l5 ∧ l5 = numL e.tw.toNat ++ l6 ∧ l6 = numL (zig e.ep) ++ l7 ∧
      l7 = numL e.body.length ++ (e.body ++ l8) ∧ l8 = numL e.sg.toNat ++ r := ⟨_, _, _, _, _, _, _, by unfold bytesL textL stampL; simp only [List.append_assoc], rfl, rfl, rfl, rfl, rfl, rfl, rfl⟩
  have f1 := hf.pv0; have f2 := hf.pv1; have f3 := hf.sg0; have f4 := hf.sg1
  have q1 := W.countR_write (n := e.w.toNat) (m := 7) (by omega) (by omega) (numL e.i.toNat ++ (numL e.pv.toNat ++ (numL (zig e.t) ++ (numL e.tw.toNat ++ (numL (zig e.ep) ++ (numL e.body.length ++ (e.body ++ (numL e.sg.toNat ++ r))))))))
  rw [← e1] at q1
  have q2 := W.countR_write (n := e.i.toNat) (m := 199) (by omega) (by omega) (numL e.pv.toNat ++ (numL (zig e.t) ++ (numL e.tw.toNat ++ (numL (zig e.ep) ++ (numL e.body.length ++ (e.body ++ (numL e.sg.toNat ++ r)))))))
  have p1 : entR1 (bytesL e ++ r, 0) = (numL e.i.toNat ++ (numL e.pv.toNat ++ (numL (zig e.t) ++ (numL e.tw.toNat ++ (numL (zig e.ep) ++ (numL e.body.length ++ (e.body ++ (numL e.sg.toNat ++ r))))))), 0) := congrArg Prod.snd q1
  rw [← p1] at q2
  have q3 := W.numR_write (n := e.pv.toNat) (by omega) (numL (zig e.t) ++ (numL e.tw.toNat ++ (numL (zig e.ep) ++ (numL e.body.length ++ (e.body ++ (numL e.sg.toNat ++ r))))))
  have p2 : entR2 (bytesL e ++ r, 0) = (numL e.pv.toNat ++ (numL (zig e.t) ++ (numL e.tw.toNat ++ (numL (zig e.ep) ++ (numL e.body.length ++ (e.body ++ (numL e.sg.toNat ++ r)))))), 0) := congrArg Prod.snd q2
  rw [← p2] at q3
  have q4 := zig_small (t := e.t) (by omega) (by omega) (numL e.tw.toNat ++ (numL (zig e.ep) ++ (numL e.body.length ++ (e.body ++ (numL e.sg.toNat ++ r)))))
  have p3 : entR3 (bytesL e ++ r, 0) = (numL (zig e.t) ++ (numL e.tw.toNat ++ (numL (zig e.ep) ++ (numL e.body.length ++ (e.body ++ (numL e.sg.toNat ++ r))))), 0) := congrArg Prod.snd q3
  rw [← p3] at q4
  have q5 := W.countR_write (n := e.tw.toNat) (m := 7) (by omega) (by omega) (numL (zig e.ep) ++ (numL e.body.length ++ (e.body ++ (numL e.sg.toNat ++ r))))
  have p5 : (intR (entR3 (bytesL e ++ r, 0))).2 = (numL e.tw.toNat ++ (numL (zig e.ep) ++ (numL e.body.length ++ (e.body ++ (numL e.sg.toNat ++ r)))), 0) := congrArg Prod.snd q4
  rw [← p5] at q5
  have q6 := zig_small (t := e.ep) (by omega) (by omega) (numL e.body.length ++ (e.body ++ (numL e.sg.toNat ++ r)))
  have p6 : entR4 (bytesL e ++ r, 0) = (numL (zig e.ep) ++ (numL e.body.length ++ (e.body ++ (numL e.sg.toNat ++ r))), 0) := congrArg Prod.snd q5
  rw [← p6] at q6
  have q7 := bytesR_write (x := e.body) (m := 1100) (by omega) (by omega) (numL e.sg.toNat ++ r)
  have p7 : entR5 (bytesL e ++ r, 0) = (numL e.body.length ++ (e.body ++ (numL e.sg.toNat ++ r)), 0) := congrArg Prod.snd q6
  rw [← p7] at q7
  have q8 := W.numR_write (n := e.sg.toNat) (by omega) r
  have p8 : entR6 (bytesL e ++ r, 0) = (numL e.sg.toNat ++ r, 0) := congrArg Prod.snd q7
  rw [← p8] at q8
  refine ⟨?_, congrArg Prod.snd q8⟩
  unfold entR stampR
  rw [q1, q2, q3, q5, q4, q6, q7, q8]
  simp only
  obtain ⟨w, i, pv, t, tw, ep, body, sg⟩ := e
  simp only at *
  rw [Int.toNat_of_nonneg h1, Int.toNat_of_nonneg h3, Int.toNat_of_nonneg f1, Int.toNat_of_nonneg (by omega : 0 ≤ tw), Int.toNat_of_nonneg f3]
theorem readE_write {e : Ent} (h : entRight e = true) (hf : e.fit) : readE (bytesL e) = (e, 0) := by
  obtain ⟨h1, h2⟩ := entR_write h hf []
  rw [List.append_nil] at h1 h2
  unfold readE
  rw [h2, h1, if_neg (by simp [doneR]), if_pos h]
/-- right entries of the same bytes are the same. -/
theorem bytesL_inj {e f : Ent} (he : entRight e = true) (hf : entRight f = true) (h1 : e.fit) (h2 : f.fit) (h : bytesL e = bytesL f) : e = f := by
  have := readE_write he h1
  rw [h, readE_write hf h2] at this
  exact (Prod.mk.inj this).1.symm
end Go.Proofs.Ytdelmfpchbpafaa

/- Entries: their bytes, and the entry of bytes (the program's). -/
set_option linter.unusedVariables false
set_option linter.unusedSimpArgs false
set_option maxRecDepth 20000
namespace Go.Proofs.Ytdelmfpchbpafaa
open Go Go.Mx Go.Proofs
open W (OwnB GivesW numR countR doneR zig unzig intR)
/-- bytes.Equal -/
def bytes_Equal.M (a0 : Option Addr) (a4 : Nat) (a3 : Nat) (a2 : Option Addr) (a5 : Nat) (a1 : Nat) (R : Value → World → Prop) (w : World) : Prop :=
 ∃ (s3 : ByteArray), (convert 43 9 (.slice a0 a4 a3)).run Try.prog w = .ok (.string s3) w ∧
 ∃ (s4 : ByteArray), (convert 43 9 (.slice a2 a5 a1)).run Try.prog w = .ok (.string s4) w ∧
 R (.bool (s3.toList == s4.toList)) w

theorem bytes_Equal.eq (a1a : Option Addr) (a1n : Nat) (a1c : Nat) (b2a : Option Addr) (b2n : Nat) (b2c : Nat) (R : Value → World → Prop) (w : World) : mfunc Try.prog [] 77 [.slice a1a a1n a1c, .slice b2a b2n b2c] R w = bytes_Equal.M a1a a1n a1c b2a b2n b2c R w := by kernel_rfl
theorem bytes_Equal.ok (a0 : Option Addr) (a4 : Nat) (a3 : Nat) (a2 : Option Addr) (a5 : Nat) (a1 : Nat) {R : Value → World → Prop} {w : World} (h : bytes_Equal.M a0 a4 a3 a2 a5 a1 R w) : Calls Try.prog 77 #[.slice a0 a4 a3, .slice a2 a5 a1] w fun e w' => ∃ v, e = .returned v ∧ R v w' :=
  mfunc_ok follows (H := []) (args := [.slice a0 a4 a3, .slice a2 a5 a1]) (by rw [bytes_Equal.eq]; exact h)

def bytes_Equal.N (a0 : Option Addr) (a4 : Nat) (a3 : Nat) (a2 : Option Addr) (a5 : Nat) (a1 : Nat) (R : Value → World → Prop) (w : World) : Prop :=
 ∃ (s3 : ByteArray), (convert 43 9 (.slice a0 a4 a3)).run Try.prog w = .ok (.string s3) w ∧
 ∃ (s5 : ByteArray), (convert 43 9 (.slice a2 a5 a1)).run Try.prog w = .ok (.string s5) w ∧
 R (.bool (s3.toList == s5.toList)) w

theorem bytes_Equal.up (a0 : Option Addr) (a4 : Nat) (a3 : Nat) (a2 : Option Addr) (a5 : Nat) (a1 : Nat) {R : Value → World → Prop} {w : World} (h : bytes_Equal.N a0 a4 a3 a2 a5 a1 R w) : bytes_Equal.M a0 a4 a3 a2 a5 a1 R w := by
  unfold bytes_Equal.M
  unfold bytes_Equal.N at h
  obtain ⟨s3, a6, h⟩ := h
  refine ⟨s3, a6, ?_⟩
  obtain ⟨s5, a7, h⟩ := h
  refine ⟨s5, a7, ?_⟩
  exact h

theorem bytes_Equal.go (a0 : Option Addr) (a4 : Nat) (a3 : Nat) (a2 : Option Addr) (a5 : Nat) (a1 : Nat) {R : Value → World → Prop} {w : World} (h : bytes_Equal.N a0 a4 a3 a2 a5 a1 R w) : Calls Try.prog 77 #[.slice a0 a4 a3, .slice a2 a5 a1] w fun e w' => ∃ v, e = .returned v ∧ R v w' := bytes_Equal.ok a0 a4 a3 a2 a5 a1 (bytes_Equal.up a0 a4 a3 a2 a5 a1 h)
theorem bytes_Equal.run (a0 : Option Addr) (a4 : Nat) (a3 : Nat) (a2 : Option Addr) (a5 : Nat) (a1 : Nat) {V : Value} {Q : World → Prop} {w : World} (h : bytes_Equal.N a0 a4 a3 a2 a5 a1 (fun v w' => v = V ∧ Q w') w) : Calls Try.prog 77 #[.slice a0 a4 a3, .slice a2 a5 a1] w (Ret V Q) := (bytes_Equal.go a0 a4 a3 a2 a5 a1 h).mono fun e w' ⟨v, he, hv, hq⟩ => ⟨by rw [he, hv], hq⟩

/-- stamp.Put -/
def stamp_Put.M (ab : Option Addr) (ac : Nat) (ad : Nat) (af : Int) (ae : Int) (R : Value → World → Prop) (w : World) : Prop :=
 thenW (w.alloc (.cells #[.int .i64 af, .int .i64 ae] 45)) fun ag =>
 thenW (ag.drew) fun a7 =>
 ∃ (T6 : Int), a7.cell? ((blk w.heap.size).add 0) = some (.int .i64 T6) ∧
 ∃ (W7 : Int), a7.cell? ((blk w.heap.size).add 1) = some (.int .i64 W7) ∧
 Calls Try.prog 79 #[.slice ab ac ad, .int .i64 T6] a7 fun aa a6 => ∃ (a4 : Option Addr) (a3 : Nat) (a5 : Nat), aa = .returned (.slice a4 a3 a5) ∧
 a6.cell? ((blk w.heap.size).add 1) = some (.int .i64 W7) ∧
 Calls Try.prog 64 #[.slice a4 a3 a5, .int .u64 (IntKind.u64.wrap (if (0 : Int) > W7 then 0 else W7))] a6 fun a8 a9 => ∃ (a2 : Option Addr) (a1 : Nat) (a0 : Nat), a8 = .returned (.slice a2 a1 a0) ∧
 R (.slice a2 a1 a0) a9

theorem stamp_Put.eq (b1a : Option Addr) (b1n : Nat) (b1c : Nat) (sT2 : Int) (sW3 : Int) (R : Value → World → Prop) (w : World) : mfunc Try.prog [] 80 [.slice b1a b1n b1c, .agg #[.int .i64 sT2, .int .i64 sW3]] R w = stamp_Put.M b1a b1n b1c sT2 sW3 R w := by kernel_rfl
theorem stamp_Put.ok (a0 : Option Addr) (a1 : Nat) (a2 : Nat) (a4 : Int) (a3 : Int) {R : Value → World → Prop} {w : World} (h : stamp_Put.M a0 a1 a2 a4 a3 R w) : Calls Try.prog 80 #[.slice a0 a1 a2, .agg #[.int .i64 a4, .int .i64 a3]] w fun e w' => ∃ v, e = .returned v ∧ R v w' :=
  mfunc_ok follows (H := []) (args := [.slice a0 a1 a2, .agg #[.int .i64 a4, .int .i64 a3]]) (by rw [stamp_Put.eq]; exact h)

def stamp_Put.N (ab : Option Addr) (ac : Nat) (ad : Nat) (ae : Int) (a9 : Int) (R : Value → World → Prop) (w : World) : Prop :=
 ∀ (a6 : World) (p6 : Nat), Ext no w a6 → Priv w a6 [p6] →
 Calls Try.prog 79 #[.slice ab ac ad, .int .i64 ae] a6 fun af aa => ∃ (a4 : Option Addr) (a5 : Nat) (a3 : Nat), af = .returned (.slice a4 a5 a3) ∧
 Keep [p6] a6 aa ∧
 Calls Try.prog 64 #[.slice a4 a5 a3, .int .u64 (IntKind.u64.wrap (if (0 : Int) > a9 then 0 else a9))] aa fun a8 a7 => ∃ (a2 : Option Addr) (a1 : Nat) (a0 : Nat), a8 = .returned (.slice a2 a1 a0) ∧
 R (.slice a2 a1 a0) a7

theorem stamp_Put.up (a9 : Option Addr) (aa : Nat) (ab : Nat) (a8 : Int) (a7 : Int) {R : Value → World → Prop} {w : World} (h : stamp_Put.N a9 aa ab a8 a7 R w) : stamp_Put.M a9 aa ab a8 a7 R w := by
  unfold stamp_Put.M
  unfold stamp_Put.N at h
  refine thenW_in fun ak e4 => ?_
  have a0 := Blk.of_new e4
  have ag := ((Ext.refl no w)).size
  have ae := (Ext.refl no w).x_alloc e4
  refine thenW_in fun ad e5 => ?_
  have ah := ae.x_drew e5
  have a0 := a0.x_drew e5
  refine ⟨a8, a0.celli 0 rfl rfl, ?_⟩
  refine ⟨a7, a0.celli 1 rfl rfl, ?_⟩
  have h := h ad (w.heap.size) ah (Priv.cons ag a0.lt Priv.nil)
  refine h.mono fun ai aj h => ?_
  obtain ⟨a5, a4, a6, he, hk, h⟩ := h
  refine ⟨a5, a4, a6, he, ?_⟩
  have a0 := hk.blk a0 (by simp)
  refine ⟨a0.celli 1 rfl rfl, ?_⟩
  refine h.mono fun ac af h => ?_
  obtain ⟨a3, a2, a1, he, h⟩ := h
  refine ⟨a3, a2, a1, he, ?_⟩
  exact h

theorem stamp_Put.go (a0 : Option Addr) (a1 : Nat) (a2 : Nat) (a4 : Int) (a3 : Int) {R : Value → World → Prop} {w : World} (h : stamp_Put.N a0 a1 a2 a4 a3 R w) : Calls Try.prog 80 #[.slice a0 a1 a2, .agg #[.int .i64 a4, .int .i64 a3]] w fun e w' => ∃ v, e = .returned v ∧ R v w' := stamp_Put.ok a0 a1 a2 a4 a3 (stamp_Put.up a0 a1 a2 a4 a3 h)
/-- (*entry.writer).nums -/
def entry_writer_nums.M (ac : Option Addr) (ag : Option Addr) (ad : Nat) (ah : Nat) (R : Value → World → Prop) (w : World) : Prop :=
 ∃ (I0 : Nat → List Value → World → Prop) (m4 : Nat), I0 m4 [.int .i64 0] w ∧ ∀ (m5 : Nat) (a8 : World) (t3 : Int), I0 m5 [.int .i64 t3] a8 →
 bif decide (t3 < (ad : Int)) then (
 ag.elim False fun a7 =>
 0 ≤ (t3 : Int) ∧ (t3 : Int) < (ad : Int) ∧
 ∃ (x8 : Int), a8.cell? (a7.add (Int.toNat t3 * 1)) = some (.int .u64 x8) ∧
 ac.elim False fun a9 =>
 ∃ (a3 : Option Addr) (a4 : Nat) (a6 : Nat), a8.cell? a9 = some (.slice a3 a4 a6) ∧
 Calls Try.prog 64 #[.slice a3 a4 a6, .int .u64 x8] a8 fun ab a5 => ∃ (a2 : Option Addr) (a0 : Nat) (a1 : Nat), ab = .returned (.slice a2 a0 a1) ∧
 ac.elim False fun ae =>
 canStore a5 (ae.add 0) ∧
 thenW (a5.setCell (ae.add 0) (.slice a2 a0 a1)) fun aa =>
 ∃ af, af < m5 ∧ I0 af [.int .i64 (IntKind.i64.wrap (t3 + 1))] aa) else (
 R (.tuple #[]) a8)

theorem entry_writer_nums.eq (wv1 : Option Addr) (l2a : Option Addr) (l2n : Nat) (l2c : Nat) (R : Value → World → Prop) (w : World) : mfunc Try.prog [(0, [0, 6, 7], [(8, (.one (.int .i64)))])] 78 [.pointer wv1, .slice l2a l2n l2c] R w = entry_writer_nums.M wv1 l2a l2n l2c R w := by kernel_rfl
theorem entry_writer_nums.ok (a1 : Option Addr) (a3 : Option Addr) (a2 : Nat) (a0 : Nat) {R : Value → World → Prop} {w : World} (h : entry_writer_nums.M a1 a3 a2 a0 R w) : Calls Try.prog 78 #[.pointer a1, .slice a3 a2 a0] w fun e w' => ∃ v, e = .returned v ∧ R v w' :=
  mfunc_ok follows (H := [(0, [0, 6, 7], [(8, (.one (.int .i64)))])]) (args := [.pointer a1, .slice a3 a2 a0]) (by rw [entry_writer_nums.eq]; exact h)

def entry_writer_nums.N (af : Option Addr) (ag : Option Addr) (ab : Nat) (ah : Nat) (R : Value → World → Prop) (w : World) : Prop :=
 ∃ (I0 : Nat → List Value → World → Prop) (m4 : Nat), I0 m4 [.int .i64 0] w ∧ ∀ (m5 : Nat) (a7 : World) (t3 : Int), I0 m5 [.int .i64 t3] a7 →
 (t3 < (ab : Int) →
 ∃ a8 : Addr, ag = some a8 ∧
 0 ≤ (t3 : Int) ∧ (t3 : Int) < (ab : Int) ∧
 ∃ (ae : Int), a7.cell? (a8.add (Int.toNat t3 * 1)) = some (.int .u64 ae) ∧
 ∃ a9 : Addr, af = some a9 ∧
 ∃ (a5 : Option Addr) (a3 : Nat) (a6 : Nat), a7.cell? a9 = some (.slice a5 a3 a6) ∧
 Calls Try.prog 64 #[.slice a5 a3 a6, .int .u64 ae] a7 fun aa a4 => ∃ (a1 : Option Addr) (a2 : Nat) (a0 : Nat), aa = .returned (.slice a1 a2 a0) ∧
 canStore a4 (a9.add 0) ∧
 thenW (a4.setCell (a9.add 0) (.slice a1 a2 a0)) fun ac =>
 (-9223372036854775808 : Int) ≤ (t3 + 1) ∧ (t3 + 1) < 9223372036854775808 ∧
 ∃ ad, ad < m5 ∧ I0 ad [.int .i64 (t3 + 1)] ac) ∧
 ((ab : Int) ≤ t3 →
 R (.tuple #[]) a7)

theorem entry_writer_nums.up (a9 : Option Addr) (aa : Option Addr) (ab : Nat) (ac : Nat) {R : Value → World → Prop} {w : World} (h : entry_writer_nums.N a9 aa ab ac R w) : entry_writer_nums.M a9 aa ab ac R w := by
  unfold entry_writer_nums.M
  unfold entry_writer_nums.N at h
  obtain ⟨I0, m4, h0, h⟩ := h
  refine ⟨I0, m4, h0, fun m5 ak t3 hI => ?_⟩
  have h := h m5 ak t3 hI
  refine bif_of (fun c7 => ?_) (fun c7 => ?_)
  · have h := h.1 (of_decide_eq_true c7)
    obtain ⟨a8, an, h⟩ := h
    refine elim_some an ?_
    obtain ⟨ad, af, h⟩ := h
    refine ⟨ad, af, ?_⟩
    obtain ⟨aj, ap, h⟩ := h
    refine ⟨aj, ap, ?_⟩
    obtain ⟨aq, a3, h⟩ := h
    refine elim_some a3 ?_
    obtain ⟨a6, a5, a4, a7, h⟩ := h
    refine ⟨a6, a5, a4, a7, ?_⟩
    refine h.mono fun ag al h => ?_
    obtain ⟨a1, a2, a0, he, h⟩ := h
    refine ⟨a1, a2, a0, he, ?_⟩
    refine elim_some a3 ?_
    obtain ⟨hcs, h⟩ := h
    refine ⟨hcs, thenW_in fun ao am => ?_⟩
    replace h := thenW_out h am
    obtain ⟨ai, ah, h⟩ := h
    try rw [w64 ai ah]
    obtain ⟨ae, hk, h⟩ := h
    exact ⟨ae, hk, h⟩
  · have h := h.2 (Int.not_lt.1 (of_decide_eq_false c7))
    exact h

theorem entry_writer_nums.go (a1 : Option Addr) (a3 : Option Addr) (a2 : Nat) (a0 : Nat) {R : Value → World → Prop} {w : World} (h : entry_writer_nums.N a1 a3 a2 a0 R w) : Calls Try.prog 78 #[.pointer a1, .slice a3 a2 a0] w fun e w' => ∃ v, e = .returned v ∧ R v w' := entry_writer_nums.ok a1 a3 a2 a0 (entry_writer_nums.up a1 a3 a2 a0 h)
/-- entry.text -/
def entry_text.M (ag : Int) (ak : Int) (aq : Int) (az : Int) (av : Int) (ai : Int) (am : Option Addr) (aj : Nat) (al : Nat) (ax : Int) (R : Value → World → Prop) (w : World) : Prop :=
 thenW (w.alloc (.cells #[.int .i64 ag, .int .i64 ak, .int .u64 aq, .int .i64 az, .int .i64 av, .int .i64 ai, .slice am aj al, .int .u64 ax] 47)) fun b8 =>
 thenW (b8.alloc (.cells #[.slice none 0 0] 123)) fun ae =>
 ∃ (a1 : Int), ae.cell? ((blk w.heap.size).add 0) = some (.int .i64 a1) ∧
 ∃ (a8 : Int), ae.cell? ((blk w.heap.size).add 1) = some (.int .i64 a8) ∧
 ∃ (ac : Int), ae.cell? ((blk w.heap.size).add 2) = some (.int .u64 ac) ∧
 thenW (ae.alloc (.cells #[.int .u64 (IntKind.u64.wrap a1), .int .u64 (IntKind.u64.wrap a8), .int .u64 ac] 32)) fun b1 =>
 Calls Try.prog 78 #[.pointer (some (blk b8.heap.size)), .slice (some (blk ae.heap.size)) 3 3] b1 fun b2 b5 => b2 = .returned (.tuple #[]) ∧
 thenW (b5.drew) fun an =>
 ∃ (ay : Option Addr) (au : Nat) (aw : Nat), an.cell? (blk b8.heap.size) = some (.slice ay au aw) ∧
 ∃ (ao : Int) (ap : Int), cellsAt an ((blk w.heap.size).add 3) [.int .i64 ao, .int .i64 ap] 0 ∧
 ∃ (a0 : Int), an.cell? ((blk w.heap.size).add 5) = some (.int .i64 a0) ∧
 Calls Try.prog 80 #[.slice ay au aw, .agg #[.int .i64 ao, .int .i64 ap]] an fun b7 b0 => ∃ (ad : Option Addr) (aa : Nat) (ab : Nat), b7 = .returned (.slice ad aa ab) ∧
 b0.cell? ((blk w.heap.size).add 5) = some (.int .i64 a0) ∧
 Calls Try.prog 79 #[.slice ad aa ab, .int .i64 a0] b0 fun b6 ar => ∃ (ah : Option Addr) (af : Nat) (a9 : Nat), b6 = .returned (.slice ah af a9) ∧
 ∃ (a7 : Option Addr) (a5 : Nat) (a6 : Nat), ar.cell? ((blk w.heap.size).add 6) = some (.slice a7 a5 a6) ∧
 Calls Try.prog 81 #[.slice ah af a9, .slice a7 a5 a6] ar fun b4 b3 => ∃ (a3 : Option Addr) (a2 : Nat) (a4 : Nat), b4 = .returned (.slice a3 a2 a4) ∧
 R (.slice a3 a2 a4) b3

theorem entry_text.eq (eWriter1 : Int) (eIndex2 : Int) (ePrev3 : Int) (eAtT4 : Int) (eAtW5 : Int) (eEpoch6 : Int) (eBody7a : Option Addr) (eBody7n : Nat) (eBody7c : Nat) (eSig8 : Int) (R : Value → World → Prop) (w : World) : mfunc Try.prog [] 65 [.agg #[.int .i64 eWriter1, .int .i64 eIndex2, .int .u64 ePrev3, .int .i64 eAtT4, .int .i64 eAtW5, .int .i64 eEpoch6, .slice eBody7a eBody7n eBody7c, .int .u64 eSig8]] R w = entry_text.M eWriter1 eIndex2 ePrev3 eAtT4 eAtW5 eEpoch6 eBody7a eBody7n eBody7c eSig8 R w := by kernel_rfl
theorem entry_text.ok (a0 : Int) (a2 : Int) (a6 : Int) (a7 : Int) (a9 : Int) (a3 : Int) (a1 : Option Addr) (a4 : Nat) (a5 : Nat) (a8 : Int) {R : Value → World → Prop} {w : World} (h : entry_text.M a0 a2 a6 a7 a9 a3 a1 a4 a5 a8 R w) : Calls Try.prog 65 #[.agg #[.int .i64 a0, .int .i64 a2, .int .u64 a6, .int .i64 a7, .int .i64 a9, .int .i64 a3, .slice a1 a4 a5, .int .u64 a8]] w fun e w' => ∃ v, e = .returned v ∧ R v w' :=
  mfunc_ok follows (H := []) (args := [.agg #[.int .i64 a0, .int .i64 a2, .int .u64 a6, .int .i64 a7, .int .i64 a9, .int .i64 a3, .slice a1 a4 a5, .int .u64 a8]]) (by rw [entry_text.eq]; exact h)

def entry_text.N (aa : Int) (ae : Int) (ai : Int) (ar : Int) (am : Int) (ac : Int) (ag : Option Addr) (ad : Nat) (af : Nat) (b1 : Int) (R : Value → World → Prop) (w : World) : Prop :=
 ∀ (a6 : World) (al : Nat) (au : Nat), Ext no w a6 → Blk a6 al 123 [.slice none 0 0] → w.heap.size ≤ al → al < a6.heap.size → Privq w al [au] →
 ∀ (a7 : World) (av : Nat), Ext no a6 a7 → Blk a7 av 32 [.int .u64 (IntKind.u64.wrap aa), .int .u64 (IntKind.u64.wrap ae), .int .u64 ai] → a6.heap.size ≤ av → av < a7.heap.size →
 Calls Try.prog 78 #[.pointer (some (blk al)), .slice (some (blk av)) 3 3] a7 fun aw aj => aw = .returned (.tuple #[]) ∧
 Keep [au] a7 aj ∧
 ∃ (aq : Option Addr) (ap : Nat) (ao : Nat), aj.cell? (blk al) = some (.slice aq ap ao) ∧
 ∀ (ak : World), Ext no aj ak →
 Calls Try.prog 80 #[.slice aq ap ao, .agg #[.int .i64 ar, .int .i64 am]] ak fun az ah => ∃ (a4 : Option Addr) (a9 : Nat) (a5 : Nat), az = .returned (.slice a4 a9 a5) ∧
 Keep [au] ak ah ∧
 Calls Try.prog 79 #[.slice a4 a9 a5, .int .i64 ac] ah fun b0 an => ∃ (ab : Option Addr) (a3 : Nat) (a8 : Nat), b0 = .returned (.slice ab a3 a8) ∧
 Keep [au] ah an ∧
 Calls Try.prog 81 #[.slice ab a3 a8, .slice ag ad af] an fun ax ay => ∃ (a0 : Option Addr) (a2 : Nat) (a1 : Nat), ax = .returned (.slice a0 a2 a1) ∧
 R (.slice a0 a2 a1) ay

theorem entry_text.up (a0 : Int) (a4 : Int) (a7 : Int) (ac : Int) (aa : Int) (a2 : Int) (a6 : Option Addr) (a3 : Nat) (a5 : Nat) (ae : Int) {R : Value → World → Prop} {w : World} (h : entry_text.N a0 a4 a7 ac aa a2 a6 a3 a5 ae R w) : entry_text.M a0 a4 a7 ac aa a2 a6 a3 a5 ae R w := by
  unfold entry_text.M
  unfold entry_text.N at h
  refine thenW_in fun b7 e9 => ?_
  have a1 := Blk.of_new e9
  have b4 := ((Ext.refl no w)).size
  have ax := (Ext.refl no w).x_alloc e9
  refine thenW_in fun ad an => ?_
  have b5 := a1.lt
  have a1 := a1.x_alloc an
  have h := h ad b7.heap.size (w.heap.size) (ax.x_alloc an) (Blk.of_new an) (ax).size (size_lt_alloc an) (Privq.cons b4 b5 Privq.nil)
  refine ⟨a0, a1.celli 0 rfl rfl, ?_⟩
  refine ⟨a4, a1.celli 1 rfl rfl, ?_⟩
  refine ⟨a7, a1.celli 2 rfl rfl, ?_⟩
  refine thenW_in fun ao am => ?_
  have a1 := a1.x_alloc am
  have h := h ao ad.heap.size ((Ext.refl no ad).x_alloc am) (Blk.of_new am) ((Ext.refl no ad)).size (size_lt_alloc am)
  refine h.mono fun b0 aq h => ?_
  obtain ⟨he, hk, h⟩ := h
  refine ⟨he, ?_⟩
  have a1 := hk.blk a1 (by simp)
  refine thenW_in fun aw ay => ?_
  have al := (Ext.refl no aq).x_drew ay
  have a1 := a1.x_drew ay
  obtain ⟨av, au, ap, ar, h⟩ := h
  refine ⟨av, au, ap, (al).cell ar id, ?_⟩
  refine ⟨ac, aa, ⟨a1.celli 3 rfl rfl, a1.celli 4 rfl rfl, trivial⟩, ?_⟩
  refine ⟨a2, a1.celli 5 rfl rfl, ?_⟩
  have h := h aw al
  refine h.mono fun b6 az h => ?_
  obtain ⟨ag, aj, ah, he, hk, h⟩ := h
  refine ⟨ag, aj, ah, he, ?_⟩
  have a1 := hk.blk a1 (by simp)
  refine ⟨a1.celli 5 rfl rfl, ?_⟩
  refine h.mono fun b8 b2 h => ?_
  obtain ⟨ak, af, ai, he, hk, h⟩ := h
  refine ⟨ak, af, ai, he, ?_⟩
  have a1 := hk.blk a1 (by simp)
  refine ⟨a6, a3, a5, a1.celli 6 rfl rfl, ?_⟩
  refine h.mono fun b1 b3 h => ?_
  obtain ⟨a8, ab, a9, he, h⟩ := h
  refine ⟨a8, ab, a9, he, ?_⟩
  exact h

theorem entry_text.go (a0 : Int) (a2 : Int) (a6 : Int) (a7 : Int) (a9 : Int) (a3 : Int) (a1 : Option Addr) (a4 : Nat) (a5 : Nat) (a8 : Int) {R : Value → World → Prop} {w : World} (h : entry_text.N a0 a2 a6 a7 a9 a3 a1 a4 a5 a8 R w) : Calls Try.prog 65 #[.agg #[.int .i64 a0, .int .i64 a2, .int .u64 a6, .int .i64 a7, .int .i64 a9, .int .i64 a3, .slice a1 a4 a5, .int .u64 a8]] w fun e w' => ∃ v, e = .returned v ∧ R v w' := entry_text.ok a0 a2 a6 a7 a9 a3 a1 a4 a5 a8 (entry_text.up a0 a2 a6 a7 a9 a3 a1 a4 a5 a8 h)
/-- entry.Text -/
def entry_Text.M (am : Int) (ar : Int) (aw : Int) (b0 : Int) (ay : Int) (ap : Int) (av : Option Addr) (aq : Nat) (au : Nat) (az : Int) (R : Value → World → Prop) (w : World) : Prop :=
 thenW (w.alloc (.cells #[.int .i64 am, .int .i64 ar, .int .u64 aw, .int .i64 b0, .int .i64 ay, .int .i64 ap, .slice av aq au, .int .u64 az] 47)) fun b4 =>
 ∃ (a1 : Int) (a2 : Int) (af : Int) (an : Int) (ak : Int) (aa : Int) (a3 : Option Addr) (a5 : Nat) (a9 : Nat) (ao : Int), cellsAt b4 (blk w.heap.size) [.int .i64 a1, .int .i64 a2, .int .u64 af, .int .i64 an, .int .i64 ak, .int .i64 aa, .slice a3 a5 a9, .int .u64 ao] 0 ∧
 Calls Try.prog 34 #[.agg #[.int .i64 a1, .int .i64 a2, .int .u64 af, .int .i64 an, .int .i64 ak, .int .i64 aa, .slice a3 a5 a9, .int .u64 ao]] b4 fun b3 ax => ∃ (ag : Bool), b3 = .returned (.bool ag) ∧
 bif !ag then (
 R (.tuple #[.slice none 0 0, .int .i64 1]) ax) else (
 ∃ (a0 : Int) (a4 : Int) (ae : Int) (aj : Int) (al : Int) (ab : Int) (a7 : Option Addr) (a6 : Nat) (a8 : Nat) (ai : Int), cellsAt ax (blk w.heap.size) [.int .i64 a0, .int .i64 a4, .int .u64 ae, .int .i64 aj, .int .i64 al, .int .i64 ab, .slice a7 a6 a8, .int .u64 ai] 0 ∧
 Calls Try.prog 65 #[.agg #[.int .i64 a0, .int .i64 a4, .int .u64 ae, .int .i64 aj, .int .i64 al, .int .i64 ab, .slice a7 a6 a8, .int .u64 ai]] ax fun b2 b1 => ∃ (ac : Option Addr) (ah : Nat) (ad : Nat), b2 = .returned (.slice ac ah ad) ∧
 R (.tuple #[.slice ac ah ad, .int .i64 0]) b1)

theorem entry_Text.eq (eWriter1 : Int) (eIndex2 : Int) (ePrev3 : Int) (eAtT4 : Int) (eAtW5 : Int) (eEpoch6 : Int) (eBody7a : Option Addr) (eBody7n : Nat) (eBody7c : Nat) (eSig8 : Int) (R : Value → World → Prop) (w : World) : mfunc Try.prog [] 54 [.agg #[.int .i64 eWriter1, .int .i64 eIndex2, .int .u64 ePrev3, .int .i64 eAtT4, .int .i64 eAtW5, .int .i64 eEpoch6, .slice eBody7a eBody7n eBody7c, .int .u64 eSig8]] R w = entry_Text.M eWriter1 eIndex2 ePrev3 eAtT4 eAtW5 eEpoch6 eBody7a eBody7n eBody7c eSig8 R w := by kernel_rfl
theorem entry_Text.ok (a0 : Int) (a2 : Int) (a6 : Int) (a7 : Int) (a9 : Int) (a3 : Int) (a1 : Option Addr) (a4 : Nat) (a5 : Nat) (a8 : Int) {R : Value → World → Prop} {w : World} (h : entry_Text.M a0 a2 a6 a7 a9 a3 a1 a4 a5 a8 R w) : Calls Try.prog 54 #[.agg #[.int .i64 a0, .int .i64 a2, .int .u64 a6, .int .i64 a7, .int .i64 a9, .int .i64 a3, .slice a1 a4 a5, .int .u64 a8]] w fun e w' => ∃ v, e = .returned v ∧ R v w' :=
  mfunc_ok follows (H := []) (args := [.agg #[.int .i64 a0, .int .i64 a2, .int .u64 a6, .int .i64 a7, .int .i64 a9, .int .i64 a3, .slice a1 a4 a5, .int .u64 a8]]) (by rw [entry_Text.eq]; exact h)

def entry_Text.N (a0 : Int) (a2 : Int) (a6 : Int) (ab : Int) (ad : Int) (a3 : Int) (a1 : Option Addr) (a4 : Nat) (a5 : Nat) (ac : Int) (R : Value → World → Prop) (w : World) : Prop :=
 ((entry_Right.F a0 a2 a6 ab ad a3 a1 a4 a5 ac) = false →
 ∀ (aa : World), Ext no w aa →
 R (.tuple #[.slice none 0 0, .int .i64 1]) aa) ∧
 ((entry_Right.F a0 a2 a6 ab ad a3 a1 a4 a5 ac) = true →
 ∀ (aa : World), Ext no w aa →
 Calls Try.prog 65 #[.agg #[.int .i64 a0, .int .i64 a2, .int .u64 a6, .int .i64 ab, .int .i64 ad, .int .i64 a3, .slice a1 a4 a5, .int .u64 ac]] aa fun ae af => ∃ (a8 : Option Addr) (a7 : Nat) (a9 : Nat), ae = .returned (.slice a8 a7 a9) ∧
 R (.tuple #[.slice a8 a7 a9, .int .i64 0]) af)

theorem entry_Text.up (a0 : Int) (a3 : Int) (a6 : Int) (a9 : Int) (a7 : Int) (a1 : Int) (a5 : Option Addr) (a2 : Nat) (a4 : Nat) (a8 : Int) {R : Value → World → Prop} {w : World} (h : entry_Text.N a0 a3 a6 a9 a7 a1 a5 a2 a4 a8 R w) : entry_Text.M a0 a3 a6 a9 a7 a1 a5 a2 a4 a8 R w := by
  unfold entry_Text.M
  unfold entry_Text.N at h
  refine thenW_in fun ak e9 => ?_
  have aa := Blk.of_new e9
  have aj := ((Ext.refl no w)).size
  have ag := (Ext.refl no w).x_alloc e9
  refine ⟨a0, a3, a6, a9, a7, a1, a5, a2, a4, a8, ⟨aa.celli 0 rfl rfl, aa.celli 1 rfl rfl, aa.celli 2 rfl rfl, aa.celli 3 rfl rfl, aa.celli 4 rfl rfl, aa.celli 5 rfl rfl, aa.celli 6 rfl rfl, aa.celli 7 rfl rfl, trivial⟩, ?_⟩
  refine (entry_Right.pure a0 a3 a6 a9 a7 a1 a5 a2 a4 a8).mono fun ee ww10 ⟨he, hxx⟩ => ⟨(entry_Right.F a0 a3 a6 a9 a7 a1 a5 a2 a4 a8), he, ?_⟩
  have ae := ag.trans hxx
  have aa := aa.ext hxx id
  refine bif_of (fun af => ?_) (fun af => ?_)
  · have h := h.1 (not_t af)
    have h := h ww10 ae
    exact h
  · have h := h.2 (not_f af)
    refine ⟨a0, a3, a6, a9, a7, a1, a5, a2, a4, a8, ⟨aa.celli 0 rfl rfl, aa.celli 1 rfl rfl, aa.celli 2 rfl rfl, aa.celli 3 rfl rfl, aa.celli 4 rfl rfl, aa.celli 5 rfl rfl, aa.celli 6 rfl rfl, aa.celli 7 rfl rfl, trivial⟩, ?_⟩
    have h := h ww10 ae
    refine h.mono fun ah ai h => ?_
    obtain ⟨ad, ab, ac, he, h⟩ := h
    refine ⟨ad, ab, ac, he, ?_⟩
    exact h

theorem entry_Text.go (a0 : Int) (a2 : Int) (a6 : Int) (a7 : Int) (a9 : Int) (a3 : Int) (a1 : Option Addr) (a4 : Nat) (a5 : Nat) (a8 : Int) {R : Value → World → Prop} {w : World} (h : entry_Text.N a0 a2 a6 a7 a9 a3 a1 a4 a5 a8 R w) : Calls Try.prog 54 #[.agg #[.int .i64 a0, .int .i64 a2, .int .u64 a6, .int .i64 a7, .int .i64 a9, .int .i64 a3, .slice a1 a4 a5, .int .u64 a8]] w fun e w' => ∃ v, e = .returned v ∧ R v w' := entry_Text.ok a0 a2 a6 a7 a9 a3 a1 a4 a5 a8 (entry_Text.up a0 a2 a6 a7 a9 a3 a1 a4 a5 a8 h)
/-- entry.Bytes -/
def entry_Bytes.M (al : Int) (ax : Int) (b0 : Int) (b6 : Int) (b2 : Int) (av : Int) (az : Option Addr) (aw : Nat) (ay : Nat) (b5 : Int) (R : Value → World → Prop) (w : World) : Prop :=
 thenW (w.alloc (.cells #[.int .i64 al, .int .i64 ax, .int .u64 b0, .int .i64 b6, .int .i64 b2, .int .i64 av, .slice az aw ay, .int .u64 b5] 47)) fun bb =>
 ∃ (a1 : Int) (a2 : Int) (ad : Int) (ar : Int) (ak : Int) (aa : Int) (a3 : Option Addr) (a4 : Nat) (a7 : Nat) (au : Int), cellsAt bb (blk w.heap.size) [.int .i64 a1, .int .i64 a2, .int .u64 ad, .int .i64 ar, .int .i64 ak, .int .i64 aa, .slice a3 a4 a7, .int .u64 au] 0 ∧
 Calls Try.prog 34 #[.agg #[.int .i64 a1, .int .i64 a2, .int .u64 ad, .int .i64 ar, .int .i64 ak, .int .i64 aa, .slice a3 a4 a7, .int .u64 au]] bb fun b8 b3 => ∃ (af : Bool), b8 = .returned (.bool af) ∧
 bif !af then (
 R (.tuple #[.slice none 0 0, .int .i64 1]) b3) else (
 thenW (b3.drew) fun b1 =>
 ∃ (a0 : Int) (a6 : Int) (ae : Int) (ap : Int) (aj : Int) (a8 : Int) (ab : Option Addr) (a5 : Nat) (a9 : Nat) (an : Int), cellsAt b1 (blk w.heap.size) [.int .i64 a0, .int .i64 a6, .int .u64 ae, .int .i64 ap, .int .i64 aj, .int .i64 a8, .slice ab a5 a9, .int .u64 an] 0 ∧
 ∃ (am : Int), b1.cell? ((blk w.heap.size).add 7) = some (.int .u64 am) ∧
 Calls Try.prog 65 #[.agg #[.int .i64 a0, .int .i64 a6, .int .u64 ae, .int .i64 ap, .int .i64 aj, .int .i64 a8, .slice ab a5 a9, .int .u64 an]] b1 fun b7 b4 => ∃ (ag : Option Addr) (ac : Nat) (ah : Nat), b7 = .returned (.slice ag ac ah) ∧
 b4.cell? ((blk w.heap.size).add 7) = some (.int .u64 am) ∧
 Calls Try.prog 64 #[.slice ag ac ah, .int .u64 am] b4 fun b9 ba => ∃ (aq : Option Addr) (ao : Nat) (ai : Nat), b9 = .returned (.slice aq ao ai) ∧
 R (.tuple #[.slice aq ao ai, .int .i64 0]) ba)

theorem entry_Bytes.eq (eWriter1 : Int) (eIndex2 : Int) (ePrev3 : Int) (eAtT4 : Int) (eAtW5 : Int) (eEpoch6 : Int) (eBody7a : Option Addr) (eBody7n : Nat) (eBody7c : Nat) (eSig8 : Int) (R : Value → World → Prop) (w : World) : mfunc Try.prog [] 47 [.agg #[.int .i64 eWriter1, .int .i64 eIndex2, .int .u64 ePrev3, .int .i64 eAtT4, .int .i64 eAtW5, .int .i64 eEpoch6, .slice eBody7a eBody7n eBody7c, .int .u64 eSig8]] R w = entry_Bytes.M eWriter1 eIndex2 ePrev3 eAtT4 eAtW5 eEpoch6 eBody7a eBody7n eBody7c eSig8 R w := by kernel_rfl
theorem entry_Bytes.ok (a0 : Int) (a2 : Int) (a6 : Int) (a7 : Int) (a9 : Int) (a3 : Int) (a1 : Option Addr) (a4 : Nat) (a5 : Nat) (a8 : Int) {R : Value → World → Prop} {w : World} (h : entry_Bytes.M a0 a2 a6 a7 a9 a3 a1 a4 a5 a8 R w) : Calls Try.prog 47 #[.agg #[.int .i64 a0, .int .i64 a2, .int .u64 a6, .int .i64 a7, .int .i64 a9, .int .i64 a3, .slice a1 a4 a5, .int .u64 a8]] w fun e w' => ∃ v, e = .returned v ∧ R v w' :=
  mfunc_ok follows (H := []) (args := [.agg #[.int .i64 a0, .int .i64 a2, .int .u64 a6, .int .i64 a7, .int .i64 a9, .int .i64 a3, .slice a1 a4 a5, .int .u64 a8]]) (by rw [entry_Bytes.eq]; exact h)

def entry_Bytes.N (a0 : Int) (a3 : Int) (a6 : Int) (af : Int) (ac : Int) (a1 : Int) (a5 : Option Addr) (a2 : Nat) (a4 : Nat) (aa : Int) (R : Value → World → Prop) (w : World) : Prop :=
 ((entry_Right.F a0 a3 a6 af ac a1 a5 a2 a4 aa) = false →
 ∀ (ah : World), Ext no w ah →
 R (.tuple #[.slice none 0 0, .int .i64 1]) ah) ∧
 ((entry_Right.F a0 a3 a6 af ac a1 a5 a2 a4 aa) = true →
 ∀ (ag : World) (am : Nat), Ext no w ag → Priv w ag [am] →
 Calls Try.prog 65 #[.agg #[.int .i64 a0, .int .i64 a3, .int .u64 a6, .int .i64 af, .int .i64 ac, .int .i64 a1, .slice a5 a2 a4, .int .u64 aa]] ag fun aj ai => ∃ (a7 : Option Addr) (a8 : Nat) (a9 : Nat), aj = .returned (.slice a7 a8 a9) ∧
 Keep [am] ag ai ∧
 Calls Try.prog 64 #[.slice a7 a8 a9, .int .u64 aa] ai fun al ak => ∃ (ab : Option Addr) (ae : Nat) (ad : Nat), al = .returned (.slice ab ae ad) ∧
 R (.tuple #[.slice ab ae ad, .int .i64 0]) ak)

theorem entry_Bytes.up (a0 : Int) (a3 : Int) (a6 : Int) (aa : Int) (a9 : Int) (a1 : Int) (a5 : Option Addr) (a2 : Nat) (a4 : Nat) (a8 : Int) {R : Value → World → Prop} {w : World} (h : entry_Bytes.N a0 a3 a6 aa a9 a1 a5 a2 a4 a8 R w) : entry_Bytes.M a0 a3 a6 aa a9 a1 a5 a2 a4 a8 R w := by
  unfold entry_Bytes.M
  unfold entry_Bytes.N at h
  refine thenW_in fun au e9 => ?_
  have a7 := Blk.of_new e9
  have aq := ((Ext.refl no w)).size
  have ao := (Ext.refl no w).x_alloc e9
  refine ⟨a0, a3, a6, aa, a9, a1, a5, a2, a4, a8, ⟨a7.celli 0 rfl rfl, a7.celli 1 rfl rfl, a7.celli 2 rfl rfl, a7.celli 3 rfl rfl, a7.celli 4 rfl rfl, a7.celli 5 rfl rfl, a7.celli 6 rfl rfl, a7.celli 7 rfl rfl, trivial⟩, ?_⟩
  refine (entry_Right.pure a0 a3 a6 aa a9 a1 a5 a2 a4 a8).mono fun ee ww10 ⟨he, hxx⟩ => ⟨(entry_Right.F a0 a3 a6 aa a9 a1 a5 a2 a4 a8), he, ?_⟩
  have ah := ao.trans hxx
  have a7 := a7.ext hxx id
  refine bif_of (fun ai => ?_) (fun ai => ?_)
  · have h := h.1 (not_t ai)
    have h := h ww10 ah
    exact h
  · have h := h.2 (not_f ai)
    refine thenW_in fun aj al => ?_
    have ak := ah.x_drew al
    have a7 := a7.x_drew al
    refine ⟨a0, a3, a6, aa, a9, a1, a5, a2, a4, a8, ⟨a7.celli 0 rfl rfl, a7.celli 1 rfl rfl, a7.celli 2 rfl rfl, a7.celli 3 rfl rfl, a7.celli 4 rfl rfl, a7.celli 5 rfl rfl, a7.celli 6 rfl rfl, a7.celli 7 rfl rfl, trivial⟩, ?_⟩
    refine ⟨a8, a7.celli 7 rfl rfl, ?_⟩
    have h := h aj (w.heap.size) ak (Priv.cons aq a7.lt Priv.nil)
    refine h.mono fun am ar h => ?_
    obtain ⟨ab, ac, ad, he, hk, h⟩ := h
    refine ⟨ab, ac, ad, he, ?_⟩
    have a7 := hk.blk a7 (by simp)
    refine ⟨a7.celli 7 rfl rfl, ?_⟩
    refine h.mono fun ap an h => ?_
    obtain ⟨ae, af, ag, he, h⟩ := h
    refine ⟨ae, af, ag, he, ?_⟩
    exact h

theorem entry_Bytes.go (a0 : Int) (a2 : Int) (a6 : Int) (a7 : Int) (a9 : Int) (a3 : Int) (a1 : Option Addr) (a4 : Nat) (a5 : Nat) (a8 : Int) {R : Value → World → Prop} {w : World} (h : entry_Bytes.N a0 a2 a6 a7 a9 a3 a1 a4 a5 a8 R w) : Calls Try.prog 47 #[.agg #[.int .i64 a0, .int .i64 a2, .int .u64 a6, .int .i64 a7, .int .i64 a9, .int .i64 a3, .slice a1 a4 a5, .int .u64 a8]] w fun e w' => ∃ v, e = .returned v ∧ R v w' := entry_Bytes.ok a0 a2 a6 a7 a9 a3 a1 a4 a5 a8 (entry_Bytes.up a0 a2 a6 a7 a9 a3 a1 a4 a5 a8 h)
/-- entry.Same -/
def entry_Same.M (af : Int) (av : Int) (b2 : Int) (b7 : Int) (b9 : Int) (aq : Int) (au : Option Addr) (ao : Nat) (ar : Nat) (b8 : Int) (ai : Int) (aj : Int) (ap : Int) (b5 : Int) (b6 : Int) (al : Int) (ah : Option Addr) (am : Nat) (an : Nat) (b4 : Int) (R : Value → World → Prop) (w : World) : Prop :=
 thenW (w.alloc (.cells #[.int .i64 af, .int .i64 av, .int .u64 b2, .int .i64 b7, .int .i64 b9, .int .i64 aq, .slice au ao ar, .int .u64 b8] 47)) fun a3 =>
 thenW (a3.alloc (.cells #[.int .i64 ai, .int .i64 aj, .int .u64 ap, .int .i64 b5, .int .i64 b6, .int .i64 al, .slice ah am an, .int .u64 b4] 47)) fun ba =>
 thenW (ba.drew) fun b3 =>
 ∃ (ab : Option Addr) (a5 : Nat) (a9 : Nat), b3.cell? ((blk w.heap.size).add 6) = some (.slice ab a5 a9) ∧
 ∃ (aa : Option Addr) (a8 : Nat) (ad : Nat), b3.cell? ((blk a3.heap.size).add 6) = some (.slice aa a8 ad) ∧
 Calls Try.prog 77 #[.slice ab a5 a9, .slice aa a8 ad] b3 fun bb a0 => ∃ (ae : Bool), bb = .returned (.bool ae) ∧
 bif ae then (
 ∃ (a2 : Int), a0.cell? ((blk w.heap.size).add 0) = some (.int .i64 a2) ∧
 ∃ (a1 : Int), a0.cell? ((blk a3.heap.size).add 0) = some (.int .i64 a1) ∧
 bif a2 == a1 then (
 ∃ (a4 : Int), a0.cell? ((blk w.heap.size).add 1) = some (.int .i64 a4) ∧
 ∃ (a6 : Int), a0.cell? ((blk a3.heap.size).add 1) = some (.int .i64 a6) ∧
 bif a4 == a6 then (
 ∃ (ak : Int), a0.cell? ((blk w.heap.size).add 2) = some (.int .u64 ak) ∧
 ∃ (ag : Int), a0.cell? ((blk a3.heap.size).add 2) = some (.int .u64 ag) ∧
 bif ak == ag then (
 ∃ (az : Int) (ax : Int), cellsAt a0 ((blk w.heap.size).add 3) [.int .i64 az, .int .i64 ax] 0 ∧
 ∃ (ay : Int) (aw : Int), cellsAt a0 ((blk a3.heap.size).add 3) [.int .i64 ay, .int .i64 aw] 0 ∧
 ∃ (bc : Bool), (binOp .eql 45 (.agg #[.int .i64 az, .int .i64 ax]) (.agg #[.int .i64 ay, .int .i64 aw])).run Try.prog a0 = .ok (.bool bc) a0 ∧
 bif bc then (
 ∃ (ac : Int), a0.cell? ((blk w.heap.size).add 5) = some (.int .i64 ac) ∧
 ∃ (a7 : Int), a0.cell? ((blk a3.heap.size).add 5) = some (.int .i64 a7) ∧
 bif ac == a7 then (
 ∃ (b0 : Int), a0.cell? ((blk w.heap.size).add 7) = some (.int .u64 b0) ∧
 ∃ (b1 : Int), a0.cell? ((blk a3.heap.size).add 7) = some (.int .u64 b1) ∧
 R (.bool (b0 == b1)) a0) else (
 R (.bool false) a0)) else (
 R (.bool false) a0)) else (
 R (.bool false) a0)) else (
 R (.bool false) a0)) else (
 R (.bool false) a0)) else (
 R (.bool false) a0)

theorem entry_Same.eq (aWriter1 : Int) (aIndex2 : Int) (aPrev3 : Int) (aAtT4 : Int) (aAtW5 : Int) (aEpoch6 : Int) (aBody7a : Option Addr) (aBody7n : Nat) (aBody7c : Nat) (aSig8 : Int) (bWriter9 : Int) (bIndex10 : Int) (bPrev11 : Int) (bAtT12 : Int) (bAtW13 : Int) (bEpoch14 : Int) (bBody15a : Option Addr) (bBody15n : Nat) (bBody15c : Nat) (bSig16 : Int) (R : Value → World → Prop) (w : World) : mfunc Try.prog [] 62 [.agg #[.int .i64 aWriter1, .int .i64 aIndex2, .int .u64 aPrev3, .int .i64 aAtT4, .int .i64 aAtW5, .int .i64 aEpoch6, .slice aBody7a aBody7n aBody7c, .int .u64 aSig8], .agg #[.int .i64 bWriter9, .int .i64 bIndex10, .int .u64 bPrev11, .int .i64 bAtT12, .int .i64 bAtW13, .int .i64 bEpoch14, .slice bBody15a bBody15n bBody15c, .int .u64 bSig16]] R w = entry_Same.M aWriter1 aIndex2 aPrev3 aAtT4 aAtW5 aEpoch6 aBody7a aBody7n aBody7c aSig8 bWriter9 bIndex10 bPrev11 bAtT12 bAtW13 bEpoch14 bBody15a bBody15n bBody15c bSig16 R w := by kernel_rfl
theorem entry_Same.ok (a0 : Int) (ac : Int) (ad : Int) (ah : Int) (aj : Int) (a9 : Int) (ab : Option Addr) (a7 : Nat) (aa : Nat) (ai : Int) (a2 : Int) (a3 : Int) (a8 : Int) (af : Int) (ag : Int) (a5 : Int) (a1 : Option Addr) (a4 : Nat) (a6 : Nat) (ae : Int) {R : Value → World → Prop} {w : World} (h : entry_Same.M a0 ac ad ah aj a9 ab a7 aa ai a2 a3 a8 af ag a5 a1 a4 a6 ae R w) : Calls Try.prog 62 #[.agg #[.int .i64 a0, .int .i64 ac, .int .u64 ad, .int .i64 ah, .int .i64 aj, .int .i64 a9, .slice ab a7 aa, .int .u64 ai], .agg #[.int .i64 a2, .int .i64 a3, .int .u64 a8, .int .i64 af, .int .i64 ag, .int .i64 a5, .slice a1 a4 a6, .int .u64 ae]] w fun e w' => ∃ v, e = .returned v ∧ R v w' :=
  mfunc_ok follows (H := []) (args := [.agg #[.int .i64 a0, .int .i64 ac, .int .u64 ad, .int .i64 ah, .int .i64 aj, .int .i64 a9, .slice ab a7 aa, .int .u64 ai], .agg #[.int .i64 a2, .int .i64 a3, .int .u64 a8, .int .i64 af, .int .i64 ag, .int .i64 a5, .slice a1 a4 a6, .int .u64 ae]]) (by rw [entry_Same.eq]; exact h)

def entry_Same.N (a1 : Int) (a8 : Int) (a9 : Int) (aj : Int) (ak : Int) (a7 : Int) (ai : Option Addr) (af : Nat) (ah : Nat) (am : Int) (a2 : Int) (a3 : Int) (a6 : Int) (ac : Int) (ad : Int) (a5 : Int) (aa : Option Addr) (ab : Nat) (ae : Nat) (al : Int) (R : Value → World → Prop) (w : World) : Prop :=
 ∀ (ag : World) (ao : Nat) (ap : Nat), Ext no w ag → Priv w ag [ao, ap] →
 Calls Try.prog 77 #[.slice ai af ah, .slice aa ab ae] ag fun an a4 => ∃ (a0 : Bool), an = .returned (.bool a0) ∧
 Keep [ao, ap] ag a4 ∧
 (a0 = true →
 (a1 = a2 →
 (a8 = a3 →
 (a9 = a6 →
 (aj = ac ∧ ak = ad →
 (a7 = a5 →
 R (.bool (am == al)) a4) ∧
 (a7 ≠ a5 →
 R (.bool false) a4)) ∧
 (¬ (aj = ac ∧ ak = ad) →
 R (.bool false) a4)) ∧
 (a9 ≠ a6 →
 R (.bool false) a4)) ∧
 (a8 ≠ a3 →
 R (.bool false) a4)) ∧
 (a1 ≠ a2 →
 R (.bool false) a4)) ∧
 (a0 = false →
 R (.bool false) a4)

theorem entry_Same.up (a0 : Int) (ad : Int) (ag : Int) (ai : Int) (aj : Int) (a9 : Int) (ab : Option Addr) (a7 : Nat) (aa : Nat) (al : Int) (a2 : Int) (a3 : Int) (a8 : Int) (ac : Int) (ae : Int) (a5 : Int) (a1 : Option Addr) (a4 : Nat) (a6 : Nat) (ah : Int) {R : Value → World → Prop} {w : World} (h : entry_Same.N a0 ad ag ai aj a9 ab a7 aa al a2 a3 a8 ac ae a5 a1 a4 a6 ah R w) : entry_Same.M a0 ad ag ai aj a9 ab a7 aa al a2 a3 a8 ac ae a5 a1 a4 a6 ah R w := by
  unfold entry_Same.M
  unfold entry_Same.N at h
  refine thenW_in fun b1 b2 => ?_
  have af := Blk.of_new b2
  have b6 := ((Ext.refl no w)).size
  have an := (Ext.refl no w).x_alloc b2
  refine thenW_in fun b4 av => ?_
  have ak := Blk.of_new av
  have b5 := (an).size
  have b3 := Nat.ne_of_lt af.lt
  have af := af.x_alloc av
  have ay := an.x_alloc av
  refine thenW_in fun aq az => ?_
  have ax := ay.x_drew az
  have af := af.x_drew az
  have ak := ak.x_drew az
  refine ⟨ab, a7, aa, af.celli 6 rfl rfl, ?_⟩
  refine ⟨a1, a4, a6, ak.celli 6 rfl rfl, ?_⟩
  have h := h aq (w.heap.size) (b1.heap.size) ax (Priv.cons b6 af.lt (Priv.cons b5 ak.lt Priv.nil))
  refine h.mono fun b7 b8 h => ?_
  obtain ⟨am, he, hk, h⟩ := h
  refine ⟨am, he, ?_⟩
  have af := hk.blk af (by simp)
  have ak := hk.blk ak (by simp)
  refine bif_of (fun ar => ?_) (fun ar => ?_)
  · have h := h.1 ar
    refine ⟨a0, af.celli 0 rfl rfl, ?_⟩
    refine ⟨a2, ak.celli 0 rfl rfl, ?_⟩
    refine bif_of (fun au => ?_) (fun au => ?_)
    · have h := h.1 (beq_t au)
      refine ⟨ad, af.celli 1 rfl rfl, ?_⟩
      refine ⟨a3, ak.celli 1 rfl rfl, ?_⟩
      refine bif_of (fun ao => ?_) (fun ao => ?_)
      · have h := h.1 (beq_t ao)
        refine ⟨ag, af.celli 2 rfl rfl, ?_⟩
        refine ⟨a8, ak.celli 2 rfl rfl, ?_⟩
        refine bif_of (fun b0 => ?_) (fun b0 => ?_)
        · have h := h.1 (beq_t b0)
          refine ⟨ai, aj, ⟨af.celli 3 rfl rfl, af.celli 4 rfl rfl, trivial⟩, ?_⟩
          refine ⟨ac, ae, ⟨ak.celli 3 rfl rfl, ak.celli 4 rfl rfl, trivial⟩, ?_⟩
          refine ⟨_, eqT45_eq ai aj ac ae _, ?_⟩
          refine bif_of (fun aw => ?_) (fun aw => ?_)
          · have h := h.1 (of_decide_eq_true aw)
            refine ⟨a9, af.celli 5 rfl rfl, ?_⟩
            refine ⟨a5, ak.celli 5 rfl rfl, ?_⟩
            refine bif_of (fun ap => ?_) (fun ap => ?_)
            · have h := h.1 (beq_t ap)
              refine ⟨al, af.celli 7 rfl rfl, ?_⟩
              refine ⟨ah, ak.celli 7 rfl rfl, ?_⟩
              exact h
            · have h := h.2 (beq_f ap)
              exact h
          · have h := h.2 (of_decide_eq_false aw)
            exact h
        · have h := h.2 (beq_f b0)
          exact h
      · have h := h.2 (beq_f ao)
        exact h
    · have h := h.2 (beq_f au)
      exact h
  · have h := h.2 ar
    exact h

theorem entry_Same.go (a0 : Int) (ac : Int) (ad : Int) (ah : Int) (aj : Int) (a9 : Int) (ab : Option Addr) (a7 : Nat) (aa : Nat) (ai : Int) (a2 : Int) (a3 : Int) (a8 : Int) (af : Int) (ag : Int) (a5 : Int) (a1 : Option Addr) (a4 : Nat) (a6 : Nat) (ae : Int) {R : Value → World → Prop} {w : World} (h : entry_Same.N a0 ac ad ah aj a9 ab a7 aa ai a2 a3 a8 af ag a5 a1 a4 a6 ae R w) : Calls Try.prog 62 #[.agg #[.int .i64 a0, .int .i64 ac, .int .u64 ad, .int .i64 ah, .int .i64 aj, .int .i64 a9, .slice ab a7 aa, .int .u64 ai], .agg #[.int .i64 a2, .int .i64 a3, .int .u64 a8, .int .i64 af, .int .i64 ag, .int .i64 a5, .slice a1 a4 a6, .int .u64 ae]] w fun e w' => ∃ v, e = .returned v ∧ R v w' := entry_Same.ok a0 ac ad ah aj a9 ab a7 aa ai a2 a3 a8 af ag a5 a1 a4 a6 ae (entry_Same.up a0 ac ad ah aj a9 ab a7 aa ai a2 a3 a8 af ag a5 a1 a4 a6 ae h)
theorem entry_Same.run (a0 : Int) (ac : Int) (ad : Int) (ah : Int) (aj : Int) (a9 : Int) (ab : Option Addr) (a7 : Nat) (aa : Nat) (ai : Int) (a2 : Int) (a3 : Int) (a8 : Int) (af : Int) (ag : Int) (a5 : Int) (a1 : Option Addr) (a4 : Nat) (a6 : Nat) (ae : Int) {V : Value} {Q : World → Prop} {w : World} (h : entry_Same.N a0 ac ad ah aj a9 ab a7 aa ai a2 a3 a8 af ag a5 a1 a4 a6 ae (fun v w' => v = V ∧ Q w') w) : Calls Try.prog 62 #[.agg #[.int .i64 a0, .int .i64 ac, .int .u64 ad, .int .i64 ah, .int .i64 aj, .int .i64 a9, .slice ab a7 aa, .int .u64 ai], .agg #[.int .i64 a2, .int .i64 a3, .int .u64 a8, .int .i64 af, .int .i64 ag, .int .i64 a5, .slice a1 a4 a6, .int .u64 ae]] w (Ret V Q) := (entry_Same.go a0 ac ad ah aj a9 ab a7 aa ai a2 a3 a8 af ag a5 a1 a4 a6 ae h).mono fun e w' ⟨v, he, hv, hq⟩ => ⟨by rw [he, hv], hq⟩

theorem keep1 {w w' : World} {m : Nat → Prop} {p : Nat} (h : Ext m w w') (hp : ¬ m p) : Keep [p] w w' := h.keep fun q hq _ => by simp at hq; subst hq; exact hp
theorem keep2 {w w' : World} {m : Nat → Prop} {p q : Nat} (h : Ext m w w') (hp : ¬ m p) (hq : ¬ m q) : Keep [p, q] w w' := h.keep fun r hr _ => by
  simp at hr
  rcases hr with rfl | rfl
  · exact hp
  · exact hq
theorem OwnB.up {N M : Nat} {w : World} {a : Option Addr} {c : Nat} {bs : List UInt8} (h : OwnB N w a c bs) (hM : M ≤ N) : OwnB M w a c bs := ⟨h.own, fun ad ha => ⟨Nat.le_trans hM (h.fr ad ha).1, (h.fr ad ha).2⟩⟩
/-- a row of one's own, and bytes that came behind it. -/
theorem app {w0 wi w1 : World} {N : Nat} {a xa : Option Addr} {c xc : Nat} {l x : List UInt8} (hB : OwnB N wi a c l) (X : Ext no w0 wi) (h0 : w0.heap.size ≤ N) (hN : N ≤ wi.heap.size) (hx : Ext no wi w1) (hO : RowAt w1 xa (bytesV x)) (hl : l.length + x.length ≤ 100000000) :
    ∃ a' c' w', (Builtin.append_ #[43, 43] 43 #[.slice a l.length c, .slice xa x.length xc]).run Try.prog w1 = .ok (.slice a' (l ++ x).length c') w' ∧ OwnB N w' a' c' (l ++ x) ∧ Ext no w0 w' ∧ Ext (fun b => N ≤ b) w1 w' ∧ N ≤ w'.heap.size := by
  obtain ⟨a', c', w', hr, hO2, hx2⟩ := (hB.no hx).append (t := 43) (ty := 43) Try.underlying43 (Nat.le_trans hN hx.size) (xc := xc) hO hl
  exact ⟨a', c', w', hr, hO2, (X.trans hx).then hx2 fun b hb => .inr (Nat.le_trans h0 hb), hx2, Nat.le_trans hN (Nat.le_trans hx.size hx2.size)⟩
section
variable {w w' : World} {a : Option Addr} {c N p : Nat} {bs : List UInt8} {k : Int}
theorem Put_spec (h : RowAt w a (bytesV bs)) (hl : bs.length ≤ 900000) {t s : Int} (h0 : -9223372036854775808 ≤ t) (h1 : t < 9223372036854775808) (hs : s < 9223372036854775808) :
    Calls Try.prog 80 #[.slice a bs.length c, .agg #[.int .i64 t, .int .i64 s]] w (fun e w' => ∃ a' c', e = .returned (.slice a' (bs ++ stampL t s).length c') ∧ OwnB w.heap.size w' a' c' (bs ++ stampL t s) ∧ Ext no w w') := by
  refine (stamp_Put.go _ _ _ _ _ (R := fun v w' => ∃ a' c', v = (.slice a' (bs ++ stampL t s).length c') ∧ OwnB w.heap.size w' a' c' (bs ++ stampL t s) ∧ Ext no w w') ?_).mono fun e w' ⟨v, he, a, c, hv, hw⟩ => ⟨a, c, by rw [he, hv], hw⟩
  unfold stamp_Put.N
  intro w5 p6 hx5 hp
  refine (W.Int_spec (h.no hx5) (by omega) h0 h1).mono fun e w9 ⟨a9, c9, he, hO, hx9⟩ => ⟨a9, _, c9, he, hx9.kept, ?_⟩
  have e1 : IntKind.u64.wrap (if (0 : Int) > s then 0 else s) = ((s.toNat : Nat) : Int) := by split <;> rw [wu64 (by omega) (by omega)] <;> omega
  rw [e1]
  have hz := W.numL_le (zig t)
  refine (W.Num_spec hO.row (by rw [List.length_append]; omega) (n := s.toNat) (by omega)).mono fun e w12 ⟨a12, c12, he, hO2, hx12⟩ => ⟨a12, _, c12, he, a12, c12, ?_, ?_, (hx5.trans hx9).trans hx12⟩
  · unfold stampL; rw [List.append_assoc]
  · unfold stampL; rw [← List.append_assoc]; exact OwnB.up hO2 (Nat.le_trans hx5.size hx9.size)
theorem nums_spec {q : Nat} (hq : Blk w q 123 [.slice a bs.length c]) (h : RowAt w a (bytesV bs)) (ho : ∀ ad, a = some ad → ad.block ≠ q) {la : Option Addr} {lc : Nat} {xs : List Nat} (hx : RowAt w la (xs.map fun (n : Nat) => Value.int .u64 (n : Int))) (hla : ∀ ad, la = some ad → ad.block ≠ q)
    (hxs : ∀ n ∈ xs, n < 18446744073709551616) (hl : bs.length + xs.length * 10 ≤ 900000) :
    Calls Try.prog 78 #[.pointer (some (blk q)), .slice la xs.length lc] w (fun e w' => e = .returned (.tuple #[]) ∧ ∃ a' c', Blk w' q 123 [.slice a' (bs ++ xs.flatMap numL).length c'] ∧ RowAt w' a' (bytesV (bs ++ xs.flatMap numL)) ∧ (∀ ad, a' = some ad → ad.block ≠ q ∧ (a' = a ∨ w.heap.size ≤ ad.block)) ∧ Ext (fun b => b = q) w w') := by
  refine (entry_writer_nums.go _ _ _ _ (R := fun v w' => v = .tuple #[] ∧ ∃ a' c', Blk w' q 123 [.slice a' (bs ++ xs.flatMap numL).length c'] ∧ RowAt w' a' (bytesV (bs ++ xs.flatMap numL)) ∧ (∀ ad, a' = some ad → ad.block ≠ q ∧ (a' = a ∨ w.heap.size ≤ ad.block)) ∧ Ext (fun b => b = q) w w') ?_).mono fun e w' ⟨v, he, hv, hw⟩ => ⟨by rw [he, hv], hw⟩
  unfold entry_writer_nums.N
  refine ⟨fun k vs w1 => ∃ (t : Nat) (a1 : Option Addr) (c1 : Nat) (l1 : List UInt8), vs = [.int .i64 t] ∧ k + t = xs.length ∧ l1 = bs ++ (xs.take t).flatMap numL ∧ l1.length ≤ bs.length + t * 10 ∧ Blk w1 q 123 [.slice a1 l1.length c1] ∧ RowAt w1 a1 (bytesV l1) ∧ (∀ ad, a1 = some ad → ad.block ≠ q ∧ (a1 = a ∨ w.heap.size ≤ ad.block)) ∧ Ext (fun b => b = q) w w1, xs.length,
    ⟨0, a, c, bs, rfl, rfl, by simp, by omega, hq, h, fun ad ha => ⟨ho ad ha, .inl rfl⟩, Ext.refl _ _⟩, ?_⟩
  rintro k w1 i ⟨t, a1, c1, l1, hi, hk, hl1, hlen, hb, hr, hf, X⟩
  simp only [List.cons.injEq, Value.int.injEq, true_and, and_true] at hi
  subst hi
  refine ⟨fun ht => ?_, fun ht => ?_⟩
  · have htl : t < xs.length := by omega
    have hx1 := hx.ext' X fun _ ad ha => hla ad ha
    obtain ⟨ad, rfl⟩ := hx1.addr (by intro e; rw [List.map_eq_nil_iff] at e; subst e; simp at htl)
    have hnb := hxs xs[t] (List.getElem_mem htl)
    refine ⟨ad, rfl, by omega, by omega, xs[t], by rw [Int.toNat_natCast, Nat.mul_one]; exact hx1.at_ (by simp [htl]), blk q, rfl, a1, _, c1, hb.cella (i := 0) rfl, ?_⟩
    refine (W.Num_spec hr (by omega) hnb).mono fun e w16 ⟨a2, c2, he, hO, hx16⟩ => ⟨a2, _, c2, he, (hb.ext hx16 id).cana (i := 0) rfl, thenW_in fun w18 e18 => ?_⟩
    have hb18 := (hb.ext hx16 id).seti 0 rfl e18
    have x18 : Ext (fun b => b = q) w16 w18 := (Ext.refl (fun b => b = q) w16).x_set (q := q) (i := 0) rfl (.inl rfl) e18
    have hne : ∀ ad, a2 = some ad → ad.block ≠ q := fun ad ha e => by have := (hO.fr ad ha).1; have := hb.lt; omega
    have htk : xs.take (t + 1) = xs.take t ++ [xs[t]] := by rw [List.take_add_one]; simp [htl]
    have hnl := W.numL_le xs[t]
    refine ⟨by omega, by omega, k - 1, by omega, t + 1, a2, c2, l1 ++ numL xs[t], rfl, by omega, ?_, by rw [List.length_append]; omega, hb18, hO.row.ext' x18 fun _ ad ha => hne ad ha, fun ad ha => ⟨hne ad ha, .inr (Nat.le_trans X.size (hO.fr ad ha).1)⟩, (X.trans hx16.none).trans x18⟩
    rw [hl1, htk, List.flatMap_append, List.append_assoc]; simp
  · obtain rfl : t = xs.length := by omega
    rw [List.take_length] at hl1
    subst hl1
    exact ⟨rfl, a1, c1, hb, hr, hf, X⟩
theorem text_spec {e : Ent} (hr : entRight e = true) (hf : e.fit) {ba : Option Addr} {bc : Nat} (hb : RowAt w ba (bytesV e.body)) :
    Calls Try.prog 65 #[entV e ba bc] w (fun x w' => ∃ a' c', x = .returned (.slice a' (textL e).length c') ∧ OwnB w.heap.size w' a' c' (textL e) ∧ Ext no w w') := by
  obtain ⟨h1, h2, h3, h4, h5, h6, h7, h8, h9, h10, h11⟩ := (entRight_iff e).1 hr
  have f1 := hf.pv0; have f2 := hf.pv1
  refine (entry_text.go e.w e.i e.pv e.t e.tw e.ep ba e.body.length bc e.sg (R := fun v w' => ∃ a' c', v = (.slice a' (textL e).length c') ∧ OwnB w.heap.size w' a' c' (textL e) ∧ Ext no w w') ?_).mono fun x w' ⟨v, he, a, c, hv, hw⟩ => ⟨a, c, by rw [he, hv], hw⟩
  unfold entry_text.N
  intro w10 q p X10 hq hq1 hq2 hp w13 q2 X13 hq3 hq4 hq5
  rw [wu64 (n := e.w) h1 (by omega), wu64 (n := e.i) h3 (by omega)] at hq3
  have hrow : RowAt w13 (some (blk q2)) (([e.w.toNat, e.i.toNat, e.pv.toNat] : List Nat).map fun (n : Nat) => Value.int .u64 (n : Int)) := by
    have := RowAt.of_blk hq3
    simp only [List.map_cons, List.map_nil, Int.toNat_of_nonneg h1, Int.toNat_of_nonneg h3, Int.toNat_of_nonneg f1]
    exact this
  have hp1 := hp.one
  refine (nums_spec (bs := []) (q := q) (hq.ext X13 id) (RowAt.nil _ _) (fun ad ha => by cases ha) hrow (fun ad ha => by cases ha; simp only [blk]; omega) (by simp; omega) (by simp)).mono fun x w16 ⟨he, a1, c1, hb1, hr1, hf1, X16⟩ => ?_
  have hw16 : Ext no w w16 := (X10.trans X13).then X16 fun b hb => .inr (by omega)
  have hpq : p ≠ q := by omega
  have e1 : ([] ++ [e.w.toNat, e.i.toNat, e.pv.toNat].flatMap numL) = numL e.w.toNat ++ numL e.i.toNat ++ numL e.pv.toNat := by simp
  rw [e1] at hr1 hb1
  refine ⟨he, keep1 X16 hpq, a1, _, c1, hb1.cell (i := 0) rfl, fun w17 X17 => ?_⟩
  have g1 := W.numL_le e.w.toNat; have g2 := W.numL_le e.i.toNat; have g3 := W.numL_le e.pv.toNat; have g4 := stampL_le e.t e.tw; have g5 := W.numL_le (zig e.ep)
  have h17 := hw16.trans X17
  refine (Put_spec (hr1.no X17) (by simp only [List.length_append]; omega) (by omega) (by omega) (by omega)).mono fun x w22 ⟨a2, c2, he, hO2, X22⟩ => ⟨a2, _, c2, he, X22.kept, ?_⟩
  refine (W.Int_spec hO2.row (by simp only [List.length_append]; omega) (by omega) (by omega)).mono fun x w25 ⟨a3, c3, he, hO3, X25⟩ => ⟨a3, _, c3, he, X25.kept, ?_⟩
  have h25 := (h17.trans X22).trans X25
  refine (W.Bytes_spec hO3.row (by simp only [List.length_append]; omega) (hb.no h25) (by omega)).mono fun x w28 ⟨a4, c4, he, hO4, X28⟩ => ⟨a4, _, c4, he, a4, c4, ?_, ?_, h25.trans X28⟩
  · unfold textL; simp only [List.append_assoc]
  · unfold textL; rw [← List.append_assoc]; exact OwnB.up hO4 h25.size
theorem Text_spec {e : Ent} (hf : entRight e = true → e.fit) {ba : Option Addr} {bc : Nat} (hb : RowAt w ba (bytesV e.body)) :
    Calls Try.prog 54 #[entV e ba bc] w (fun x w' => Ext no w w' ∧ ((entRight e = false ∧ x = .returned (.tuple #[.slice none 0 0, .int .i64 1])) ∨ (entRight e = true ∧ ∃ a' c', x = .returned (.tuple #[.slice a' (textL e).length c', .int .i64 0]) ∧ OwnB w.heap.size w' a' c' (textL e)))) := by
  refine (entry_Text.go e.w e.i e.pv e.t e.tw e.ep ba e.body.length bc e.sg (R := fun v w' => Ext no w w' ∧ ((entRight e = false ∧ v = (.tuple #[.slice none 0 0, .int .i64 1])) ∨ (entRight e = true ∧ ∃ a' c', v = (.tuple #[.slice a' (textL e).length c', .int .i64 0]) ∧ OwnB w.heap.size w' a' c' (textL e)))) ?_).mono fun x w' ⟨v, he, hx, hv⟩ => ⟨hx, hv.imp (fun ⟨h1, h2⟩ => ⟨h1, by rw [he, h2]⟩) fun ⟨h1, a, c, h2, h3⟩ => ⟨h1, a, c, by rw [he, h2], h3⟩⟩
  unfold entry_Text.N
  rw [entRight_F]
  refine ⟨fun h w10 X => ⟨X, .inl ⟨h, rfl⟩⟩, fun h w10 X => ?_⟩
  exact (text_spec h (hf h) (hb.no X)).mono fun x w16 ⟨a1, c1, he, hO, X16⟩ => ⟨a1, _, c1, he, X.trans X16, .inr ⟨h, a1, c1, rfl, OwnB.up hO X.size⟩⟩
theorem EBytes_spec {e : Ent} (hf : entRight e = true → e.fit) {ba : Option Addr} {bc : Nat} (hb : RowAt w ba (bytesV e.body)) :
    Calls Try.prog 47 #[entV e ba bc] w (fun x w' => Ext no w w' ∧ ((entRight e = false ∧ x = .returned (.tuple #[.slice none 0 0, .int .i64 1])) ∨ (entRight e = true ∧ ∃ a' c', x = .returned (.tuple #[.slice a' (bytesL e).length c', .int .i64 0]) ∧ OwnB w.heap.size w' a' c' (bytesL e)))) := by
  refine (entry_Bytes.go e.w e.i e.pv e.t e.tw e.ep ba e.body.length bc e.sg (R := fun v w' => Ext no w w' ∧ ((entRight e = false ∧ v = (.tuple #[.slice none 0 0, .int .i64 1])) ∨ (entRight e = true ∧ ∃ a' c', v = (.tuple #[.slice a' (bytesL e).length c', .int .i64 0]) ∧ OwnB w.heap.size w' a' c' (bytesL e)))) ?_).mono fun x w' ⟨v, he, hx, hv⟩ => ⟨hx, hv.imp (fun ⟨h1, h2⟩ => ⟨h1, by rw [he, h2]⟩) fun ⟨h1, a, c, h2, h3⟩ => ⟨h1, a, c, by rw [he, h2], h3⟩⟩
  unfold entry_Bytes.N
  rw [entRight_F]
  refine ⟨fun h w10 X => ⟨X, .inl ⟨h, rfl⟩⟩, fun h w13 p X hp => ?_⟩
  have hf := hf h
  have f3 := hf.sg0; have f4 := hf.sg1
  have hbl := ((entRight_iff e).1 h).2.2.2.2.2.2.2.2.2.1
  have htl := textL_le e
  refine (text_spec h hf (hb.no X)).mono fun x w17 ⟨a1, c1, he, hO, X17⟩ => ⟨a1, _, c1, he, X17.kept, ?_⟩
  rw [← Int.toNat_of_nonneg f3]
  refine (W.Num_spec hO.row (by omega) (n := e.sg.toNat) (by omega)).mono fun x w20 ⟨a2, c2, he, hO2, X20⟩ => ⟨a2, _, c2, he, (X.trans X17).trans X20, .inr ⟨h, a2, c2, rfl, OwnB.up hO2 (X.trans X17).size⟩⟩
/-! ### reading -/
end
end Go.Proofs.Ytdelmfpchbpafaa

/- Entries that are the same; EntryBack. -/
set_option linter.unusedVariables false
set_option linter.unusedSimpArgs false
set_option maxRecDepth 20000
namespace Go.Proofs.Ytdelmfpchbpafaa
open Go Go.Mx Go.Proofs
open W (OwnB GivesW numR countR doneR zig unzig intR)
/-- bytes of a literal. -/
theorem litB {w w1 : World} {t e : TypeId} (hs : Try.prog.underlying t = some (.slice e)) (he : Try.prog.underlying e = some (.int .u8)) (bs : List UInt8) {q : Nat} (X : Ext no w w1) (hb : Blk w1 q e (bytesV bs)) (hq : w.heap.size ≤ q) :
    ∃ w2, (convert t t (.slice (some (blk q)) bs.length bs.length)).run Try.prog w1 = .ok (.slice (some (blk q)) bs.length bs.length) w2 ∧ RowAt w2 (some (blk q)) (bytesV bs) ∧ Ext no w w2 :=
  ⟨_, conv_mark hs he hb, (RowAt.of_blk hb).freeze _ _, X.freeze (.inr hq) _⟩
section
variable {w w' : World} {a : Option Addr} {c N p : Nat} {bs : List UInt8} {k : Int}
theorem Equal_spec {b : Option Addr} {d : Nat} {x y : List UInt8} (ha : RowAt w a (bytesV x)) (hb : RowAt w b (bytesV y)) :
    Calls Try.prog 77 #[.slice a x.length c, .slice b y.length d] w (Ret (.bool (decide (x = y))) fun w' => w' = w) := by
  refine bytes_Equal.run _ _ _ _ _ _ ?_
  unfold bytes_Equal.N
  refine ⟨_, conv_str Try.underlying43 Try.underlying5 Try.underlying9 ha, _, conv_str Try.underlying43 Try.underlying5 Try.underlying9 hb, ?_, rfl⟩
  have key := bytes_beq x y
  have e : ∀ s : List UInt8, (ByteArray.mk s.toArray).toList = s := fun s => by
    simp
  congr 1
  rw [e, e, Bool.eq_iff_iff]
  simp
theorem ESame_spec {e f : Ent} {b : Option Addr} {d : Nat} (ha : RowAt w a (bytesV e.body)) (hb : RowAt w b (bytesV f.body)) :
    Calls Try.prog 62 #[entV e a c, entV f b d] w (Ret (.bool (decide (e = f))) fun w' => Ext no w w') := by
  refine entry_Same.run _ _ _ _ _ _ _ _ _ _ _ _ _ _ _ _ _ _ _ _ ?_
  unfold entry_Same.N
  intro w19 p20 p21 X hp
  refine (Equal_spec (ha.no X) (hb.no X)).mono fun x w24 ⟨he, hw⟩ => ⟨_, he, by subst hw; exact Keep.refl _ _, ?_⟩
  subst hw
  obtain ⟨e1, e2, e3, e4, e5, e6, e7, e8⟩ := e
  obtain ⟨f1, f2, f3, f4, f5, f6, f7, f8⟩ := f
  simp only [Ent.mk.injEq]
  refine ⟨fun h => ?_, fun h => ?_⟩
  · have h := of_decide_eq_true h
    subst h
    refine ⟨fun c1 => ⟨fun c2 => ⟨fun c3 => ⟨fun c4 => ⟨fun c5 => ?_, fun c5 => ?_⟩, fun c4 => ?_⟩, fun c3 => ?_⟩, fun c2 => ?_⟩, fun c1 => ?_⟩ <;> refine ⟨?_, X⟩
    · congr 1; rw [Bool.eq_iff_iff, beq_iff_eq, decide_eq_true_eq]; exact ⟨fun h => ⟨c1, c2, c3, c4.1, c4.2, c5, rfl, h⟩, fun h => h.2.2.2.2.2.2.2⟩
    · rw [decide_eq_false fun h => c5 h.2.2.2.2.2.1]
    · rw [decide_eq_false fun h => c4 ⟨h.2.2.2.1, h.2.2.2.2.1⟩]
    · rw [decide_eq_false fun h => c3 h.2.2.1]
    · rw [decide_eq_false fun h => c2 h.2.1]
    · rw [decide_eq_false fun h => c1 h.1]
  · have h := of_decide_eq_false h
    exact ⟨by rw [decide_eq_false fun q => h q.2.2.2.2.2.2.1], X⟩
end
end Go.Proofs.Ytdelmfpchbpafaa

/- Entries: the reference's bytes, and its entry of bytes. -/
set_option linter.unusedVariables false
set_option linter.unusedSimpArgs false
set_option maxRecDepth 20000
namespace Go.Proofs.Ytdelmfpchbpafaa
open Go Go.Mx Go.Proofs
open W (OwnB GivesW numR countR doneR zig unzig intR)
/-- cachetteref04.Put -/
def cachetteref04_Put.M (ag : Int) (ae : Int) (R : Value → World → Prop) (w : World) : Prop :=
 thenW (w.alloc (.cells #[.int .i64 ag, .int .i64 ae] 45)) fun af =>
 thenW (af.drew) fun ac =>
 ∃ (T5 : Int), ac.cell? ((blk w.heap.size).add 0) = some (.int .i64 T5) ∧
 ∃ (W6 : Int), ac.cell? ((blk w.heap.size).add 1) = some (.int .i64 W6) ∧
 Calls Try.prog 73 #[.int .i64 T5] ac fun ah ad => ∃ (a5 : Option Addr) (a4 : Nat) (a3 : Nat), ah = .returned (.slice a5 a4 a3) ∧
 ad.cell? ((blk w.heap.size).add 1) = some (.int .i64 W6) ∧
 Calls Try.prog 71 #[.int .u64 (IntKind.u64.wrap (if (0 : Int) > W6 then 0 else W6))] ad fun ab aa => ∃ (a2 : Option Addr) (a1 : Nat) (a0 : Nat), ab = .returned (.slice a2 a1 a0) ∧
 ∃ (a7 : Option Addr) (a8 : Nat) (a9 : Nat) (a6 : World), (Builtin.append_ #[43, 43] 43 #[.slice a5 a4 a3, .slice a2 a1 a0]).run Try.prog aa = .ok (.slice a7 a8 a9) a6 ∧
 R (.slice a7 a8 a9) a6

theorem cachetteref04_Put.eq (sT1 : Int) (sW2 : Int) (R : Value → World → Prop) (w : World) : mfunc Try.prog [] 72 [.agg #[.int .i64 sT1, .int .i64 sW2]] R w = cachetteref04_Put.M sT1 sW2 R w := by kernel_rfl
theorem cachetteref04_Put.ok (a1 : Int) (a0 : Int) {R : Value → World → Prop} {w : World} (h : cachetteref04_Put.M a1 a0 R w) : Calls Try.prog 72 #[.agg #[.int .i64 a1, .int .i64 a0]] w fun e w' => ∃ v, e = .returned v ∧ R v w' :=
  mfunc_ok follows (H := []) (args := [.agg #[.int .i64 a1, .int .i64 a0]]) (by rw [cachetteref04_Put.eq]; exact h)

def cachetteref04_Put.N (ag : Int) (ad : Int) (R : Value → World → Prop) (w : World) : Prop :=
 ∀ (aa : World) (p5 : Nat), Ext no w aa → Priv w aa [p5] →
 Calls Try.prog 73 #[.int .i64 ag] aa fun af ae => ∃ (a0 : Option Addr) (a4 : Nat) (a1 : Nat), af = .returned (.slice a0 a4 a1) ∧
 Keep [p5] aa ae ∧
 Calls Try.prog 71 #[.int .u64 (IntKind.u64.wrap (if (0 : Int) > ad then 0 else ad))] ae fun ac ab => ∃ (a5 : Option Addr) (a2 : Nat) (a3 : Nat), ac = .returned (.slice a5 a2 a3) ∧
 ∃ (a7 : Option Addr) (a6 : Nat) (a9 : Nat) (a8 : World), (Builtin.append_ #[43, 43] 43 #[.slice a0 a4 a1, .slice a5 a2 a3]).run Try.prog ab = .ok (.slice a7 a6 a9) a8 ∧
 R (.slice a7 a6 a9) a8

theorem cachetteref04_Put.up (ac : Int) (a7 : Int) {R : Value → World → Prop} {w : World} (h : cachetteref04_Put.N ac a7 R w) : cachetteref04_Put.M ac a7 R w := by
  unfold cachetteref04_Put.M
  unfold cachetteref04_Put.N at h
  refine thenW_in fun aj e3 => ?_
  have a0 := Blk.of_new e3
  have ag := ((Ext.refl no w)).size
  have ad := (Ext.refl no w).x_alloc e3
  refine thenW_in fun ai e4 => ?_
  have ae := ad.x_drew e4
  have a0 := a0.x_drew e4
  refine ⟨ac, a0.celli 0 rfl rfl, ?_⟩
  refine ⟨a7, a0.celli 1 rfl rfl, ?_⟩
  have h := h ai (w.heap.size) ae (Priv.cons ag a0.lt Priv.nil)
  refine h.mono fun ak al h => ?_
  obtain ⟨a3, a1, a5, he, hk, h⟩ := h
  refine ⟨a3, a1, a5, he, ?_⟩
  have a0 := hk.blk a0 (by simp)
  refine ⟨a0.celli 1 rfl rfl, ?_⟩
  refine h.mono fun ah af h => ?_
  obtain ⟨a2, a4, a6, he, h⟩ := h
  refine ⟨a2, a4, a6, he, ?_⟩
  obtain ⟨a8, aa, ab, a9, hr, h⟩ := h
  refine ⟨a8, aa, ab, a9, hr, ?_⟩
  exact h

theorem cachetteref04_Put.go (a1 : Int) (a0 : Int) {R : Value → World → Prop} {w : World} (h : cachetteref04_Put.N a1 a0 R w) : Calls Try.prog 72 #[.agg #[.int .i64 a1, .int .i64 a0]] w fun e w' => ∃ v, e = .returned v ∧ R v w' := cachetteref04_Put.ok a1 a0 (cachetteref04_Put.up a1 a0 h)
/-- cachetteref06.Text -/
def cachetteref06_Text.M (ai : Int) (b3 : Int) (ba : Int) (bo : Int) (bx : Int) (b4 : Int) (b7 : Option Addr) (b5 : Nat) (b6 : Nat) (bv : Int) (R : Value → World → Prop) (w : World) : Prop :=
 thenW (w.alloc (.cells #[.int .i64 ai, .int .i64 b3, .int .u64 ba, .int .i64 bo, .int .i64 bx, .int .i64 b4, .slice b7 b5 b6, .int .u64 bv] 47)) fun cd =>
 ∃ (a0 : Int) (a3 : Int) (ad : Int) (aj : Int) (av : Int) (a1 : Int) (a4 : Option Addr) (a8 : Nat) (a9 : Nat) (ak : Int), cellsAt cd (blk w.heap.size) [.int .i64 a0, .int .i64 a3, .int .u64 ad, .int .i64 aj, .int .i64 av, .int .i64 a1, .slice a4 a8 a9, .int .u64 ak] 0 ∧
 Calls Try.prog 38 #[.agg #[.int .i64 a0, .int .i64 a3, .int .u64 ad, .int .i64 aj, .int .i64 av, .int .i64 a1, .slice a4 a8 a9, .int .u64 ak]] cd fun c1 bb => ∃ (af : Bool), c1 = .returned (.bool af) ∧
 bif !af then (
 R (.tuple #[.slice none 0 0, .int .i64 1]) bb) else (
 ∃ (a7 : Int), bb.cell? ((blk w.heap.size).add 0) = some (.int .i64 a7) ∧
 Calls Try.prog 71 #[.int .u64 (IntKind.u64.wrap a7)] bb fun c3 bp => ∃ (al : Option Addr) (az : Nat) (ar : Nat), c3 = .returned (.slice al az ar) ∧
 ∃ (aa : Int), bp.cell? ((blk w.heap.size).add 1) = some (.int .i64 aa) ∧
 Calls Try.prog 71 #[.int .u64 (IntKind.u64.wrap aa)] bp fun ca c8 => ∃ (aw : Option Addr) (ao : Nat) (aq : Nat), ca = .returned (.slice aw ao aq) ∧
 ∃ (bm : Option Addr) (bn : Nat) (bk : Nat) (bf : World), (Builtin.append_ #[43, 43] 43 #[.slice al az ar, .slice aw ao aq]).run Try.prog c8 = .ok (.slice bm bn bk) bf ∧
 ∃ (b0 : Int), bf.cell? ((blk w.heap.size).add 2) = some (.int .u64 b0) ∧
 Calls Try.prog 71 #[.int .u64 b0] bf fun cb c9 => ∃ (an : Option Addr) (b2 : Nat) (ax : Nat), cb = .returned (.slice an b2 ax) ∧
 ∃ (bs : Option Addr) (bl : Nat) (bh : Nat) (be : World), (Builtin.append_ #[43, 43] 43 #[.slice bm bn bk, .slice an b2 ax]).run Try.prog c9 = .ok (.slice bs bl bh) be ∧
 ∃ (b9 : Int) (b8 : Int), cellsAt be ((blk w.heap.size).add 3) [.int .i64 b9, .int .i64 b8] 0 ∧
 Calls Try.prog 72 #[.agg #[.int .i64 b9, .int .i64 b8]] be fun c5 cc => ∃ (ap : Option Addr) (b1 : Nat) (ah : Nat), c5 = .returned (.slice ap b1 ah) ∧
 ∃ (bi : Option Addr) (bt : Nat) (bu : Nat) (bd : World), (Builtin.append_ #[43, 43] 43 #[.slice bs bl bh, .slice ap b1 ah]).run Try.prog cc = .ok (.slice bi bt bu) bd ∧
 ∃ (ag : Int), bd.cell? ((blk w.heap.size).add 5) = some (.int .i64 ag) ∧
 Calls Try.prog 73 #[.int .i64 ag] bd fun c2 c4 => ∃ (au : Option Addr) (ay : Nat) (am : Nat), c2 = .returned (.slice au ay am) ∧
 ∃ (bq : Option Addr) (bz : Nat) (bw : Nat) (bc : World), (Builtin.append_ #[43, 43] 43 #[.slice bi bt bu, .slice au ay am]).run Try.prog c4 = .ok (.slice bq bz bw) bc ∧
 ∃ (ab : Option Addr) (ae : Nat) (ac : Nat), bc.cell? ((blk w.heap.size).add 6) = some (.slice ab ae ac) ∧
 Calls Try.prog 74 #[.slice ab ae ac] bc fun c7 c6 => ∃ (a6 : Option Addr) (a5 : Nat) (a2 : Nat), c7 = .returned (.slice a6 a5 a2) ∧
 ∃ (br : Option Addr) (bg : Nat) (c0 : Nat) (bj : World), (Builtin.append_ #[43, 43] 43 #[.slice bq bz bw, .slice a6 a5 a2]).run Try.prog c6 = .ok (.slice br bg c0) bj ∧
 R (.tuple #[.slice br bg c0, .int .i64 0]) bj)

theorem cachetteref06_Text.eq (eWriter1 : Int) (eIndex2 : Int) (ePrev3 : Int) (eAtT4 : Int) (eAtW5 : Int) (eEpoch6 : Int) (eBody7a : Option Addr) (eBody7n : Nat) (eBody7c : Nat) (eSig8 : Int) (R : Value → World → Prop) (w : World) : mfunc Try.prog [] 59 [.agg #[.int .i64 eWriter1, .int .i64 eIndex2, .int .u64 ePrev3, .int .i64 eAtT4, .int .i64 eAtW5, .int .i64 eEpoch6, .slice eBody7a eBody7n eBody7c, .int .u64 eSig8]] R w = cachetteref06_Text.M eWriter1 eIndex2 ePrev3 eAtT4 eAtW5 eEpoch6 eBody7a eBody7n eBody7c eSig8 R w := by kernel_rfl
theorem cachetteref06_Text.ok (a0 : Int) (a2 : Int) (a6 : Int) (a7 : Int) (a9 : Int) (a3 : Int) (a1 : Option Addr) (a4 : Nat) (a5 : Nat) (a8 : Int) {R : Value → World → Prop} {w : World} (h : cachetteref06_Text.M a0 a2 a6 a7 a9 a3 a1 a4 a5 a8 R w) : Calls Try.prog 59 #[.agg #[.int .i64 a0, .int .i64 a2, .int .u64 a6, .int .i64 a7, .int .i64 a9, .int .i64 a3, .slice a1 a4 a5, .int .u64 a8]] w fun e w' => ∃ v, e = .returned v ∧ R v w' :=
  mfunc_ok follows (H := []) (args := [.agg #[.int .i64 a0, .int .i64 a2, .int .u64 a6, .int .i64 a7, .int .i64 a9, .int .i64 a3, .slice a1 a4 a5, .int .u64 a8]]) (by rw [cachetteref06_Text.eq]; exact h)

def cachetteref06_Text.N (a0 : Int) (a3 : Int) (a9 : Int) (ao : Int) (af : Int) (a1 : Int) (a5 : Option Addr) (a2 : Nat) (a4 : Nat) (ay : Int) (R : Value → World → Prop) (w : World) : Prop :=
 ((cachetteref06_Right.F a0 a3 a9 ao af a1 a5 a2 a4 ay) = false →
 ∀ (aa : World), Ext no w aa →
 R (.tuple #[.slice none 0 0, .int .i64 1]) aa) ∧
 ((cachetteref06_Right.F a0 a3 a9 ao af a1 a5 a2 a4 ay) = true →
 ∀ (aa : World) (au : Nat), Ext no w aa → Priv w aa [au] →
 Calls Try.prog 71 #[.int .u64 (IntKind.u64.wrap a0)] aa fun bn b1 => ∃ (al : Option Addr) (ag : Nat) (ab : Nat), bn = .returned (.slice al ag ab) ∧
 Keep [au] aa b1 ∧
 Calls Try.prog 71 #[.int .u64 (IntKind.u64.wrap a3)] b1 fun bp az => ∃ (aj : Option Addr) (ac : Nat) (am : Nat), bp = .returned (.slice aj ac am) ∧
 Keep [au] b1 az ∧
 ∃ (b5 : Option Addr) (b7 : Nat) (b6 : Nat) (ax : World), (Builtin.append_ #[43, 43] 43 #[.slice al ag ab, .slice aj ac am]).run Try.prog az = .ok (.slice b5 b7 b6) ax ∧
 Keep [au] az ax ∧
 Calls Try.prog 71 #[.int .u64 a9] ax fun bq b4 => ∃ (ap : Option Addr) (ae : Nat) (ad : Nat), bq = .returned (.slice ap ae ad) ∧
 Keep [au] ax b4 ∧
 ∃ (bb : Option Addr) (bd : Nat) (be : Nat) (aw : World), (Builtin.append_ #[43, 43] 43 #[.slice b5 b7 b6, .slice ap ae ad]).run Try.prog b4 = .ok (.slice bb bd be) aw ∧
 Keep [au] b4 aw ∧
 Calls Try.prog 72 #[.agg #[.int .i64 ao, .int .i64 af]] aw fun bl b3 => ∃ (aq : Option Addr) (ar : Nat) (ak : Nat), bl = .returned (.slice aq ar ak) ∧
 Keep [au] aw b3 ∧
 ∃ (bk : Option Addr) (bh : Nat) (ba : Nat) (av : World), (Builtin.append_ #[43, 43] 43 #[.slice bb bd be, .slice aq ar ak]).run Try.prog b3 = .ok (.slice bk bh ba) av ∧
 Keep [au] b3 av ∧
 Calls Try.prog 73 #[.int .i64 a1] av fun bo b0 => ∃ (ah : Option Addr) (ai : Nat) (an : Nat), bo = .returned (.slice ah ai an) ∧
 Keep [au] av b0 ∧
 ∃ (bc : Option Addr) (bf : Nat) (bg : Nat) (b2 : World), (Builtin.append_ #[43, 43] 43 #[.slice bk bh ba, .slice ah ai an]).run Try.prog b0 = .ok (.slice bc bf bg) b2 ∧
 Keep [au] b0 b2 ∧
 Calls Try.prog 74 #[.slice a5 a2 a4] b2 fun bm br => ∃ (a7 : Option Addr) (a6 : Nat) (a8 : Nat), bm = .returned (.slice a7 a6 a8) ∧
 ∃ (bi : Option Addr) (b8 : Nat) (b9 : Nat) (bj : World), (Builtin.append_ #[43, 43] 43 #[.slice bc bf bg, .slice a7 a6 a8]).run Try.prog br = .ok (.slice bi b8 b9) bj ∧
 R (.tuple #[.slice bi b8 b9, .int .i64 0]) bj)

theorem cachetteref06_Text.up (a0 : Int) (a4 : Int) (a7 : Int) (a9 : Int) (a8 : Int) (a2 : Int) (a6 : Option Addr) (a3 : Nat) (a5 : Nat) (aa : Int) {R : Value → World → Prop} {w : World} (h : cachetteref06_Text.N a0 a4 a7 a9 a8 a2 a6 a3 a5 aa R w) : cachetteref06_Text.M a0 a4 a7 a9 a8 a2 a6 a3 a5 aa R w := by
  unfold cachetteref06_Text.M
  unfold cachetteref06_Text.N at h
  refine thenW_in fun bv e9 => ?_
  have a1 := Blk.of_new e9
  have bn := ((Ext.refl no w)).size
  have bk := (Ext.refl no w).x_alloc e9
  refine ⟨a0, a4, a7, a9, a8, a2, a6, a3, a5, aa, ⟨a1.celli 0 rfl rfl, a1.celli 1 rfl rfl, a1.celli 2 rfl rfl, a1.celli 3 rfl rfl, a1.celli 4 rfl rfl, a1.celli 5 rfl rfl, a1.celli 6 rfl rfl, a1.celli 7 rfl rfl, trivial⟩, ?_⟩
  refine (cachetteref06_Right.pure a0 a4 a7 a9 a8 a2 a6 a3 a5 aa).mono fun ee ww10 ⟨he, hxx⟩ => ⟨(cachetteref06_Right.F a0 a4 a7 a9 a8 a2 a6 a3 a5 aa), he, ?_⟩
  have av := bk.trans hxx
  have a1 := a1.ext hxx id
  refine bif_of (fun ax => ?_) (fun ax => ?_)
  · have h := h.1 (not_t ax)
    have h := h ww10 av
    exact h
  · have h := h.2 (not_f ax)
    refine ⟨a0, a1.celli 0 rfl rfl, ?_⟩
    have h := h ww10 (w.heap.size) av (Priv.cons bn a1.lt Priv.nil)
    refine h.mono fun bl bo h => ?_
    obtain ⟨an, ai, ae, he, hk, h⟩ := h
    refine ⟨an, ai, ae, he, ?_⟩
    have a1 := hk.blk a1 (by simp)
    refine ⟨a4, a1.celli 1 rfl rfl, ?_⟩
    refine h.mono fun bq bj h => ?_
    obtain ⟨al, af, ao, he, hk, h⟩ := h
    refine ⟨al, af, ao, he, ?_⟩
    have a1 := hk.blk a1 (by simp)
    obtain ⟨aw, b0, ay, b7, hr, hk, h⟩ := h
    refine ⟨aw, b0, ay, b7, hr, ?_⟩
    have a1 := hk.blk a1 (by simp)
    refine ⟨a7, a1.celli 2 rfl rfl, ?_⟩
    refine h.mono fun br bu h => ?_
    obtain ⟨aq, ah, ag, he, hk, h⟩ := h
    refine ⟨aq, ah, ag, he, ?_⟩
    have a1 := hk.blk a1 (by simp)
    obtain ⟨b5, b8, b9, b3, hr, hk, h⟩ := h
    refine ⟨b5, b8, b9, b3, hr, ?_⟩
    have a1 := hk.blk a1 (by simp)
    refine ⟨a9, a8, ⟨a1.celli 3 rfl rfl, a1.celli 4 rfl rfl, trivial⟩, ?_⟩
    refine h.mono fun bh bt h => ?_
    obtain ⟨ar, au, am, he, hk, h⟩ := h
    refine ⟨ar, au, am, he, ?_⟩
    have a1 := hk.blk a1 (by simp)
    obtain ⟨bg, bc, b4, az, hr, hk, h⟩ := h
    refine ⟨bg, bc, b4, az, hr, ?_⟩
    have a1 := hk.blk a1 (by simp)
    refine ⟨a2, a1.celli 5 rfl rfl, ?_⟩
    refine h.mono fun bp bm h => ?_
    obtain ⟨aj, ak, ap, he, hk, h⟩ := h
    refine ⟨aj, ak, ap, he, ?_⟩
    have a1 := hk.blk a1 (by simp)
    obtain ⟨b6, ba, bb, bd, hr, hk, h⟩ := h
    refine ⟨b6, ba, bb, bd, hr, ?_⟩
    have a1 := hk.blk a1 (by simp)
    refine ⟨a6, a3, a5, a1.celli 6 rfl rfl, ?_⟩
    refine h.mono fun bi bs h => ?_
    obtain ⟨ac, ab, ad, he, h⟩ := h
    refine ⟨ac, ab, ad, he, ?_⟩
    obtain ⟨be, b1, b2, bf, hr, h⟩ := h
    refine ⟨be, b1, b2, bf, hr, ?_⟩
    exact h

theorem cachetteref06_Text.go (a0 : Int) (a2 : Int) (a6 : Int) (a7 : Int) (a9 : Int) (a3 : Int) (a1 : Option Addr) (a4 : Nat) (a5 : Nat) (a8 : Int) {R : Value → World → Prop} {w : World} (h : cachetteref06_Text.N a0 a2 a6 a7 a9 a3 a1 a4 a5 a8 R w) : Calls Try.prog 59 #[.agg #[.int .i64 a0, .int .i64 a2, .int .u64 a6, .int .i64 a7, .int .i64 a9, .int .i64 a3, .slice a1 a4 a5, .int .u64 a8]] w fun e w' => ∃ v, e = .returned v ∧ R v w' := cachetteref06_Text.ok a0 a2 a6 a7 a9 a3 a1 a4 a5 a8 (cachetteref06_Text.up a0 a2 a6 a7 a9 a3 a1 a4 a5 a8 h)
/-- cachetteref06.Bytes -/
def cachetteref06_Bytes.M (ae : Int) (ak : Int) (ao : Int) (ay : Int) (au : Int) (ai : Int) (am : Option Addr) (aj : Nat) (al : Nat) (ax : Int) (R : Value → World → Prop) (w : World) : Prop :=
 thenW (w.alloc (.cells #[.int .i64 ae, .int .i64 ak, .int .u64 ao, .int .i64 ay, .int .i64 au, .int .i64 ai, .slice am aj al, .int .u64 ax] 47)) fun b2 =>
 ∃ (a0 : Int) (a1 : Int) (aa : Int) (ag : Int) (ac : Int) (a5 : Int) (a2 : Option Addr) (a3 : Nat) (a4 : Nat) (ah : Int), cellsAt b2 (blk w.heap.size) [.int .i64 a0, .int .i64 a1, .int .u64 aa, .int .i64 ag, .int .i64 ac, .int .i64 a5, .slice a2 a3 a4, .int .u64 ah] 0 ∧
 Calls Try.prog 59 #[.agg #[.int .i64 a0, .int .i64 a1, .int .u64 aa, .int .i64 ag, .int .i64 ac, .int .i64 a5, .slice a2 a3 a4, .int .u64 ah]] b2 fun b0 ap => ∃ (a9 : Option Addr) (a8 : Nat) (a7 : Nat) (a6 : Int), b0 = .returned (.tuple #[.slice a9 a8 a7, .int .i64 a6]) ∧
 bif a6 != 0 then (
 R (.tuple #[.slice none 0 0, .int .i64 a6]) ap) else (
 ∃ (an : Int), ap.cell? ((blk w.heap.size).add 7) = some (.int .u64 an) ∧
 Calls Try.prog 71 #[.int .u64 an] ap fun b1 az => ∃ (af : Option Addr) (ad : Nat) (ab : Nat), b1 = .returned (.slice af ad ab) ∧
 ∃ (aw : Option Addr) (ar : Nat) (av : Nat) (aq : World), (Builtin.append_ #[43, 43] 43 #[.slice a9 a8 a7, .slice af ad ab]).run Try.prog az = .ok (.slice aw ar av) aq ∧
 R (.tuple #[.slice aw ar av, .int .i64 0]) aq)

theorem cachetteref06_Bytes.eq (eWriter1 : Int) (eIndex2 : Int) (ePrev3 : Int) (eAtT4 : Int) (eAtW5 : Int) (eEpoch6 : Int) (eBody7a : Option Addr) (eBody7n : Nat) (eBody7c : Nat) (eSig8 : Int) (R : Value → World → Prop) (w : World) : mfunc Try.prog [] 66 [.agg #[.int .i64 eWriter1, .int .i64 eIndex2, .int .u64 ePrev3, .int .i64 eAtT4, .int .i64 eAtW5, .int .i64 eEpoch6, .slice eBody7a eBody7n eBody7c, .int .u64 eSig8]] R w = cachetteref06_Bytes.M eWriter1 eIndex2 ePrev3 eAtT4 eAtW5 eEpoch6 eBody7a eBody7n eBody7c eSig8 R w := by kernel_rfl
theorem cachetteref06_Bytes.ok (a0 : Int) (a2 : Int) (a6 : Int) (a7 : Int) (a9 : Int) (a3 : Int) (a1 : Option Addr) (a4 : Nat) (a5 : Nat) (a8 : Int) {R : Value → World → Prop} {w : World} (h : cachetteref06_Bytes.M a0 a2 a6 a7 a9 a3 a1 a4 a5 a8 R w) : Calls Try.prog 66 #[.agg #[.int .i64 a0, .int .i64 a2, .int .u64 a6, .int .i64 a7, .int .i64 a9, .int .i64 a3, .slice a1 a4 a5, .int .u64 a8]] w fun e w' => ∃ v, e = .returned v ∧ R v w' :=
  mfunc_ok follows (H := []) (args := [.agg #[.int .i64 a0, .int .i64 a2, .int .u64 a6, .int .i64 a7, .int .i64 a9, .int .i64 a3, .slice a1 a4 a5, .int .u64 a8]]) (by rw [cachetteref06_Bytes.eq]; exact h)

def cachetteref06_Bytes.N (a7 : Int) (aa : Int) (af : Int) (al : Int) (ah : Int) (a8 : Int) (ac : Option Addr) (a9 : Nat) (ab : Nat) (ad : Int) (R : Value → World → Prop) (w : World) : Prop :=
 ∀ (am : World) (aq : Nat), Ext no w am → Priv w am [aq] →
 Calls Try.prog 59 #[.agg #[.int .i64 a7, .int .i64 aa, .int .u64 af, .int .i64 al, .int .i64 ah, .int .i64 a8, .slice ac a9 ab, .int .u64 ad]] am fun ap ae => ∃ (a1 : Option Addr) (a3 : Nat) (a2 : Nat) (a0 : Int), ap = .returned (.tuple #[.slice a1 a3 a2, .int .i64 a0]) ∧
 Keep [aq] am ae ∧
 (a0 ≠ 0 →
 R (.tuple #[.slice none 0 0, .int .i64 a0]) ae) ∧
 (a0 = 0 →
 Calls Try.prog 71 #[.int .u64 ad] ae fun ao an => ∃ (a6 : Option Addr) (a4 : Nat) (a5 : Nat), ao = .returned (.slice a6 a4 a5) ∧
 ∃ (ak : Option Addr) (aj : Nat) (ag : Nat) (ai : World), (Builtin.append_ #[43, 43] 43 #[.slice a1 a3 a2, .slice a6 a4 a5]).run Try.prog an = .ok (.slice ak aj ag) ai ∧
 R (.tuple #[.slice ak aj ag, .int .i64 0]) ai)

theorem cachetteref06_Bytes.up (a0 : Int) (a3 : Int) (a6 : Int) (aa : Int) (a9 : Int) (a1 : Int) (a5 : Option Addr) (a2 : Nat) (a4 : Nat) (a7 : Int) {R : Value → World → Prop} {w : World} (h : cachetteref06_Bytes.N a0 a3 a6 aa a9 a1 a5 a2 a4 a7 R w) : cachetteref06_Bytes.M a0 a3 a6 aa a9 a1 a5 a2 a4 a7 R w := by
  unfold cachetteref06_Bytes.M
  unfold cachetteref06_Bytes.N at h
  refine thenW_in fun av e9 => ?_
  have a8 := Blk.of_new e9
  have aq := ((Ext.refl no w)).size
  have ap := (Ext.refl no w).x_alloc e9
  refine ⟨a0, a3, a6, aa, a9, a1, a5, a2, a4, a7, ⟨a8.celli 0 rfl rfl, a8.celli 1 rfl rfl, a8.celli 2 rfl rfl, a8.celli 3 rfl rfl, a8.celli 4 rfl rfl, a8.celli 5 rfl rfl, a8.celli 6 rfl rfl, a8.celli 7 rfl rfl, trivial⟩, ?_⟩
  have h := h av (w.heap.size) ap (Priv.cons aq a8.lt Priv.nil)
  refine h.mono fun au an h => ?_
  obtain ⟨ab, ad, ac, ah, he, hk, h⟩ := h
  refine ⟨ab, ad, ac, ah, he, ?_⟩
  have a8 := hk.blk a8 (by simp)
  refine bif_of (fun am => ?_) (fun am => ?_)
  · have h := h.1 (bne_t am)
    exact h
  · have h := h.2 (bne_f am)
    refine ⟨a7, a8.celli 7 rfl rfl, ?_⟩
    refine h.mono fun ar ao h => ?_
    obtain ⟨ag, ae, af, he, h⟩ := h
    refine ⟨ag, ae, af, he, ?_⟩
    obtain ⟨al, ak, ai, aj, hr, h⟩ := h
    refine ⟨al, ak, ai, aj, hr, ?_⟩
    exact h

theorem cachetteref06_Bytes.go (a0 : Int) (a2 : Int) (a6 : Int) (a7 : Int) (a9 : Int) (a3 : Int) (a1 : Option Addr) (a4 : Nat) (a5 : Nat) (a8 : Int) {R : Value → World → Prop} {w : World} (h : cachetteref06_Bytes.N a0 a2 a6 a7 a9 a3 a1 a4 a5 a8 R w) : Calls Try.prog 66 #[.agg #[.int .i64 a0, .int .i64 a2, .int .u64 a6, .int .i64 a7, .int .i64 a9, .int .i64 a3, .slice a1 a4 a5, .int .u64 a8]] w fun e w' => ∃ v, e = .returned v ∧ R v w' := cachetteref06_Bytes.ok a0 a2 a6 a7 a9 a3 a1 a4 a5 a8 (cachetteref06_Bytes.up a0 a2 a6 a7 a9 a3 a1 a4 a5 a8 h)
/-- cachetteref06.Same -/
def cachetteref06_Same.M (ae : Int) (av : Int) (b2 : Int) (b6 : Int) (b8 : Int) (aq : Int) (au : Option Addr) (ao : Nat) (ar : Nat) (b7 : Int) (ai : Int) (aj : Int) (ap : Int) (b4 : Int) (b5 : Int) (al : Int) (ah : Option Addr) (an : Nat) (am : Nat) (b3 : Int) (R : Value → World → Prop) (w : World) : Prop :=
 thenW (w.alloc (.cells #[.int .i64 ae, .int .i64 av, .int .u64 b2, .int .i64 b6, .int .i64 b8, .int .i64 aq, .slice au ao ar, .int .u64 b7] 47)) fun a3 =>
 thenW (a3.alloc (.cells #[.int .i64 ai, .int .i64 aj, .int .u64 ap, .int .i64 b4, .int .i64 b5, .int .i64 al, .slice ah an am, .int .u64 b3] 47)) fun a0 =>
 ∃ (a1 : Int), a0.cell? ((blk w.heap.size).add 0) = some (.int .i64 a1) ∧
 ∃ (a2 : Int), a0.cell? ((blk a3.heap.size).add 0) = some (.int .i64 a2) ∧
 bif a1 == a2 then (
 ∃ (aa : Int), a0.cell? ((blk w.heap.size).add 1) = some (.int .i64 aa) ∧
 ∃ (ab : Int), a0.cell? ((blk a3.heap.size).add 1) = some (.int .i64 ab) ∧
 bif aa == ab then (
 ∃ (ag : Int), a0.cell? ((blk w.heap.size).add 2) = some (.int .u64 ag) ∧
 ∃ (af : Int), a0.cell? ((blk a3.heap.size).add 2) = some (.int .u64 af) ∧
 bif ag == af then (
 ∃ (aw : Int) (b1 : Int), cellsAt a0 ((blk w.heap.size).add 3) [.int .i64 aw, .int .i64 b1] 0 ∧
 ∃ (ay : Int) (ax : Int), cellsAt a0 ((blk a3.heap.size).add 3) [.int .i64 ay, .int .i64 ax] 0 ∧
 ∃ (bb : Bool), (binOp .eql 45 (.agg #[.int .i64 aw, .int .i64 b1]) (.agg #[.int .i64 ay, .int .i64 ax])).run Try.prog a0 = .ok (.bool bb) a0 ∧
 bif bb then (
 ∃ (ac : Int), a0.cell? ((blk w.heap.size).add 5) = some (.int .i64 ac) ∧
 ∃ (a8 : Int), a0.cell? ((blk a3.heap.size).add 5) = some (.int .i64 a8) ∧
 bif ac == a8 then (
 ∃ (az : Int), a0.cell? ((blk w.heap.size).add 7) = some (.int .u64 az) ∧
 ∃ (b0 : Int), a0.cell? ((blk a3.heap.size).add 7) = some (.int .u64 b0) ∧
 bif az == b0 then (
 ∃ (a5 : Option Addr) (a4 : Nat) (a9 : Nat), a0.cell? ((blk w.heap.size).add 6) = some (.slice a5 a4 a9) ∧
 ∃ (ad : Option Addr) (a7 : Nat) (a6 : Nat), a0.cell? ((blk a3.heap.size).add 6) = some (.slice ad a7 a6) ∧
 Calls Try.prog 41 #[.slice a5 a4 a9, .slice ad a7 a6] a0 fun ba b9 => ∃ (ak : Bool), ba = .returned (.bool ak) ∧
 R (.bool ak) b9) else (
 R (.bool false) a0)) else (
 R (.bool false) a0)) else (
 R (.bool false) a0)) else (
 R (.bool false) a0)) else (
 R (.bool false) a0)) else (
 R (.bool false) a0)

theorem cachetteref06_Same.eq (aWriter1 : Int) (aIndex2 : Int) (aPrev3 : Int) (aAtT4 : Int) (aAtW5 : Int) (aEpoch6 : Int) (aBody7a : Option Addr) (aBody7n : Nat) (aBody7c : Nat) (aSig8 : Int) (bWriter9 : Int) (bIndex10 : Int) (bPrev11 : Int) (bAtT12 : Int) (bAtW13 : Int) (bEpoch14 : Int) (bBody15a : Option Addr) (bBody15n : Nat) (bBody15c : Nat) (bSig16 : Int) (R : Value → World → Prop) (w : World) : mfunc Try.prog [] 17 [.agg #[.int .i64 aWriter1, .int .i64 aIndex2, .int .u64 aPrev3, .int .i64 aAtT4, .int .i64 aAtW5, .int .i64 aEpoch6, .slice aBody7a aBody7n aBody7c, .int .u64 aSig8], .agg #[.int .i64 bWriter9, .int .i64 bIndex10, .int .u64 bPrev11, .int .i64 bAtT12, .int .i64 bAtW13, .int .i64 bEpoch14, .slice bBody15a bBody15n bBody15c, .int .u64 bSig16]] R w = cachetteref06_Same.M aWriter1 aIndex2 aPrev3 aAtT4 aAtW5 aEpoch6 aBody7a aBody7n aBody7c aSig8 bWriter9 bIndex10 bPrev11 bAtT12 bAtW13 bEpoch14 bBody15a bBody15n bBody15c bSig16 R w := by kernel_rfl
theorem cachetteref06_Same.ok (a0 : Int) (ac : Int) (ad : Int) (ah : Int) (aj : Int) (a9 : Int) (ab : Option Addr) (a7 : Nat) (aa : Nat) (ai : Int) (a2 : Int) (a3 : Int) (a8 : Int) (af : Int) (ag : Int) (a5 : Int) (a1 : Option Addr) (a4 : Nat) (a6 : Nat) (ae : Int) {R : Value → World → Prop} {w : World} (h : cachetteref06_Same.M a0 ac ad ah aj a9 ab a7 aa ai a2 a3 a8 af ag a5 a1 a4 a6 ae R w) : Calls Try.prog 17 #[.agg #[.int .i64 a0, .int .i64 ac, .int .u64 ad, .int .i64 ah, .int .i64 aj, .int .i64 a9, .slice ab a7 aa, .int .u64 ai], .agg #[.int .i64 a2, .int .i64 a3, .int .u64 a8, .int .i64 af, .int .i64 ag, .int .i64 a5, .slice a1 a4 a6, .int .u64 ae]] w fun e w' => ∃ v, e = .returned v ∧ R v w' :=
  mfunc_ok follows (H := []) (args := [.agg #[.int .i64 a0, .int .i64 ac, .int .u64 ad, .int .i64 ah, .int .i64 aj, .int .i64 a9, .slice ab a7 aa, .int .u64 ai], .agg #[.int .i64 a2, .int .i64 a3, .int .u64 a8, .int .i64 af, .int .i64 ag, .int .i64 a5, .slice a1 a4 a6, .int .u64 ae]]) (by rw [cachetteref06_Same.eq]; exact h)

def cachetteref06_Same.N (a1 : Int) (a7 : Int) (a8 : Int) (aj : Int) (al : Int) (a6 : Int) (ai : Option Addr) (ag : Nat) (ah : Nat) (ak : Int) (a2 : Int) (a3 : Int) (a5 : Int) (ad : Int) (ae : Int) (a4 : Int) (a9 : Option Addr) (ac : Nat) (af : Nat) (ab : Int) (R : Value → World → Prop) (w : World) : Prop :=
 (a1 = a2 →
 (a7 = a3 →
 (a8 = a5 →
 (aj = ad ∧ al = ae →
 (a6 = a4 →
 (ak = ab →
 ∀ (a0 : World), Ext no w a0 →
 Calls Try.prog 41 #[.slice ai ag ah, .slice a9 ac af] a0 fun am an => ∃ (aa : Bool), am = .returned (.bool aa) ∧
 R (.bool aa) an) ∧
 (ak ≠ ab →
 ∀ (a0 : World), Ext no w a0 →
 R (.bool false) a0)) ∧
 (a6 ≠ a4 →
 ∀ (a0 : World), Ext no w a0 →
 R (.bool false) a0)) ∧
 (¬ (aj = ad ∧ al = ae) →
 ∀ (a0 : World), Ext no w a0 →
 R (.bool false) a0)) ∧
 (a8 ≠ a5 →
 ∀ (a0 : World), Ext no w a0 →
 R (.bool false) a0)) ∧
 (a7 ≠ a3 →
 ∀ (a0 : World), Ext no w a0 →
 R (.bool false) a0)) ∧
 (a1 ≠ a2 →
 ∀ (a0 : World), Ext no w a0 →
 R (.bool false) a0)

theorem cachetteref06_Same.up (a0 : Int) (ad : Int) (af : Int) (aj : Int) (ak : Int) (a9 : Int) (ab : Option Addr) (a7 : Nat) (aa : Nat) (al : Int) (a2 : Int) (a3 : Int) (a8 : Int) (ac : Int) (ae : Int) (a4 : Int) (a1 : Option Addr) (a6 : Nat) (a5 : Nat) (ah : Int) {R : Value → World → Prop} {w : World} (h : cachetteref06_Same.N a0 ad af aj ak a9 ab a7 aa al a2 a3 a8 ac ae a4 a1 a6 a5 ah R w) : cachetteref06_Same.M a0 ad af aj ak a9 ab a7 aa al a2 a3 a8 ac ae a4 a1 a6 a5 ah R w := by
  unfold cachetteref06_Same.M
  unfold cachetteref06_Same.N at h
  refine thenW_in fun b3 az => ?_
  have am := Blk.of_new az
  have b5 := ((Ext.refl no w)).size
  have ap := (Ext.refl no w).x_alloc az
  refine thenW_in fun ag au => ?_
  have an := Blk.of_new au
  have b4 := (ap).size
  have b0 := Nat.ne_of_lt am.lt
  have am := am.x_alloc au
  have ai := ap.x_alloc au
  refine ⟨a0, am.celli 0 rfl rfl, ?_⟩
  refine ⟨a2, an.celli 0 rfl rfl, ?_⟩
  refine bif_of (fun aw => ?_) (fun aw => ?_)
  · have h := h.1 (beq_t aw)
    refine ⟨ad, am.celli 1 rfl rfl, ?_⟩
    refine ⟨a3, an.celli 1 rfl rfl, ?_⟩
    refine bif_of (fun ar => ?_) (fun ar => ?_)
    · have h := h.1 (beq_t ar)
      refine ⟨af, am.celli 2 rfl rfl, ?_⟩
      refine ⟨a8, an.celli 2 rfl rfl, ?_⟩
      refine bif_of (fun ay => ?_) (fun ay => ?_)
      · have h := h.1 (beq_t ay)
        refine ⟨aj, ak, ⟨am.celli 3 rfl rfl, am.celli 4 rfl rfl, trivial⟩, ?_⟩
        refine ⟨ac, ae, ⟨an.celli 3 rfl rfl, an.celli 4 rfl rfl, trivial⟩, ?_⟩
        refine ⟨_, eqT45_eq aj ak ac ae _, ?_⟩
        refine bif_of (fun ax => ?_) (fun ax => ?_)
        · have h := h.1 (of_decide_eq_true ax)
          refine ⟨a9, am.celli 5 rfl rfl, ?_⟩
          refine ⟨a4, an.celli 5 rfl rfl, ?_⟩
          refine bif_of (fun aq => ?_) (fun aq => ?_)
          · have h := h.1 (beq_t aq)
            refine ⟨al, am.celli 7 rfl rfl, ?_⟩
            refine ⟨ah, an.celli 7 rfl rfl, ?_⟩
            refine bif_of (fun av => ?_) (fun av => ?_)
            · have h := h.1 (beq_t av)
              refine ⟨ab, a7, aa, am.celli 6 rfl rfl, ?_⟩
              refine ⟨a1, a6, a5, an.celli 6 rfl rfl, ?_⟩
              have h := h ag ai
              refine h.mono fun b1 b2 h => ?_
              obtain ⟨ao, he, h⟩ := h
              refine ⟨ao, he, ?_⟩
              exact h
            · have h := h.2 (beq_f av)
              have h := h ag ai
              exact h
          · have h := h.2 (beq_f aq)
            have h := h ag ai
            exact h
        · have h := h.2 (of_decide_eq_false ax)
          have h := h ag ai
          exact h
      · have h := h.2 (beq_f ay)
        have h := h ag ai
        exact h
    · have h := h.2 (beq_f ar)
      have h := h ag ai
      exact h
  · have h := h.2 (beq_f aw)
    have h := h ag ai
    exact h

theorem cachetteref06_Same.go (a0 : Int) (ac : Int) (ad : Int) (ah : Int) (aj : Int) (a9 : Int) (ab : Option Addr) (a7 : Nat) (aa : Nat) (ai : Int) (a2 : Int) (a3 : Int) (a8 : Int) (af : Int) (ag : Int) (a5 : Int) (a1 : Option Addr) (a4 : Nat) (a6 : Nat) (ae : Int) {R : Value → World → Prop} {w : World} (h : cachetteref06_Same.N a0 ac ad ah aj a9 ab a7 aa ai a2 a3 a8 af ag a5 a1 a4 a6 ae R w) : Calls Try.prog 17 #[.agg #[.int .i64 a0, .int .i64 ac, .int .u64 ad, .int .i64 ah, .int .i64 aj, .int .i64 a9, .slice ab a7 aa, .int .u64 ai], .agg #[.int .i64 a2, .int .i64 a3, .int .u64 a8, .int .i64 af, .int .i64 ag, .int .i64 a5, .slice a1 a4 a6, .int .u64 ae]] w fun e w' => ∃ v, e = .returned v ∧ R v w' := cachetteref06_Same.ok a0 ac ad ah aj a9 ab a7 aa ai a2 a3 a8 af ag a5 a1 a4 a6 ae (cachetteref06_Same.up a0 ac ad ah aj a9 ab a7 aa ai a2 a3 a8 af ag a5 a1 a4 a6 ae h)
theorem cachetteref06_Same.run (a0 : Int) (ac : Int) (ad : Int) (ah : Int) (aj : Int) (a9 : Int) (ab : Option Addr) (a7 : Nat) (aa : Nat) (ai : Int) (a2 : Int) (a3 : Int) (a8 : Int) (af : Int) (ag : Int) (a5 : Int) (a1 : Option Addr) (a4 : Nat) (a6 : Nat) (ae : Int) {V : Value} {Q : World → Prop} {w : World} (h : cachetteref06_Same.N a0 ac ad ah aj a9 ab a7 aa ai a2 a3 a8 af ag a5 a1 a4 a6 ae (fun v w' => v = V ∧ Q w') w) : Calls Try.prog 17 #[.agg #[.int .i64 a0, .int .i64 ac, .int .u64 ad, .int .i64 ah, .int .i64 aj, .int .i64 a9, .slice ab a7 aa, .int .u64 ai], .agg #[.int .i64 a2, .int .i64 a3, .int .u64 a8, .int .i64 af, .int .i64 ag, .int .i64 a5, .slice a1 a4 a6, .int .u64 ae]] w (Ret V Q) := (cachetteref06_Same.go a0 ac ad ah aj a9 ab a7 aa ai a2 a3 a8 af ag a5 a1 a4 a6 ae h).mono fun e w' ⟨v, he, hv, hq⟩ => ⟨by rw [he, hv], hq⟩

section
variable {w w' : World} {a : Option Addr} {c N p : Nat} {bs : List UInt8} {k : Int}
theorem rPut_spec {t s : Int} (h0 : -9223372036854775808 ≤ t) (h1 : t < 9223372036854775808) (hs : s < 9223372036854775808) :
    Calls Try.prog 72 #[.agg #[.int .i64 t, .int .i64 s]] w (fun e w' => ∃ a' c', e = .returned (.slice a' (stampL t s).length c') ∧ OwnB w.heap.size w' a' c' (stampL t s) ∧ Ext no w w') := by
  refine (cachetteref04_Put.go _ _ (R := fun v w' => ∃ a' c', v = (.slice a' (stampL t s).length c') ∧ OwnB w.heap.size w' a' c' (stampL t s) ∧ Ext no w w') ?_).mono fun e w' ⟨v, he, a, c, hv, hw⟩ => ⟨a, c, by rw [he, hv], hw⟩
  unfold cachetteref04_Put.N
  intro w4 p5 X4 hp
  have hp := hp.one
  have e1 : IntKind.u64.wrap (if (0 : Int) > s then 0 else s) = ((s.toNat : Nat) : Int) := by split <;> rw [wu64 (by omega) (by omega)] <;> omega
  rw [e1]
  have g1 := W.numL_le (zig t); have g2 := W.numL_le s.toNat
  refine (rInt_spec h0 h1).mono fun e w8 ⟨a8, c8, he, hO, X8⟩ => ⟨a8, _, c8, he, X8.kept, ?_⟩
  refine (W.rNum_spec s.toNat w8 (by omega)).mono fun e w11 ⟨a11, c11, he, hO2, X11⟩ => ⟨a11, _, c11, he, ?_⟩
  obtain ⟨a', c', w13, hr, hB, Y, _, _⟩ := app (w0 := w) hO (X4.trans X8) X4.size X8.size X11 (xc := c11) hO2.row (by omega)
  exact ⟨a', _, c', w13, hr, a', c', rfl, OwnB.up hB X4.size, Y⟩
theorem rText_spec {e : Ent} (hf : entRight e = true → e.fit) {ba : Option Addr} {bc : Nat} (hb : RowAt w ba (bytesV e.body)) :
    Calls Try.prog 59 #[entV e ba bc] w (fun x w' => Ext no w w' ∧ ((entRight e = false ∧ x = .returned (.tuple #[.slice none 0 0, .int .i64 1])) ∨ (entRight e = true ∧ ∃ a' c', x = .returned (.tuple #[.slice a' (textL e).length c', .int .i64 0]) ∧ OwnB w.heap.size w' a' c' (textL e)))) := by
  refine (cachetteref06_Text.go e.w e.i e.pv e.t e.tw e.ep ba e.body.length bc e.sg (R := fun v w' => Ext no w w' ∧ ((entRight e = false ∧ v = (.tuple #[.slice none 0 0, .int .i64 1])) ∨ (entRight e = true ∧ ∃ a' c', v = (.tuple #[.slice a' (textL e).length c', .int .i64 0]) ∧ OwnB w.heap.size w' a' c' (textL e)))) ?_).mono fun x w' ⟨v, he, hx, hv⟩ => ⟨hx, hv.imp (fun ⟨h1, h2⟩ => ⟨h1, by rw [he, h2]⟩) fun ⟨h1, a, c, h2, h3⟩ => ⟨h1, a, c, by rw [he, h2], h3⟩⟩
  unfold cachetteref06_Text.N
  rw [refRight_F]
  refine ⟨fun h w10 X => ⟨X, .inl ⟨h, rfl⟩⟩, fun h w9 p X9 hp => ?_⟩
  have hp := hp.one
  have hf := hf h
  obtain ⟨h1, h2, h3, h4, h5, h6, h7, h8, h9, h10, h11⟩ := (entRight_iff e).1 h
  have f1 := hf.pv0; have f2 := hf.pv1
  rw [wu64 (n := e.w) h1 (by omega), wu64 (n := e.i) h3 (by omega), ← Int.toNat_of_nonneg h1, ← Int.toNat_of_nonneg h3, ← Int.toNat_of_nonneg f1]
  have g1 := W.numL_le e.w.toNat; have g2 := W.numL_le e.i.toNat; have g3 := W.numL_le e.pv.toNat; have g4 := stampL_le e.t e.tw; have g5 := W.numL_le (zig e.ep); have g6 := W.numL_le e.body.length
  refine (W.rNum_spec e.w.toNat w9 (by omega)).mono fun x w17 ⟨a1, c1, he, hB, X17⟩ => ⟨a1, _, c1, he, X17.kept, ?_⟩
  have Y := X9.trans X17
  have hN := X17.size
  have h0 := X9.size
  refine (W.rNum_spec e.i.toNat w17 (by omega)).mono fun x w20 ⟨a2, c2, he, hO, X20⟩ => ⟨a2, _, c2, he, X20.kept, ?_⟩
  obtain ⟨a3, c3, w22, hr, hB, Y, XA, hN⟩ := app hB Y h0 hN X20 (xc := c2) hO.row (by (try simp only [List.length_append]) <;> omega)
  refine ⟨a3, _, c3, w22, hr, keep1 XA (by omega), ?_⟩
  refine (W.rNum_spec e.pv.toNat w22 (by omega)).mono fun x w25 ⟨a2, c2, he, hO, X25⟩ => ⟨a2, _, c2, he, X25.kept, ?_⟩
  obtain ⟨a3, c3, w27, hr, hB, Y, XA, hN⟩ := app hB Y h0 hN X25 (xc := c2) hO.row (by (try simp only [List.length_append]) <;> omega)
  refine ⟨a3, _, c3, w27, hr, keep1 XA (by omega), ?_⟩
  refine (rPut_spec (by omega) (by omega) (by omega)).mono fun x w30 ⟨a2, c2, he, hO, X30⟩ => ⟨a2, _, c2, he, X30.kept, ?_⟩
  obtain ⟨a3, c3, w32, hr, hB, Y, XA, hN⟩ := app hB Y h0 hN X30 (xc := c2) hO.row (by (try simp only [List.length_append]) <;> omega)
  refine ⟨a3, _, c3, w32, hr, keep1 XA (by omega), ?_⟩
  refine (rInt_spec (by omega) (by omega)).mono fun x w35 ⟨a2, c2, he, hO, X35⟩ => ⟨a2, _, c2, he, X35.kept, ?_⟩
  obtain ⟨a3, c3, w37, hr, hB, Y, XA, hN⟩ := app hB Y h0 hN X35 (xc := c2) hO.row (by (try simp only [List.length_append]) <;> omega)
  refine ⟨a3, _, c3, w37, hr, keep1 XA (by omega), ?_⟩
  refine (rBytes_spec (hb.no Y) (by omega)).mono fun x w40 ⟨a2, c2, he, hO, X40⟩ => ⟨a2, _, c2, he, ?_⟩
  obtain ⟨a3, c3, w42, hr, hB, Y, XA, hN⟩ := app hB Y h0 hN X40 (xc := c2) hO.row (by (try simp only [List.length_append]) <;> omega)
  exact ⟨a3, _, c3, w42, hr, Y, .inr ⟨h, a3, c3, rfl, OwnB.up hB h0⟩⟩
theorem rEBytes_spec {e : Ent} (hf : entRight e = true → e.fit) {ba : Option Addr} {bc : Nat} (hb : RowAt w ba (bytesV e.body)) :
    Calls Try.prog 66 #[entV e ba bc] w (fun x w' => Ext no w w' ∧ ((entRight e = false ∧ x = .returned (.tuple #[.slice none 0 0, .int .i64 1])) ∨ (entRight e = true ∧ ∃ a' c', x = .returned (.tuple #[.slice a' (bytesL e).length c', .int .i64 0]) ∧ OwnB w.heap.size w' a' c' (bytesL e)))) := by
  refine (cachetteref06_Bytes.go e.w e.i e.pv e.t e.tw e.ep ba e.body.length bc e.sg (R := fun v w' => Ext no w w' ∧ ((entRight e = false ∧ v = (.tuple #[.slice none 0 0, .int .i64 1])) ∨ (entRight e = true ∧ ∃ a' c', v = (.tuple #[.slice a' (bytesL e).length c', .int .i64 0]) ∧ OwnB w.heap.size w' a' c' (bytesL e)))) ?_).mono fun x w' ⟨v, he, hx, hv⟩ => ⟨hx, hv.imp (fun ⟨h1, h2⟩ => ⟨h1, by rw [he, h2]⟩) fun ⟨h1, a, c, h2, h3⟩ => ⟨h1, a, c, by rw [he, h2], h3⟩⟩
  unfold cachetteref06_Bytes.N
  intro w9 p X9 hp
  refine (rText_spec hf (hb.no X9)).mono fun x w14 ⟨X14, hor⟩ => ?_
  rcases hor with ⟨h, he⟩ | ⟨h, a1, c1, he, hB⟩
  · exact ⟨_, _, _, _, he, X14.kept, fun _ => ⟨X9.trans X14, .inl ⟨h, rfl⟩⟩, fun h => absurd h (by decide)⟩
  · have hf := hf h
    have f3 := hf.sg0; have f4 := hf.sg1
    have hbl := ((entRight_iff e).1 h).2.2.2.2.2.2.2.2.2.1
    have htl := textL_le e
    have g1 := W.numL_le e.sg.toNat
    rw [← Int.toNat_of_nonneg f3]
    refine ⟨_, _, _, _, he, X14.kept, fun h => absurd rfl h, fun _ => ?_⟩
    refine (W.rNum_spec e.sg.toNat w14 (by omega)).mono fun x w18 ⟨a2, c2, he, hO, X18⟩ => ⟨a2, _, c2, he, ?_⟩
    obtain ⟨a3, c3, w20, hr, hB, Y, XA, hN⟩ := app hB (X9.trans X14) X9.size X14.size X18 (xc := c2) hO.row (by omega)
    exact ⟨a3, _, c3, w20, hr, Y, .inr ⟨h, a3, c3, rfl, OwnB.up hB X9.size⟩⟩
theorem rESame_spec {e f : Ent} {b : Option Addr} {d : Nat} (ha : RowAt w a (bytesV e.body)) (hb : RowAt w b (bytesV f.body)) (hl : e.body.length < 1000000) :
    Calls Try.prog 17 #[entV e a c, entV f b d] w (Ret (.bool (decide (e = f))) fun w' => Ext no w w') := by
  refine cachetteref06_Same.run _ _ _ _ _ _ _ _ _ _ _ _ _ _ _ _ _ _ _ _ ?_
  unfold cachetteref06_Same.N
  obtain ⟨e1, e2, e3, e4, e5, e6, e7, e8⟩ := e
  obtain ⟨f1, f2, f3, f4, f5, f6, f7, f8⟩ := f
  simp only [Ent.mk.injEq]
  refine ⟨fun c1 => ⟨fun c2 => ⟨fun c3 => ⟨fun c4 => ⟨fun c5 => ⟨fun c6 w18 X => ?_, fun c6 w18 X => ⟨?_, X⟩⟩, fun c5 w18 X => ⟨?_, X⟩⟩, fun c4 w18 X => ⟨?_, X⟩⟩, fun c3 w18 X => ⟨?_, X⟩⟩, fun c2 w18 X => ⟨?_, X⟩⟩, fun c1 w18 X => ⟨?_, X⟩⟩
  · refine (W.sameB_spec (ha.no X) (hb.no X) hl).mono fun x w31 ⟨he, X31⟩ => ⟨_, he, ?_, X.trans X31⟩
    congr 1; rw [Bool.eq_iff_iff, decide_eq_true_eq, decide_eq_true_eq]; exact ⟨fun h => ⟨c1, c2, c3, c4.1, c4.2, c5, h, c6⟩, fun h => h.2.2.2.2.2.2.1⟩
  · rw [decide_eq_false fun h => c6 h.2.2.2.2.2.2.2]
  · rw [decide_eq_false fun h => c5 h.2.2.2.2.2.1]
  · rw [decide_eq_false fun h => c4 ⟨h.2.2.2.1, h.2.2.2.2.1⟩]
  · rw [decide_eq_false fun h => c3 h.2.2.1]
  · rw [decide_eq_false fun h => c2 h.2.1]
  · rw [decide_eq_false fun h => c1 h.1]
end
end Go.Proofs.Ytdelmfpchbpafaa

/- An entry that is handed in. -/
set_option linter.unusedVariables false
set_option linter.unusedSimpArgs false
set_option maxRecDepth 20000
namespace Go.Proofs.Ytdelmfpchbpafaa
open Go Go.Mx Go.Proofs
/-- numbers that are of their kinds. -/
structure Ent.wide (e : Ent) : Prop where
  w : -9223372036854775808 ≤ e.w ∧ e.w < 9223372036854775808
  i : -9223372036854775808 ≤ e.i ∧ e.i < 9223372036854775808
  t : -9223372036854775808 ≤ e.t ∧ e.t < 9223372036854775808
  tw : -9223372036854775808 ≤ e.tw ∧ e.tw < 9223372036854775808
  ep : -9223372036854775808 ≤ e.ep ∧ e.ep < 9223372036854775808
def EntQ (W : World) (cs : List Value) : Prop := ∃ (e : Ent) (a : Option Addr) (c : Nat), cs = entC e a c ∧ e.fit ∧ e.wide ∧ e.body.length ≤ c ∧ c ≤ maxLen ∧ RowAt W a (bytesV e.body)
theorem list8 {α : Type} : ∀ {l : List α}, l.length = 8 → ∃ a b c d e f g h, l = [a, b, c, d, e, f, g, h]
  | [a, b, c, d, e, f, g, h], _ => ⟨a, b, c, d, e, f, g, h, rfl⟩
theorem cellsOf_entry : Try.prog.cellsOf 47 = 8 := by kernel_rfl
theorem cellsOf_stamp : Try.prog.cellsOf 45 = 2 := by kernel_rfl
theorem opens_entry : Opens Try.prog 47 EntQ := (opens_struct Try.underlying47 cellsOf_entry).mono fun W cs ⟨hl, hf⟩ => by
  obtain ⟨c0, c1, c2, c3, c4, c5, c6, c7, rfl⟩ := list8 hl
  have e0 : ∃ n, (([c0, c1, c2, c3, c4, c5, c6, c7] : List Value).drop 0).take (Try.prog.cellsOf 3) = [.int .i64 n] ∧ _ := hf 0 _ rfl _ (opens_int Try.underlying3)
  have e1 : ∃ n, (([c0, c1, c2, c3, c4, c5, c6, c7] : List Value).drop 1).take (Try.prog.cellsOf 3) = [.int .i64 n] ∧ _ := hf 1 _ rfl _ (opens_int Try.underlying3)
  have e2 : ∃ n, (([c0, c1, c2, c3, c4, c5, c6, c7] : List Value).drop 2).take (Try.prog.cellsOf 32) = [.int .u64 n] ∧ _ := hf 2 _ rfl _ (opens_int Try.underlying32)
  have e3 := hf 3 _ rfl _ (opens_struct Try.underlying45 cellsOf_stamp)
  change (((([c0, c1, c2, c3, c4, c5, c6, c7] : List Value).drop 3).take (Try.prog.cellsOf 45)).length = 2 ∧ _) at e3
  have e4 : ∃ n, (([c0, c1, c2, c3, c4, c5, c6, c7] : List Value).drop 5).take (Try.prog.cellsOf 3) = [.int .i64 n] ∧ _ := hf 4 _ rfl _ (opens_int Try.underlying3)
  have e5 : BytesQ W ((([c0, c1, c2, c3, c4, c5, c6, c7] : List Value).drop 6).take (Try.prog.cellsOf 43)) := hf 5 _ rfl _ (opens_bytes Try.underlying43 (by kernel_rfl) Try.underlying5)
  have e6 : ∃ n, (([c0, c1, c2, c3, c4, c5, c6, c7] : List Value).drop 7).take (Try.prog.cellsOf 32) = [.int .u64 n] ∧ _ := hf 6 _ rfl _ (opens_int Try.underlying32)
  have o1 : Try.prog.cellsOf 3 = 1 := by kernel_rfl
  have o2 : Try.prog.cellsOf 32 = 1 := by kernel_rfl
  have o3 : Try.prog.cellsOf 43 = 1 := by kernel_rfl
  have o4 : Try.prog.cellsOf 2 = 1 := by kernel_rfl
  simp only [o1, o2, o3, cellsOf_stamp, List.drop_zero, List.drop_succ_cons, List.take_succ_cons, List.take_zero] at e0 e1 e2 e4 e5 e6
  obtain ⟨_, hs⟩ := e3
  have s0 : ∃ n, ((((([c0, c1, c2, c3, c4, c5, c6, c7] : List Value).drop 3).take (Try.prog.cellsOf 45)).drop 0).take (Try.prog.cellsOf 2)) = [.int .i64 n] ∧ _ := hs 0 _ rfl _ (opens_int Try.underlying2)
  have s1 : ∃ n, ((((([c0, c1, c2, c3, c4, c5, c6, c7] : List Value).drop 3).take (Try.prog.cellsOf 45)).drop 1).take (Try.prog.cellsOf 3)) = [.int .i64 n] ∧ _ := hs 1 _ rfl _ (opens_int Try.underlying3)
  simp only [o1, o4, cellsOf_stamp, List.drop_zero, List.drop_succ_cons, List.take_succ_cons, List.take_zero] at s0 s1
  obtain ⟨n0, q0, w0⟩ := e0
  obtain ⟨n1, q1, w1⟩ := e1
  obtain ⟨n2, q2, w2⟩ := e2
  obtain ⟨n3, q3, w3⟩ := s0
  obtain ⟨n4, q4, w4⟩ := s1
  obtain ⟨n5, q5, w5⟩ := e4
  obtain ⟨a, c, bs, q6, l1, l2, r⟩ := e5
  obtain ⟨n7, q7, w7⟩ := e6
  simp only [List.cons.injEq, and_true] at q0 q1 q2 q3 q4 q5 q6 q7
  subst q0; subst q1; subst q2; subst q3; subst q4; subst q5; subst q6; subst q7
  exact ⟨⟨n0, n1, n2, n3, n4, n5, bs, n7⟩, a, c, rfl, ⟨(wf_u64 w2).1, (wf_u64 w2).2, (wf_u64 w7).1, (wf_u64 w7).2⟩, ⟨wf_i64 w0, wf_i64 w1, wf_i64 w3, wf_i64 w4, wf_i64 w5⟩, l1, l2, r⟩
end Go.Proofs.Ytdelmfpchbpafaa
