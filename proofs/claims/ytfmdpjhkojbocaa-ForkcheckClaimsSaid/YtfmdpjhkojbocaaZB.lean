/- The oracle's state, told by lists; what it is in memory; what its steps do. -/
import Derived.Test.YtfmdpjhkojbocaaZA
import Derived.Test.YtfmdpjhkojbocaaProg
import Derived.KernelRfl
import Derived.Laws.StructEq
set_option linter.unusedVariables false
set_option linter.unusedSimpArgs false
set_option linter.unusedSectionVars false
namespace Go.Proofs.Ytfmdpjhkojbocaa
open Go Go.Mx Go.Proofs

/-- what was sealed. -/
structure Sealed where
  key : Int
  bound : List UInt8
  plain : List UInt8
/-- the oracle's state. -/
structure OS where
  draws : List Int
  used : List Int
  next : Int
  hashes : List (List UInt8 × Int)
  keys : List Int
  secrets : List Int
  publics : List (Int × Int)
  signs : List ((Int × List UInt8) × Int)
  signed : List (Int × (Int × List UInt8))
  sealed : List (Int × Sealed)
  wrapped : List (Int × (Int × Int))

/-- its blocks. -/
structure OG where
  p : Nat
  used : Nat
  hashes : Nat
  keys : Nat
  secrets : Nat
  publics : Nat
  signs : Nat
  signed : Nat
  sealed : Nat
  wrapped : Nat
  x : Nat → Prop
def OG.list (g : OG) : List Nat := [g.p, g.used, g.hashes, g.keys, g.secrets, g.publics, g.signs, g.signed, g.sealed, g.wrapped]
def OG.m (g : OG) : Nat → Prop := fun b => b ∈ g.list
/-- its blocks, and those that others turn. -/
def OG.M (g : OG) : Nat → Prop := fun b => g.m b ∨ g.x b

def u64V (n : Int) : Value := .int .u64 n
def signedV (x : Int × List UInt8) : Value := .agg #[.int .u64 x.1, strV x.2]
def bset (l : List Int) : List (Int × Value) := l.map fun n => (n, .bool true)
def SealedV (w : World) (m : Nat → Prop) (s : Sealed) (v : Value) : Prop :=
  ∃ ba bc pa pc, v = .agg #[.int .u64 s.key, .slice ba s.bound.length bc, .slice pa s.plain.length pc] ∧ RowAt w ba (bytesV s.bound) ∧ (bytesV s.bound ≠ [] → Out m ba) ∧ RowAt w pa (bytesV s.plain) ∧ (bytesV s.plain ≠ [] → Out m pa)
def SealedL (w : World) (m : Nat → Prop) : List (Int × Sealed) → List (Int × Value) → Prop
  | [], [] => True
  | p :: r, q :: s => p.1 = q.1 ∧ SealedV w m p.2 q.2 ∧ SealedL w m r s
  | _, _ => False

/-- the struct, and the draws that are left. -/
def OrcP (w : World) (g : OG) (draws : List Int) (next : Int) : Prop :=
  ∃ da dc, Blk w g.p 92 [.slice da draws.length dc, .map (some g.used), .int .u64 next, .map (some g.hashes), .map (some g.keys), .map (some g.secrets), .map (some g.publics), .map (some g.signs), .map (some g.signed), .map (some g.sealed), .map (some g.wrapped)] ∧
    draws.length ≤ dc ∧ RowAt w da (draws.map u64V) ∧ (draws.map u64V ≠ [] → Out g.M da)

structure Orc (w : World) (g : OG) (S : OS) : Prop where
  nd : g.list.Nodup
  st : OrcP w g S.draws S.next
  used : MapIs w g.used u64V (bset S.used)
  hashes : MapIs w g.hashes strV (S.hashes.map fun p => (p.1, u64V p.2))
  keys : MapIs w g.keys u64V (bset S.keys)
  secrets : MapIs w g.secrets u64V (bset S.secrets)
  publics : MapIs w g.publics u64V (S.publics.map fun p => (p.1, u64V p.2))
  signs : MapIs w g.signs signedV (S.signs.map fun p => (p.1, u64V p.2))
  signed : MapIs w g.signed u64V (S.signed.map fun p => (p.1, signedV p.2))
  sealed : ∃ lv, MapIs w g.sealed u64V lv ∧ SealedL w g.M S.sealed lv
  wrapped : MapIs w g.wrapped u64V (S.wrapped.map fun p => (p.1, .agg #[.int .u64 p.2.1, .int .u64 p.2.2]))
  xm : ∀ b, g.m b → ¬ g.x b
  xlt : ∀ b, g.x b → b < w.heap.size

theorem SealedL.ext {w w' : World} {m n : Nat → Prop} (k : Ext n w w') (hn : ∀ b, n b → m b) : ∀ {l : List (Int × Sealed)} {lv : List (Int × Value)}, SealedL w m l lv → SealedL w' m l lv
  | [], [], _ => trivial
  | p :: r, q :: s, h => by
    obtain ⟨h1, ⟨ba, bc, pa, pc, hv, h2, h3, h4, h5⟩, h6⟩ := h
    exact ⟨h1, ⟨ba, bc, pa, pc, hv, h2.ext' k (fun h0 ad ha hb => h3 h0 ad ha (hn _ hb)), h3, h4.ext' k (fun h0 ad ha hb => h5 h0 ad ha (hn _ hb)), h5⟩, SealedL.ext k hn h6⟩
  | [], _ :: _, h => h.elim
  | _ :: _, [], h => h.elim
theorem OrcP.ext {w w' : World} {g : OG} {d : List Int} {x : Int} {n : Nat → Prop} (h : OrcP w g d x) (k : Ext n w w') (hn : ∀ b, n b → g.M b) (hp : ¬ n g.p) : OrcP w' g d x := by
  obtain ⟨da, dc, h1, h2, h3, h4⟩ := h
  exact ⟨da, dc, h1.ext k hp, h2, h3.ext' k (fun h0 ad ha hb => h4 h0 ad ha (hn _ hb)), h4⟩

section
variable {w w' : World} {g : OG} {S : OS}
theorem m_list {g : OG} : g.m g.p ∧ g.m g.used ∧ g.m g.hashes ∧ g.m g.keys ∧ g.m g.secrets ∧ g.m g.publics ∧ g.m g.signs ∧ g.m g.signed ∧ g.m g.sealed ∧ g.m g.wrapped := by simp [OG.m, OG.list]
/-- whatever else turns. -/
theorem Orc.ext {m : Nat → Prop} (h : Orc w g S) (k : Ext m w w') (hd : ∀ b, b < w.heap.size → m b → g.x b) : Orc w' g S := by
  have k' : Ext g.x w w' := k.mono fun b hb hlt => hd b hlt hb
  obtain ⟨lv, h1, h2⟩ := h.sealed
  obtain ⟨q1, q2, q3, q4, q5, q6, q7, q8, q9, q10⟩ := m_list (g := g)
  exact ⟨h.nd, h.st.ext k' (fun b hb => .inr hb) (h.xm _ q1), h.used.ext k' (h.xm _ q2), h.hashes.ext k' (h.xm _ q3), h.keys.ext k' (h.xm _ q4), h.secrets.ext k' (h.xm _ q5), h.publics.ext k' (h.xm _ q6), h.signs.ext k' (h.xm _ q7), h.signed.ext k' (h.xm _ q8), ⟨lv, h1.ext k' (h.xm _ q9), h2.ext k' fun b hb => .inr hb⟩, h.wrapped.ext k' (h.xm _ q10), h.xm, fun b hb => Nat.lt_of_lt_of_le (h.xlt b hb) k.size⟩
theorem Orc.none (h : Orc w g S) (k : Ext no w w') : Orc w' g S := h.ext k fun b _ hb => hb.elim
theorem Orc.mlt (h : Orc w g S) : ∀ b, g.m b → b < w.heap.size := fun b hb => by
  obtain ⟨da, dc, hp, _⟩ := h.st
  obtain ⟨lv, hse, _⟩ := h.sealed
  simp only [OG.m, OG.list, List.mem_cons, List.not_mem_nil, or_false] at hb
  rcases hb with rfl | rfl | rfl | rfl | rfl | rfl | rfl | rfl | rfl | rfl
  · exact hp.lt
  · exact h.used.lt
  · exact h.hashes.lt
  · exact h.keys.lt
  · exact h.secrets.lt
  · exact h.publics.lt
  · exact h.signs.lt
  · exact h.signed.lt
  · exact hse.lt
  · exact h.wrapped.lt
/-- all that is new is others'. -/
def OG.more (g : OG) (w w' : World) : OG := { g with x := fun b => g.x b ∨ (w.heap.size ≤ b ∧ b < w'.heap.size) }
theorem SealedL.wide {w : World} {m n : Nat → Prop} (hn : ∀ b, n b → m b ∨ w.heap.size ≤ b) : ∀ {l : List (Int × Sealed)} {lv : List (Int × Value)}, SealedL w m l lv → SealedL w n l lv
  | [], [], _ => trivial
  | p :: r, q :: s, h => by
    obtain ⟨h1, ⟨ba, bc, pa, pc, hv, h2, h3, h4, h5⟩, h6⟩ := h
    refine ⟨h1, ⟨ba, bc, pa, pc, hv, h2, fun h0 ad ha hb => ?_, h4, fun h0 ad ha hb => ?_⟩, SealedL.wide hn h6⟩
    · rcases hn _ hb with h | h
      · exact h3 h0 ad ha h
      · have := h2.lt h0 ha; omega
    · rcases hn _ hb with h | h
      · exact h5 h0 ad ha h
      · have := h4.lt h0 ha; omega
  | [], _ :: _, h => h.elim
  | _ :: _, [], h => h.elim
/-- a step of others: what it turns is theirs, or new. -/
theorem Orc.foreign {n : Nat → Prop} (h : Orc w g S) (k : Ext n w w') (hd : ∀ b, b < w.heap.size → n b → g.x b) : Orc w' (g.more w w') S := by
  have hw := h.ext k hd
  have k' : Ext g.x w w' := k.mono fun b hb hlt => hd b hlt hb
  have hM : ∀ b, (g.more w w').M b → g.M b ∨ w.heap.size ≤ b := fun b hb => by
    rcases hb with hb | hb | hb
    · exact .inl (.inl hb)
    · exact .inl (.inr hb)
    · exact .inr hb.1
  obtain ⟨lv, h1, h2⟩ := h.sealed
  obtain ⟨lv', h1', h2'⟩ := hw.sealed
  obtain ⟨da, dc, hp, h3, h4, h5⟩ := h.st
  refine ⟨hw.nd, ⟨da, dc, hp.ext k' (h.xm _ m_list.1), h3, h4.ext' k' (fun h0 ad ha hb => h5 h0 ad ha (.inr hb)), fun h0 ad ha hb => ?_⟩, hw.used, hw.hashes, hw.keys, hw.secrets, hw.publics, hw.signs, hw.signed,
    ⟨lv, h1.ext k' (h.xm _ m_list.2.2.2.2.2.2.2.2.1), (h2.wide hM).ext k' fun b hb => .inr (.inl hb)⟩, hw.wrapped, fun b hb hx => ?_, fun b hb => ?_⟩
  · rcases hM _ hb with h | h
    · exact h5 h0 ad ha h
    · have := h4.lt h0 ha; omega
  · rcases hx with hx | hx
    · exact h.xm b hb hx
    · have := h.mlt b hb; omega
  · rcases hb with hb | hb
    · exact Nat.lt_of_lt_of_le (h.xlt b hb) k.size
    · exact hb.2
theorem Orc.drew (h : Orc w g S) : Orc w.drew g S := h.none (Ext.refl _ _).drew

theorem nd_ne (h : Orc w g S) : g.p ≠ g.used ∧ g.p ≠ g.hashes ∧ g.p ≠ g.keys ∧ g.p ≠ g.secrets ∧ g.p ≠ g.publics ∧ g.p ≠ g.signs ∧ g.p ≠ g.signed ∧ g.p ≠ g.sealed ∧ g.p ≠ g.wrapped ∧
    g.used ≠ g.hashes ∧ g.used ≠ g.keys ∧ g.used ≠ g.secrets ∧ g.used ≠ g.publics ∧ g.used ≠ g.signs ∧ g.used ≠ g.signed ∧ g.used ≠ g.sealed ∧ g.used ≠ g.wrapped ∧
    g.hashes ≠ g.keys ∧ g.hashes ≠ g.secrets ∧ g.hashes ≠ g.publics ∧ g.hashes ≠ g.signs ∧ g.hashes ≠ g.signed ∧ g.hashes ≠ g.sealed ∧ g.hashes ≠ g.wrapped ∧
    g.keys ≠ g.secrets ∧ g.keys ≠ g.publics ∧ g.keys ≠ g.signs ∧ g.keys ≠ g.signed ∧ g.keys ≠ g.sealed ∧ g.keys ≠ g.wrapped ∧
    g.secrets ≠ g.publics ∧ g.secrets ≠ g.signs ∧ g.secrets ≠ g.signed ∧ g.secrets ≠ g.sealed ∧ g.secrets ≠ g.wrapped ∧
    g.publics ≠ g.signs ∧ g.publics ≠ g.signed ∧ g.publics ≠ g.sealed ∧ g.publics ≠ g.wrapped ∧
    g.signs ≠ g.signed ∧ g.signs ≠ g.sealed ∧ g.signs ≠ g.wrapped ∧ g.signed ≠ g.sealed ∧ g.signed ≠ g.wrapped ∧ g.sealed ≠ g.wrapped := by
  have := h.nd
  simp only [OG.list, List.nodup_cons, List.mem_cons, not_or, List.not_mem_nil, not_false_eq_true, List.nodup_nil, and_true] at this
  simp only [this, ne_eq, not_false_eq_true, and_self]

/-- one block of its own turns: all else stays. -/
theorem one_sub {g : OG} {b : Nat} (hb : b ∈ g.list) : ∀ c, (fun x => x = b) c → g.M c := fun c hc => by subst hc; exact .inl hb

theorem Orc.set_used (h : Orc w g S) (k : Ext (fun b => b = g.used) w w') {l : List Int} (hl : MapIs w' g.used u64V (bset l)) : Orc w' g { S with used := l } := by
  have hn := nd_ne h
  have hs := one_sub (g := g) (b := g.used) (by simp [OG.list])
  obtain ⟨lv, h1, h2⟩ := h.sealed
  exact ⟨h.nd, h.st.ext k hs (by simp_all), hl, h.hashes.ext k (by simp_all [eq_comm]), h.keys.ext k (by simp_all [eq_comm]), h.secrets.ext k (by simp_all [eq_comm]), h.publics.ext k (by simp_all [eq_comm]), h.signs.ext k (by simp_all [eq_comm]), h.signed.ext k (by simp_all [eq_comm]), ⟨lv, h1.ext k (by simp_all [eq_comm]), h2.ext k hs⟩, h.wrapped.ext k (by simp_all [eq_comm]), h.xm, fun b hb => Nat.lt_of_lt_of_le (h.xlt b hb) k.size⟩
theorem Orc.set_secrets (h : Orc w g S) (k : Ext (fun b => b = g.secrets) w w') {l : List Int} (hl : MapIs w' g.secrets u64V (bset l)) : Orc w' g { S with secrets := l } := by
  have hn := nd_ne h
  have hs := one_sub (g := g) (b := g.secrets) (by simp [OG.list])
  obtain ⟨lv, h1, h2⟩ := h.sealed
  exact ⟨h.nd, h.st.ext k hs (by simp_all), h.used.ext k (by simp_all [eq_comm]), h.hashes.ext k (by simp_all [eq_comm]), h.keys.ext k (by simp_all [eq_comm]), hl, h.publics.ext k (by simp_all [eq_comm]), h.signs.ext k (by simp_all [eq_comm]), h.signed.ext k (by simp_all [eq_comm]), ⟨lv, h1.ext k (by simp_all [eq_comm]), h2.ext k hs⟩, h.wrapped.ext k (by simp_all [eq_comm]), h.xm, fun b hb => Nat.lt_of_lt_of_le (h.xlt b hb) k.size⟩
theorem Orc.set_publics (h : Orc w g S) (k : Ext (fun b => b = g.publics) w w') {l : List (Int × Int)} (hl : MapIs w' g.publics u64V (l.map fun p => (p.1, u64V p.2))) : Orc w' g { S with publics := l } := by
  have hn := nd_ne h
  have hs := one_sub (g := g) (b := g.publics) (by simp [OG.list])
  obtain ⟨lv, h1, h2⟩ := h.sealed
  exact ⟨h.nd, h.st.ext k hs (by simp_all), h.used.ext k (by simp_all [eq_comm]), h.hashes.ext k (by simp_all [eq_comm]), h.keys.ext k (by simp_all [eq_comm]), h.secrets.ext k (by simp_all [eq_comm]), hl, h.signs.ext k (by simp_all [eq_comm]), h.signed.ext k (by simp_all [eq_comm]), ⟨lv, h1.ext k (by simp_all [eq_comm]), h2.ext k hs⟩, h.wrapped.ext k (by simp_all [eq_comm]), h.xm, fun b hb => Nat.lt_of_lt_of_le (h.xlt b hb) k.size⟩
theorem Orc.set_signs (h : Orc w g S) (k : Ext (fun b => b = g.signs) w w') {l : List ((Int × List UInt8) × Int)} (hl : MapIs w' g.signs signedV (l.map fun p => (p.1, u64V p.2))) : Orc w' g { S with signs := l } := by
  have hn := nd_ne h
  have hs := one_sub (g := g) (b := g.signs) (by simp [OG.list])
  obtain ⟨lv, h1, h2⟩ := h.sealed
  exact ⟨h.nd, h.st.ext k hs (by simp_all), h.used.ext k (by simp_all [eq_comm]), h.hashes.ext k (by simp_all [eq_comm]), h.keys.ext k (by simp_all [eq_comm]), h.secrets.ext k (by simp_all [eq_comm]), h.publics.ext k (by simp_all [eq_comm]), hl, h.signed.ext k (by simp_all [eq_comm]), ⟨lv, h1.ext k (by simp_all [eq_comm]), h2.ext k hs⟩, h.wrapped.ext k (by simp_all [eq_comm]), h.xm, fun b hb => Nat.lt_of_lt_of_le (h.xlt b hb) k.size⟩
theorem Orc.set_signed (h : Orc w g S) (k : Ext (fun b => b = g.signed) w w') {l : List (Int × (Int × List UInt8))} (hl : MapIs w' g.signed u64V (l.map fun p => (p.1, signedV p.2))) : Orc w' g { S with signed := l } := by
  have hn := nd_ne h
  have hs := one_sub (g := g) (b := g.signed) (by simp [OG.list])
  obtain ⟨lv, h1, h2⟩ := h.sealed
  exact ⟨h.nd, h.st.ext k hs (by simp_all), h.used.ext k (by simp_all [eq_comm]), h.hashes.ext k (by simp_all [eq_comm]), h.keys.ext k (by simp_all [eq_comm]), h.secrets.ext k (by simp_all [eq_comm]), h.publics.ext k (by simp_all [eq_comm]), h.signs.ext k (by simp_all [eq_comm]), hl, ⟨lv, h1.ext k (by simp_all [eq_comm]), h2.ext k hs⟩, h.wrapped.ext k (by simp_all [eq_comm]), h.xm, fun b hb => Nat.lt_of_lt_of_le (h.xlt b hb) k.size⟩
theorem Orc.set_p (h : Orc w g S) (k : Ext (fun b => b = g.p) w w') {d : List Int} {x : Int} (hl : OrcP w' g d x) : Orc w' g { S with draws := d, next := x } := by
  have hn := nd_ne h
  have hs := one_sub (g := g) (b := g.p) (by simp [OG.list])
  obtain ⟨lv, h1, h2⟩ := h.sealed
  exact ⟨h.nd, hl, h.used.ext k (by simp_all [eq_comm]), h.hashes.ext k (by simp_all [eq_comm]), h.keys.ext k (by simp_all [eq_comm]), h.secrets.ext k (by simp_all [eq_comm]), h.publics.ext k (by simp_all [eq_comm]), h.signs.ext k (by simp_all [eq_comm]), h.signed.ext k (by simp_all [eq_comm]), ⟨lv, h1.ext k (by simp_all [eq_comm]), h2.ext k hs⟩, h.wrapped.ext k (by simp_all [eq_comm]), h.xm, fun b hb => Nat.lt_of_lt_of_le (h.xlt b hb) k.size⟩
end

theorem mlook_bset {l : List Int} {h : Int} : mlook (bset l) h = if h ∈ l then some (.bool true) else none := by
  induction l with
  | nil => rfl
  | cons a r ih =>
    simp only [bset, List.map_cons, mlook] at ih ⊢
    by_cases ha : a = h
    · simp [ha]
    · simp only [ha, if_false, List.mem_cons, Ne.symm ha, false_or]; exact ih
theorem mput_bset {l : List Int} {h : Int} (hn : h ∉ l) : mput (bset l) h (.bool true) = bset (l ++ [h]) := by
  induction l with
  | nil => rfl
  | cons a r ih =>
    simp only [List.mem_cons, not_or] at hn
    simp only [bset, List.map_cons, List.cons_append, mput, Ne.symm hn.1, if_false] at ih ⊢
    rw [ih hn.2]
theorem mput_bset_in {l : List Int} {h : Int} (hn : h ∈ l) : mput (bset l) h (.bool true) = bset l := by
  induction l with
  | nil => cases hn
  | cons a r ih =>
    simp only [bset, List.map_cons, mput] at ih ⊢
    by_cases ha : a = h
    · simp [ha]
    · simp only [ha, if_false]
      rw [ih (by rcases List.mem_cons.1 hn with h | h; exact absurd h.symm ha; exact h)]

/-! ### lists of pairs -/
section
variable {κ β : Type} [DecidableEq κ]
def alook : List (κ × β) → κ → Option β
  | [], _ => none
  | p :: r, x => if p.1 = x then some p.2 else alook r x
def aput : List (κ × β) → κ → β → List (κ × β)
  | [], x, v => [(x, v)]
  | p :: r, x, v => if p.1 = x then (x, v) :: r else p :: aput r x v
theorem mlook_map (f : β → Value) : ∀ (l : List (κ × β)) (x : κ), mlook (l.map fun p => (p.1, f p.2)) x = (alook l x).map f
  | [], x => rfl
  | p :: r, x => by
    simp only [List.map_cons, mlook, alook]
    by_cases h : p.1 = x
    · simp [h]
    · simp only [h, if_false]; exact mlook_map f r x
theorem mput_map (f : β → Value) : ∀ (l : List (κ × β)) (x : κ) (v : β), mput (l.map fun p => (p.1, f p.2)) x (f v) = (aput l x v).map fun p => (p.1, f p.2)
  | [], x, v => rfl
  | p :: r, x, v => by
    simp only [List.map_cons, mput, aput]
    by_cases h : p.1 = x
    · simp [h]
    · simp only [h, if_false, List.map_cons]; rw [mput_map f r x v]
theorem alook_put : ∀ (l : List (κ × β)) (x y : κ) (v : β), alook (aput l x v) y = if x = y then some v else alook l y
  | [], x, y, v => rfl
  | p :: r, x, y, v => by
    simp only [aput]
    by_cases h : p.1 = x
    · subst h; simp only [if_true, alook]; split <;> rfl
    · simp only [h, if_false, alook, alook_put r x y v]
      by_cases h2 : p.1 = y
      · subst h2; simp [Ne.symm h]
      · simp [h2]
end

/-! ### a fresh handle -/
def pickD : List Int → List Int → Option (Int × List Int)
  | [], _ => none
  | h :: r, used => if h = 0 ∨ h ∈ used then pickD r used else some (h, r)
def pickN (used : List Int) : Nat → Int → Int
  | 0, n => n
  | k + 1, n => if n = 0 ∨ n ∈ used then pickN used k (n + 1) else n
def freshOf (S : OS) : Int × OS :=
  match pickD S.draws S.used with
  | some (h, r) => (h, { S with draws := r, used := S.used ++ [h] })
  | none => let h := pickN S.used (S.used.length + 1) S.next; (h, { S with draws := [], next := h, used := S.used ++ [h] })
/-- what the oracle keeps true of its counter. -/
def OS.ok (S : OS) : Prop := 1 ≤ S.next ∧ (∀ n, 1 ≤ n → n < S.next → n ∈ S.used) ∧ S.next ≤ S.used.length + 1 ∧ ∀ d ∈ S.draws, 0 ≤ d ∧ d < 18446744073709551616

theorem pickN_spec (used : List Int) : ∀ (k : Nat) (n : Int), 1 ≤ n → (∃ m, n ≤ m ∧ m < n + k ∧ m ∉ used) →
    n ≤ pickN used k n ∧ pickN used k n < n + k ∧ pickN used k n ∉ used ∧ pickN used k n ≠ 0 ∧ ∀ m, n ≤ m → m < pickN used k n → m ∈ used
  | 0, n, h1, ⟨m, h2, h3, _⟩ => by omega
  | k + 1, n, h1, ⟨m, h2, h3, h4⟩ => by
    simp only [pickN]
    by_cases hn : n = 0 ∨ n ∈ used
    · rw [if_pos hn]
      have hn' : n ∈ used := hn.resolve_left (by omega)
      have hm : m ≠ n := fun e => h4 (e ▸ hn')
      obtain ⟨a, b, c, d, e⟩ := pickN_spec used k (n + 1) (by omega) ⟨m, by omega, by omega, h4⟩
      refine ⟨by omega, by omega, c, d, fun q hq1 hq2 => ?_⟩
      by_cases hqn : q = n
      · subst hqn; exact hn'
      · exact e q (by omega) hq2
    · rw [if_neg hn]
      rw [not_or] at hn
      exact ⟨by omega, by omega, hn.2, hn.1, fun q h1 h2 => by omega⟩

/-- among so many numbers one is not there. -/
theorem gap (used : List Int) : ∀ (k : Nat) (n : Int), used.length < k → ∃ m, n ≤ m ∧ m < n + k ∧ m ∉ used := by
  induction used with
  | nil => intro k n hk; exact ⟨n, by omega, by simp at hk; omega, by simp⟩
  | cons a r ih =>
    intro k n hk
    simp only [List.length_cons] at hk
    -- numbers below and above a
    by_cases ha : n ≤ a ∧ a < n + k
    · by_cases hr : (r.length : Int) < a - n
      · obtain ⟨m, h1, h2, h3⟩ := ih (a - n).toNat n (by omega)
        exact ⟨m, h1, by omega, by simp only [List.mem_cons, not_or]; exact ⟨by omega, h3⟩⟩
      · -- count below and above together: move the numbers above a down by one
        obtain ⟨m, h1, h2, h3⟩ : ∃ m, n ≤ m ∧ m < n + (k - 1 : Nat) ∧ m ∉ r.map (fun x => if a < x then x - 1 else x) := by
          have hl : (r.map (fun x => if a < x then x - 1 else x)).length < k - 1 := by simp; omega
          have : ∀ (l : List Int) (k : Nat), l.length < k → ∃ m, n ≤ m ∧ m < n + k ∧ m ∉ l := by
            intro l
            induction hq : l.length generalizing l with
            | zero =>
              intro k hk
              have : l = [] := List.eq_nil_of_length_eq_zero hq
              subst this; exact ⟨n, by omega, by omega, by simp⟩
            | succ q ihq =>
              intro k hk
              by_cases hall : ∃ m, n ≤ m ∧ m < n + k ∧ m ∉ l
              · exact hall
              · exfalso
                -- the last number is in l: strike it
                have hlast : (n + k - 1) ∈ l := by
                  by_cases h : (n + k - 1) ∈ l
                  · exact h
                  · exact absurd ⟨n + k - 1, by omega, by omega, h⟩ hall
                have hlen : (l.erase (n + k - 1)).length = q := by rw [List.length_erase_of_mem hlast, hq]; rfl
                obtain ⟨m, h1, h2, h3⟩ := ihq (l.erase (n + k - 1)) hlen (k - 1) (by omega)
                refine hall ⟨m, h1, by omega, fun hm => h3 ?_⟩
                exact (List.mem_erase_of_ne (by omega)).2 hm
          exact this _ _ hl
        by_cases hma : m < a
        · refine ⟨m, h1, by omega, ?_⟩
          simp only [List.mem_cons, not_or]
          refine ⟨by omega, fun hm => h3 ?_⟩
          exact List.mem_map.2 ⟨m, hm, by rw [if_neg (by omega)]⟩
        · refine ⟨m + 1, by omega, by omega, ?_⟩
          simp only [List.mem_cons, not_or]
          refine ⟨by omega, fun hm => h3 ?_⟩
          exact List.mem_map.2 ⟨m + 1, hm, by rw [if_pos (by omega)]; omega⟩
    · obtain ⟨m, h1, h2, h3⟩ := ih k n (by omega)
      exact ⟨m, h1, h2, by simp only [List.mem_cons, not_or]; exact ⟨by omega, h3⟩⟩

theorem pickD_spec {d used : List Int} {h : Int} {r : List Int} (hp : pickD d used = some (h, r)) : h ≠ 0 ∧ h ∉ used ∧ h ∈ d := by
  induction d with
  | nil => simp [pickD] at hp
  | cons a d ih =>
    simp only [pickD] at hp
    by_cases ha : a = 0 ∨ a ∈ used
    · rw [if_pos ha] at hp
      obtain ⟨h1, h2, h3⟩ := ih hp
      exact ⟨h1, h2, List.mem_cons_of_mem _ h3⟩
    · rw [if_neg ha] at hp
      simp only [Option.some.injEq, Prod.mk.injEq] at hp
      rw [not_or] at ha
      exact ⟨hp.1 ▸ ha.1, hp.1 ▸ ha.2, hp.1 ▸ List.mem_cons_self⟩

theorem pickD_rest {d used : List Int} {h : Int} {r : List Int} (hp : pickD d used = some (h, r)) : ∀ x ∈ r, x ∈ d := by
  induction d with
  | nil => simp [pickD] at hp
  | cons a d ih =>
    simp only [pickD] at hp
    by_cases ha : a = 0 ∨ a ∈ used
    · rw [if_pos ha] at hp
      exact fun x hx => List.mem_cons_of_mem _ (ih hp x hx)
    · rw [if_neg ha] at hp
      simp only [Option.some.injEq, Prod.mk.injEq] at hp
      rw [← hp.2]
      exact fun x hx => List.mem_cons_of_mem _ hx
theorem freshOf_spec {S : OS} (h : S.ok) : (freshOf S).1 ≠ 0 ∧ (freshOf S).1 ∉ S.used ∧ (freshOf S).2.used = S.used ++ [(freshOf S).1] ∧ (freshOf S).2.ok := by
  obtain ⟨h1, h2, h3, h4⟩ := h
  unfold freshOf
  cases hp : pickD S.draws S.used with
  | some q =>
    obtain ⟨x, r⟩ := q
    obtain ⟨a, b, _⟩ := pickD_spec hp
    exact ⟨a, b, rfl, h1, fun n hn1 hn2 => List.mem_append_left _ (h2 n hn1 hn2), by simp; omega, fun d hd => h4 d (pickD_rest hp d hd)⟩
  | none =>
    obtain ⟨a, b, c, d, e⟩ := pickN_spec S.used (S.used.length + 1) S.next h1 (gap S.used _ _ (by omega))
    refine ⟨d, c, rfl, by show 1 ≤ pickN _ _ _; omega, fun n hn1 hn2 => ?_, ?_, fun d hd => by cases hd⟩
    · refine List.mem_append_left _ ?_
      by_cases hlt : n < S.next
      · exact h2 n hn1 hlt
      · exact e n (by omega) hn2
    · -- all numbers from 1 on below it are used, and they are apart
      show pickN S.used (S.used.length + 1) S.next ≤ ((S.used ++ [_]).length : Int) + 1
      have hall : ∀ m, 1 ≤ m → m < pickN S.used (S.used.length + 1) S.next → m ∈ S.used := fun m h1' h2' => by
        by_cases hlt : m < S.next
        · exact h2 m h1' hlt
        · exact e m (by omega) h2'
      by_cases hle : pickN S.used (S.used.length + 1) S.next ≤ (S.used.length : Int) + 2
      · simp; omega
      · obtain ⟨m, q1, q2, q3⟩ := gap S.used (S.used.length + 1) 1 (by omega)
        exact absurd (hall m q1 (by omega)) q3

theorem freshOf_frame (S : OS) : (freshOf S).2.hashes = S.hashes ∧ (freshOf S).2.keys = S.keys ∧ (freshOf S).2.secrets = S.secrets ∧ (freshOf S).2.publics = S.publics ∧
    (freshOf S).2.signs = S.signs ∧ (freshOf S).2.signed = S.signed ∧ (freshOf S).2.sealed = S.sealed ∧ (freshOf S).2.wrapped = S.wrapped := by
  unfold freshOf
  cases pickD S.draws S.used with
  | some q => exact ⟨rfl, rfl, rfl, rfl, rfl, rfl, rfl, rfl⟩
  | none => exact ⟨rfl, rfl, rfl, rfl, rfl, rfl, rfl, rfl⟩

def OS.init (l : List Int) : OS := ⟨l, [], 1, [], [], [], [], [], [], [], []⟩
theorem OS.init_ok (l : List Int) (hl : ∀ d ∈ l, 0 ≤ d ∧ d < 18446744073709551616) : (OS.init l).ok := ⟨Int.le_refl _, fun n h1 h2 => by simp only [OS.init] at h2; omega, by simp [OS.init], hl⟩
def badd (l : List Int) (x : Int) : List Int := if x ∈ l then l else l ++ [x]
theorem mput_badd (l : List Int) (x : Int) : mput (bset l) x (.bool true) = bset (badd l x) := by
  unfold badd
  split
  · exact mput_bset_in ‹_›
  · exact mput_bset ‹_›
def pairOf (S : OS) : (Int × Int) × OS :=
  let S1 := { (freshOf S).2 with secrets := badd S.secrets (freshOf S).1 }
  (((freshOf S).1, (freshOf S1).1), { (freshOf S1).2 with publics := aput S.publics (freshOf S1).1 (freshOf S).1 })
theorem pairOf_ok {S : OS} (h : S.ok) : (pairOf S).2.ok ∧ (pairOf S).2.used.length ≤ S.used.length + 2 := by
  obtain ⟨_, _, h3, h4⟩ := freshOf_spec h
  have h5 : OS.ok { (freshOf S).2 with secrets := badd S.secrets (freshOf S).1 } := h4
  obtain ⟨_, _, h6, h7⟩ := freshOf_spec h5
  exact ⟨h7, by show (freshOf _).2.used.length ≤ _; rw [h6]; show ((freshOf S).2.used ++ _).length ≤ _; rw [h3]; simp⟩
/-- Sign: none where the secret is none. -/
def signOf (S : OS) (k : Int) (b : List UInt8) : (Int × Bool) × OS :=
  if k ∈ S.secrets then
    match alook S.signs (k, b) with
    | some h => ((h, true), S)
    | none => (((freshOf S).1, true), { (freshOf S).2 with signs := aput S.signs (k, b) (freshOf S).1, signed := aput S.signed (freshOf S).1 (k, b) })
  else ((0, false), S)
theorem signOf_ok {S : OS} (h : S.ok) (k : Int) (b : List UInt8) : (signOf S k b).2.ok ∧ (signOf S k b).2.used.length ≤ S.used.length + 1 := by
  unfold signOf
  split
  · cases alook S.signs (k, b) with
    | some x => exact ⟨h, Nat.le_succ _⟩
    | none =>
      obtain ⟨_, _, h3, h4⟩ := freshOf_spec h
      exact ⟨h4, by show (freshOf S).2.used.length ≤ _; rw [h3]; simp⟩
  · exact ⟨h, Nat.le_succ _⟩
def verifyOf (S : OS) (p : Int) (b : List UInt8) (x : Int) : Bool :=
  match alook S.publics p, alook S.signed x with
  | some s, some q => decide (q = (s, b))
  | _, _ => false

theorem pairOf_spec {S : OS} (h : S.ok) : (pairOf S).1.1 ≠ 0 ∧ (pairOf S).1.2 ≠ 0 ∧ (pairOf S).1.1 ∉ S.used ∧ (pairOf S).1.2 ∉ S.used ∧ (pairOf S).1.1 ≠ (pairOf S).1.2 ∧ (pairOf S).2.used = S.used ++ [(pairOf S).1.1] ++ [(pairOf S).1.2] ∧
    (pairOf S).2.secrets = badd S.secrets (pairOf S).1.1 ∧ (pairOf S).2.publics = aput S.publics (pairOf S).1.2 (pairOf S).1.1 ∧
    (pairOf S).2.hashes = S.hashes ∧ (pairOf S).2.keys = S.keys ∧ (pairOf S).2.signs = S.signs ∧ (pairOf S).2.signed = S.signed ∧ (pairOf S).2.sealed = S.sealed ∧ (pairOf S).2.wrapped = S.wrapped := by
  obtain ⟨a1, a2, a3, a4⟩ := freshOf_spec h
  have h5 : OS.ok { (freshOf S).2 with secrets := badd S.secrets (freshOf S).1 } := a4
  obtain ⟨b1, b2, b3, b4⟩ := freshOf_spec h5
  obtain ⟨c1, c2, c3, c4, c5, c6, c7, c8⟩ := freshOf_frame S
  obtain ⟨d1, d2, d3, d4, d5, d6, d7, d8⟩ := freshOf_frame { (freshOf S).2 with secrets := badd S.secrets (freshOf S).1 }
  have hu : ({ (freshOf S).2 with secrets := badd S.secrets (freshOf S).1 } : OS).used = S.used ++ [(freshOf S).1] := a3
  rw [hu] at b2 b3
  simp only [List.mem_append, List.mem_singleton, not_or] at b2
  exact ⟨a1, b1, a2, b2.1, fun e => b2.2 e.symm, b3, d3, rfl, d1.trans c1, d2.trans c2, d5.trans c5, d6.trans c6, d7.trans c7, d8.trans c8⟩

theorem SealedL.look {w : World} {m : Nat → Prop} : ∀ {l : List (Int × Sealed)} {lv : List (Int × Value)}, SealedL w m l lv → ∀ x, (alook l x = none ∧ mlook lv x = none) ∨ ∃ s v, alook l x = some s ∧ mlook lv x = some v ∧ SealedV w m s v
  | [], [], _, x => .inl ⟨rfl, rfl⟩
  | p :: r, q :: s, h, x => by
    obtain ⟨h1, h2, h3⟩ := h
    simp only [alook, mlook, ← h1]
    by_cases hp : p.1 = x
    · rw [if_pos hp, if_pos hp]; exact .inr ⟨_, _, rfl, rfl, h2⟩
    · rw [if_neg hp, if_neg hp]; exact SealedL.look h3 x
  | [], _ :: _, h, _ => h.elim
  | _ :: _, [], h, _ => h.elim
theorem SealedL.put {w : World} {m : Nat → Prop} {x : Int} {t : Sealed} {v : Value} (hv : SealedV w m t v) : ∀ {l : List (Int × Sealed)} {lv : List (Int × Value)}, SealedL w m l lv → SealedL w m (aput l x t) (mput lv x v)
  | [], [], _ => ⟨rfl, hv, trivial⟩
  | p :: r, q :: s, h => by
    obtain ⟨h1, h2, h3⟩ := h
    simp only [aput, mput, ← h1]
    by_cases hp : p.1 = x
    · rw [if_pos hp, if_pos hp]; exact ⟨rfl, hv, h3⟩
    · rw [if_neg hp, if_neg hp]; exact ⟨h1, h2, SealedL.put hv h3⟩
  | [], _ :: _, h => h.elim
  | _ :: _, [], h => h.elim
theorem Orc.lt {w : World} {g : OG} {S : OS} (h : Orc w g S) : ∀ b, g.m b → b < w.heap.size := h.mlt
end Go.Proofs.Ytfmdpjhkojbocaa

/- What the oracle's methods do. -/
set_option linter.unusedVariables false
set_option linter.unusedSimpArgs false
namespace Go.Proofs.Ytfmdpjhkojbocaa
open Go Go.Mx Go.Proofs

theorem keysU : Keys Try.prog 25 u64V := keys_int Try.underlying25
/-- a step that hands back v. -/
def Gives (v : Value) (Q : World → Prop) (e : Ending) (w' : World) : Prop := e = .returned v ∧ Q w'

section
variable {w w' : World} {g : OG} {S : OS}
theorem Orc.pCell (h : Orc w g S) {i : Nat} {v : Value} (hv : ∀ da dc, ([.slice da S.draws.length dc, .map (some g.used), .int .u64 S.next, .map (some g.hashes), .map (some g.keys), .map (some g.secrets), .map (some g.publics), .map (some g.signs), .map (some g.signed), .map (some g.sealed), .map (some g.wrapped)] : List Value)[i]? = some v) :
    w.cell? ((blk g.p).add i) = some v := by
  obtain ⟨da, dc, hb, _⟩ := h.st
  exact hb.cella (hv da dc)

theorem m_used : g.m g.used := by simp [OG.m, OG.list]
theorem m_p : g.m g.p := by simp [OG.m, OG.list]
theorem m_secrets : g.m g.secrets := by simp [OG.m, OG.list]
theorem m_publics : g.m g.publics := by simp [OG.m, OG.list]

theorem take_no (h : Orc w g S) {x : Int} (hx : x = 0 ∨ x ∈ S.used) :
    Calls Try.prog 62 #[.pointer (some (blk g.p)), .int .u64 x] w (Gives (.bool false) fun w' => w' = w) := by
  refine (oTake.ok _ _ (R := fun v w' => v = .bool false ∧ w' = w) ?_).mono fun e w' ⟨v, he, hv, hw⟩ => ⟨by rw [he, hv], hw⟩
  unfold oTake.M
  by_cases h0 : x = 0
  · subst h0; exact ⟨rfl, rfl⟩
  · have hx' : x ∈ S.used := hx.resolve_left h0
    have : (x == 0) = false := by simpa using h0
    rw [this]
    obtain ⟨i, hi, hz, _⟩ := info_of inf4
    have hl := h.used.lookup keysU Try.underlying84 hi hz x false
    rw [mlook_bset, if_pos hx'] at hl
    exact ⟨some g.used, h.pCell fun _ _ => rfl, true, hl, rfl, rfl⟩
theorem take_yes (h : Orc w g S) {x : Int} (h0 : x ≠ 0) (hx : x ∉ S.used) :
    Calls Try.prog 62 #[.pointer (some (blk g.p)), .int .u64 x] w (Gives (.bool true) fun w' => Orc w' g { S with used := S.used ++ [x] } ∧ Ext g.m w w') := by
  refine (oTake.ok _ _ (R := fun v w' => v = .bool true ∧ Orc w' g { S with used := S.used ++ [x] } ∧ Ext g.m w w') ?_).mono fun e w' ⟨v, he, hv, hw⟩ => ⟨by rw [he, hv], hw⟩
  unfold oTake.M
  have : (x == 0) = false := by simpa using h0
  rw [this]
  obtain ⟨i, hi, hz, _⟩ := info_of inf4
  have hl := h.used.lookup keysU Try.underlying84 hi hz x false
  rw [mlook_bset, if_neg hx] at hl
  obtain ⟨w1, hr, hm, hext⟩ := h.used.update keysU Try.underlying84 x (.bool true)
  rw [mput_bset hx] at hm
  exact ⟨some g.used, h.pCell fun _ _ => rfl, false, hl, some g.used, h.pCell fun _ _ => rfl, w1, hr, rfl, h.set_used (hext _ rfl) hm, hext _ m_used⟩

theorem fresh_spec (h : Orc w g S) (hok : S.ok) (hlen : S.used.length < 1000000) :
    Calls Try.prog 33 #[.pointer (some (blk g.p))] w (Gives (u64V (freshOf S).1) fun w' => Orc w' g (freshOf S).2 ∧ Ext g.m w w') := by
  refine (oFresh.ok _ (R := fun v w' => v = u64V (freshOf S).1 ∧ Orc w' g (freshOf S).2 ∧ Ext g.m w w') ?_).mono fun e w' ⟨v, he, hv, hw⟩ => ⟨by rw [he, hv], hw⟩
  unfold oFresh.M
  refine ⟨fun k vs w1 => ∃ d, k = d.length ∧ Orc w1 g { S with draws := d } ∧ pickD d S.used = pickD S.draws S.used ∧ Ext g.m w w1, S.draws.length, ⟨S.draws, rfl, h, rfl, Ext.refl _ _⟩, ?_⟩
  rintro k w1 ⟨d, rfl, h1, hp, hx⟩
  obtain ⟨da, dc, hb, hle, hrow, hout⟩ := h1.st
  refine ⟨da, d.length, dc, hb.cella rfl, ?_⟩
  cases d with
  | nil =>
    -- the counter
    simp only [List.length_nil, Int.natCast_zero, gt_iff_lt, Int.lt_irrefl, decide_false, cond_false]
    have hf : freshOf S = (pickN S.used (S.used.length + 1) S.next, { S with draws := [], next := pickN S.used (S.used.length + 1) S.next, used := S.used ++ [pickN S.used (S.used.length + 1) S.next] }) := by
      simp [freshOf, ← hp, pickD]
    obtain ⟨q1, q2, q3, q4⟩ := hok
    obtain ⟨a1, a2, a3, a4, a5⟩ := pickN_spec S.used (S.used.length + 1) S.next q1 (gap S.used _ _ (by omega))
    rw [hf]
    generalize hN : pickN S.used (S.used.length + 1) S.next = N at *
    refine ⟨fun k vs w1 => ∃ n, S.next ≤ n ∧ n ≤ N ∧ k = (N - n).toNat ∧ Orc w1 g { S with draws := [], next := n } ∧ Ext g.m w w1, (N - S.next).toNat, ⟨S.next, Int.le_refl _, a1, rfl, h1, hx⟩, ?_⟩
    rintro k w2 ⟨n, hn1, hn2, rfl, h2, hx2⟩
    refine ⟨n, h2.pCell fun _ _ => rfl, ?_⟩
    by_cases hn : n = N
    · subst hn
      refine (take_yes h2 a4 a3).mono fun e w3 ⟨he, h3, hx3⟩ => ⟨true, he, ?_⟩
      exact ⟨n, h3.pCell fun _ _ => rfl, rfl, h3, hx2.trans hx3⟩
    · refine (take_no h2 (.inr (a5 n hn1 (by omega)))).mono fun e w3 ⟨he, hw3⟩ => ⟨false, he, ?_⟩
      subst hw3
      obtain ⟨da2, dc2, hb2, hle2, hrow2, hout2⟩ := h2.st
      have hwr : IntKind.u64.wrap (n + 1) = n + 1 := by
        simp only [IntKind.wrap, IntKind.bits, IntKind.signed]
        simp
        omega
      refine ⟨n, h2.pCell fun _ _ => rfl, hb2.cana (i := 2) rfl, thenW_in fun w4 hw4 => ?_⟩
      rw [hwr] at hw4
      have hext : Ext (fun b => b = g.p) w3 w4 := by
        subst hw4; exact (Ext.refl _ _).setCell (.inl (by rw [add_zero, add_blk])) _
      have hb4 := hb2.seta 2 (.int .u64 (n + 1))
      refine ⟨(N - (n + 1)).toNat, by omega, n + 1, by omega, by omega, rfl, ?_, hx2.trans (hext.mono fun b hb _ => by subst hb; exact m_p)⟩
      refine h2.set_p hext ⟨da2, dc2, ?_, hle2, RowAt.nil _ _, hout2⟩
      subst hw4
      exact hb4
  | cons x r =>
    have hpos : decide (((x :: r).length : Int) > 0) = true := by simp
    rw [hpos]
    have hcell : w1.cell? (((blk g.p).add 0)) = some (.slice da (x :: r).length dc) := hb.cella rfl
    obtain ⟨ad, rfl⟩ := hrow.addr (by simp)
    have hx0 : w1.cell? (ad.add (Int.toNat 0 * 1)) = some (.int .u64 x) := hrow.at_ (i := 0) rfl
    refine ⟨_, _, dc, hcell, Int.le_refl _, by show (0 : Int) < ((x :: r).length : Int); rw [List.length_cons]; omega, x, hx0, _, _, dc, hcell, by omega, by show (1 : Int) ≤ ((x :: r).length : Int); rw [List.length_cons]; omega, hb.cana (i := 0) rfl, thenW_in fun w2 hw2 => ?_⟩
    have hext : Ext (fun b => b = g.p) w1 w2 := by
      subst hw2; exact (Ext.refl _ _).setCell (.inl (by rw [add_zero, add_blk])) _
    have hb2 := hb.seta 0 (.slice (if dc = Int.toNat 1 then some ad else Option.map (fun z : Addr => z.add ((Int.toNat 1) * 1)) (some ad)) ((x :: r).length - (Int.toNat 1)) (dc - (Int.toNat 1)))
    have hxm : Ext g.m w w2 := hx.trans (hext.mono fun b hb _ => by subst hb; exact m_p)
    have hrow2 : RowAt w1 (if dc = 1 then some ad else Option.map (·.add 1) (some ad)) (r.map u64V) := by
      have := hrow.drop 1 dc (fun e => by simp only [List.length_cons, List.length_map] at hle ⊢; omega)
      simpa using this
    have hout2 : r.map u64V ≠ [] → Out g.M (if dc = 1 then some ad else Option.map (·.add 1) (some ad)) := fun _ q hq => by
      split at hq
      · exact hout (by simp) q hq
      · simp only [Option.map_some, Option.some.injEq] at hq
        subst hq; rw [block_add]; exact hout (by simp) ad rfl
    have h2 : Orc w2 g { S with draws := r } := by
      refine h1.set_p (x := S.next) hext ⟨_, dc - 1, ?_, by simp at hle ⊢; omega, hrow2.ext' hext (fun h0 q hq hb => hout2 h0 q hq (.inl (by rw [hb]; exact m_p))), hout2⟩
      subst hw2
      exact hb2
    by_cases hxu : x = 0 ∨ x ∈ S.used
    · refine (take_no h2 hxu).mono fun e w3 ⟨he, hw3⟩ => ⟨false, he, ?_⟩
      subst hw3
      exact ⟨r.length, by simp, r, rfl, h2, by rw [← hp]; simp [pickD, hxu], hxm⟩
    · rw [not_or] at hxu
      refine (take_yes h2 hxu.1 hxu.2).mono fun e w3 ⟨he, h3, hx3⟩ => ⟨true, he, ?_⟩
      have hf : freshOf S = (x, { S with draws := r, used := S.used ++ [x] }) := by
        simp [freshOf, ← hp, pickD, hxu]
      rw [hf]
      exact ⟨rfl, h3, hxm.trans hx3⟩

theorem u64_one (l : List Int) : ∀ u ∈ l.map u64V, u.oneCell' = true := fun u hu => by
  obtain ⟨b, _, rfl⟩ := List.mem_map.1 hu; rfl
theorem clone64_spec {a : Option Addr} {c : Nat} {l : List Int} (h : RowAt w a (l.map u64V)) (hl : l.length ≤ 1000000) :
    Calls Try.prog 32 #[.slice a l.length c] w (fun e w' => ∃ a' c', e = .returned (.slice a' l.length c') ∧ l.length ≤ c' ∧ RowAt w' a' (l.map u64V) ∧ Ext no w w' ∧ Fresh w w' a') := by
  refine (clone64.ok a l.length c (R := fun v w' => ∃ a' c', v = (.slice a' l.length c') ∧ l.length ≤ c' ∧ RowAt w' a' (l.map u64V) ∧ Ext no w w' ∧ Fresh w w' a') ?_).mono fun e w' ⟨v, he, a', c', hv, hw⟩ => ⟨a', c', by rw [he, hv], hw⟩
  unfold clone64.M
  cases a with
  | none =>
    have : l = [] := by simpa using h.none_nil
    subst this
    exact ⟨none, 0, rfl, Nat.le_refl _, RowAt.nil _ _, Ext.refl _ _, fun ad ha => by cases ha⟩
  | some ad =>
    rw [Option.isNone_some, cond_false]
    refine thenW_in fun w2 hw2 => ?_
    subst hw2
    obtain ⟨i, hi, hz, hs, hb⟩ := info_of inf25
    obtain ⟨a', c', w', hr, h1, h2, h3, h4⟩ := clone_run (c := c) (m := l.length) (ty := 55) Try.underlying55 hi hz hs hb rfl (by simp) h (u64_one l) (by omega) (by omega)
    exact ⟨a', l.length, c', w', hr, a', c', rfl, h1, h2, h3, h4⟩
theorem new_map {κ : Type} [DecidableEq κ] (enc : κ → Value) {w1 w2 : World} (h : w2 = w1.alloc (.map #[] 0)) : MapIs w2 w1.heap.size enc [] ∧ Ext no w1 w2 ∧ w2.heap.size = w1.heap.size + 1 := by
  subst h; exact ⟨MapIs.new _ _, (Ext.refl _ _).alloc _, by simp⟩
theorem New_specX (x0 : Nat → Prop) (hx0 : ∀ b, x0 b → b < w.heap.size) {a : Option Addr} {c : Nat} {l : List Int} (h : RowAt w a (l.map u64V)) (hl : l.length ≤ 1000000) :
    Calls Try.prog 6 #[.slice a l.length c] w (fun e w' => ∃ g : OG, e = .returned (.pointer (some (blk g.p))) ∧ Orc w' g (OS.init l) ∧ Ext no w w' ∧ (∀ b, g.m b → w.heap.size ≤ b ∧ b < w'.heap.size) ∧ g.x = x0) := by
  refine (oNew.ok a l.length c (R := fun v w' => ∃ g : OG, v = (.pointer (some (blk g.p))) ∧ Orc w' g (OS.init l) ∧ Ext no w w' ∧ (∀ b, g.m b → w.heap.size ≤ b ∧ b < w'.heap.size) ∧ g.x = x0) ?_).mono fun e w' ⟨v, he, g, hv, hw⟩ => ⟨g, by rw [he, hv], hw⟩
  unfold oNew.M
  refine (clone64_spec h hl).mono fun e w4 ⟨a', c', he, hle, hrow, hx, hf⟩ => ⟨a', l.length, c', he, ?_⟩
  refine thenW_in fun w5 h5 => thenW_in fun w6 h6 => thenW_in fun w7 h7 => thenW_in fun w8 h8 => thenW_in fun w9 h9 => thenW_in fun w10 h10 => thenW_in fun w11 h11 => thenW_in fun w12 h12 => thenW_in fun w13 h13 => thenW_in fun w14 h14 => ?_
  obtain ⟨m5, e5, s5⟩ := new_map u64V h5
  obtain ⟨m6, e6, s6⟩ := new_map strV h6
  obtain ⟨m7, e7, s7⟩ := new_map u64V h7
  obtain ⟨m8, e8, s8⟩ := new_map u64V h8
  obtain ⟨m9, e9, s9⟩ := new_map u64V h9
  obtain ⟨m10, e10, s10⟩ := new_map signedV h10
  obtain ⟨m11, e11, s11⟩ := new_map u64V h11
  obtain ⟨m12, e12, s12⟩ := new_map u64V h12
  obtain ⟨m13, e13, s13⟩ := new_map u64V h13
  have e14 : Ext no w13 w14 := by rw [h14]; exact (Ext.refl _ _).alloc _
  have s14 : w14.heap.size = w13.heap.size + 1 := by rw [h14]; simp
  have x13 := e14
  have x12 := e13.trans x13
  have x11 := e12.trans x12
  have x10 := e11.trans x11
  have x9 := e10.trans x10
  have x8 := e9.trans x9
  have x7 := e8.trans x8
  have x6 := e7.trans x7
  have x5 := e6.trans x6
  have x4 := e5.trans x5
  have hsz := hx.size
  have hm : ∀ b, (OG.mk w13.heap.size w4.heap.size w5.heap.size w6.heap.size w7.heap.size w8.heap.size w9.heap.size w10.heap.size w11.heap.size w12.heap.size x0).m b → w4.heap.size ≤ b ∧ b < w14.heap.size := fun b hb => by
    simp only [OG.m, OG.list, List.mem_cons, List.not_mem_nil, or_false] at hb
    omega
  refine ⟨⟨w13.heap.size, w4.heap.size, w5.heap.size, w6.heap.size, w7.heap.size, w8.heap.size, w9.heap.size, w10.heap.size, w11.heap.size, w12.heap.size, x0⟩, rfl, ⟨?_, ?_, m5.ext x5 id, m6.ext x6 id, m7.ext x7 id, m8.ext x8 id, m9.ext x9 id, m10.ext x10 id, m11.ext x11 id, ⟨[], m12.ext x12 id, trivial⟩, m13.ext x13 id, fun b hb hxx => ?_, fun b hb => ?_⟩, hx.trans x4, fun b hb => ⟨?_, (hm b hb).2⟩, rfl⟩
  · simp only [OG.list, List.nodup_cons, List.mem_cons, not_or, List.not_mem_nil, not_false_eq_true, List.nodup_nil, and_true]
    omega
  · refine ⟨a', c', ?_, hle, hrow.ext x4 (fun _ _ h => h), fun _ => hf.out fun b hb => hb.elim (fun hb => .inr (hm b hb).1) (fun hb => .inl (hx0 b hb))⟩
    rw [h14]
    exact Blk.new _ _ _
  · have h1 := (hm b hb).1
    have h2 := hx0 b hxx
    omega
  · exact Nat.lt_of_lt_of_le (hx0 b hb) (hx.trans x4).size
  · exact Nat.le_trans hsz (hm b hb).1

end
end Go.Proofs.Ytfmdpjhkojbocaa

/- What the oracle's pairs and signatures do. -/
set_option linter.unusedVariables false
set_option linter.unusedSimpArgs false
namespace Go.Proofs.Ytfmdpjhkojbocaa
open Go Go.Mx Go.Proofs
theorem two_signed : Two Try.prog 135 (.int .u64) .string := Two.mk' Try.underlying135 (by kernel_rfl) Try.underlying25 Try.underlying9
theorem keysG : Keys Try.prog 135 signedV := keys_int_str two_signed
theorem infSigned : (Try.prog.info? 135).map (fun i => (i.zero, i.size, i.bytes)) = some (some (.agg #[.int .u64 0, .string ByteArray.empty]), 2, 24) := by kernel_rfl

section
variable {w w' : World} {g : OG} {S : OS}
theorem m_signs : g.m g.signs := by simp [OG.m, OG.list]
theorem m_signed : g.m g.signed := by simp [OG.m, OG.list]
theorem Pair_spec (h : Orc w g S) (hok : S.ok) (hlen : S.used.length + 1 < 1000000) :
    Calls Try.prog 7 #[.pointer (some (blk g.p))] w (Gives (.tuple #[u64V (pairOf S).1.1, u64V (pairOf S).1.2]) fun w' => Orc w' g (pairOf S).2 ∧ Ext g.m w w') := by
  refine (oPair.ok _ (R := fun v w' => v = .tuple #[u64V (pairOf S).1.1, u64V (pairOf S).1.2] ∧ Orc w' g (pairOf S).2 ∧ Ext g.m w w') ?_).mono fun e w' ⟨v, he, hv, hw⟩ => ⟨by rw [he, hv], hw⟩
  unfold oPair.M
  refine (fresh_spec h hok (by omega)).mono fun e w4 ⟨he, hO, hx⟩ => ⟨(freshOf S).1, he, ?_⟩
  obtain ⟨w7, hu, hm, hext⟩ := hO.secrets.update keysU Try.underlying84 (freshOf S).1 (.bool true)
  rw [(freshOf_frame S).2.2.1, mput_badd] at hm
  have hO7 := hO.set_secrets (hext _ rfl) hm
  obtain ⟨_, _, h3, h4⟩ := freshOf_spec hok
  refine ⟨some g.secrets, hO.pCell fun _ _ => rfl, w7, hu, ?_⟩
  refine (fresh_spec hO7 h4 (by show (freshOf S).2.used.length < _; rw [h3]; simp; omega)).mono fun e w10 ⟨he, hO10, hx10⟩ => ⟨_, he, ?_⟩
  obtain ⟨w13, hu13, hm13, hext13⟩ := hO10.publics.update keysU Try.underlying86 (pairOf S).1.2 (u64V (freshOf S).1)
  rw [mput_map, (freshOf_frame _).2.2.2.1] at hm13
  rw [show ({ (freshOf S).2 with secrets := badd S.secrets (freshOf S).1 } : OS).publics = S.publics from (freshOf_frame S).2.2.2.1] at hm13
  exact ⟨some g.publics, hO10.pCell fun _ _ => rfl, w13, hu13, rfl, hO10.set_publics (hext13 _ rfl) hm13, ((hx.trans (hext _ m_secrets)).trans hx10).trans (hext13 _ m_publics)⟩

theorem look_secret (h : Orc w g S) (k : Int) : (Instr.lookup 84 (.map (some g.secrets)) (.int .u64 k) false).run Try.prog w = .ok (.bool (decide (k ∈ S.secrets))) w := by
  obtain ⟨i, hi, hz, _⟩ := info_of inf4
  have hl := h.secrets.lookup keysU Try.underlying84 hi hz k false
  rw [mlook_bset] at hl
  refine hl.trans ?_
  by_cases hk : k ∈ S.secrets
  · simp [hk]
  · simp [hk]
theorem look_public (h : Orc w g S) (k : Int) : (Instr.lookup 86 (.map (some g.publics)) (.int .u64 k) true).run Try.prog w = .ok (.tuple #[.int .u64 ((alook S.publics k).getD 0), .bool (alook S.publics k).isSome]) w := by
  obtain ⟨i, hi, hz, _⟩ := info_of inf25
  have hl := h.publics.lookup keysU Try.underlying86 hi hz k true
  rw [mlook_map] at hl
  refine hl.trans ?_
  cases alook S.publics k <;> rfl

theorem Sign_spec (h : Orc w g S) (hok : S.ok) (hlen : S.used.length < 1000000) (k : Int) {a : Option Addr} {c : Nat} {bs : List UInt8} (hr : RowAt w a (bytesV bs)) (ho : bytesV bs ≠ [] → Out g.m a) :
    Calls Try.prog 52 #[.pointer (some (blk g.p)), .int .u64 k, .slice a bs.length c] w (Gives (.tuple #[u64V (signOf S k bs).1.1, .int .i64 (if (signOf S k bs).1.2 then 0 else 11)]) fun w' => Orc w' g (signOf S k bs).2 ∧ Ext g.m w w') := by
  refine (oSign.ok _ _ _ _ _ (R := fun v w' => v = .tuple #[u64V (signOf S k bs).1.1, .int .i64 (if (signOf S k bs).1.2 then 0 else 11)] ∧ Orc w' g (signOf S k bs).2 ∧ Ext g.m w w') ?_).mono fun e w' ⟨v, he, hv, hw⟩ => ⟨by rw [he, hv], hw⟩
  unfold oSign.M
  rw [Option.isNone_some, cond_false]
  refine ⟨some g.secrets, h.pCell fun _ _ => rfl, _, look_secret h k, ?_⟩
  by_cases hk' : ¬ k ∈ S.secrets
  · have hk := hk'
    have : signOf S k bs = ((0, false), S) := by unfold signOf; rw [if_neg hk]
    rw [this, decide_eq_false hk]
    exact ⟨rfl, h, Ext.refl _ _⟩
  have hk := Decidable.not_not.1 hk'
  rw [decide_eq_true hk, Bool.not_true, cond_false]
  have hcv := conv_str (P := Try.prog) (c := c) Try.underlying23 Try.underlying5 Try.underlying9 hr
  refine ⟨_, hcv, thenW_in fun w8 h8 => ?_⟩
  have hb8 : Blk w8 w.heap.size 135 [.int .u64 0, .string ByteArray.empty] := by subst h8; exact Blk.new _ _ _
  have e8 : Ext no w w8 := by subst h8; exact (Ext.refl _ _).alloc _
  refine ⟨hb8.cana (i := 0) rfl, thenW_in fun w9 h9 => ?_⟩
  have hb9 : Blk w9 w.heap.size 135 [.int .u64 k, .string ByteArray.empty] := by subst h9; exact hb8.seta 0 _
  have e9 : Ext no w w9 := by subst h9; exact e8.setCell (.inr (by rw [add_zero]; exact Nat.le_refl _)) _
  refine ⟨hb9.cana (i := 1) rfl, thenW_in fun w10 h10 => ?_⟩
  have hb10 : Blk w10 w.heap.size 135 [.int .u64 k, strV bs] := by subst h10; exact hb9.seta 1 _
  have e10 : Ext no w w10 := by subst h10; exact e9.setCell (.inr (by rw [add_blk]; exact Nat.le_refl _)) _
  refine thenW_in fun w11 h11 => ?_
  have hb11 : Blk w11 w.heap.size 135 [.int .u64 k, strV bs] := by subst h11; exact hb10
  have e11 : Ext no w w11 := by subst h11; exact e10.drew
  have hO11 := h.none e11
  have cells : ∀ w', Blk w' w.heap.size 135 [.int .u64 k, strV bs] → cellsAt w' (blk w.heap.size) [.int .u64 k, strV bs] 0 := fun w' hb => ⟨hb.cella rfl, hb.cella rfl, trivial⟩
  obtain ⟨i, hi, hz, _⟩ := info_of inf25
  have hl := hO11.signs.lookup keysG Try.underlying87 hi hz (k, bs) true
  rw [mlook_map] at hl
  cases hs : alook S.signs (k, bs) with
  | some x =>
    rw [hs] at hl
    refine ⟨some g.signs, hO11.pCell fun _ _ => rfl, k, _, cells _ hb11, x, true, hl, ?_⟩
    have : signOf S k bs = ((x, true), S) := by unfold signOf; rw [if_pos hk, hs]
    rw [this]
    exact ⟨rfl, hO11, e11.none⟩
  | none =>
    rw [hs] at hl
    refine ⟨some g.signs, hO11.pCell fun _ _ => rfl, k, _, cells _ hb11, 0, false, hl, ?_⟩
    have hsg : signOf S k bs = (((freshOf S).1, true), { (freshOf S).2 with signs := aput S.signs (k, bs) (freshOf S).1, signed := aput S.signed (freshOf S).1 (k, bs) }) := by unfold signOf; rw [if_pos hk, hs]
    have hnm : ¬ g.m w.heap.size := fun hm => by
      have : ∀ b, g.m b → b < w.heap.size := fun b hb => by
        obtain ⟨da, dc, hp, _⟩ := h.st
        obtain ⟨lv, hse, _⟩ := h.sealed
        simp only [OG.m, OG.list, List.mem_cons, List.not_mem_nil, or_false] at hb
        rcases hb with rfl | rfl | rfl | rfl | rfl | rfl | rfl | rfl | rfl | rfl
        · exact hp.lt
        · exact h.used.lt
        · exact h.hashes.lt
        · exact h.keys.lt
        · exact h.secrets.lt
        · exact h.publics.lt
        · exact h.signs.lt
        · exact h.signed.lt
        · exact hse.lt
        · exact h.wrapped.lt
      exact absurd (this _ hm) (Nat.lt_irrefl _)
    refine (fresh_spec hO11 hok hlen).mono fun e w20 ⟨he, hO20, hx20⟩ => ⟨(freshOf S).1, he, thenW_in fun w21 h21 => ?_⟩
    have hx21 : Ext no w20 w21 := by subst h21; exact (Ext.refl _ _).drew
    have hO21 := hO20.none hx21
    have hb21 := (hb11.ext hx20 hnm).ext hx21 id
    obtain ⟨n, w32, hme, hpend, hext32⟩ := hO21.signs.entry keysG Try.underlying87 hi hz (k, bs)
    obtain ⟨w33, hst, hm33, hext33⟩ := hpend.store (t := 87) (u64V (freshOf S).1)
    have hmm : mput (mput ((freshOf S).2.signs.map fun p => (p.1, u64V p.2)) (k, bs) ((mlook ((freshOf S).2.signs.map fun p => (p.1, u64V p.2)) (k, bs)).getD (.int .u64 0))) (k, bs) (u64V (freshOf S).1) = (aput S.signs (k, bs) (freshOf S).1).map fun p => (p.1, u64V p.2) := by
      rw [mput_mput, mput_map, (freshOf_frame S).2.2.2.2.1]
    rw [hmm] at hm33
    have x33 : ∀ m : Nat → Prop, m g.signs → Ext m w21 w33 := fun m hm => (hext32 m hm).trans (hext33 m hm)
    have hO33 := hO21.set_signs (x33 _ rfl) hm33
    have hns : ¬ (w.heap.size = g.signs) := fun e => hnm (e ▸ m_signs)
    have hb32 := hb21.ext (hext32 (fun b => b = g.signs) rfl) hns
    have hb33 := hb21.ext (x33 (fun b => b = g.signs) rfl) hns
    obtain ⟨i2, hi2, hz2, _⟩ := info_of infSigned
    obtain ⟨n2, w37, hme2, hpend2, hext37⟩ := hO33.signed.entry keysU Try.underlying88 hi2 hz2 (freshOf S).1
    obtain ⟨w38, hst2, hm38, hext38⟩ := hpend2.store (t := 88) (signedV (k, bs))
    have hold : ∃ v t, (mlook ((freshOf S).2.signed.map fun p => (p.1, signedV p.2)) (freshOf S).1).getD (.agg #[.int .u64 0, .string ByteArray.empty]) = .agg #[.int .u64 v, .string t] := by
      rw [mlook_map]
      cases alook (freshOf S).2.signed (freshOf S).1 with
      | none => exact ⟨0, _, rfl⟩
      | some q => exact ⟨q.1, _, rfl⟩
    obtain ⟨ov, ot, hold⟩ := hold
    have hme2' := hme2
    rw [show ({ (freshOf S).2 with signs := aput S.signs (k, bs) (freshOf S).1 } : OS).signed = (freshOf S).2.signed from rfl, hold] at hme2'
    rw [mput_mput, mput_map, show ({ (freshOf S).2 with signs := aput S.signs (k, bs) (freshOf S).1 } : OS).signed = S.signed from (freshOf_frame S).2.2.2.2.2.1] at hm38
    have x38 : ∀ m : Nat → Prop, m g.signed → Ext m w33 w38 := fun m hm => (hext37 m hm).trans (hext38 m hm)
    have hb37 := hb33.ext (hext37 (fun b => b = g.signed) rfl) (fun e => hnm (e ▸ m_signed))
    have hold1 : ∃ v, (mlook ((freshOf S).2.signs.map fun p => (p.1, u64V p.2)) (k, bs)).getD (.int .u64 0) = .int .u64 v := by
      rw [mlook_map]
      cases alook (freshOf S).2.signs (k, bs) with
      | none => exact ⟨0, rfl⟩
      | some q => exact ⟨q, rfl⟩
    obtain ⟨ov1, hold1⟩ := hold1
    rw [hold1] at hme
    refine ⟨some g.signs, hO21.pCell fun _ _ => rfl, k, _, cells _ hb21, some g.signed, hO21.pCell fun _ _ => rfl, k, _, cells _ hb21, ov1, n, w32, hme, cells _ hb32, w33, hst, cells _ hb33, ov, ot, n2, w37, hme2', cells _ hb37, w38, hst2, ?_⟩
    rw [hsg]
    refine ⟨rfl, hO33.set_signed (x38 _ rfl) hm38, ?_⟩
    exact (((e11.none.trans hx20).trans hx21.none).trans (x33 _ m_signs)).trans (x38 _ m_signed)

theorem look_signed (h : Orc w g S) (k : Int) : (Instr.lookup 88 (.map (some g.signed)) (.int .u64 k) true).run Try.prog w =
    .ok (.tuple #[signedV ((alook S.signed k).getD (0, [])), .bool (alook S.signed k).isSome]) w := by
  obtain ⟨i, hi, hz, _⟩ := info_of infSigned
  have hl := h.signed.lookup keysU Try.underlying88 hi hz k true
  rw [mlook_map] at hl
  refine hl.trans ?_
  cases alook S.signed k <;> rfl

theorem Verify_spec (h : Orc w g S) (p x : Int) {a : Option Addr} {c : Nat} {bs : List UInt8} (hr : RowAt w a (bytesV bs)) :
    Calls Try.prog 57 #[.pointer (some (blk g.p)), .int .u64 p, .slice a bs.length c, .int .u64 x] w (Gives (.bool (verifyOf S p bs x)) fun w' => Ext no w w') := by
  refine (oVerify.ok _ _ _ _ _ _ (R := fun v w' => v = .bool (verifyOf S p bs x) ∧ Ext no w w') ?_).mono fun e w' ⟨v, he, hv, hw⟩ => ⟨by rw [he, hv], hw⟩
  unfold oVerify.M
  rw [Option.isNone_some, cond_false]
  refine ⟨some g.publics, h.pCell fun _ _ => rfl, _, _, look_public h p, some g.signed, h.pCell fun _ _ => rfl, _, _, _, look_signed h x, thenW_in fun w14 h14 => ?_⟩
  have hb14 : Blk w14 w.heap.size 135 [.int .u64 0, .string ByteArray.empty] := by subst h14; exact Blk.new _ _ _
  have e14 : Ext no w w14 := by subst h14; exact (Ext.refl _ _).alloc _
  refine ⟨hb14.cana (i := 0) rfl, thenW_in fun w15 h15 => ?_⟩
  have hb15 : Blk w15 w.heap.size 135 [.int .u64 ((alook S.signed x).getD (0, [])).1, .string ByteArray.empty] := by subst h15; exact hb14.seta 0 _
  have e15 : Ext no w w15 := by subst h15; exact e14.setCell (.inr (by rw [add_zero]; exact Nat.le_refl _)) _
  refine ⟨hb15.cana (i := 1) rfl, thenW_in fun w16 h16 => ?_⟩
  have hb16 : Blk w16 w.heap.size 135 [.int .u64 ((alook S.signed x).getD (0, [])).1, strV ((alook S.signed x).getD (0, [])).2] := by subst h16; exact hb15.seta 1 _
  have e16 : Ext no w w16 := by subst h16; exact e15.setCell (.inr (by rw [add_blk]; exact Nat.le_refl _)) _
  unfold verifyOf
  cases hp : alook S.publics p with
  | none => exact ⟨rfl, e16⟩
  | some s =>
    cases hq : alook S.signed x with
    | none => exact ⟨rfl, e16⟩
    | some q =>
      rw [hq] at hb16
      have hcv := conv_str (P := Try.prog) (c := c) Try.underlying23 Try.underlying5 Try.underlying9 (hr.no e16)
      refine ⟨_, _, ⟨hb16.cella rfl, hb16.cella rfl, trivial⟩, _, hcv, decide (q = (s, bs)), ?_, rfl, e16⟩
      rw [run_eql_struct]
      have := equal_two two_signed w16 (fun n t ht => equal_int' (a := q.1) (b := s) n t ht) (fun n t ht => equal_str' (a := q.2) (b := bs) n t ht) 9998
      simp only [Nat.reduceAdd] at this
      simp only [strV, Option.getD_some] at this ⊢
      rw [this]
      have hd : (q.1 == s && decide (q.2 = bs)) = decide (q = (s, bs)) := by
        rw [Bool.eq_iff_iff]
        simp [Prod.ext_iff]
      rw [hd]
      rfl
end
end Go.Proofs.Ytfmdpjhkojbocaa

/- The oracle, as an owner of blocks. -/
set_option linter.unusedVariables false
set_option linter.unusedSimpArgs false
set_option maxRecDepth 20000
namespace Go.Proofs.Ytfmdpjhkojbocaa
open Go Go.Mx Go.Proofs
/-- the oracle of an owner. -/
def POrc (w : World) (o : Own) (k : Nat) (S : OS) : Prop := ∃ g : OG, g.p = k ∧ Orc w g S ∧ (∀ b, g.m b → o b = some k) ∧ (∀ b, b < w.heap.size → ∀ j, o b = some j → j ≠ k → g.x b)
/-- what a call hands back, whom it lets turn, and what then is. -/
def Gs (K : Nat → Prop) (w : World) (o : Own) (v : Value) (Q : World → Own → Prop) (e : Ending) (w' : World) : Prop := ∃ o', e = .returned v ∧ Step K w o w' o' ∧ Q w' o'
section
variable {w w' : World} {o o' : Own} {k : Nat} {S : OS} {K : Nat → Prop}
theorem POrc.lt (h : POrc w o k S) : k < w.heap.size := by obtain ⟨g, rfl, h1, _⟩ := h; exact h1.mlt _ m_p
theorem POrc.own (h : POrc w o k S) : o k = some k := by obtain ⟨g, rfl, _, h2, _⟩ := h; exact h2 _ m_p
theorem POrc.step (h : POrc w o k S) (s : Step K w o w' o') (hk : ¬ K k) : POrc w' o' k S := by
  obtain ⟨g, h0, h1, h2, h3⟩ := h
  refine ⟨g.more w w', h0, h1.foreign s.ext fun b hb ⟨j, hj, hK⟩ => h3 b hb j hj fun e => hk (e ▸ hK), fun b hb => ?_, fun b hb j hj hne => ?_⟩
  · rw [s.same b (h1.mlt b hb)]; exact h2 b hb
  · by_cases hl : b < w.heap.size
    · rw [s.same b hl] at hj; exact .inl (h3 b hl j hj hne)
    · exact .inr ⟨by omega, hb⟩
theorem own_out {g : OG} {a : Option Addr} {cs : List Value} (h2 : ∀ b, g.m b → o b = some k) (hr : Row w o a cs) : cs ≠ [] → Out g.m a := fun h0 ad ha hm => by
  have := h2 _ hm
  rw [hr.2 h0 ad ha] at this; cases this
theorem POrc.turn {g : OG} {S' : OS} (h2 : ∀ b, g.m b → o b = some g.p) (h3 : ∀ b, b < w.heap.size → ∀ j, o b = some j → j ≠ g.p → g.x b) (hl : ∀ b, g.m b → b < w.heap.size) (ok : Tags w o) (h : Orc w' g S') (X : Ext g.m w w') :
    Step (fun j => j = g.p) w o w' (grow w o) ∧ POrc w' (grow w o) g.p S' := by
  refine ⟨Step.of_ext X ok fun b hb _ => h2 b hb, g, rfl, h, fun b hb => ?_, fun b hb j hj hne => ?_⟩
  · rw [grow_lt (hl b hb)]; exact h2 b hb
  · by_cases hlt : b < w.heap.size
    · rw [grow_lt hlt] at hj; exact h3 b hlt j hj hne
    · rw [grow_ge (by omega)] at hj; cases hj
open Classical in
theorem NewO (ok : Tags w o) {a : Option Addr} {c : Nat} {l : List Int} (h : RowAt w a (l.map u64V)) (hl : l.length ≤ 1000000) :
    Calls Try.prog 6 #[.slice a l.length c] w (fun e w' => ∃ k o', e = .returned (.pointer (some (blk k))) ∧ w.heap.size ≤ k ∧ Step no w o w' o' ∧ POrc w' o' k (OS.init l)) := by
  refine (New_specX (fun b => b < w.heap.size ∧ o b ≠ none) (fun b hb => hb.1) h hl).mono fun e w' ⟨g, he, hO, hx, hg, hgx⟩ => ?_
  have hp := hg _ m_p
  refine ⟨g.p, fun b => if b < w.heap.size then o b else if g.m b then some g.p else none, he, hp.1, ⟨hx.mono fun _ h _ => h.elim, fun b hb => if_pos hb, ok, fun b j hb hj => ?_⟩, g, rfl, hO, fun b hb => ?_, fun b hb j hj hne => ?_⟩
  · by_cases hlt : b < w.heap.size
    · simp only [if_pos hlt] at hj; exact Nat.lt_of_lt_of_le (ok b j hlt hj) hx.size
    · simp only [if_neg hlt] at hj
      split at hj
      · cases hj; exact hp.2
      · cases hj
  · have := (hg b hb).1
    simp only [if_neg (by omega : ¬ b < w.heap.size), if_pos hb]
  · by_cases hlt : b < w.heap.size
    · simp only [if_pos hlt] at hj
      rw [hgx]
      exact ⟨hlt, by rw [hj]; simp⟩
    · simp only [if_neg hlt] at hj
      split at hj
      · cases hj; exact absurd rfl hne
      · cases hj
theorem PairO (h : POrc w o k S) (ok : Tags w o) (hok : S.ok) (hlen : S.used.length + 1 < 1000000) :
    Calls Try.prog 7 #[.pointer (some (blk k))] w (Gs (fun j => j = k) w o (.tuple #[u64V (pairOf S).1.1, u64V (pairOf S).1.2]) fun w' o' => POrc w' o' k (pairOf S).2) := by
  obtain ⟨g, rfl, h1, h2, h3⟩ := h
  refine (Pair_spec h1 hok hlen).mono fun e w' ⟨he, hO, hx⟩ => ?_
  obtain ⟨s, p⟩ := POrc.turn h2 h3 h1.mlt ok hO hx
  exact ⟨_, he, s, p⟩
theorem SignO (h : POrc w o k S) (ok : Tags w o) (hok : S.ok) (hlen : S.used.length < 1000000) (s : Int) {a : Option Addr} {c : Nat} {bs : List UInt8} (hr : Row w o a (bytesV bs)) :
    Calls Try.prog 52 #[.pointer (some (blk k)), .int .u64 s, .slice a bs.length c] w (Gs (fun j => j = k) w o (.tuple #[u64V (signOf S s bs).1.1, .int .i64 (if (signOf S s bs).1.2 then 0 else 11)]) fun w' o' => POrc w' o' k (signOf S s bs).2) := by
  obtain ⟨g, rfl, h1, h2, h3⟩ := h
  refine (Sign_spec h1 hok hlen s hr.1 (own_out h2 hr)).mono fun e w' ⟨he, hO, hx⟩ => ?_
  obtain ⟨s, p⟩ := POrc.turn h2 h3 h1.mlt ok hO hx
  exact ⟨_, he, s, p⟩
theorem VerifyO (h : POrc w o k S) (ok : Tags w o) (p x : Int) {a : Option Addr} {c : Nat} {bs : List UInt8} (hr : Row w o a (bytesV bs)) :
    Calls Try.prog 57 #[.pointer (some (blk k)), .int .u64 p, .slice a bs.length c, .int .u64 x] w (Ret (.bool (verifyOf S p bs x)) fun w' => Ext no w w') := by
  obtain ⟨g, rfl, h1, h2, h3⟩ := h
  exact (Verify_spec h1 p x hr.1).mono fun e w' ⟨he, hx⟩ => ⟨he, hx⟩
end
end Go.Proofs.Ytfmdpjhkojbocaa

/- Wire: numbers that are written and read, what a reader has left. -/
set_option linter.unusedVariables false
set_option linter.unusedSimpArgs false
set_option maxRecDepth 20000
namespace Go.Proofs.Ytfmdpjhkojbocaa.W
open Go Go.Mx Go.Proofs
theorem follows : Try.prog.follows .mixedOrders = true := by kernel_rfl
/-- slices.Clone[[]byte,byte] -/
def wClone.M (a0 : Option Addr) (a6 : Nat) (a7 : Nat) (R : Value → World → Prop) (w : World) : Prop :=
 bif Option.isNone a0 then (
 R (.slice none 0 0) w) else (
 thenW (w.alloc (.cells #[] 5)) fun a5 =>
 ∃ (a3 : Option Addr) (a2 : Nat) (a4 : Nat) (a1 : World), (Builtin.append_ #[23, 23] 23 #[.slice (some (blk w.heap.size)) 0 0, .slice a0 a6 a7]).run Try.prog a5 = .ok (.slice a3 a2 a4) a1 ∧
 R (.slice a3 a2 a4) a1)

theorem wClone.eq (s1a : Option Addr) (s1n : Nat) (s1c : Nat) (R : Value → World → Prop) (w : World) : mfunc Try.prog [] 70 [.slice s1a s1n s1c] R w = wClone.M s1a s1n s1c R w := by kernel_rfl
theorem wClone.ok (a0 : Option Addr) (a2 : Nat) (a1 : Nat) {R : Value → World → Prop} {w : World} (h : wClone.M a0 a2 a1 R w) : Calls Try.prog 70 #[.slice a0 a2 a1] w fun e w' => ∃ v, e = .returned v ∧ R v w' :=
  mfunc_ok follows (H := []) (args := [.slice a0 a2 a1]) (by rw [wClone.eq]; exact h)

/-- wire.Num -/
def wNum.M (ai : Option Addr) (ak : Nat) (am : Nat) (n2 : Int) (R : Value → World → Prop) (w : World) : Prop :=
 Calls Try.prog 70 #[.slice ai ak am] w fun al aj => ∃ (a3 : Option Addr) (a5 : Nat) (a4 : Nat), al = .returned (.slice a3 a5 a4) ∧
 ∃ (I0 : Nat → List Value → World → Prop) (m8 : Nat), I0 m8 [.int .u64 n2, .slice a3 a5 a4] aj ∧ ∀ (m9 : Nat) (a6 : World) (n6 : Int) (a0 : Option Addr) (a1 : Nat) (a2 : Nat), I0 m9 [.int .u64 n6, .slice a0 a1 a2] a6 →
 bif decide (n6 ≥ 128) then (
 thenW (a6.alloc (.cells #[.int .u8 (IntKind.u8.wrap ((BitVec.ofInt (IntKind.bits .u8) (IntKind.u8.wrap n6) ||| BitVec.ofInt (IntKind.bits .u8) 128).toNat))] 5)) fun af =>
 ∃ (a7 : Option Addr) (ac : Nat) (ae : Nat) (a9 : World), (Builtin.append_ #[23, 23] 23 #[.slice a0 a1 a2, .slice (some (blk a6.heap.size)) 1 1]).run Try.prog af = .ok (.slice a7 ac ae) a9 ∧
 0 ≤ (7 : Int) ∧
 ∃ ah, ah < m9 ∧ I0 ah [.int .u64 (Int.fdiv n6 (2 ^ (min (Int.toNat 7) (IntKind.bits .u64)))), .slice a7 ac ae] a9) else (
 thenW (a6.alloc (.cells #[.int .u8 (IntKind.u8.wrap n6)] 5)) fun ag =>
 ∃ (a8 : Option Addr) (ab : Nat) (ad : Nat) (aa : World), (Builtin.append_ #[23, 23] 23 #[.slice a0 a1 a2, .slice (some (blk a6.heap.size)) 1 1]).run Try.prog ag = .ok (.slice a8 ab ad) aa ∧
 R (.slice a8 ab ad) aa)

theorem wNum.eq (b1a : Option Addr) (b1n : Nat) (b1c : Nat) (n2 : Int) (R : Value → World → Prop) (w : World) : mfunc Try.prog [(0, [], [(1, (.one (.int .u64))), (5, (.one .slice))])] 49 [.slice b1a b1n b1c, .int .u64 n2] R w = wNum.M b1a b1n b1c n2 R w := by kernel_rfl
theorem wNum.ok (a0 : Option Addr) (a2 : Nat) (a1 : Nat) (n2 : Int) {R : Value → World → Prop} {w : World} (h : wNum.M a0 a2 a1 n2 R w) : Calls Try.prog 49 #[.slice a0 a2 a1, .int .u64 n2] w fun e w' => ∃ v, e = .returned v ∧ R v w' :=
  mfunc_ok follows (H := [(0, [], [(1, (.one (.int .u64))), (5, (.one .slice))])]) (args := [.slice a0 a2 a1, .int .u64 n2]) (by rw [wNum.eq]; exact h)

theorem infU8 : (Try.prog.info? 5).map (fun i => (i.zero, i.size, i.bytes)) = some (some (.int .u8 0), 1, 1) := by kernel_rfl
def GivesW (v : Value) (Q : World → Prop) (e : Ending) (w' : World) : Prop := e = .returned v ∧ Q w'

/-- bytes in a row of one's own, from block N on. -/
structure OwnB (N : Nat) (w : World) (a : Option Addr) (c : Nat) (bs : List UInt8) : Prop where
  own : w.ownsRow 0 5 1 (.slice a bs.length c) bs.length (bytesV bs)
  fr : ∀ ad, a = some ad → N ≤ ad.block ∧ ad.block < w.heap.size
section
variable {w w' : World} {a : Option Addr} {c N : Nat} {bs : List UInt8}
theorem OwnB.row (h : OwnB N w a c bs) : RowAt w a (bytesV bs) := by
  obtain ⟨_, _, hv, hr⟩ := RowAt.of_owns h.own
  cases hv; exact hr
theorem OwnB.le (h : OwnB N w a c bs) : bs.length ≤ c := (own_fresh h.own).1
theorem OwnB.ext {m : Nat → Prop} (h : OwnB N w a c bs) (k : Ext m w w') (hm : ∀ ad, a = some ad → ¬ m ad.block) : OwnB N w' a c bs := by
  refine ⟨⟨h.own.1, ?_⟩, fun ad ha => ⟨(h.fr ad ha).1, Nat.lt_of_lt_of_le (h.fr ad ha).2 k.size⟩⟩
  rcases h.own.2 with h2 | ⟨g, cap, cur, hv, hb, hg, hr⟩
  · exact .inl h2
  · have ha : a = some ⟨g, 0, none⟩ := by cases hv; rfl
    exact .inr ⟨g, cap, cur, hv, hb, k.get hg (hm _ ha), hr⟩
theorem OwnB.no (h : OwnB N w a c bs) (k : Ext no w w') : OwnB N w' a c bs := h.ext k fun _ _ h => h
theorem OwnB.nil (N : Nat) (w : World) : OwnB N w none 0 [] := ⟨⟨by simp [bytesV], .inl ⟨rfl, rfl⟩⟩, fun ad ha => by cases ha⟩
/-- 'append(out, x...)'. -/
theorem OwnB.append {t ty : TypeId} (ht : Try.prog.underlying t = some (.slice 5)) (h : OwnB N w a c bs) (hN : N ≤ w.heap.size) {xa : Option Addr} {xc : Nat} {xs : List UInt8} (hx : RowAt w xa (bytesV xs)) (hl : bs.length + xs.length ≤ 100000000) :
    ∃ a' c' w', (Builtin.append_ #[t, t] ty #[.slice a bs.length c, .slice xa xs.length xc]).run Try.prog w = .ok (.slice a' (bs ++ xs).length c') w' ∧ OwnB N w' a' c' (bs ++ xs) ∧ Ext (fun b => N ≤ b) w w' := by
  obtain ⟨i, hi, hz, hs, hb⟩ := info_of infU8
  obtain ⟨a', c', w', hr, ho, hg, hbk⟩ := run_append (ty := ty) ht hi hz hs hb rfl (by decide) h.own (xa := xa) (m := xs.length) (c := xc) (by rw [bytesV_length]; omega) hx (bytesV_one xs) (by omega) (by omega)
  have hrow : ∀ q, (Value.slice a bs.length c).ownBlock = some q → N ≤ q := fun q hq => by
    cases a with
    | none => simp [Value.ownBlock] at hq
    | some ad => simp only [Value.ownBlock, Option.some.injEq] at hq; subst hq; exact (h.fr ad rfl).1
  refine ⟨a', c', w', by rw [List.length_append]; exact hr, ⟨by rw [List.length_append, show bytesV (bs ++ xs) = bytesV bs ++ bytesV xs by simp [bytesV]]; exact ho, fun ad ha => ⟨?_, (own_fresh ho).2 ad ha⟩⟩, Ext.of_grown hg fun q hq => .inl (hrow q hq)⟩
  subst ha
  rcases hbk with hq | hq
  · exact hrow _ hq.symm
  · simp only [Value.ownBlock, Option.some.injEq] at hq; omega
theorem clone_spec (h : RowAt w a (bytesV bs)) (hl : bs.length ≤ 1000000) :
    Calls Try.prog 70 #[.slice a bs.length c] w (fun e w' => ∃ a' c', e = .returned (.slice a' bs.length c') ∧ OwnB w.heap.size w' a' c' bs ∧ Ext no w w') := by
  refine (wClone.ok a bs.length c (R := fun v w' => ∃ a' c', v = (.slice a' bs.length c') ∧ OwnB w.heap.size w' a' c' bs ∧ Ext no w w') ?_).mono fun e w' ⟨v, he, a', c', hv, hw⟩ => ⟨a', c', by rw [he, hv], hw⟩
  unfold wClone.M
  cases a with
  | none =>
    have : bs = [] := by simpa [bytesV] using h.none_nil
    subst this
    exact ⟨none, 0, rfl, OwnB.nil _ _, Ext.refl _ _⟩
  | some ad =>
    rw [Option.isNone_some, cond_false]
    refine thenW_in fun w2 hw2 => ?_
    subst hw2
    obtain ⟨i, hi, hz, hs, hb⟩ := info_of infU8
    obtain ⟨a', c', w', hr, h1, h2, h3, h4, h5⟩ := clone_owns (c := c) (m := bs.length) (ty := 23) Try.underlying23 hi hz hs hb rfl (bytesV_length bs) h (bytesV_one bs) (by omega) (by omega)
    exact ⟨a', bs.length, c', w', hr, a', c', rfl, ⟨h2, h5⟩, h4⟩
/-- wire.Num: the bytes, and the number's behind them. -/
theorem Num_spec (h : RowAt w a (bytesV bs)) (hl : bs.length ≤ 1000000) {n : Nat} (hn : n < 18446744073709551616) :
    Calls Try.prog 49 #[.slice a bs.length c, .int .u64 n] w (fun e w' => ∃ a' c', e = .returned (.slice a' (bs ++ numL n).length c') ∧ OwnB w.heap.size w' a' c' (bs ++ numL n) ∧ Ext no w w') := by
  refine (wNum.ok _ _ _ _ (R := fun v w' => ∃ a' c', v = (.slice a' (bs ++ numL n).length c') ∧ OwnB w.heap.size w' a' c' (bs ++ numL n) ∧ Ext no w w') ?_).mono fun e w' ⟨v, he, a', c', hv, hw⟩ => ⟨a', c', by rw [he, hv], hw⟩
  unfold wNum.M
  refine (clone_spec h hl).mono fun e w5 ⟨a5, c5, he, ho5, hx5⟩ => ⟨a5, _, c5, he, ?_⟩
  refine ⟨fun k vs w1 => ∃ (m : Nat) (l : List UInt8) (a1 : Option Addr) (c1 : Nat), vs = [.int .u64 m, .slice a1 l.length c1] ∧ m < 128 ^ k ∧ m < 18446744073709551616 ∧ 0 < k ∧ k ≤ 10 ∧ l ++ numF k m = bs ++ numL n ∧ l.length + k ≤ bs.length + 10 ∧ OwnB w.heap.size w1 a1 c1 l ∧ Ext no w w1, 10,
    ⟨n, bs, a5, c5, rfl, by omega, hn, by decide, by decide, rfl, by omega, ho5, hx5⟩, ?_⟩
  rintro k w1 m0 a0 n0 c0 ⟨m, l, a1, c1, hvs, hm, hm64, hk0, hk10, hl2, hlen, ho, hx⟩
  simp only [List.cons.injEq, Value.int.injEq, Value.slice.injEq, true_and, and_true] at hvs
  obtain ⟨rfl, rfl, rfl, rfl⟩ := hvs
  obtain ⟨k, rfl⟩ : ∃ q, k = q + 1 := ⟨k - 1, by omega⟩
  simp only [numF] at hl2
  by_cases h1 : m < 128
  · rw [show decide ((m : Int) ≥ 128) = false by simp; omega, cond_false]
    rw [if_pos h1] at hl2
    refine thenW_in fun w15 h15 => ?_
    have e15 : Ext no w1 w15 := by subst h15; exact (Ext.refl _ _).alloc _
    have hv : IntKind.u8.wrap (m : Int) = ((UInt8.ofNat m).toNat : Int) := by rw [wu8 (by omega) (by omega), ofNat_lt (by omega)]
    have hb15 : Blk w15 w1.heap.size 5 (bytesV [UInt8.ofNat m]) := by subst h15; rw [hv]; exact Blk.new _ _ _
    obtain ⟨a', c', w17, hr, ho17, hx17⟩ := (ho.no e15).append (t := 23) (ty := 23) Try.underlying23 (Nat.le_trans hx.size e15.size) (xc := 1) (RowAt.of_blk hb15) (by simp; omega)
    refine ⟨a', _, c', w17, hr, a', c', by rw [hl2], by rw [← hl2]; exact ho17, (hx.trans e15).then hx17 fun b hb => .inr hb⟩
  · rw [show decide ((m : Int) ≥ 128) = true by simp; omega, cond_true]
    rw [if_neg h1] at hl2
    refine thenW_in fun w15 h15 => ?_
    have e15 : Ext no w1 w15 := by subst h15; exact (Ext.refl _ _).alloc _
    have hb15 : Blk w15 w1.heap.size 5 (bytesV [UInt8.ofNat (m % 128 + 128)]) := by subst h15; rw [or128]; exact Blk.new _ _ _
    obtain ⟨a', c', w17, hr, ho17, hx17⟩ := (ho.no e15).append (t := 23) (ty := 23) Try.underlying23 (Nat.le_trans hx.size e15.size) (xc := 1) (RowAt.of_blk hb15) (by simp; omega)
    have hdiv : Int.fdiv (m : Int) (2 ^ (min (Int.toNat 7) (IntKind.bits .u64))) = ((m / 128 : Nat) : Int) := by
      rw [show min (Int.toNat 7) (IntKind.bits .u64) = 7 from rfl, Int.fdiv_eq_ediv_of_nonneg _ (by decide)]; omega
    have hkk : 0 < k := Nat.pos_of_ne_zero fun e => by subst e; simp at hm; omega
    refine ⟨a', _, c', w17, hr, by decide, k, by omega, m / 128, l ++ [UInt8.ofNat (m % 128 + 128)], a', c', by rw [hdiv], by rw [Nat.pow_succ] at hm; omega, by omega, hkk, by omega, by rw [← hl2]; simp, by simp; omega, ho17, (hx.trans e15).then hx17 fun b hb => .inr hb⟩

/-! ### a reader -/
variable {p : Nat} {k : Int}
end
end Go.Proofs.Ytfmdpjhkojbocaa.W

/- Wire: the numbers of a reader. -/
set_option linter.unusedVariables false
set_option linter.unusedSimpArgs false
set_option maxRecDepth 20000
namespace Go.Proofs.Ytfmdpjhkojbocaa.W
open Go Go.Mx Go.Proofs
section
variable {w w' : World} {p : Nat} {bs : List UInt8} {k : Int}
/-- Num of a reader: the number, and what the reader then has. -/
def numR (s : List UInt8 × Int) : Nat × (List UInt8 × Int) :=
  if s.2 = 0 then (match rdNum s.1 with | some (n, r) => (n, (r, 0)) | none => (0, ([], 4))) else (0, s)
/-- Count: a number that is not above so much. -/
def countR (m : Int) (s : List UInt8 × Int) : Nat × (List UInt8 × Int) :=
  if (numR s).2.2 = 0 then (if m < 0 ∨ ((numR s).1 : Int) > m then (0, ([], 3)) else numR s) else (0, (numR s).2)
def doneR (s : List UInt8 × Int) : Int := if s.2 = 0 then (if s.1.length > 0 then 4 else 0) else s.2
end
end Go.Proofs.Ytfmdpjhkojbocaa.W

/- Wire: whole numbers with a sign, bytes with their length. -/
set_option linter.unusedVariables false
set_option linter.unusedSimpArgs false
set_option maxRecDepth 20000
namespace Go.Proofs.Ytfmdpjhkojbocaa.W
open Go Go.Mx Go.Proofs
/-- wire.Int -/
def wInt.M (a3 : Option Addr) (a7 : Nat) (a6 : Nat) (n2 : Int) (R : Value → World → Prop) (w : World) : Prop :=
 0 ≤ (1 : Int) ∧
 0 ≤ (63 : Int) ∧
 Calls Try.prog 49 #[.slice a3 a7 a6, .int .u64 (IntKind.u64.wrap ((BitVec.ofInt (IntKind.bits .u64) (IntKind.u64.wrap ((IntKind.u64.wrap n2) * 2 ^ (min (Int.toNat 1) (IntKind.bits .u64)))) ^^^ BitVec.ofInt (IntKind.bits .u64) (IntKind.u64.wrap (Int.fdiv n2 (2 ^ (min (Int.toNat 63) (IntKind.bits .i64)))))).toNat))] w fun a4 a5 => ∃ (a1 : Option Addr) (a2 : Nat) (a0 : Nat), a4 = .returned (.slice a1 a2 a0) ∧
 R (.slice a1 a2 a0) a5

theorem wInt.eq (b1a : Option Addr) (b1n : Nat) (b1c : Nat) (n2 : Int) (R : Value → World → Prop) (w : World) : mfunc Try.prog [] 87 [.slice b1a b1n b1c, .int .i64 n2] R w = wInt.M b1a b1n b1c n2 R w := by kernel_rfl
theorem wInt.ok (a0 : Option Addr) (a2 : Nat) (a1 : Nat) (n2 : Int) {R : Value → World → Prop} {w : World} (h : wInt.M a0 a2 a1 n2 R w) : Calls Try.prog 87 #[.slice a0 a2 a1, .int .i64 n2] w fun e w' => ∃ v, e = .returned v ∧ R v w' :=
  mfunc_ok follows (H := []) (args := [.slice a0 a2 a1, .int .i64 n2]) (by rw [wInt.eq]; exact h)

/-- wire.Bytes -/
def wBytes.M (a8 : Option Addr) (ad : Nat) (ac : Nat) (ae : Option Addr) (a5 : Nat) (a9 : Nat) (R : Value → World → Prop) (w : World) : Prop :=
 Calls Try.prog 49 #[.slice a8 ad ac, .int .u64 (IntKind.u64.wrap (a5 : Int))] w fun aa ab => ∃ (a1 : Option Addr) (a2 : Nat) (a0 : Nat), aa = .returned (.slice a1 a2 a0) ∧
 ∃ (a7 : Option Addr) (a6 : Nat) (a4 : Nat) (a3 : World), (Builtin.append_ #[23, 23] 23 #[.slice a1 a2 a0, .slice ae a5 a9]).run Try.prog ab = .ok (.slice a7 a6 a4) a3 ∧
 R (.slice a7 a6 a4) a3

theorem wBytes.eq (b1a : Option Addr) (b1n : Nat) (b1c : Nat) (x2a : Option Addr) (x2n : Nat) (x2c : Nat) (R : Value → World → Prop) (w : World) : mfunc Try.prog [] 89 [.slice b1a b1n b1c, .slice x2a x2n x2c] R w = wBytes.M b1a b1n b1c x2a x2n x2c R w := by kernel_rfl
theorem wBytes.ok (a0 : Option Addr) (a3 : Nat) (a2 : Nat) (a5 : Option Addr) (a4 : Nat) (a1 : Nat) {R : Value → World → Prop} {w : World} (h : wBytes.M a0 a3 a2 a5 a4 a1 R w) : Calls Try.prog 89 #[.slice a0 a3 a2, .slice a5 a4 a1] w fun e w' => ∃ v, e = .returned v ∧ R v w' :=
  mfunc_ok follows (H := []) (args := [.slice a0 a3 a2, .slice a5 a4 a1]) (by rw [wBytes.eq]; exact h)

/-- a number with a sign, as one without. -/
def zig (n : Int) : Nat := if 0 ≤ n then (2 * n).toNat else (-2 * n - 1).toNat
def unzig (m : Nat) : Int := if m % 2 = 0 then (m / 2 : Nat) else -((m / 2 : Nat) : Int) - 1
theorem zig_bits {n : Int} (h0 : -9223372036854775808 ≤ n) (h1 : n < 9223372036854775808) :
    IntKind.u64.wrap ((BitVec.ofInt (IntKind.bits .u64) (IntKind.u64.wrap ((IntKind.u64.wrap n) * 2 ^ (min (Int.toNat 1) (IntKind.bits .u64)))) ^^^ BitVec.ofInt (IntKind.bits .u64) (IntKind.u64.wrap (Int.fdiv n (2 ^ (min (Int.toNat 63) (IntKind.bits .i64)))))).toNat : Int) = ((zig n : Nat) : Int) := by
  rw [show min (Int.toNat 1) (IntKind.bits .u64) = 1 from rfl, show min (Int.toNat 63) (IntKind.bits .i64) = 63 from rfl, show IntKind.bits .u64 = 64 from rfl, Int.fdiv_eq_ediv_of_nonneg _ (by decide)]
  unfold zig
  by_cases h : 0 ≤ n
  · rw [if_pos h, wu64 (n := n) h (by omega), show n / 2 ^ 63 = 0 by omega, wu64 (n := n * 2 ^ 1) (by omega) (by omega), wu64 (n := 0) (by decide) (by decide)]
    obtain ⟨m, rfl⟩ : ∃ m : Nat, n = m := ⟨n.toNat, by omega⟩
    rw [show ((m : Int) * 2 ^ 1) = ((m * 2 : Nat) : Int) by omega, BitVec.ofInt_natCast, show BitVec.ofInt 64 0 = 0#64 from rfl, BitVec.xor_zero, BitVec.toNat_ofNat, Nat.mod_eq_of_lt (by omega), wu64 (by omega) (by omega)]
    omega
  · rw [if_neg h, show n / 2 ^ 63 = -1 by omega]
    have e1 : IntKind.u64.wrap (-1) = ((18446744073709551615 : Nat) : Int) := by rw [IntKind.wrap_u64]; rfl
    have e2 : IntKind.u64.wrap (IntKind.u64.wrap n * 2 ^ 1) = (((18446744073709551616 + 2 * n).toNat : Nat) : Int) := by rw [IntKind.wrap_u64, IntKind.wrap_u64]; omega
    rw [e1, e2, BitVec.ofInt_natCast, BitVec.ofInt_natCast, show BitVec.ofNat 64 18446744073709551615 = BitVec.allOnes 64 from rfl, BitVec.xor_allOnes, BitVec.toNat_not, BitVec.toNat_ofNat, Nat.mod_eq_of_lt (by omega), wu64 (by omega) (by omega)]
    omega
theorem zig_lt {n : Int} (h0 : -9223372036854775808 ≤ n) (h1 : n < 9223372036854775808) : zig n < 18446744073709551616 := by
  unfold zig; split <;> omega
section
variable {w w' : World} {a : Option Addr} {c N p : Nat} {bs : List UInt8} {k : Int}
theorem Int_spec (h : RowAt w a (bytesV bs)) (hl : bs.length ≤ 1000000) {n : Int} (h0 : -9223372036854775808 ≤ n) (h1 : n < 9223372036854775808) :
    Calls Try.prog 87 #[.slice a bs.length c, .int .i64 n] w (fun e w' => ∃ a' c', e = .returned (.slice a' (bs ++ numL (zig n)).length c') ∧ OwnB w.heap.size w' a' c' (bs ++ numL (zig n)) ∧ Ext no w w') := by
  refine (wInt.ok _ _ _ _ (R := fun v w' => ∃ a' c', v = (.slice a' (bs ++ numL (zig n)).length c') ∧ OwnB w.heap.size w' a' c' (bs ++ numL (zig n)) ∧ Ext no w w') ?_).mono fun e w' ⟨v, he, a', c', hv, hw⟩ => ⟨a', c', by rw [he, hv], hw⟩
  unfold wInt.M
  refine ⟨by decide, by decide, ?_⟩
  rw [zig_bits h0 h1]
  exact (Num_spec h hl (zig_lt h0 h1)).mono fun e w5 ⟨a', c', he, hO, hx⟩ => ⟨a', _, c', he, a', c', rfl, hO, hx⟩
theorem Bytes_spec (h : RowAt w a (bytesV bs)) (hl : bs.length ≤ 1000000) {xa : Option Addr} {xc : Nat} {xs : List UInt8} (hx : RowAt w xa (bytesV xs)) (hxl : xs.length ≤ 1000000) :
    Calls Try.prog 89 #[.slice a bs.length c, .slice xa xs.length xc] w (fun e w' => ∃ a' c', e = .returned (.slice a' (bs ++ numL xs.length ++ xs).length c') ∧ OwnB w.heap.size w' a' c' (bs ++ numL xs.length ++ xs) ∧ Ext no w w') := by
  refine (wBytes.ok _ _ _ _ _ _ (R := fun v w' => ∃ a' c', v = (.slice a' (bs ++ numL xs.length ++ xs).length c') ∧ OwnB w.heap.size w' a' c' (bs ++ numL xs.length ++ xs) ∧ Ext no w w') ?_).mono fun e w' ⟨v, he, a', c', hv, hw⟩ => ⟨a', c', by rw [he, hv], hw⟩
  unfold wBytes.M
  rw [wu64 (n := (xs.length : Int)) (by omega) (by omega)]
  refine (Num_spec h hl (by omega)).mono fun e w5 ⟨a5, c5, he, hO, hx5⟩ => ⟨a5, _, c5, he, ?_⟩
  have hnl : (numL xs.length).length ≤ 10 := numF_le 10 _
  obtain ⟨a', c', w7, hr, hO7, hx7⟩ := hO.append (t := 23) (ty := 23) Try.underlying23 hx5.size (xc := xc) (hx.no hx5) (by rw [List.length_append]; omega)
  exact ⟨a', _, c', w7, hr, a', c', rfl, hO7, hx5.then hx7 fun b hb => .inr hb⟩
def intR (s : List UInt8 × Int) : Int × (List UInt8 × Int) := (unzig (numR s).1, (numR s).2)
end
end Go.Proofs.Ytfmdpjhkojbocaa.W

/- The reference's numbers, bytes and reader; bytes held beside each other. -/
set_option linter.unusedVariables false
set_option linter.unusedSimpArgs false
set_option maxRecDepth 20000
namespace Go.Proofs.Ytfmdpjhkojbocaa.W
open Go Go.Mx Go.Proofs
/-- cachetteref01.Same -/
def wSame.M (a7 : Option Addr) (a2 : Nat) (aa : Nat) (a6 : Option Addr) (a3 : Nat) (ab : Nat) (R : Value → World → Prop) (w : World) : Prop :=
 bif (a2 : Int) != (a3 : Int) then (
 R (.bool false) w) else (
 ∃ (I0 : Nat → List Value → World → Prop) (m4 : Nat), I0 m4 [.int .i64 0] w ∧ ∀ (m5 : Nat) (a1 : World) (i3 : Int), I0 m5 [.int .i64 i3] a1 →
 bif decide (i3 < (a2 : Int)) then (
 thenW (a1.drew) fun a0 =>
 a7.elim False fun a8 =>
 0 ≤ (i3 : Int) ∧ (i3 : Int) < (a2 : Int) ∧
 ∃ (x9 : Int), a0.cell? (a8.add (Int.toNat i3 * 1)) = some (.int .u8 x9) ∧
 a6.elim False fun a9 =>
 0 ≤ (i3 : Int) ∧ (i3 : Int) < (a3 : Int) ∧
 ∃ (a4 : Int), a0.cell? (a9.add (Int.toNat i3 * 1)) = some (.int .u8 a4) ∧
 bif x9 != a4 then (
 R (.bool false) a0) else (
 ∃ a5, a5 < m5 ∧ I0 a5 [.int .i64 (IntKind.i64.wrap (i3 + 1))] a0)) else (
 R (.bool true) a1))

theorem wSame.eq (a1a : Option Addr) (a1n : Nat) (a1c : Nat) (b2a : Option Addr) (b2n : Nat) (b2c : Nat) (R : Value → World → Prop) (w : World) : mfunc Try.prog [(0, [0, 1], [(5, (.one (.int .i64)))])] 13 [.slice a1a a1n a1c, .slice b2a b2n b2c] R w = wSame.M a1a a1n a1c b2a b2n b2c R w := by kernel_rfl
theorem wSame.ok (a1 : Option Addr) (a4 : Nat) (a3 : Nat) (a0 : Option Addr) (a2 : Nat) (a5 : Nat) {R : Value → World → Prop} {w : World} (h : wSame.M a1 a4 a3 a0 a2 a5 R w) : Calls Try.prog 13 #[.slice a1 a4 a3, .slice a0 a2 a5] w fun e w' => ∃ v, e = .returned v ∧ R v w' :=
  mfunc_ok follows (H := [(0, [0, 1], [(5, (.one (.int .i64)))])]) (args := [.slice a1 a4 a3, .slice a0 a2 a5]) (by rw [wSame.eq]; exact h)

/-- cachetteref01.Num -/
def rNum.M (n1 : Int) (R : Value → World → Prop) (w : World) : Prop :=
 bif decide (n1 < 128) then (
 thenW (w.alloc (.cells #[.int .u8 (IntKind.u8.wrap n1)] 5)) fun aa =>
 R (.slice (some (blk w.heap.size)) 1 1) aa) else (
 128 ≠ (0 : Int) ∧ thenW (w.alloc (.cells #[.int .u8 (IntKind.u8.wrap ((IntKind.u8.wrap (Int.tmod n1 128)) + 128))] 5)) fun a8 =>
 128 ≠ (0 : Int) ∧ Calls Try.prog 51 #[.int .u64 (IntKind.u64.wrap (Int.tdiv n1 128))] a8 fun a7 a9 => ∃ (a0 : Option Addr) (a2 : Nat) (a1 : Nat), a7 = .returned (.slice a0 a2 a1) ∧
 ∃ (a4 : Option Addr) (a6 : Nat) (a5 : Nat) (a3 : World), (Builtin.append_ #[23, 23] 23 #[.slice (some (blk w.heap.size)) 1 1, .slice a0 a2 a1]).run Try.prog a9 = .ok (.slice a4 a6 a5) a3 ∧
 R (.slice a4 a6 a5) a3)

theorem rNum.eq (n1 : Int) (R : Value → World → Prop) (w : World) : mfunc Try.prog [] 51 [.int .u64 n1] R w = rNum.M n1 R w := by kernel_rfl
theorem rNum.ok (n1 : Int) {R : Value → World → Prop} {w : World} (h : rNum.M n1 R w) : Calls Try.prog 51 #[.int .u64 n1] w fun e w' => ∃ v, e = .returned v ∧ R v w' :=
  mfunc_ok follows (H := []) (args := [.int .u64 n1]) (by rw [rNum.eq]; exact h)

theorem numL_le (n : Nat) : (numL n).length ≤ 10 := numF_le 10 n
theorem numF_more : ∀ (k m : Nat), m < 128 ^ k → 0 < k → numF (k + 1) m = numF k m
  | k + 1, m, h, _ => by
    by_cases h1 : m < 128
    · rw [numF, if_pos h1, numF, if_pos h1]
    · rw [numF, if_neg h1]
      conv => rhs; rw [numF, if_neg h1]
      have hk : 0 < k := Nat.pos_of_ne_zero fun e => by subst e; simp at h; omega
      rw [numF_more k (m / 128) (by rw [Nat.pow_succ] at h; omega) hk]
theorem numL_step {n : Nat} (h : n < 18446744073709551616) (h1 : ¬ n < 128) : numL n = UInt8.ofNat (n % 128 + 128) :: numL (n / 128) := by
  unfold numL
  rw [numF, if_neg h1, numF_more 9 (n / 128) (by omega) (by decide)]
section
variable {w w' : World} {a : Option Addr} {c : Nat}
theorem sameB_spec {a b : Option Addr} {c d : Nat} {x y : List UInt8} (ha : RowAt w a (bytesV x)) (hb : RowAt w b (bytesV y)) (hx : x.length < 1000000) :
    Calls Try.prog 13 #[.slice a x.length c, .slice b y.length d] w (GivesW (.bool (decide (x = y))) fun w' => Ext no w w') := by
  refine (wSame.ok _ _ _ _ _ _ (R := fun v w' => v = .bool (decide (x = y)) ∧ Ext no w w') ?_).mono fun e w' ⟨v, he, hv, hw⟩ => ⟨by rw [he, hv], hw⟩
  unfold wSame.M
  by_cases hl : x.length = y.length
  · have hl' : ((x.length : Int) != (y.length : Int)) = false := by simp [hl]
    rw [hl', cond_false]
    refine ⟨fun k vs w1 => ∃ i : Nat, vs = [.int .i64 i] ∧ k = x.length - i ∧ i ≤ x.length ∧ x.take i = y.take i ∧ Ext no w w1, x.length, ⟨0, rfl, rfl, Nat.zero_le _, rfl, Ext.refl _ _⟩, ?_⟩
    rintro k w1 i3 ⟨i, hi, rfl, hle, ht, hw⟩
    simp only [List.cons.injEq, Value.int.injEq, true_and, and_true] at hi
    subst hi
    by_cases hlt : i < x.length
    · have hd : decide ((i : Int) < (x.length : Int)) = true := by simp [hlt]
      rw [hd, cond_true]
      refine thenW_in fun w7 h7 => ?_
      have hw7 : Ext no w w7 := hw.trans (by subst h7; exact (Ext.refl _ _).drew)
      have hi2 : i < y.length := hl ▸ hlt
      have hax := ha.ext hw7 (fun _ _ h => h)
      have hby := hb.ext hw7 (fun _ _ h => h)
      obtain ⟨ad, rfl⟩ := hax.addr (by intro e; rw [bytesV, List.map_eq_nil_iff] at e; subst e; simp at hlt)
      obtain ⟨bd, rfl⟩ := hby.addr (by intro e; rw [bytesV, List.map_eq_nil_iff] at e; subst e; simp at hi2)
      refine ⟨by omega, by omega, x[i].toNat, ?_, by omega, by omega, y[i].toNat, ?_, ?_⟩
      · rw [show Int.toNat (i : Int) * 1 = i by omega]; exact hax.at_ (bytesV_get hlt)
      · rw [show Int.toNat (i : Int) * 1 = i by omega]; exact hby.at_ (bytesV_get hi2)
      · by_cases he : x[i] = y[i]
        · have h1 : ((x[i].toNat : Int) != (y[i].toNat : Int)) = false := by simp [he]
          rw [h1, cond_false]
          refine ⟨x.length - (i + 1), by omega, i + 1, by rw [w64 (by omega) (by omega)]; rfl, rfl, by omega, ?_, hw7⟩
          rw [List.take_add_one, List.take_add_one, ht]; simp [hlt, hi2, he]
        · have h1 : ((x[i].toNat : Int) != (y[i].toNat : Int)) = true := by
            simp only [bne_iff_ne, ne_eq, Int.natCast_inj, UInt8.toNat_inj]; exact he
          rw [h1, cond_true]
          exact ⟨by rw [decide_eq_false]; rintro rfl; exact he rfl, hw7⟩
    · have hd : decide ((i : Int) < (x.length : Int)) = false := by simp; omega
      rw [hd, cond_false]
      obtain rfl : i = x.length := by omega
      refine ⟨?_, hw⟩
      have : x = y := by
        rw [List.take_length] at ht
        rw [hl, List.take_length] at ht
        exact ht
      simp [this]
  · have hl' : ((x.length : Int) != (y.length : Int)) = true := by simp; omega
    rw [hl', cond_true]
    exact ⟨by rw [decide_eq_false]; rintro rfl; exact hl rfl, Ext.refl _ _⟩
theorem rNum_spec : ∀ (n : Nat) (w : World), n < 18446744073709551616 → Calls Try.prog 51 #[.int .u64 n] w (fun e w' => ∃ a' c', e = .returned (.slice a' (numL n).length c') ∧ OwnB w.heap.size w' a' c' (numL n) ∧ Ext no w w') := by
  intro n
  induction n using Nat.strongRecOn with
  | _ n ih =>
    intro w hn
    refine (rNum.ok _ (R := fun v w' => ∃ a' c', v = (.slice a' (numL n).length c') ∧ OwnB w.heap.size w' a' c' (numL n) ∧ Ext no w w') ?_).mono fun e w' ⟨v, he, a', c', hv, hw⟩ => ⟨a', c', by rw [he, hv], hw⟩
    unfold rNum.M
    have one : ∀ (w2 : World) (x : UInt8), w2 = w.alloc (.cells #[.int .u8 (x.toNat : Int)] 5) → OwnB w.heap.size w2 (some (blk w.heap.size)) 1 [x] ∧ Ext no w w2 := fun w2 x h2 => by
      have hb : Blk w2 w.heap.size 5 (bytesV [x]) := by subst h2; exact Blk.new _ _ _
      exact ⟨⟨owns_of_blk hb rfl (by simp [maxLen]), fun ad ha => by cases ha; exact ⟨Nat.le_refl _, hb.lt⟩⟩, by subst h2; exact (Ext.refl _ _).alloc _⟩
    by_cases h1 : n < 128
    · rw [show decide ((n : Int) < 128) = true by simp; omega, cond_true]
      have hv : IntKind.u8.wrap (n : Int) = ((UInt8.ofNat n).toNat : Int) := by rw [wu8 (by omega) (by omega), ofNat_lt (by omega)]
      have hL : numL n = [UInt8.ofNat n] := by unfold numL; rw [numF, if_pos h1]
      rw [hv, hL]
      refine thenW_in fun w2 h2 => ?_
      obtain ⟨q1, q2⟩ := one w2 _ h2
      exact ⟨_, 1, rfl, q1, q2⟩
    · rw [show decide ((n : Int) < 128) = false by simp; omega, cond_false]
      have hm : Int.tmod (n : Int) 128 = ((n % 128 : Nat) : Int) := by rw [Int.tmod_eq_emod_of_nonneg (by omega)]; omega
      have hd : Int.tdiv (n : Int) 128 = ((n / 128 : Nat) : Int) := by rw [Int.tdiv_eq_ediv_of_nonneg (by omega)]; omega
      have hv : IntKind.u8.wrap ((IntKind.u8.wrap (Int.tmod (n : Int) 128)) + 128) = ((UInt8.ofNat (n % 128 + 128)).toNat : Int) := by
        rw [hm, wu8 (n := ((n % 128 : Nat) : Int)) (by omega) (by omega), wu8 (by omega) (by omega), ofNat_lt (by omega)]; omega
      rw [hv, hd, wu64 (by omega) (by omega), numL_step hn h1]
      refine ⟨by decide, thenW_in fun w3 h3 => ⟨by decide, ?_⟩⟩
      obtain ⟨q1, q2⟩ := one w3 _ h3
      refine (ih (n / 128) (by omega) w3 (by omega)).mono fun e w6 ⟨a6, c6, he, ho6, x6⟩ => ⟨a6, _, c6, he, ?_⟩
      obtain ⟨a', c', w8, hr, ho8, x8⟩ := (W.OwnB.no q1 x6).append (t := 23) (ty := 23) Try.underlying23 (Nat.le_trans q2.size x6.size) (xc := c6) (W.OwnB.row ho6) (by have := numL_le (n / 128); simp; omega)
      exact ⟨a', _, c', w8, hr, a', c', rfl, ho8, (q2.trans x6).then x8 fun b hb => .inr hb⟩

end
section
variable {w w' : World} {a : Option Addr} {c : Nat} {bs : List UInt8} {p N : Nat} {k : Int}
/-! ### where the number ends -/
end
end Go.Proofs.Ytfmdpjhkojbocaa.W

/- The reference's oracle: one list of all that was handed out. -/
set_option linter.unusedVariables false
set_option linter.unusedSimpArgs false
set_option maxRecDepth 20000
namespace Go.Proofs.Ytfmdpjhkojbocaa
open Go Go.Mx Go.Proofs
/-- (*cachetteref03.Oracle).at -/
def cachetteref03_Oracle_at.M (o1 : Option Addr) (h2 : Int) (R : Value → World → Prop) (w : World) : Prop :=
 ∃ (I0 : Nat → List Value → World → Prop) (m4 : Nat), I0 m4 [.int .i64 0] w ∧ ∀ (m5 : Nat) (a0 : World) (i3 : Int), I0 m5 [.int .i64 i3] a0 →
 o1.elim False fun a7 =>
 ∃ (ab : Option Addr) (a4 : Nat) (aa : Nat), a0.cell? (a7.add 1) = some (.slice ab a4 aa) ∧
 bif decide (i3 < (a4 : Int)) then (
 o1.elim False fun a9 =>
 ∃ (a1 : Option Addr) (a2 : Nat) (a3 : Nat), a0.cell? (a9.add 1) = some (.slice a1 a2 a3) ∧
 a1.elim False fun a8 =>
 0 ≤ (i3 : Int) ∧ (i3 : Int) < (a2 : Int) ∧
 ∃ (a6 : Int), a0.cell? ((a8.add (Int.toNat i3 * 6)).add 0) = some (.int .u64 a6) ∧
 bif a6 == h2 then (
 R (.int .i64 i3) a0) else (
 ∃ a5, a5 < m5 ∧ I0 a5 [.int .i64 (IntKind.i64.wrap (i3 + 1))] a0)) else (
 R (.int .i64 (-1)) a0)

theorem cachetteref03_Oracle_at.eq (o1 : Option Addr) (h2 : Int) (R : Value → World → Prop) (w : World) : mfunc Try.prog [(0, [0, 1], [(5, (.one (.int .i64)))])] 71 [.pointer o1, .int .u64 h2] R w = cachetteref03_Oracle_at.M o1 h2 R w := by kernel_rfl
theorem cachetteref03_Oracle_at.ok (o1 : Option Addr) (h2 : Int) {R : Value → World → Prop} {w : World} (h : cachetteref03_Oracle_at.M o1 h2 R w) : Calls Try.prog 71 #[.pointer o1, .int .u64 h2] w fun e w' => ∃ v, e = .returned v ∧ R v w' :=
  mfunc_ok follows (H := [(0, [0, 1], [(5, (.one (.int .i64)))])]) (args := [.pointer o1, .int .u64 h2]) (by rw [cachetteref03_Oracle_at.eq]; exact h)

def cachetteref03_Oracle_at.N (o1 : Option Addr) (h2 : Int) (R : Value → World → Prop) (w : World) : Prop :=
 ∃ (I0 : Nat → List Value → World → Prop) (m4 : Nat), I0 m4 [.int .i64 0] w ∧ ∀ (m5 : Nat) (a0 : World) (i3 : Int), I0 m5 [.int .i64 i3] a0 →
 ∃ a7 : Addr, o1 = some a7 ∧
 ∃ (aa : Option Addr) (a5 : Nat) (a9 : Nat), a0.cell? (a7.add 1) = some (.slice aa a5 a9) ∧
 (i3 < (a5 : Int) →
 ∃ (a2 : Option Addr) (a1 : Nat) (a3 : Nat), a0.cell? (a7.add 1) = some (.slice a2 a1 a3) ∧
 ∃ a8 : Addr, a2 = some a8 ∧
 0 ≤ (i3 : Int) ∧ (i3 : Int) < (a1 : Int) ∧
 ∃ (a4 : Int), a0.cell? ((a8.add (Int.toNat i3 * 6)).add 0) = some (.int .u64 a4) ∧
 (a4 = h2 →
 R (.int .i64 i3) a0) ∧
 (a4 ≠ h2 →
 (-9223372036854775808 : Int) ≤ (i3 + 1) ∧ (i3 + 1) < 9223372036854775808 ∧
 ∃ a6, a6 < m5 ∧ I0 a6 [.int .i64 (i3 + 1)] a0)) ∧
 ((a5 : Int) ≤ i3 →
 R (.int .i64 (-1)) a0)

theorem cachetteref03_Oracle_at.up (o1 : Option Addr) (h2 : Int) {R : Value → World → Prop} {w : World} (h : cachetteref03_Oracle_at.N o1 h2 R w) : cachetteref03_Oracle_at.M o1 h2 R w := by
  unfold cachetteref03_Oracle_at.M
  unfold cachetteref03_Oracle_at.N at h
  obtain ⟨I0, m4, h0, h⟩ := h
  refine ⟨I0, m4, h0, fun m5 ai i3 hI => ?_⟩
  have h := h m5 ai i3 hI
  obtain ⟨a7, a9, h⟩ := h
  refine elim_some a9 ?_
  obtain ⟨ak, ae, ad, ac, h⟩ := h
  refine ⟨ak, ae, ad, ac, ?_⟩
  refine bif_of (fun a5 => ?_) (fun a5 => ?_)
  · have h := h.1 (of_decide_eq_true a5)
    refine elim_some a9 ?_
    obtain ⟨a2, a8, a3, a0, h⟩ := h
    refine ⟨a2, a8, a3, a0, ?_⟩
    obtain ⟨al, a4, h⟩ := h
    refine elim_some a4 ?_
    obtain ⟨ab, aj, h⟩ := h
    refine ⟨ab, aj, ?_⟩
    obtain ⟨ag, a6, h⟩ := h
    refine ⟨ag, a6, ?_⟩
    refine bif_of (fun a1 => ?_) (fun a1 => ?_)
    · have h := h.1 (beq_t a1)
      exact h
    · have h := h.2 (beq_f a1)
      obtain ⟨af, ah, h⟩ := h
      try rw [w64 af ah]
      obtain ⟨aa, hk, h⟩ := h
      exact ⟨aa, hk, h⟩
  · have h := h.2 (Int.not_lt.1 (of_decide_eq_false a5))
    exact h

theorem cachetteref03_Oracle_at.go (o1 : Option Addr) (h2 : Int) {R : Value → World → Prop} {w : World} (h : cachetteref03_Oracle_at.N o1 h2 R w) : Calls Try.prog 71 #[.pointer o1, .int .u64 h2] w fun e w' => ∃ v, e = .returned v ∧ R v w' := cachetteref03_Oracle_at.ok o1 h2 (cachetteref03_Oracle_at.up o1 h2 h)
theorem cachetteref03_Oracle_at.run (o1 : Option Addr) (h2 : Int) {V : Value} {Q : World → Prop} {w : World} (h : cachetteref03_Oracle_at.N o1 h2 (fun v w' => v = V ∧ Q w') w) : Calls Try.prog 71 #[.pointer o1, .int .u64 h2] w (Ret V Q) := (cachetteref03_Oracle_at.go o1 h2 h).mono fun e w' ⟨v, he, hv, hq⟩ => ⟨by rw [he, hv], hq⟩

/-- (*cachetteref03.Oracle).put -/
def cachetteref03_Oracle_put.M (o1 : Option Addr) (g4 : Int) (dg : Int) (ex : Option Addr) (f0 : Nat) (f8 : Nat) (f2 : Option Addr) (fb : Nat) (f3 : Nat) (fy : Int) (g5 : Int) (R : Value → World → Prop) (w : World) : Prop :=
 thenW (w.alloc (.cells #[.int .u64 g4, .int .i64 dg, .slice ex f0 f8, .slice f2 fb f3, .int .u64 fy, .int .u64 g5] 105)) fun g7 =>
 ∃ (I0 : Nat → List Value → World → Prop) (g1 : Nat), I0 g1 [.int .u64 0] g7 ∧ ∀ (f5 : Nat) (a6 : World) (h9 : Int), I0 f5 [.int .u64 h9] a6 →
 o1.elim False fun g9 =>
 ∃ (b9 : Option Addr) (a7 : Nat) (b7 : Nat), a6.cell? (g9.add 0) = some (.slice b9 a7 b7) ∧
 bif decide ((a7 : Int) > 0) then (
 bif h9 == 0 then (
 o1.elim False fun fz =>
 ∃ (ac : Option Addr) (ad : Nat) (bh : Nat), a6.cell? (fz.add 0) = some (.slice ac ad bh) ∧
 ac.elim False fun g0 =>
 0 ≤ (0 : Int) ∧ (0 : Int) < (ad : Int) ∧
 ∃ (fh : Int), a6.cell? (g0.add (Int.toNat 0 * 1)) = some (.int .u64 fh) ∧
 o1.elim False fun g6 =>
 ∃ (a4 : Option Addr) (a2 : Nat) (a0 : Nat), a6.cell? (g6.add 0) = some (.slice a4 a2 a0) ∧
 (0 : Int) ≤ (1 : Int) ∧ (1 : Int) ≤ (a2 : Int) ∧
 o1.elim False fun fp =>
 canStore a6 ((fp.add 0).add 0) ∧
 thenW (a6.setCell ((fp.add 0).add 0) (.slice (if a0 = Int.toNat 1 then a4 else Option.map (fun z : Addr => z.add ((Int.toNat 1) * 1)) a4) (a2 - (Int.toNat 1)) (a0 - (Int.toNat 1)))) fun fd =>
 ∃ fw, fw < f5 ∧ I0 fw [.int .u64 fh] fd) else (
 Calls Try.prog 71 #[.pointer o1, .int .u64 h9] a6 fun f6 af => ∃ (c1 : Int), f6 = .returned (.int .i64 c1) ∧
 bif decide (c1 ≥ 0) then (
 o1.elim False fun g8 =>
 ∃ (ae : Option Addr) (ab : Nat) (am : Nat), af.cell? (g8.add 0) = some (.slice ae ab am) ∧
 ae.elim False fun gb =>
 0 ≤ (0 : Int) ∧ (0 : Int) < (ab : Int) ∧
 ∃ (fu : Int), af.cell? (gb.add (Int.toNat 0 * 1)) = some (.int .u64 fu) ∧
 o1.elim False fun g2 =>
 ∃ (a1 : Option Addr) (a5 : Nat) (a3 : Nat), af.cell? (g2.add 0) = some (.slice a1 a5 a3) ∧
 (0 : Int) ≤ (1 : Int) ∧ (1 : Int) ≤ (a5 : Int) ∧
 o1.elim False fun fo =>
 canStore af ((fo.add 0).add 0) ∧
 thenW (af.setCell ((fo.add 0).add 0) (.slice (if a3 = Int.toNat 1 then a1 else Option.map (fun z : Addr => z.add ((Int.toNat 1) * 1)) a1) (a5 - (Int.toNat 1)) (a3 - (Int.toNat 1)))) fun ew =>
 ∃ fi, fi < f5 ∧ I0 fi [.int .u64 fu] ew) else (
 bif h9 == 0 then (
 ∃ (I2 : Nat → List Value → World → Prop) (ga : Nat), I2 ga [.int .u64 1] af ∧ ∀ (fq : Nat) (dq : World) (eq : Int), I2 fq [.int .u64 eq] dq →
 Calls Try.prog 71 #[.pointer o1, .int .u64 eq] dq fun f7 dd => ∃ (cq : Int), f7 = .returned (.int .i64 cq) ∧
 bif decide (cq ≥ 0) then (
 ∃ fs, fs < fq ∧ I2 fs [.int .u64 (IntKind.u64.wrap (eq + 1))] dd) else (
 canStore dd (((blk w.heap.size).add 0).add 0) ∧
 thenW (dd.setCell (((blk w.heap.size).add 0).add 0) (.int .u64 eq)) fun f9 =>
 thenW (f9.drew) fun bu =>
 o1.elim False fun fl =>
 ∃ (dm : Option Addr) (d7 : Nat) (dj : Nat), bu.cell? (fl.add 1) = some (.slice dm d7 dj) ∧
 ∃ (dp : Int) (ai : Int) (cx : Option Addr) (bz : Nat) (ct : Nat) (cn : Option Addr) (cp : Nat) (d2 : Nat) (dy : Int) (dt : Int), cellsAt bu (blk w.heap.size) [.int .u64 dp, .int .i64 ai, .slice cx bz ct, .slice cn cp d2, .int .u64 dy, .int .u64 dt] 0 ∧
 thenW (bu.alloc (.cells #[.int .u64 dp, .int .i64 ai, .slice cx bz ct, .slice cn cp d2, .int .u64 dy, .int .u64 dt] 105)) fun dr =>
 dr.cell? (fl.add 1) = some (.slice dm d7 dj) ∧
 ∃ (er : Option Addr) (ed : Nat) (ec : Nat) (da : World), (Builtin.append_ #[61, 61] 61 #[.slice dm d7 dj, .slice (some (blk bu.heap.size)) 1 1]).run Try.prog dr = .ok (.slice er ed ec) da ∧
 o1.elim False fun fr =>
 canStore da ((fr.add 1).add 0) ∧
 thenW (da.setCell ((fr.add 1).add 0) (.slice er ed ec)) fun f4 =>
 R (.int .u64 eq) f4)) else (
 Calls Try.prog 71 #[.pointer o1, .int .u64 h9] af fun ff dc => ∃ (d4 : Int), ff = .returned (.int .i64 d4) ∧
 bif decide (d4 ≥ 0) then (
 ∃ (I2 : Nat → List Value → World → Prop) (g3 : Nat), I2 g3 [.int .u64 1] dc ∧ ∀ (fk : Nat) (et : World) (e7 : Int), I2 fk [.int .u64 e7] et →
 Calls Try.prog 71 #[.pointer o1, .int .u64 e7] et fun fe di => ∃ (bx : Int), fe = .returned (.int .i64 bx) ∧
 bif decide (bx ≥ 0) then (
 ∃ fx, fx < fk ∧ I2 fx [.int .u64 (IntKind.u64.wrap (e7 + 1))] di) else (
 canStore di (((blk w.heap.size).add 0).add 0) ∧
 thenW (di.setCell (((blk w.heap.size).add 0).add 0) (.int .u64 e7)) fun fg =>
 thenW (fg.drew) fun bv =>
 o1.elim False fun fm =>
 ∃ (dh : Option Addr) (db : Nat) (d8 : Nat), bv.cell? (fm.add 1) = some (.slice dh db d8) ∧
 ∃ (ej : Int) (al : Int) (d1 : Option Addr) (cf : Nat) (ch : Nat) (cy : Option Addr) (cc : Nat) (cb : Nat) (du : Int) (eh : Int), cellsAt bv (blk w.heap.size) [.int .u64 ej, .int .i64 al, .slice d1 cf ch, .slice cy cc cb, .int .u64 du, .int .u64 eh] 0 ∧
 thenW (bv.alloc (.cells #[.int .u64 ej, .int .i64 al, .slice d1 cf ch, .slice cy cc cb, .int .u64 du, .int .u64 eh] 105)) fun e8 =>
 e8.cell? (fm.add 1) = some (.slice dh db d8) ∧
 ∃ (dx : Option Addr) (e4 : Nat) (ds : Nat) (dk : World), (Builtin.append_ #[61, 61] 61 #[.slice dh db d8, .slice (some (blk bv.heap.size)) 1 1]).run Try.prog e8 = .ok (.slice dx e4 ds) dk ∧
 o1.elim False fun fv =>
 canStore dk ((fv.add 1).add 0) ∧
 thenW (dk.setCell ((fv.add 1).add 0) (.slice dx e4 ds)) fun ey =>
 R (.int .u64 e7) ey)) else (
 canStore dc (((blk w.heap.size).add 0).add 0) ∧
 thenW (dc.setCell (((blk w.heap.size).add 0).add 0) (.int .u64 h9)) fun fa =>
 thenW (fa.drew) fun bw =>
 o1.elim False fun ft =>
 ∃ (df : Option Addr) (de : Nat) (dl : Nat), bw.cell? (ft.add 1) = some (.slice df de dl) ∧
 ∃ (el : Int) (ag : Int) (d6 : Option Addr) (cu : Nat) (c9 : Nat) (cg : Option Addr) (c3 : Nat) (ck : Nat) (ev : Int) (eg : Int), cellsAt bw (blk w.heap.size) [.int .u64 el, .int .i64 ag, .slice d6 cu c9, .slice cg c3 ck, .int .u64 ev, .int .u64 eg] 0 ∧
 thenW (bw.alloc (.cells #[.int .u64 el, .int .i64 ag, .slice d6 cu c9, .slice cg c3 ck, .int .u64 ev, .int .u64 eg] 105)) fun ep =>
 ep.cell? (ft.add 1) = some (.slice df de dl) ∧
 ∃ (es : Option Addr) (eu : Nat) (dv : Nat) (d9 : World), (Builtin.append_ #[61, 61] 61 #[.slice df de dl, .slice (some (blk bw.heap.size)) 1 1]).run Try.prog ep = .ok (.slice es eu dv) d9 ∧
 o1.elim False fun fj =>
 canStore d9 ((fj.add 1).add 0) ∧
 thenW (d9.setCell ((fj.add 1).add 0) (.slice es eu dv)) fun ez =>
 R (.int .u64 h9) ez))))) else (
 bif h9 == 0 then (
 ∃ (I2 : Nat → List Value → World → Prop) (f1 : Nat), I2 f1 [.int .u64 1] a6 ∧ ∀ (ef : Nat) (c7 : World) (b2 : Int), I2 ef [.int .u64 b2] c7 →
 Calls Try.prog 71 #[.pointer o1, .int .u64 b2] c7 fun dz az => ∃ (av : Int), dz = .returned (.int .i64 av) ∧
 bif decide (av ≥ 0) then (
 ∃ eo, eo < ef ∧ I2 eo [.int .u64 (IntKind.u64.wrap (b2 + 1))] az) else (
 canStore az (((blk w.heap.size).add 0).add 0) ∧
 thenW (az.setCell (((blk w.heap.size).add 0).add 0) (.int .u64 b2)) fun dw =>
 thenW (dw.drew) fun ak =>
 o1.elim False fun en =>
 ∃ (ax : Option Addr) (ap : Nat) (bc : Nat), ak.cell? (en.add 1) = some (.slice ax ap bc) ∧
 ∃ (co : Int) (aa : Int) (ao : Option Addr) (bo : Nat) (bq : Nat) (bi : Option Addr) (be : Nat) (ba : Nat) (c8 : Int) (cv : Int), cellsAt ak (blk w.heap.size) [.int .u64 co, .int .i64 aa, .slice ao bo bq, .slice bi be ba, .int .u64 c8, .int .u64 cv] 0 ∧
 thenW (ak.alloc (.cells #[.int .u64 co, .int .i64 aa, .slice ao bo bq, .slice bi be ba, .int .u64 c8, .int .u64 cv] 105)) fun c4 =>
 c4.cell? (en.add 1) = some (.slice ax ap bc) ∧
 ∃ (cw : Option Addr) (ce : Nat) (cl : Nat) (b1 : World), (Builtin.append_ #[61, 61] 61 #[.slice ax ap bc, .slice (some (blk ak.heap.size)) 1 1]).run Try.prog c4 = .ok (.slice cw ce cl) b1 ∧
 o1.elim False fun ei =>
 canStore b1 ((ei.add 1).add 0) ∧
 thenW (b1.setCell ((ei.add 1).add 0) (.slice cw ce cl)) fun ee =>
 R (.int .u64 b2) ee)) else (
 Calls Try.prog 71 #[.pointer o1, .int .u64 h9] a6 fun e5 bm => ∃ (b4 : Int), e5 = .returned (.int .i64 b4) ∧
 bif decide (b4 ≥ 0) then (
 ∃ (I2 : Nat → List Value → World → Prop) (fc : Nat), I2 fc [.int .u64 1] bm ∧ ∀ (e2 : Nat) (d5 : World) (bk : Int), I2 e2 [.int .u64 bk] d5 →
 Calls Try.prog 71 #[.pointer o1, .int .u64 bk] d5 fun e3 bs => ∃ (aq : Int), e3 = .returned (.int .i64 aq) ∧
 bif decide (aq ≥ 0) then (
 ∃ eb, eb < e2 ∧ I2 eb [.int .u64 (IntKind.u64.wrap (bk + 1))] bs) else (
 canStore bs (((blk w.heap.size).add 0).add 0) ∧
 thenW (bs.setCell (((blk w.heap.size).add 0).add 0) (.int .u64 bk)) fun e9 =>
 thenW (e9.drew) fun ah =>
 o1.elim False fun ek =>
 ∃ (au : Option Addr) (b5 : Nat) (bn : Nat), ah.cell? (ek.add 1) = some (.slice au b5 bn) ∧
 ∃ (cr : Int) (a8 : Int) (bd : Option Addr) (bb : Nat) (bl : Nat) (bg : Option Addr) (ay : Nat) (br : Nat) (d0 : Int) (d3 : Int), cellsAt ah (blk w.heap.size) [.int .u64 cr, .int .i64 a8, .slice bd bb bl, .slice bg ay br, .int .u64 d0, .int .u64 d3] 0 ∧
 thenW (ah.alloc (.cells #[.int .u64 cr, .int .i64 a8, .slice bd bb bl, .slice bg ay br, .int .u64 d0, .int .u64 d3] 105)) fun cj =>
 cj.cell? (ek.add 1) = some (.slice au b5 bn) ∧
 ∃ (c0 : Option Addr) (ca : Nat) (cm : Nat) (bj : World), (Builtin.append_ #[61, 61] 61 #[.slice au b5 bn, .slice (some (blk ah.heap.size)) 1 1]).run Try.prog cj = .ok (.slice c0 ca cm) bj ∧
 o1.elim False fun e1 =>
 canStore bj ((e1.add 1).add 0) ∧
 thenW (bj.setCell ((e1.add 1).add 0) (.slice c0 ca cm)) fun em =>
 R (.int .u64 bk) em)) else (
 canStore bm (((blk w.heap.size).add 0).add 0) ∧
 thenW (bm.setCell (((blk w.heap.size).add 0).add 0) (.int .u64 h9)) fun e0 =>
 thenW (e0.drew) fun aj =>
 o1.elim False fun ea =>
 ∃ (b8 : Option Addr) (ar : Nat) (aw : Nat), aj.cell? (ea.add 1) = some (.slice b8 ar aw) ∧
 ∃ (c6 : Int) (a9 : Int) (b3 : Option Addr) (b6 : Nat) (bf : Nat) (b0 : Option Addr) (bp : Nat) (an : Nat) (cs : Int) (cz : Int), cellsAt aj (blk w.heap.size) [.int .u64 c6, .int .i64 a9, .slice b3 b6 bf, .slice b0 bp an, .int .u64 cs, .int .u64 cz] 0 ∧
 thenW (aj.alloc (.cells #[.int .u64 c6, .int .i64 a9, .slice b3 b6 bf, .slice b0 bp an, .int .u64 cs, .int .u64 cz] 105)) fun ci =>
 ci.cell? (ea.add 1) = some (.slice b8 ar aw) ∧
 ∃ (c5 : Option Addr) (c2 : Nat) (cd : Nat) (bt : World), (Builtin.append_ #[61, 61] 61 #[.slice b8 ar aw, .slice (some (blk aj.heap.size)) 1 1]).run Try.prog ci = .ok (.slice c5 c2 cd) bt ∧
 o1.elim False fun e6 =>
 canStore bt ((e6.add 1).add 0) ∧
 thenW (bt.setCell ((e6.add 1).add 0) (.slice c5 c2 cd)) fun dn =>
 R (.int .u64 h9) dn)))

theorem cachetteref03_Oracle_put.eq (o1 : Option Addr) (rH2 : Int) (rKind3 : Int) (rA4a : Option Addr) (rA4n : Nat) (rA4c : Nat) (rB5a : Option Addr) (rB5n : Nat) (rB5c : Nat) (rN6 : Int) (rM7 : Int) (R : Value → World → Prop) (w : World) : mfunc Try.prog [(0, [0, 3], [(5, (.one (.int .u64)))]), (2, [0, 3], [(5, (.one (.int .u64)))])] 47 [.pointer o1, .agg #[.int .u64 rH2, .int .i64 rKind3, .slice rA4a rA4n rA4c, .slice rB5a rB5n rB5c, .int .u64 rN6, .int .u64 rM7]] R w = cachetteref03_Oracle_put.M o1 rH2 rKind3 rA4a rA4n rA4c rB5a rB5n rB5c rN6 rM7 R w := by kernel_rfl
theorem cachetteref03_Oracle_put.ok (o1 : Option Addr) (a8 : Int) (a0 : Int) (a5 : Option Addr) (a3 : Nat) (a2 : Nat) (a4 : Option Addr) (a6 : Nat) (a1 : Nat) (a7 : Int) (a9 : Int) {R : Value → World → Prop} {w : World} (h : cachetteref03_Oracle_put.M o1 a8 a0 a5 a3 a2 a4 a6 a1 a7 a9 R w) : Calls Try.prog 47 #[.pointer o1, .agg #[.int .u64 a8, .int .i64 a0, .slice a5 a3 a2, .slice a4 a6 a1, .int .u64 a7, .int .u64 a9]] w fun e w' => ∃ v, e = .returned v ∧ R v w' :=
  mfunc_ok follows (H := [(0, [0, 3], [(5, (.one (.int .u64)))]), (2, [0, 3], [(5, (.one (.int .u64)))])]) (args := [.pointer o1, .agg #[.int .u64 a8, .int .i64 a0, .slice a5 a3 a2, .slice a4 a6 a1, .int .u64 a7, .int .u64 a9]]) (by rw [cachetteref03_Oracle_put.eq]; exact h)

def cachetteref03_Oracle_put.N (o1 : Option Addr) (en : Int) (cq : Int) (dp : Option Addr) (dr : Nat) (dx : Nat) (dt : Option Addr) (e3 : Nat) (dv : Nat) (em : Int) (ep : Int) (R : Value → World → Prop) (w : World) : Prop :=
 ∀ (e6 : World) (p9 : Nat), Ext no w e6 → Priv w e6 [p9] →
 ∃ (I0 : Nat → List Value → World → Prop) (el : Nat), I0 el [.int .u64 0, .int .u64 en, .int .i64 cq, .slice dp dr dx, .slice dt e3 dv, .int .u64 em, .int .u64 ep] e6 ∧ ∀ (du : Nat) (a2 : World) (ay : Int) (d4 : Int) (a0 : Int) (al : Option Addr) (ao : Nat) (am : Nat) (ak : Option Addr) (aa : Nat) (af : Nat) (c7 : Int) (c6 : Int), I0 du [.int .u64 ay, .int .u64 d4, .int .i64 a0, .slice al ao am, .slice ak aa af, .int .u64 c7, .int .u64 c6] a2 →
 ∃ a1 : Addr, o1 = some a1 ∧
 ∃ (b7 : Option Addr) (a6 : Nat) (bt : Nat), a2.cell? (a1.add 0) = some (.slice b7 a6 bt) ∧
 ((a6 : Int) > 0 →
 (ay = 0 →
 ∃ (aj : Option Addr) (ab : Nat) (b3 : Nat), a2.cell? (a1.add 0) = some (.slice aj ab b3) ∧
 ∃ ej : Addr, aj = some ej ∧
 (0 : Int) < (ab : Int) ∧
 ∃ (ef : Int), a2.cell? (ej.add (Int.toNat 0 * 1)) = some (.int .u64 ef) ∧
 ∃ (an : Option Addr) (a4 : Nat) (a3 : Nat), a2.cell? (a1.add 0) = some (.slice an a4 a3) ∧
 (1 : Int) ≤ (a4 : Int) ∧ 
 canStore a2 ((a1.add 0).add 0) ∧
 (∀ p ∈ [p9], p ≠ Addr.block (a1.add 0)) ∧
 thenW (a2.setCell ((a1.add 0).add 0) (.slice (cutA an a3 1 1) (a4 - 1) (a3 - 1))) fun e1 =>
 ∃ eg, eg < du ∧ I0 eg [.int .u64 ef, .int .u64 d4, .int .i64 a0, .slice al ao am, .slice ak aa af, .int .u64 c7, .int .u64 c6] e1) ∧
 (ay ≠ 0 →
 Calls Try.prog 71 #[.pointer o1, .int .u64 ay] a2 fun e7 ah => ∃ (bj : Int), e7 = .returned (.int .i64 bj) ∧
 Keep [p9] a2 ah ∧
 (bj ≥ 0 →
 ∃ (ag : Option Addr) (ae : Nat) (bh : Nat), ah.cell? (a1.add 0) = some (.slice ag ae bh) ∧
 ∃ ea : Addr, ag = some ea ∧
 (0 : Int) < (ae : Int) ∧
 ∃ (eh : Int), ah.cell? (ea.add (Int.toNat 0 * 1)) = some (.int .u64 eh) ∧
 ∃ (a9 : Option Addr) (a7 : Nat) (a5 : Nat), ah.cell? (a1.add 0) = some (.slice a9 a7 a5) ∧
 (1 : Int) ≤ (a7 : Int) ∧ 
 canStore ah ((a1.add 0).add 0) ∧
 (∀ p ∈ [p9], p ≠ Addr.block (a1.add 0)) ∧
 thenW (ah.setCell ((a1.add 0).add 0) (.slice (cutA a9 a5 1 1) (a7 - 1) (a5 - 1))) fun dq =>
 ∃ ek, ek < du ∧ I0 ek [.int .u64 eh, .int .u64 d4, .int .i64 a0, .slice al ao am, .slice ak aa af, .int .u64 c7, .int .u64 c6] dq) ∧
 (bj < 0 →
 Calls Try.prog 71 #[.pointer o1, .int .u64 ay] ah fun e9 d0 => ∃ (b1 : Int), e9 = .returned (.int .i64 b1) ∧
 Keep [p9] ah d0 ∧
 (b1 ≥ 0 →
 ∃ (I2 : Nat → List Value → World → Prop) (eq : Nat), I2 eq [.int .u64 1, .int .u64 d4, .int .i64 a0, .slice al ao am, .slice ak aa af, .int .u64 c7, .int .u64 c6] d0 ∧ ∀ (ei : Nat) (cv : World) (dh : Int) (ed : Int) (au : Int) (cr : Option Addr) (cp : Nat) (ce : Nat) (cz : Option Addr) (cw : Nat) (cc : Nat) (dw : Int) (e8 : Int), I2 ei [.int .u64 dh, .int .u64 ed, .int .i64 au, .slice cr cp ce, .slice cz cw cc, .int .u64 dw, .int .u64 e8] cv →
 Calls Try.prog 71 #[.pointer o1, .int .u64 dh] cv fun dz cu => ∃ (ba : Int), dz = .returned (.int .i64 ba) ∧
 Keep [p9] cv cu ∧
 (ba ≥ 0 →
 ∃ eb, eb < ei ∧ I2 eb [.int .u64 (IntKind.u64.wrap (dh + 1)), .int .u64 ed, .int .i64 au, .slice cr cp ce, .slice cz cw cc, .int .u64 dw, .int .u64 e8] cu) ∧
 (ba < 0 →
 ∀ (bw : World), Ext (fun b => b = p9) cu bw →
 ∃ (cj : Option Addr) (cg : Nat) (cx : Nat), bw.cell? (a1.add 1) = some (.slice cj cg cx) ∧
 ∀ (bu : World) (dn : Nat), Ext no bw bu → Blk bu dn 105 [.int .u64 dh, .int .i64 au, .slice cr cp ce, .slice cz cw cc, .int .u64 dw, .int .u64 e8] → bw.heap.size ≤ dn → dn < bu.heap.size →
 bu.cell? (a1.add 1) = some (.slice cj cg cx) ∧
 ∃ (dd : Option Addr) (db : Nat) (d5 : Nat) (cn : World), (Builtin.append_ #[61, 61] 61 #[.slice cj cg cx, .slice (some (blk dn)) 1 1]).run Try.prog bu = .ok (.slice dd db d5) cn ∧
 canStore cn ((a1.add 1).add 0) ∧
 thenW (cn.setCell ((a1.add 1).add 0) (.slice dd db d5)) fun e2 =>
 R (.int .u64 dh) e2)) ∧
 (b1 < 0 →
 ∀ (bv : World), Ext (fun b => b = p9) d0 bv →
 ∃ (ci : Option Addr) (ct : Nat) (ch : Nat), bv.cell? (a1.add 1) = some (.slice ci ct ch) ∧
 ∀ (bd : World) (dm : Nat), Ext no bv bd → Blk bd dm 105 [.int .u64 ay, .int .i64 a0, .slice al ao am, .slice ak aa af, .int .u64 c7, .int .u64 c6] → bv.heap.size ≤ dm → dm < bd.heap.size →
 bd.cell? (a1.add 1) = some (.slice ci ct ch) ∧
 ∃ (dg : Option Addr) (de : Nat) (dc : Nat) (cd : World), (Builtin.append_ #[61, 61] 61 #[.slice ci ct ch, .slice (some (blk dm)) 1 1]).run Try.prog bd = .ok (.slice dg de dc) cd ∧
 canStore cd ((a1.add 1).add 0) ∧
 thenW (cd.setCell ((a1.add 1).add 0) (.slice dg de dc)) fun e0 =>
 R (.int .u64 ay) e0)))) ∧
 ((a6 : Int) ≤ 0 →
 (ay = 0 →
 ∃ (I2 : Nat → List Value → World → Prop) (eo : Nat), I2 eo [.int .u64 1, .int .u64 d4, .int .i64 a0, .slice al ao am, .slice ak aa af, .int .u64 c7, .int .u64 c6] a2 ∧ ∀ (ee : Nat) (d1 : World) (d6 : Int) (ec : Int) (ar : Int) (cm : Option Addr) (cl : Nat) (cy : Nat) (d3 : Option Addr) (cs : Nat) (ck : Nat) (dy : Int) (e4 : Int), I2 ee [.int .u64 d6, .int .u64 ec, .int .i64 ar, .slice cm cl cy, .slice d3 cs ck, .int .u64 dy, .int .u64 e4] d1 →
 Calls Try.prog 71 #[.pointer o1, .int .u64 d6] d1 fun ds cf => ∃ (bg : Int), ds = .returned (.int .i64 bg) ∧
 Keep [p9] d1 cf ∧
 (bg ≥ 0 →
 ∃ d7, d7 < ee ∧ I2 d7 [.int .u64 (IntKind.u64.wrap (d6 + 1)), .int .u64 ec, .int .i64 ar, .slice cm cl cy, .slice d3 cs ck, .int .u64 dy, .int .u64 e4] cf) ∧
 (bg < 0 →
 ∀ (av : World), Ext (fun b => b = p9) cf av →
 ∃ (b4 : Option Addr) (bb : Nat) (az : Nat), av.cell? (a1.add 1) = some (.slice b4 bb az) ∧
 ∀ (ad : World) (bz : Nat), Ext no av ad → Blk ad bz 105 [.int .u64 d6, .int .i64 ar, .slice cm cl cy, .slice d3 cs ck, .int .u64 dy, .int .u64 e4] → av.heap.size ≤ bz → bz < ad.heap.size →
 ad.cell? (a1.add 1) = some (.slice b4 bb az) ∧
 ∃ (c9 : Option Addr) (c5 : Nat) (c1 : Nat) (b5 : World), (Builtin.append_ #[61, 61] 61 #[.slice b4 bb az, .slice (some (blk bz)) 1 1]).run Try.prog ad = .ok (.slice c9 c5 c1) b5 ∧
 canStore b5 ((a1.add 1).add 0) ∧
 thenW (b5.setCell ((a1.add 1).add 0) (.slice c9 c5 c1)) fun dk =>
 R (.int .u64 d6) dk)) ∧
 (ay ≠ 0 →
 Calls Try.prog 71 #[.pointer o1, .int .u64 ay] a2 fun d9 bk => ∃ (ap : Int), d9 = .returned (.int .i64 ap) ∧
 Keep [p9] a2 bk ∧
 (ap ≥ 0 →
 ∃ (I2 : Nat → List Value → World → Prop) (e5 : Nat), I2 e5 [.int .u64 1, .int .u64 d4, .int .i64 a0, .slice al ao am, .slice ak aa af, .int .u64 c7, .int .u64 c6] bk ∧ ∀ (d8 : Nat) (bn : World) (b0 : Int) (dj : Int) (a8 : Int) (bq : Option Addr) (b2 : Nat) (b6 : Nat) (bm : Option Addr) (bc : Nat) (bo : Nat) (d2 : Int) (co : Int), I2 d8 [.int .u64 b0, .int .u64 dj, .int .i64 a8, .slice bq b2 b6, .slice bm bc bo, .int .u64 d2, .int .u64 co] bn →
 Calls Try.prog 71 #[.pointer o1, .int .u64 b0] bn fun da b9 => ∃ (aq : Int), da = .returned (.int .i64 aq) ∧
 Keep [p9] bn b9 ∧
 (aq ≥ 0 →
 ∃ dl, dl < d8 ∧ I2 dl [.int .u64 (IntKind.u64.wrap (b0 + 1)), .int .u64 dj, .int .i64 a8, .slice bq b2 b6, .slice bm bc bo, .int .u64 d2, .int .u64 co] b9) ∧
 (aq < 0 →
 ∀ (ax : World), Ext (fun b => b = p9) b9 ax →
 ∃ (be : Option Addr) (bi : Nat) (bp : Nat), ax.cell? (a1.add 1) = some (.slice be bi bp) ∧
 ∀ (ac : World) (c0 : Nat), Ext no ax ac → Blk ac c0 105 [.int .u64 b0, .int .i64 a8, .slice bq b2 b6, .slice bm bc bo, .int .u64 d2, .int .u64 co] → ax.heap.size ≤ c0 → c0 < ac.heap.size →
 ac.cell? (a1.add 1) = some (.slice be bi bp) ∧
 ∃ (c4 : Option Addr) (c3 : Nat) (ca : Nat) (bl : World), (Builtin.append_ #[61, 61] 61 #[.slice be bi bp, .slice (some (blk c0)) 1 1]).run Try.prog ac = .ok (.slice c4 c3 ca) bl ∧
 canStore bl ((a1.add 1).add 0) ∧
 thenW (bl.setCell ((a1.add 1).add 0) (.slice c4 c3 ca)) fun di =>
 R (.int .u64 b0) di)) ∧
 (ap < 0 →
 ∀ (aw : World), Ext (fun b => b = p9) bk aw →
 ∃ (bs : Option Addr) (bf : Nat) (br : Nat), aw.cell? (a1.add 1) = some (.slice bs bf br) ∧
 ∀ (ai : World) (bx : Nat), Ext no aw ai → Blk ai bx 105 [.int .u64 ay, .int .i64 a0, .slice al ao am, .slice ak aa af, .int .u64 c7, .int .u64 c6] → aw.heap.size ≤ bx → bx < ai.heap.size →
 ai.cell? (a1.add 1) = some (.slice bs bf br) ∧
 ∃ (c2 : Option Addr) (cb : Nat) (c8 : Nat) (b8 : World), (Builtin.append_ #[61, 61] 61 #[.slice bs bf br, .slice (some (blk bx)) 1 1]).run Try.prog ai = .ok (.slice c2 cb c8) b8 ∧
 canStore b8 ((a1.add 1).add 0) ∧
 thenW (b8.setCell ((a1.add 1).add 0) (.slice c2 cb c8)) fun df =>
 R (.int .u64 ay) df)))

theorem cachetteref03_Oracle_put.up (o1 : Option Addr) (f6 : Int) (ap : Int) (bq : Option Addr) (bs : Nat) (c0 : Nat) (bv : Option Addr) (c5 : Nat) (bw : Nat) (e0 : Int) (fa : Int) {R : Value → World → Prop} {w : World} (h : cachetteref03_Oracle_put.N o1 f6 ap bq bs c0 bv c5 bw e0 fa R w) : cachetteref03_Oracle_put.M o1 f6 ap bq bs c0 bv c5 bw e0 fa R w := by
  unfold cachetteref03_Oracle_put.M
  unfold cachetteref03_Oracle_put.N at h
  refine thenW_in fun gk e8 => ?_
  have a0 := Blk.of_new e8
  have gj := ((Ext.refl no w)).size
  have ga := (Ext.refl no w).x_alloc e8
  have h := h gk (w.heap.size) ga (Priv.cons gj a0.lt Priv.nil)
  obtain ⟨I0, g0, h0, h⟩ := h
  refine ⟨fun k vs ww => ∃ (bm : Int) (a1 : Int) (a9 : Option Addr) (ab : Nat) (aa : Nat) (a8 : Option Addr) (a6 : Nat) (a7 : Nat) (b3 : Int) (b2 : Int), Blk ww w.heap.size 105 [.int .u64 bm, .int .i64 a1, .slice a9 ab aa, .slice a8 a6 a7, .int .u64 b3, .int .u64 b2] ∧ I0 k (vs ++ [.int .u64 bm, .int .i64 a1, .slice a9 ab aa, .slice a8 a6 a7, .int .u64 b3, .int .u64 b2]) ww, g0, ⟨f6, ap, bq, bs, c0, bv, c5, bw, e0, fa, a0, h0⟩, fun g4 eh dq hI => ?_⟩
  obtain ⟨bm, a1, a9, ab, aa, a8, a6, a7, b3, b2, a0, hI⟩ := hI
  have h := h g4 eh dq bm a1 a9 ab aa a8 a6 a7 b3 b2 hI
  obtain ⟨gr, a3, h⟩ := h
  refine elim_some a3 ?_
  obtain ⟨bb, bf, bk, er, h⟩ := h
  refine ⟨bb, bf, bk, er, ?_⟩
  refine bif_of (fun fj => ?_) (fun fj => ?_)
  · have h := h.1 (of_decide_eq_true fj)
    refine bif_of (fun dx => ?_) (fun dx => ?_)
    · have h := h.1 (beq_t dx)
      refine elim_some a3 ?_
      obtain ⟨bd, b6, b7, f7, h⟩ := h
      refine ⟨bd, b6, b7, f7, ?_⟩
      obtain ⟨gs, eg, h⟩ := h
      refine elim_some eg ?_
      obtain ⟨e9, h⟩ := h
      refine ⟨by decide, e9, ?_⟩
      obtain ⟨g7, fi, h⟩ := h
      refine ⟨g7, fi, ?_⟩
      refine elim_some a3 ?_
      obtain ⟨bl, ba, b5, ey, h⟩ := h
      refine ⟨bl, ba, b5, ey, ?_⟩
      obtain ⟨f2, h⟩ := h
      refine ⟨by decide, f2, ?_⟩
      refine elim_some a3 ?_
      obtain ⟨hcs, hof, h⟩ := h
      refine ⟨hcs, thenW_in fun ge fz => ?_⟩
      replace h := thenW_out h fz
      have a0 := a0.off (by rw [block_add]; exact hof _ (by simp)) fz
      obtain ⟨gb, hk, h⟩ := h
      exact ⟨gb, hk, bm, a1, a9, ab, aa, a8, a6, a7, b3, b2, a0, h⟩
    · have h := h.2 (beq_f dx)
      refine h.mono fun gl g8 h => ?_
      obtain ⟨de, he, hk, h⟩ := h
      refine ⟨de, he, ?_⟩
      have a0 := hk.blk a0 (by simp)
      refine bif_of (fun fo => ?_) (fun fo => ?_)
      · have h := h.1 (of_decide_eq_true fo)
        refine elim_some a3 ?_
        obtain ⟨b9, b8, bg, f1, h⟩ := h
        refine ⟨b9, b8, bg, f1, ?_⟩
        obtain ⟨gq, ff, h⟩ := h
        refine elim_some ff ?_
        obtain ⟨e9, h⟩ := h
        refine ⟨by decide, e9, ?_⟩
        obtain ⟨gg, ez, h⟩ := h
        refine ⟨gg, ez, ?_⟩
        refine elim_some a3 ?_
        obtain ⟨b4, bj, be, es, h⟩ := h
        refine ⟨b4, bj, be, es, ?_⟩
        obtain ⟨f2, h⟩ := h
        refine ⟨by decide, f2, ?_⟩
        refine elim_some a3 ?_
        obtain ⟨hcs, hof, h⟩ := h
        refine ⟨hcs, thenW_in fun g2 fq => ?_⟩
        replace h := thenW_out h fq
        have a0 := a0.off (by rw [block_add]; exact hof _ (by simp)) fq
        obtain ⟨gm, hk, h⟩ := h
        exact ⟨gm, hk, bm, a1, a9, ab, aa, a8, a6, a7, b3, b2, a0, h⟩
      · have h := h.2 (Int.not_le.1 (of_decide_eq_false fo))
        refine bif_ff dx ?_
        refine h.mono fun gp ca h => ?_
        obtain ⟨ch, he, hk, h⟩ := h
        refine ⟨ch, he, ?_⟩
        have a0 := hk.blk a0 (by simp)
        refine bif_of (fun fm => ?_) (fun fm => ?_)
        · have h := h.1 (of_decide_eq_true fm)
          obtain ⟨I2, gn, h0, h⟩ := h
          refine ⟨fun k vs ww => ∃ (cp : Int) (a5 : Int) (aq : Option Addr) (ao : Nat) (aj : Nat) (aw : Option Addr) (au : Nat) (ai : Nat) (bz : Int) (cb : Int), Blk ww w.heap.size 105 [.int .u64 cp, .int .i64 a5, .slice aq ao aj, .slice aw au ai, .int .u64 bz, .int .u64 cb] ∧ I2 k (vs ++ [.int .u64 cp, .int .i64 a5, .slice aq ao aj, .slice aw au ai, .int .u64 bz, .int .u64 cb]) ww, gn, ⟨bm, a1, a9, ab, aa, a8, a6, a7, b3, b2, a0, h0⟩, fun gi fd fc hI => ?_⟩
          obtain ⟨cp, a5, aq, ao, aj, aw, au, ai, bz, cb, a0, hI⟩ := hI
          have h := h gi fd fc cp a5 aq ao aj aw au ai bz cb hI
          refine h.mono fun g9 c8 h => ?_
          obtain ⟨cy, he, hk, h⟩ := h
          refine ⟨cy, he, ?_⟩
          have a0 := hk.blk a0 (by simp)
          refine bif_of (fun e5 => ?_) (fun e5 => ?_)
          · have h := h.1 (of_decide_eq_true e5)
            obtain ⟨g1, hk, h⟩ := h
            exact ⟨g1, hk, cp, a5, aq, ao, aj, aw, au, ai, bz, cb, a0, h⟩
          · have h := h.2 (Int.not_le.1 (of_decide_eq_false e5))
            have ei : Ext (fun b => b = w.heap.size) c8 c8 := ((Ext.refl no c8)).none
            refine ⟨a0.cani 0 rfl rfl, thenW_in fun ef fy => ?_⟩
            have e6 := ei.x_set (q := w.heap.size) (i := 0) rfl (.inl rfl) fy
            have a0 : Blk ef w.heap.size 105 [.int .u64 fc, .int .i64 a5, .slice aq ao aj, .slice aw au ai, .int .u64 bz, .int .u64 cb] := a0.seti 0 rfl fy
            refine thenW_in fun bo ft => ?_
            have e2 := e6.x_drew ft
            have a0 := a0.x_drew ft
            refine elim_some a3 ?_
            have h := h bo e2
            obtain ⟨eq, ec, fe, em, h⟩ := h
            refine ⟨eq, ec, fe, em, ?_⟩
            refine ⟨fc, a5, aq, ao, aj, aw, au, ai, bz, cb, ⟨a0.celli 0 rfl rfl, a0.celli 1 rfl rfl, a0.celli 2 rfl rfl, a0.celli 3 rfl rfl, a0.celli 4 rfl rfl, a0.celli 5 rfl rfl, trivial⟩, ?_⟩
            refine thenW_in fun fl f9 => ?_
            have h := h fl bo.heap.size ((Ext.refl no bo).x_alloc f9) (Blk.of_new f9) ((Ext.refl no bo)).size (size_lt_alloc f9)
            obtain ⟨eb, h⟩ := h
            refine ⟨eb, ?_⟩
            obtain ⟨f3, ev, dy, ew, hr, h⟩ := h
            refine ⟨f3, ev, dy, ew, hr, ?_⟩
            refine elim_some a3 ?_
            obtain ⟨hcs, h⟩ := h
            refine ⟨hcs, thenW_in fun gf gd => ?_⟩
            replace h := thenW_out h gd
            exact h
        · have h := h.2 (Int.not_le.1 (of_decide_eq_false fm))
          have e1 : Ext (fun b => b = w.heap.size) ca ca := ((Ext.refl no ca)).none
          refine ⟨a0.cani 0 rfl rfl, thenW_in fun ej fp => ?_⟩
          have f5 := e1.x_set (q := w.heap.size) (i := 0) rfl (.inl rfl) fp
          have a0 : Blk ej w.heap.size 105 [.int .u64 dq, .int .i64 a1, .slice a9 ab aa, .slice a8 a6 a7, .int .u64 b3, .int .u64 b2] := a0.seti 0 rfl fp
          refine thenW_in fun bn fw => ?_
          have ea := f5.x_drew fw
          have a0 := a0.x_drew fw
          refine elim_some a3 ?_
          have h := h bn ea
          obtain ⟨eo, fb, en, ep, h⟩ := h
          refine ⟨eo, fb, en, ep, ?_⟩
          refine ⟨dq, a1, a9, ab, aa, a8, a6, a7, b3, b2, ⟨a0.celli 0 rfl rfl, a0.celli 1 rfl rfl, a0.celli 2 rfl rfl, a0.celli 3 rfl rfl, a0.celli 4 rfl rfl, a0.celli 5 rfl rfl, trivial⟩, ?_⟩
          refine thenW_in fun f0 et => ?_
          have h := h f0 bn.heap.size ((Ext.refl no bn).x_alloc et) (Blk.of_new et) ((Ext.refl no bn)).size (size_lt_alloc et)
          obtain ⟨e3, h⟩ := h
          refine ⟨e3, ?_⟩
          obtain ⟨f8, f4, ex, e4, hr, h⟩ := h
          refine ⟨f8, f4, ex, e4, hr, ?_⟩
          refine elim_some a3 ?_
          obtain ⟨hcs, h⟩ := h
          refine ⟨hcs, thenW_in fun gc g5 => ?_⟩
          replace h := thenW_out h g5
          exact h
  · have h := h.2 (Int.not_lt.1 (of_decide_eq_false fj))
    refine bif_of (fun el => ?_) (fun el => ?_)
    · have h := h.1 (beq_t el)
      obtain ⟨I2, gh, h0, h⟩ := h
      refine ⟨fun k vs ww => ∃ (cm : Int) (a4 : Int) (am : Option Addr) (al : Nat) (av : Nat) (ay : Option Addr) (ar : Nat) (ak : Nat) (c2 : Int) (c6 : Int), Blk ww w.heap.size 105 [.int .u64 cm, .int .i64 a4, .slice am al av, .slice ay ar ak, .int .u64 c2, .int .u64 c6] ∧ I2 k (vs ++ [.int .u64 cm, .int .i64 a4, .slice am al av, .slice ay ar ak, .int .u64 c2, .int .u64 c6]) ww, gh, ⟨bm, a1, a9, ab, aa, a8, a6, a7, b3, b2, a0, h0⟩, fun g6 fk dz hI => ?_⟩
      obtain ⟨cm, a4, am, al, av, ay, ar, ak, c2, c6, a0, hI⟩ := hI
      have h := h g6 fk dz cm a4 am al av ay ar ak c2 c6 hI
      refine h.mono fun g3 br h => ?_
      obtain ⟨d8, he, hk, h⟩ := h
      refine ⟨d8, he, ?_⟩
      have a0 := hk.blk a0 (by simp)
      refine bif_of (fun c7 => ?_) (fun c7 => ?_)
      · have h := h.1 (of_decide_eq_true c7)
        obtain ⟨e7, hk, h⟩ := h
        exact ⟨e7, hk, cm, a4, am, al, av, ay, ar, ak, c2, c6, a0, h⟩
      · have h := h.2 (Int.not_le.1 (of_decide_eq_false c7))
        have ce : Ext (fun b => b = w.heap.size) br br := ((Ext.refl no br)).none
        refine ⟨a0.cani 0 rfl rfl, thenW_in fun ci ck => ?_⟩
        have d0 := ce.x_set (q := w.heap.size) (i := 0) rfl (.inl rfl) ck
        have a0 : Blk ci w.heap.size 105 [.int .u64 dz, .int .i64 a4, .slice am al av, .slice ay ar ak, .int .u64 c2, .int .u64 c6] := a0.seti 0 rfl ck
        refine thenW_in fun az dv => ?_
        have dr := d0.x_drew dv
        have a0 := a0.x_drew dv
        refine elim_some a3 ?_
        have h := h az dr
        obtain ⟨cq, cz, cc, cr, h⟩ := h
        refine ⟨cq, cz, cc, cr, ?_⟩
        refine ⟨dz, a4, am, al, av, ay, ar, ak, c2, c6, ⟨a0.celli 0 rfl rfl, a0.celli 1 rfl rfl, a0.celli 2 rfl rfl, a0.celli 3 rfl rfl, a0.celli 4 rfl rfl, a0.celli 5 rfl rfl, trivial⟩, ?_⟩
        refine thenW_in fun co bu => ?_
        have h := h co az.heap.size ((Ext.refl no az).x_alloc bu) (Blk.of_new bu) ((Ext.refl no az)).size (size_lt_alloc bu)
        obtain ⟨df, h⟩ := h
        refine ⟨df, ?_⟩
        obtain ⟨da, d7, cf, cs, hr, h⟩ := h
        refine ⟨da, d7, cf, cs, hr, ?_⟩
        refine elim_some a3 ?_
        obtain ⟨hcs, h⟩ := h
        refine ⟨hcs, thenW_in fun fx eu => ?_⟩
        replace h := thenW_out h eu
        exact h
    · have h := h.2 (beq_f el)
      refine h.mono fun fr bh h => ?_
      obtain ⟨bt, he, hk, h⟩ := h
      refine ⟨bt, he, ?_⟩
      have a0 := hk.blk a0 (by simp)
      refine bif_of (fun c3 => ?_) (fun c3 => ?_)
      · have h := h.1 (of_decide_eq_true c3)
        obtain ⟨I2, fg, h0, h⟩ := h
        refine ⟨fun k vs ww => ∃ (bi : Int) (a2 : Int) (ah : Option Addr) (ac : Nat) (ad : Nat) (af : Option Addr) (ae : Nat) (ag : Nat) (ax : Int) (an : Int), Blk ww w.heap.size 105 [.int .u64 bi, .int .i64 a2, .slice ah ac ad, .slice af ae ag, .int .u64 ax, .int .u64 an] ∧ I2 k (vs ++ [.int .u64 bi, .int .i64 a2, .slice ah ac ad, .slice af ae ag, .int .u64 ax, .int .u64 an]) ww, fg, ⟨bm, a1, a9, ab, aa, a8, a6, a7, b3, b2, a0, h0⟩, fun ek di bp hI => ?_⟩
        obtain ⟨bi, a2, ah, ac, ad, af, ae, ag, ax, an, a0, hI⟩ := hI
        have h := h ek di bp bi a2 ah ac ad af ae ag ax an hI
        refine h.mono fun fs bc h => ?_
        obtain ⟨c1, he, hk, h⟩ := h
        refine ⟨c1, he, ?_⟩
        have a0 := hk.blk a0 (by simp)
        refine bif_of (fun bx => ?_) (fun bx => ?_)
        · have h := h.1 (of_decide_eq_true bx)
          obtain ⟨fh, hk, h⟩ := h
          exact ⟨fh, hk, bi, a2, ah, ac, ad, af, ae, ag, ax, an, a0, h⟩
        · have h := h.2 (Int.not_le.1 (of_decide_eq_false bx))
          have du : Ext (fun b => b = w.heap.size) bc bc := ((Ext.refl no bc)).none
          refine ⟨a0.cani 0 rfl rfl, thenW_in fun d4 dj => ?_⟩
          have db := du.x_set (q := w.heap.size) (i := 0) rfl (.inl rfl) dj
          have a0 : Blk d4 w.heap.size 105 [.int .u64 bp, .int .i64 a2, .slice ah ac ad, .slice af ae ag, .int .u64 ax, .int .u64 an] := a0.seti 0 rfl dj
          refine thenW_in fun b1 cj => ?_
          have ds := db.x_drew cj
          have a0 := a0.x_drew cj
          refine elim_some a3 ?_
          have h := h b1 ds
          obtain ⟨d5, dc, dk, dd, h⟩ := h
          refine ⟨d5, dc, dk, dd, ?_⟩
          refine ⟨bp, a2, ah, ac, ad, af, ae, ag, ax, an, ⟨a0.celli 0 rfl rfl, a0.celli 1 rfl rfl, a0.celli 2 rfl rfl, a0.celli 3 rfl rfl, a0.celli 4 rfl rfl, a0.celli 5 rfl rfl, trivial⟩, ?_⟩
          refine thenW_in fun cn c4 => ?_
          have h := h cn b1.heap.size ((Ext.refl no b1).x_alloc c4) (Blk.of_new c4) ((Ext.refl no b1)).size (size_lt_alloc c4)
          obtain ⟨cl, h⟩ := h
          refine ⟨cl, ?_⟩
          obtain ⟨d3, d1, dh, dg, hr, h⟩ := h
          refine ⟨d3, d1, dh, dg, hr, ?_⟩
          refine elim_some a3 ?_
          obtain ⟨hcs, h⟩ := h
          refine ⟨hcs, thenW_in fun fv ee => ?_⟩
          replace h := thenW_out h ee
          exact h
      · have h := h.2 (Int.not_le.1 (of_decide_eq_false c3))
        have d2 : Ext (fun b => b = w.heap.size) bh bh := ((Ext.refl no bh)).none
        refine ⟨a0.cani 0 rfl rfl, thenW_in fun cd ct => ?_⟩
        have dl := d2.x_set (q := w.heap.size) (i := 0) rfl (.inl rfl) ct
        have a0 : Blk cd w.heap.size 105 [.int .u64 dq, .int .i64 a1, .slice a9 ab aa, .slice a8 a6 a7, .int .u64 b3, .int .u64 b2] := a0.seti 0 rfl ct
        refine thenW_in fun b0 dp => ?_
        have cx := dl.x_drew dp
        have a0 := a0.x_drew dp
        refine elim_some a3 ?_
        have h := h b0 cx
        obtain ⟨dn, d6, dm, dt, h⟩ := h
        refine ⟨dn, d6, dm, dt, ?_⟩
        refine ⟨dq, a1, a9, ab, aa, a8, a6, a7, b3, b2, ⟨a0.celli 0 rfl rfl, a0.celli 1 rfl rfl, a0.celli 2 rfl rfl, a0.celli 3 rfl rfl, a0.celli 4 rfl rfl, a0.celli 5 rfl rfl, trivial⟩, ?_⟩
        refine thenW_in fun cu c9 => ?_
        have h := h cu b0.heap.size ((Ext.refl no b0).x_alloc c9) (Blk.of_new c9) ((Ext.refl no b0)).size (size_lt_alloc c9)
        obtain ⟨cv, h⟩ := h
        refine ⟨cv, ?_⟩
        obtain ⟨cg, dw, d9, cw, hr, h⟩ := h
        refine ⟨cg, dw, d9, cw, hr, ?_⟩
        refine elim_some a3 ?_
        obtain ⟨hcs, h⟩ := h
        refine ⟨hcs, thenW_in fun fu ed => ?_⟩
        replace h := thenW_out h ed
        exact h

theorem cachetteref03_Oracle_put.go (o1 : Option Addr) (a8 : Int) (a0 : Int) (a5 : Option Addr) (a3 : Nat) (a2 : Nat) (a4 : Option Addr) (a6 : Nat) (a1 : Nat) (a7 : Int) (a9 : Int) {R : Value → World → Prop} {w : World} (h : cachetteref03_Oracle_put.N o1 a8 a0 a5 a3 a2 a4 a6 a1 a7 a9 R w) : Calls Try.prog 47 #[.pointer o1, .agg #[.int .u64 a8, .int .i64 a0, .slice a5 a3 a2, .slice a4 a6 a1, .int .u64 a7, .int .u64 a9]] w fun e w' => ∃ v, e = .returned v ∧ R v w' := cachetteref03_Oracle_put.ok o1 a8 a0 a5 a3 a2 a4 a6 a1 a7 a9 (cachetteref03_Oracle_put.up o1 a8 a0 a5 a3 a2 a4 a6 a1 a7 a9 h)
/-- (*cachetteref03.Oracle).is -/
def cachetteref03_Oracle_is.M (o1 : Option Addr) (h2 : Int) (bi : Int) (R : Value → World → Prop) (w : World) : Prop :=
 thenW (w.alloc (.cells #[.int .u64 0, .int .i64 0, .slice none 0 0, .slice none 0 0, .int .u64 0, .int .u64 0] 105)) fun c2 =>
 Calls Try.prog 71 #[.pointer o1, .int .u64 h2] c2 fun c0 az => ∃ (a3 : Int), c0 = .returned (.int .i64 a3) ∧
 bif decide (a3 < 0) then (
 canStore az ((blk w.heap.size).add 0) ∧
 thenW (az.setCell ((blk w.heap.size).add 0) (.int .u64 0)) fun bw =>
 canStore bw ((blk w.heap.size).add 1) ∧
 thenW (bw.setCell ((blk w.heap.size).add 1) (.int .i64 0)) fun bx =>
 canStore bx ((blk w.heap.size).add 2) ∧
 thenW (bx.setCell ((blk w.heap.size).add 2) (.slice none 0 0)) fun bc =>
 canStore bc ((blk w.heap.size).add 3) ∧
 thenW (bc.setCell ((blk w.heap.size).add 3) (.slice none 0 0)) fun bl =>
 canStore bl ((blk w.heap.size).add 4) ∧
 thenW (bl.setCell ((blk w.heap.size).add 4) (.int .u64 0)) fun bo =>
 canStore bo ((blk w.heap.size).add 5) ∧
 thenW (bo.setCell ((blk w.heap.size).add 5) (.int .u64 0)) fun b9 =>
 ∃ (au : Int) (a2 : Int) (a6 : Option Addr) (ah : Nat) (ae : Nat) (am : Option Addr) (aa : Nat) (ac : Nat) (av : Int) (ax : Int), cellsAt b9 (blk w.heap.size) [.int .u64 au, .int .i64 a2, .slice a6 ah ae, .slice am aa ac, .int .u64 av, .int .u64 ax] 0 ∧
 R (.tuple #[.agg #[.int .u64 au, .int .i64 a2, .slice a6 ah ae, .slice am aa ac, .int .u64 av, .int .u64 ax], .bool false]) b9) else (
 o1.elim False fun c4 =>
 ∃ (b6 : Option Addr) (bh : Nat) (bu : Nat), az.cell? (c4.add 1) = some (.slice b6 bh bu) ∧
 b6.elim False fun c1 =>
 0 ≤ (a3 : Int) ∧ (a3 : Int) < (bh : Int) ∧
 ∃ (ar : Int), az.cell? ((c1.add (Int.toNat a3 * 6)).add 1) = some (.int .i64 ar) ∧
 bif ar != bi then (
 canStore az ((blk w.heap.size).add 0) ∧
 thenW (az.setCell ((blk w.heap.size).add 0) (.int .u64 0)) fun bf =>
 canStore bf ((blk w.heap.size).add 1) ∧
 thenW (bf.setCell ((blk w.heap.size).add 1) (.int .i64 0)) fun bm =>
 canStore bm ((blk w.heap.size).add 2) ∧
 thenW (bm.setCell ((blk w.heap.size).add 2) (.slice none 0 0)) fun bt =>
 canStore bt ((blk w.heap.size).add 3) ∧
 thenW (bt.setCell ((blk w.heap.size).add 3) (.slice none 0 0)) fun bn =>
 canStore bn ((blk w.heap.size).add 4) ∧
 thenW (bn.setCell ((blk w.heap.size).add 4) (.int .u64 0)) fun bd =>
 canStore bd ((blk w.heap.size).add 5) ∧
 thenW (bd.setCell ((blk w.heap.size).add 5) (.int .u64 0)) fun b7 =>
 ∃ (ay : Int) (a0 : Int) (ai : Option Addr) (ab : Nat) (a9 : Nat) (ad : Option Addr) (ak : Nat) (a7 : Nat) (aq : Int) (ao : Int), cellsAt b7 (blk w.heap.size) [.int .u64 ay, .int .i64 a0, .slice ai ab a9, .slice ad ak a7, .int .u64 aq, .int .u64 ao] 0 ∧
 R (.tuple #[.agg #[.int .u64 ay, .int .i64 a0, .slice ai ab a9, .slice ad ak a7, .int .u64 aq, .int .u64 ao], .bool false]) b7) else (
 o1.elim False fun bz =>
 ∃ (ba : Option Addr) (bb : Nat) (bv : Nat), az.cell? (bz.add 1) = some (.slice ba bb bv) ∧
 ba.elim False fun c3 =>
 0 ≤ (a3 : Int) ∧ (a3 : Int) < (bb : Int) ∧
 ∃ (b8 : Int) (al : Int) (b2 : Option Addr) (b4 : Nat) (b1 : Nat) (b3 : Option Addr) (b0 : Nat) (b5 : Nat) (bq : Int) (bg : Int), cellsAt az (c3.add (Int.toNat a3 * 6)) [.int .u64 b8, .int .i64 al, .slice b2 b4 b1, .slice b3 b0 b5, .int .u64 bq, .int .u64 bg] 0 ∧
 canStore az ((blk w.heap.size).add 0) ∧
 thenW (az.setCell ((blk w.heap.size).add 0) (.int .u64 b8)) fun be =>
 canStore be ((blk w.heap.size).add 1) ∧
 thenW (be.setCell ((blk w.heap.size).add 1) (.int .i64 al)) fun bp =>
 canStore bp ((blk w.heap.size).add 2) ∧
 thenW (bp.setCell ((blk w.heap.size).add 2) (.slice b2 b4 b1)) fun br =>
 canStore br ((blk w.heap.size).add 3) ∧
 thenW (br.setCell ((blk w.heap.size).add 3) (.slice b3 b0 b5)) fun bs =>
 canStore bs ((blk w.heap.size).add 4) ∧
 thenW (bs.setCell ((blk w.heap.size).add 4) (.int .u64 bq)) fun bk =>
 canStore bk ((blk w.heap.size).add 5) ∧
 thenW (bk.setCell ((blk w.heap.size).add 5) (.int .u64 bg)) fun bj =>
 ∃ (an : Int) (a1 : Int) (a4 : Option Addr) (a5 : Nat) (af : Nat) (ag : Option Addr) (aj : Nat) (a8 : Nat) (aw : Int) (ap : Int), cellsAt bj (blk w.heap.size) [.int .u64 an, .int .i64 a1, .slice a4 a5 af, .slice ag aj a8, .int .u64 aw, .int .u64 ap] 0 ∧
 R (.tuple #[.agg #[.int .u64 an, .int .i64 a1, .slice a4 a5 af, .slice ag aj a8, .int .u64 aw, .int .u64 ap], .bool true]) bj))

theorem cachetteref03_Oracle_is.eq (o1 : Option Addr) (h2 : Int) (kind3 : Int) (R : Value → World → Prop) (w : World) : mfunc Try.prog [] 74 [.pointer o1, .int .u64 h2, .int .i64 kind3] R w = cachetteref03_Oracle_is.M o1 h2 kind3 R w := by kernel_rfl
theorem cachetteref03_Oracle_is.ok (o1 : Option Addr) (h2 : Int) (a0 : Int) {R : Value → World → Prop} {w : World} (h : cachetteref03_Oracle_is.M o1 h2 a0 R w) : Calls Try.prog 74 #[.pointer o1, .int .u64 h2, .int .i64 a0] w fun e w' => ∃ v, e = .returned v ∧ R v w' :=
  mfunc_ok follows (H := []) (args := [.pointer o1, .int .u64 h2, .int .i64 a0]) (by rw [cachetteref03_Oracle_is.eq]; exact h)

def cachetteref03_Oracle_is.N (o1 : Option Addr) (h2 : Int) (a6 : Int) (R : Value → World → Prop) (w : World) : Prop :=
 ∀ (al : World) (p5 : Nat), Ext no w al → Priv w al [p5] →
 Calls Try.prog 71 #[.pointer o1, .int .u64 h2] al fun ar a3 => ∃ (a0 : Int), ar = .returned (.int .i64 a0) ∧
 Keep [p5] al a3 ∧
 (a0 < 0 →
 ∀ (ak : World), Ext (fun b => b = p5) a3 ak →
 R (.tuple #[.agg #[.int .u64 0, .int .i64 0, .slice none 0 0, .slice none 0 0, .int .u64 0, .int .u64 0], .bool false]) ak) ∧
 ((0 : Int) ≤ a0 →
 ∃ an : Addr, o1 = some an ∧
 ∃ (ac : Option Addr) (ab : Nat) (ao : Nat), a3.cell? (an.add 1) = some (.slice ac ab ao) ∧
 ∃ ap : Addr, ac = some ap ∧
 0 ≤ (a0 : Int) ∧ (a0 : Int) < (ab : Int) ∧
 ∃ (a1 : Int), a3.cell? ((ap.add (Int.toNat a0 * 6)).add 1) = some (.int .i64 a1) ∧
 (a1 ≠ a6 →
 ∀ (af : World), Ext (fun b => b = p5) a3 af →
 R (.tuple #[.agg #[.int .u64 0, .int .i64 0, .slice none 0 0, .slice none 0 0, .int .u64 0, .int .u64 0], .bool false]) af) ∧
 (a1 = a6 →
 ∃ (aj : Option Addr) (ad : Nat) (am : Nat), a3.cell? (an.add 1) = some (.slice aj ad am) ∧
 ∃ aq : Addr, aj = some aq ∧
 0 ≤ (a0 : Int) ∧ (a0 : Int) < (ad : Int) ∧
 ∃ (ag : Int) (a2 : Int) (aa : Option Addr) (a5 : Nat) (a8 : Nat) (a7 : Option Addr) (a9 : Nat) (a4 : Nat) (ae : Int) (ah : Int), cellsAt a3 (aq.add (Int.toNat a0 * 6)) [.int .u64 ag, .int .i64 a2, .slice aa a5 a8, .slice a7 a9 a4, .int .u64 ae, .int .u64 ah] 0 ∧
 ∀ (ai : World), Ext (fun b => b = p5) a3 ai →
 R (.tuple #[.agg #[.int .u64 ag, .int .i64 a2, .slice aa a5 a8, .slice a7 a9 a4, .int .u64 ae, .int .u64 ah], .bool true]) ai))

theorem cachetteref03_Oracle_is.up (o1 : Option Addr) (h2 : Int) (ab : Int) {R : Value → World → Prop} {w : World} (h : cachetteref03_Oracle_is.N o1 h2 ab R w) : cachetteref03_Oracle_is.M o1 h2 ab R w := by
  unfold cachetteref03_Oracle_is.M
  unfold cachetteref03_Oracle_is.N at h
  refine thenW_in fun ck e4 => ?_
  have a0 := Blk.of_new e4
  have cm := ((Ext.refl no w)).size
  have cl := (Ext.refl no w).x_alloc e4
  have h := h ck (w.heap.size) cl (Priv.cons cm a0.lt Priv.nil)
  refine h.mono fun co aa h => ?_
  obtain ⟨bn, he, hk, h⟩ := h
  refine ⟨bn, he, ?_⟩
  have a0 := hk.blk a0 (by simp)
  refine bif_of (fun c9 => ?_) (fun c9 => ?_)
  · have h := h.1 (of_decide_eq_true c9)
    have b5 : Ext (fun b => b = w.heap.size) aa aa := ((Ext.refl no aa)).none
    refine ⟨a0.cani 0 rfl rfl, thenW_in fun an c4 => ?_⟩
    have ai := b5.x_set (q := w.heap.size) (i := 0) rfl (.inl rfl) c4
    have a0 : Blk an w.heap.size 105 [.int .u64 0, .int .i64 0, .slice none 0 0, .slice none 0 0, .int .u64 0, .int .u64 0] := a0.seti 0 rfl c4
    refine ⟨a0.cani 1 rfl rfl, thenW_in fun bm c7 => ?_⟩
    have bc := ai.x_set (q := w.heap.size) (i := 1) rfl (.inl rfl) c7
    have a0 : Blk bm w.heap.size 105 [.int .u64 0, .int .i64 0, .slice none 0 0, .slice none 0 0, .int .u64 0, .int .u64 0] := a0.seti 1 rfl c7
    refine ⟨a0.cani 2 rfl rfl, thenW_in fun bu cb => ?_⟩
    have bs := bc.x_set (q := w.heap.size) (i := 2) rfl (.inl rfl) cb
    have a0 : Blk bu w.heap.size 105 [.int .u64 0, .int .i64 0, .slice none 0 0, .slice none 0 0, .int .u64 0, .int .u64 0] := a0.seti 2 rfl cb
    refine ⟨a0.cani 3 rfl rfl, thenW_in fun ak ce => ?_⟩
    have ax := bs.x_set (q := w.heap.size) (i := 3) rfl (.inl rfl) ce
    have a0 : Blk ak w.heap.size 105 [.int .u64 0, .int .i64 0, .slice none 0 0, .slice none 0 0, .int .u64 0, .int .u64 0] := a0.seti 3 rfl ce
    refine ⟨a0.cani 4 rfl rfl, thenW_in fun bw cd => ?_⟩
    have bb := ax.x_set (q := w.heap.size) (i := 4) rfl (.inl rfl) cd
    have a0 : Blk bw w.heap.size 105 [.int .u64 0, .int .i64 0, .slice none 0 0, .slice none 0 0, .int .u64 0, .int .u64 0] := a0.seti 4 rfl cd
    refine ⟨a0.cani 5 rfl rfl, thenW_in fun ah c1 => ?_⟩
    have b7 := bb.x_set (q := w.heap.size) (i := 5) rfl (.inl rfl) c1
    have a0 : Blk ah w.heap.size 105 [.int .u64 0, .int .i64 0, .slice none 0 0, .slice none 0 0, .int .u64 0, .int .u64 0] := a0.seti 5 rfl c1
    refine ⟨0, 0, none, 0, 0, none, 0, 0, 0, 0, ⟨a0.celli 0 rfl rfl, a0.celli 1 rfl rfl, a0.celli 2 rfl rfl, a0.celli 3 rfl rfl, a0.celli 4 rfl rfl, a0.celli 5 rfl rfl, trivial⟩, ?_⟩
    have h := h ah b7
    exact h
  · have h := h.2 (Int.not_lt.1 (of_decide_eq_false c9))
    obtain ⟨cq, af, h⟩ := h
    refine elim_some af ?_
    obtain ⟨ay, bd, bk, az, h⟩ := h
    refine ⟨ay, bd, bk, az, ?_⟩
    obtain ⟨cp, bl, h⟩ := h
    refine elim_some bl ?_
    obtain ⟨bf, ao, h⟩ := h
    refine ⟨bf, ao, ?_⟩
    obtain ⟨ad, bt, h⟩ := h
    refine ⟨ad, bt, ?_⟩
    refine bif_of (fun aj => ?_) (fun aj => ?_)
    · have h := h.1 (bne_t aj)
      have bo : Ext (fun b => b = w.heap.size) aa aa := ((Ext.refl no aa)).none
      refine ⟨a0.cani 0 rfl rfl, thenW_in fun b1 ci => ?_⟩
      have ar := bo.x_set (q := w.heap.size) (i := 0) rfl (.inl rfl) ci
      have a0 : Blk b1 w.heap.size 105 [.int .u64 0, .int .i64 0, .slice none 0 0, .slice none 0 0, .int .u64 0, .int .u64 0] := a0.seti 0 rfl ci
      refine ⟨a0.cani 1 rfl rfl, thenW_in fun bj c3 => ?_⟩
      have be := ar.x_set (q := w.heap.size) (i := 1) rfl (.inl rfl) c3
      have a0 : Blk bj w.heap.size 105 [.int .u64 0, .int .i64 0, .slice none 0 0, .slice none 0 0, .int .u64 0, .int .u64 0] := a0.seti 1 rfl c3
      refine ⟨a0.cani 2 rfl rfl, thenW_in fun ap cf => ?_⟩
      have b6 := be.x_set (q := w.heap.size) (i := 2) rfl (.inl rfl) cf
      have a0 : Blk ap w.heap.size 105 [.int .u64 0, .int .i64 0, .slice none 0 0, .slice none 0 0, .int .u64 0, .int .u64 0] := a0.seti 2 rfl cf
      refine ⟨a0.cani 3 rfl rfl, thenW_in fun au ch => ?_⟩
      have bg := b6.x_set (q := w.heap.size) (i := 3) rfl (.inl rfl) ch
      have a0 : Blk au w.heap.size 105 [.int .u64 0, .int .i64 0, .slice none 0 0, .slice none 0 0, .int .u64 0, .int .u64 0] := a0.seti 3 rfl ch
      refine ⟨a0.cani 4 rfl rfl, thenW_in fun aq c5 => ?_⟩
      have b8 := bg.x_set (q := w.heap.size) (i := 4) rfl (.inl rfl) c5
      have a0 : Blk aq w.heap.size 105 [.int .u64 0, .int .i64 0, .slice none 0 0, .slice none 0 0, .int .u64 0, .int .u64 0] := a0.seti 4 rfl c5
      refine ⟨a0.cani 5 rfl rfl, thenW_in fun ae c6 => ?_⟩
      have bq := b8.x_set (q := w.heap.size) (i := 5) rfl (.inl rfl) c6
      have a0 : Blk ae w.heap.size 105 [.int .u64 0, .int .i64 0, .slice none 0 0, .slice none 0 0, .int .u64 0, .int .u64 0] := a0.seti 5 rfl c6
      refine ⟨0, 0, none, 0, 0, none, 0, 0, 0, 0, ⟨a0.celli 0 rfl rfl, a0.celli 1 rfl rfl, a0.celli 2 rfl rfl, a0.celli 3 rfl rfl, a0.celli 4 rfl rfl, a0.celli 5 rfl rfl, trivial⟩, ?_⟩
      have h := h ae bq
      exact h
    · have h := h.2 (bne_f aj)
      refine elim_some af ?_
      obtain ⟨bx, b2, b3, bz, h⟩ := h
      refine ⟨bx, b2, b3, bz, ?_⟩
      obtain ⟨cn, am, h⟩ := h
      refine elim_some am ?_
      obtain ⟨bf, ao, h⟩ := h
      refine ⟨bf, ao, ?_⟩
      obtain ⟨a7, a1, a4, a3, a2, a5, a6, a8, a9, ac, b4, h⟩ := h
      refine ⟨a7, a1, a4, a3, a2, a5, a6, a8, a9, ac, b4, ?_⟩
      have b9 : Ext (fun b => b = w.heap.size) aa aa := ((Ext.refl no aa)).none
      refine ⟨a0.cani 0 rfl rfl, thenW_in fun al cj => ?_⟩
      have bi := b9.x_set (q := w.heap.size) (i := 0) rfl (.inl rfl) cj
      have a0 : Blk al w.heap.size 105 [.int .u64 a7, .int .i64 0, .slice none 0 0, .slice none 0 0, .int .u64 0, .int .u64 0] := a0.seti 0 rfl cj
      refine ⟨a0.cani 1 rfl rfl, thenW_in fun bp c2 => ?_⟩
      have ba := bi.x_set (q := w.heap.size) (i := 1) rfl (.inl rfl) c2
      have a0 : Blk bp w.heap.size 105 [.int .u64 a7, .int .i64 a1, .slice none 0 0, .slice none 0 0, .int .u64 0, .int .u64 0] := a0.seti 1 rfl c2
      refine ⟨a0.cani 2 rfl rfl, thenW_in fun av ca => ?_⟩
      have bh := ba.x_set (q := w.heap.size) (i := 2) rfl (.inl rfl) ca
      have a0 : Blk av w.heap.size 105 [.int .u64 a7, .int .i64 a1, .slice a4 a3 a2, .slice none 0 0, .int .u64 0, .int .u64 0] := a0.seti 2 rfl ca
      refine ⟨a0.cani 3 rfl rfl, thenW_in fun aw cg => ?_⟩
      have b0 := bh.x_set (q := w.heap.size) (i := 3) rfl (.inl rfl) cg
      have a0 : Blk aw w.heap.size 105 [.int .u64 a7, .int .i64 a1, .slice a4 a3 a2, .slice a5 a6 a8, .int .u64 0, .int .u64 0] := a0.seti 3 rfl cg
      refine ⟨a0.cani 4 rfl rfl, thenW_in fun c0 c8 => ?_⟩
      have br := b0.x_set (q := w.heap.size) (i := 4) rfl (.inl rfl) c8
      have a0 : Blk c0 w.heap.size 105 [.int .u64 a7, .int .i64 a1, .slice a4 a3 a2, .slice a5 a6 a8, .int .u64 a9, .int .u64 0] := a0.seti 4 rfl c8
      refine ⟨a0.cani 5 rfl rfl, thenW_in fun ag cc => ?_⟩
      have bv := br.x_set (q := w.heap.size) (i := 5) rfl (.inl rfl) cc
      have a0 : Blk ag w.heap.size 105 [.int .u64 a7, .int .i64 a1, .slice a4 a3 a2, .slice a5 a6 a8, .int .u64 a9, .int .u64 ac] := a0.seti 5 rfl cc
      refine ⟨a7, a1, a4, a3, a2, a5, a6, a8, a9, ac, ⟨a0.celli 0 rfl rfl, a0.celli 1 rfl rfl, a0.celli 2 rfl rfl, a0.celli 3 rfl rfl, a0.celli 4 rfl rfl, a0.celli 5 rfl rfl, trivial⟩, ?_⟩
      have h := h ag bv
      exact h

theorem cachetteref03_Oracle_is.go (o1 : Option Addr) (h2 : Int) (a0 : Int) {R : Value → World → Prop} {w : World} (h : cachetteref03_Oracle_is.N o1 h2 a0 R w) : Calls Try.prog 74 #[.pointer o1, .int .u64 h2, .int .i64 a0] w fun e w' => ∃ v, e = .returned v ∧ R v w' := cachetteref03_Oracle_is.ok o1 h2 a0 (cachetteref03_Oracle_is.up o1 h2 a0 h)
theorem inf105 : (Try.prog.info? 105).map (fun i => (i.zero, i.size, i.bytes)) = some (some (.agg #[.int .u64 0, .int .i64 0, .slice none 0 0, .slice none 0 0, .int .u64 0, .int .u64 0]), 6, 80) := by kernel_rfl
/-- a row. -/
structure RRow where
  h : Int
  kind : Int
  A : List UInt8
  B : List UInt8
  n : Int
  m : Int
/-- a row, and where its bytes lie. -/
structure PR where
  r : RRow
  aA : Option Addr
  cA : Nat
  aB : Option Addr
  cB : Nat
def PR.C (x : PR) : List Value := [.int .u64 x.r.h, .int .i64 x.r.kind, .slice x.aA x.r.A.length x.cA, .slice x.aB x.r.B.length x.cB, .int .u64 x.r.n, .int .u64 x.r.m]
def PR.ok (w : World) (o : Own) (x : PR) : Prop := Row w o x.aA (bytesV x.r.A) ∧ Row w o x.aB (bytesV x.r.B) ∧ x.r.A.length ≤ x.cA ∧ x.r.B.length ≤ x.cB
def PR.Cs (R : List PR) : List Value := R.flatMap PR.C
structure ROrcP (w : World) (o : Own) (k : Nat) (d : List Int) (R : List PR) : Prop where
  tk : o k = some k
  at_ : ∃ da dc la lc, Blk w k 63 [.slice da d.length dc, .slice la R.length lc] ∧ d.length ≤ dc ∧ Row w o da (d.map u64V) ∧ Grows 105 6 w o k la R.length lc (PR.Cs R) ∧ (∀ ad, la = some ad → ad.block ≠ k)
  rows : ∀ x ∈ R, x.ok w o
def ROrc (w : World) (o : Own) (k : Nat) (d : List Int) (L : List RRow) : Prop := ∃ R, L = R.map PR.r ∧ ROrcP w o k d R
theorem PR.Cs_length (R : List PR) : (PR.Cs R).length = R.length * 6 := by
  induction R with
  | nil => rfl
  | cons x r ih => simp only [PR.Cs, List.flatMap_cons, List.length_append, List.length_cons] at ih ⊢; rw [ih]; simp [PR.C]; omega
theorem PR.Cs_get : ∀ {R : List PR} {i : Nat} {x : PR}, R[i]? = some x → ∀ j, j < 6 → (PR.Cs R)[i * 6 + j]? = x.C[j]?
  | [], i, x, hi, j, hj => by simp at hi
  | a :: r, 0, x, hi, j, hj => by
    simp only [List.getElem?_cons_zero, Option.some.injEq] at hi
    subst hi
    simp only [PR.Cs, List.flatMap_cons, Nat.zero_mul, Nat.zero_add]
    rw [List.getElem?_append_left (by simp [PR.C]; omega)]
  | a :: r, i + 1, x, hi, j, hj => by
    simp only [List.getElem?_cons_succ] at hi
    have := PR.Cs_get hi j hj
    simp only [PR.Cs, List.flatMap_cons] at this ⊢
    rw [List.getElem?_append_right (by simp [PR.C]; omega), show (i + 1) * 6 + j - a.C.length = i * 6 + j by simp [PR.C]; omega]
    exact this
theorem PR.one (x : PR) : ∀ u ∈ x.C, u.oneCell' = true := fun u hu => by
  simp only [PR.C, List.mem_cons, List.not_mem_nil, or_false] at hu
  rcases hu with rfl | rfl | rfl | rfl | rfl | rfl <;> rfl
section
variable {w w' : World} {o o' : Own} {k : Nat} {K : Nat → Prop} {d : List Int} {R : List PR} {L : List RRow}
theorem PR.ok.step {x : PR} (h : x.ok w o) (s : Step K w o w' o') : x.ok w' o' := ⟨h.1.step s, h.2.1.step s, h.2.2⟩
theorem ROrcP.lt (h : ROrcP w o k d R) : k < w.heap.size := by obtain ⟨da, dc, la, lc, hb, _⟩ := h.at_; exact hb.lt
theorem ROrcP.step (h : ROrcP w o k d R) (s : Step K w o w' o') (hk : ¬ K k) : ROrcP w' o' k d R := by
  obtain ⟨da, dc, la, lc, h1, h2, h3, h4, h5⟩ := h.at_
  exact ⟨by rw [s.own h.lt]; exact h.tk, ⟨da, dc, la, lc, s.blk h1 h.tk hk, h2, h3.step s, h4.step s hk, h5⟩, fun x hx => (h.rows x hx).step s⟩
theorem ROrc.step (h : ROrc w o k d L) (s : Step K w o w' o') (hk : ¬ K k) : ROrc w' o' k d L := by
  obtain ⟨R, h1, h2⟩ := h; exact ⟨R, h1, h2.step s hk⟩
theorem ROrc.lt (h : ROrc w o k d L) : k < w.heap.size := by obtain ⟨R, _, h⟩ := h; exact h.lt
theorem ROrc.own (h : ROrc w o k d L) : o k = some k := by obtain ⟨R, _, h⟩ := h; exact h.tk
/-- where a handle stands. -/
def atI (L : List RRow) (h : Int) : Int := match L.findIdx? (fun r => r.h == h) with | some i => i | none => -1
theorem row_cell {la : Option Addr} {ad : Addr} (hr : RowAt w la (PR.Cs R)) (ha : la = some ad) {i : Nat} {x : PR} (hi : R[i]? = some x) {j : Nat} {v : Value} (hv : x.C[j]? = some v) : w.cell? ((ad.add (i * 6)).add j) = some v := by
  have hj : j < 6 := by have := (List.getElem?_eq_some_iff.1 hv).1; simpa [PR.C] using this
  subst ha
  rw [add_add]
  exact hr.at_ ((PR.Cs_get hi j hj).trans hv)
theorem Cs_ne (h : R ≠ []) : PR.Cs R ≠ [] := fun e => by
  have := PR.Cs_length R
  rw [e] at this
  simp at this
  exact h (List.eq_nil_of_length_eq_zero (by omega))
theorem at_spec (h : ROrcP w o k d R) (hl : R.length < 1000000) (x : Int) :
    Calls Try.prog 71 #[.pointer (some (blk k)), .int .u64 x] w (Ret (.int .i64 (atI (R.map PR.r) x)) fun w' => w' = w) := by
  refine cachetteref03_Oracle_at.run _ _ ?_
  unfold cachetteref03_Oracle_at.N
  obtain ⟨da, dc, la, lc, h1, h2, h3, h4, h5⟩ := h.at_
  refine ⟨fun q vs w1 => ∃ t : Nat, vs = [.int .i64 t] ∧ q + t = R.length ∧ (∀ y ∈ R.take t, y.r.h ≠ x) ∧ w1 = w, R.length, ⟨0, rfl, rfl, by simp, rfl⟩, ?_⟩
  rintro q w1 i ⟨t, hi, hq, hn, rfl⟩
  simp only [List.cons.injEq, Value.int.injEq, true_and, and_true] at hi
  subst hi
  refine ⟨_, rfl, la, R.length, lc, h1.cella (i := 1) rfl, fun ht => ?_, fun ht => ?_⟩
  · have htl : t < R.length := by omega
    have hne : R ≠ [] := by intro e; subst e; simp at htl
    obtain ⟨ad, ha⟩ := h4.row.addr (Cs_ne hne)
    have hg : R[t]? = some R[t] := List.getElem?_eq_getElem htl
    refine ⟨la, R.length, lc, h1.cella (i := 1) rfl, ad, ha, by omega, by omega, R[t].r.h, by rw [Int.toNat_natCast]; exact row_cell h4.row ha hg (j := 0) rfl, fun he => ?_, fun he => ?_⟩
    · refine ⟨?_, rfl⟩
      have : (R.map PR.r).findIdx? (fun r => r.h == x) = some t := by
        rw [List.findIdx?_eq_some_iff_getElem]
        refine ⟨by simpa using htl, by simpa using he, fun j hj => ?_⟩
        have := hn R[j] (List.mem_take_iff_getElem.2 ⟨j, by omega, rfl⟩)
        simpa using this
      unfold atI
      rw [this]
    · refine ⟨by omega, by omega, q - 1, by omega, t + 1, rfl, by omega, fun y hy => ?_, rfl⟩
      rw [List.take_add_one, hg] at hy
      rcases List.mem_append.1 hy with hy | hy
      · exact hn y hy
      · simp at hy; rw [hy]; exact he
  · obtain rfl : t = R.length := by omega
    rw [List.take_length] at hn
    refine ⟨?_, rfl⟩
    have : (R.map PR.r).findIdx? (fun r => r.h == x) = none := by
      rw [List.findIdx?_eq_none_iff]
      intro r hr
      obtain ⟨y, hy, rfl⟩ := List.mem_map.1 hr
      simpa using hn y hy
    unfold atI
    rw [this]
theorem atI_mem (L : List RRow) (x : Int) : 0 ≤ atI L x ↔ x ∈ L.map RRow.h := by
  unfold atI
  cases h : L.findIdx? (fun r => r.h == x) with
  | some i =>
    rw [List.findIdx?_eq_some_iff_getElem] at h
    obtain ⟨h1, h2, _⟩ := h
    simp only [Int.natCast_nonneg, true_iff]
    exact List.mem_map.2 ⟨L[i], List.getElem_mem h1, by simpa using h2⟩
  | none =>
    rw [List.findIdx?_eq_none_iff] at h
    constructor
    · intro h; exact absurd h (by show ¬ (0 : Int) ≤ -1; decide)
    · intro hm
      obtain ⟨r, hr, rfl⟩ := List.mem_map.1 hm
      have := h r hr
      simp at this
/-- a fresh handle, and the draws that are left. -/
def freshR (d used : List Int) : Int × List Int := match pickD d used with | some q => q | none => (pickN used (used.length + 1) 1, [])
/-- what is left of put, once the handle is found. -/
def putTail (RR : Value → World → Prop) (w : World) (p : Nat) (a : Addr) (h kind : Int) (aA : Option Addr) (nA cA : Nat) (aB : Option Addr) (nB cB : Nat) (n m : Int) : Prop :=
  ∀ (w67 : World), Ext (fun b => b = p) w w67 →
  ∃ (La : Option Addr) (Ln : Nat) (Lc : Nat), w67.cell? (a.add 1) = some (.slice La Ln Lc) ∧
  ∀ (w70 : World) (q : Nat), Ext no w67 w70 → Blk w70 q 105 [.int .u64 h, .int .i64 kind, .slice aA nA cA, .slice aB nB cB, .int .u64 n, .int .u64 m] → w67.heap.size ≤ q → q < w70.heap.size →
  w70.cell? (a.add 1) = some (.slice La Ln Lc) ∧
  ∃ (a73a : Option Addr) (a73n : Nat) (a73c : Nat) (w74 : World), (Builtin.append_ #[61, 61] 61 #[.slice La Ln Lc, .slice (some (blk q)) 1 1]).run Try.prog w70 = .ok (.slice a73a a73n a73c) w74 ∧
  canStore w74 ((a.add 1).add 0) ∧
  thenW (w74.setCell ((a.add 1).add 0) (.slice a73a a73n a73c)) fun w75 =>
  RR (.int .u64 h) w75
theorem tail_ok {w0 : World} {o0 : Own} {p : Nat} (h : ROrcP w o k d R) (s : Step (fun j => j = k) w0 o0 w o) (hl : R.length < 1000000) (hp : w0.heap.size ≤ p) (hp' : o p = some p) (hpk : p ≠ k) (x : PR) (hx : x.ok w o) :
    putTail (fun v w' => ∃ o', v = .int .u64 x.r.h ∧ Step (fun j => j = k) w0 o0 w' o' ∧ ROrc w' o' k d (R.map PR.r ++ [x.r])) w p (blk k) x.r.h x.r.kind x.aA x.r.A.length x.cA x.aB x.r.B.length x.cB x.r.n x.r.m := by
  intro w67 X67
  obtain ⟨o67, s67⟩ := Step.store1 X67 s.ok hp'
  have h67 := h.step s67 (fun e => hpk e.symm)
  have s067 := s.trans' s67 fun j hj => .inr (by omega)
  have hx67 := hx.step s67
  obtain ⟨da, dc, la, lc, h1, h2, h3, h4, h5⟩ := h67.at_
  refine ⟨la, R.length, lc, h1.cella (i := 1) rfl, fun w70 q X70 hq hq1 hq2 => ?_⟩
  have s70 := Step.of_no X70 s067.ok
  have h70 := h67.step s70 id
  have s070 := s067.trans s70.none
  have hx70 := hx67.step s70
  obtain ⟨i, hi, hz, hsz, hby⟩ := info_of inf105
  have hb70 := s70.blk h1 h67.tk id
  obtain ⟨a', c', w74, o74, hr, s74, g74, hkeep, hblk⟩ := (h4.step s70 id).push (ty := 61) Try.underlying61 hi hz hsz hby rfl (by decide) s070.ok h70.lt (xa := some (blk q)) (m := 1) (xc := 1) (news := x.C) rfl (RowAt.of_blk hq) x.one (by omega) (by omega)
  have hb74 : Blk w74 k 63 [.slice da d.length dc, .slice la R.length lc] := by
    unfold Blk at hb70 ⊢
    rw [hkeep k h70.lt fun ad ha e => h5 ad ha e.symm]; exact hb70
  have s074 := s070.trans s74
  refine ⟨hb70.cella (i := 1) rfl, a', _, c', w74, hr, hb74.cana (i := 1) rfl, thenW_in fun w75 e75 => ?_⟩
  have X75 : Ext (fun b => b = k) w74 w75 := (Ext.refl (fun b => b = k) w74).x_set (q := k) (i := 1) rfl (.inl rfl) e75
  have tk74 : o74 k = some k := (s74.own h70.lt).trans h70.tk
  obtain ⟨o75, s75⟩ := Step.store1 X75 s74.ok tk74
  have hk74 : k < w74.heap.size := Nat.lt_of_lt_of_le h70.lt s74.size
  have hne : ∀ ad, a' = some ad → ad.block ≠ k := fun ad ha e => by
    rcases hblk ad ha with ⟨b, hb1, hb2⟩ | hq
    · exact h5 b hb1 (by omega)
    · have := h70.lt; omega
  refine ⟨o75, rfl, s074.trans s75, R ++ [x], by simp, ⟨(s75.own hk74).trans tk74, ⟨da, dc, a', c', ?_, h2, ((h3.step s70).step s74).step s75, ?_, hne⟩, fun y hy => ?_⟩⟩
  · have := hb74.seti 1 rfl e75
    rw [List.length_append]; exact this
  · have := g74.keep X75 (fun ad ha => hne ad ha) (o' := o75) fun b hb => s75.own hb
    rw [List.length_append, show PR.Cs (R ++ [x]) = PR.Cs R ++ x.C by simp [PR.Cs]]; exact this
  · rcases List.mem_append.1 hy with hy | hy
    · exact ((h70.rows y hy).step s74).step s75
    · simp at hy; subst hy; exact (hx70.step s74).step s75
/-- the counter of put. -/
def putLoop (RR : Value → World → Prop) (w : World) (p : Nat) (op : Option Addr) (a : Addr) (rh kind : Int) (aA : Option Addr) (nA cA : Nat) (aB : Option Addr) (nB cB : Nat) (n m : Int) : Prop :=
  ∃ (I2 : Nat → List Value → World → Prop) (m58 : Nat), I2 m58 [.int .u64 1, .int .u64 rh, .int .i64 kind, .slice aA nA cA, .slice aB nB cB, .int .u64 n, .int .u64 m] w ∧ ∀ (m59 : Nat) (ww60 : World) (h51 : Int) (H52 : Int) (Kind53 : Int) (A54a : Option Addr) (A54n : Nat) (A54c : Nat) (B55a : Option Addr) (B55n : Nat) (B55c : Nat) (N56 : Int) (M57 : Int), I2 m59 [.int .u64 h51, .int .u64 H52, .int .i64 Kind53, .slice A54a A54n A54c, .slice B55a B55n B55c, .int .u64 N56, .int .u64 M57] ww60 →
    Calls Try.prog 71 #[.pointer op, .int .u64 h51] ww60 fun ee62 ww63 => ∃ (atv61 : Int), ee62 = .returned (.int .i64 atv61) ∧
    Keep [p] ww60 ww63 ∧
    (atv61 ≥ 0 →
      ∃ m65, m65 < m59 ∧ I2 m65 [.int .u64 (IntKind.u64.wrap (h51 + 1)), .int .u64 H52, .int .i64 Kind53, .slice A54a A54n A54c, .slice B55a B55n B55c, .int .u64 N56, .int .u64 M57] ww63) ∧
    (atv61 < 0 → putTail RR ww63 p a h51 Kind53 A54a A54n A54c B55a B55n B55c N56 M57)
theorem loop_ok {w0 : World} {o0 : Own} {p : Nat} (h : ROrcP w o k d R) (s : Step (fun j => j = k) w0 o0 w o) (hl : R.length < 1000000) (hp : w0.heap.size ≤ p) (hp' : o p = some p) (hpk : p ≠ k) (x : PR) (hx : x.ok w o) :
    putLoop (fun v w' => ∃ o', v = .int .u64 (pickN (R.map fun y => y.r.h) (R.length + 1) 1) ∧ Step (fun j => j = k) w0 o0 w' o' ∧ ROrc w' o' k d (R.map PR.r ++ [{ x.r with h := pickN (R.map fun y => y.r.h) (R.length + 1) 1 }])) w p (some (blk k)) (blk k) x.r.h x.r.kind x.aA x.r.A.length x.cA x.aB x.r.B.length x.cB x.r.n x.r.m := by
  obtain ⟨a1, a2, a3, a4, a5⟩ := pickN_spec (R.map fun y => y.r.h) (R.length + 1) 1 (Int.le_refl _) (gap _ _ _ (by simp))
  generalize pickN (R.map fun y => y.r.h) (R.length + 1) 1 = z at *
  refine ⟨fun q vs w1 => ∃ t : Int, 1 ≤ t ∧ t ≤ z ∧ q = (z - t).toNat ∧ vs = [.int .u64 t, .int .u64 x.r.h, .int .i64 x.r.kind, .slice x.aA x.r.A.length x.cA, .slice x.aB x.r.B.length x.cB, .int .u64 x.r.n, .int .u64 x.r.m] ∧ w1 = w, (z - 1).toNat, ⟨1, Int.le_refl _, a1, rfl, rfl, rfl⟩, ?_⟩
  rintro q w1 t H Kd Aa An Ac Ba Bn Bc Nn Mm ⟨t', ht1, ht2, rfl, hvs, rfl⟩
  simp only [List.cons.injEq, Value.int.injEq, Value.slice.injEq, true_and, and_true] at hvs
  obtain ⟨rfl, rfl, rfl, ⟨rfl, rfl, rfl⟩, ⟨rfl, rfl, rfl⟩, rfl, rfl⟩ := hvs
  refine (at_spec h hl t).mono fun e w63 ⟨he, hw⟩ => ⟨_, he, by subst hw; exact Keep.refl _ _, fun hat => ?_, fun hat => ?_⟩
  · subst hw
    have hm := (atI_mem _ _).1 hat
    rw [List.map_map] at hm
    have hne : t ≠ z := fun e => by subst e; exact a3 hm
    refine ⟨(z - (t + 1)).toNat, by omega, t + 1, by omega, by omega, rfl, ?_, rfl⟩
    rw [wu64 (by omega) (by omega)]
  · subst hw
    have hm : ¬ t ∈ R.map fun y => y.r.h := fun e => by
      have := (atI_mem (R.map PR.r) t).2 (by rw [List.map_map]; exact e)
      omega
    have : t = z := Decidable.byContradiction fun hne => hm (a5 t ht1 (by omega))
    subst this
    exact tail_ok h s hl hp hp' hpk { x with r := { x.r with h := t } } hx
def putR (d : List Int) (L : List RRow) (r : RRow) : Int × List Int × List RRow :=
  ((freshR d (L.map RRow.h)).1, (freshR d (L.map RRow.h)).2, L ++ [{ r with h := (freshR d (L.map RRow.h)).1 }])
/-- the handle at hand, and the draws behind it. -/
def pend (h : Int) (d used : List Int) : Option (Int × List Int) := if h ≠ 0 ∧ h ∉ used then some (h, d) else pickD d used
theorem put_spec (h : ROrc w o k d L) (ok : Tags w o) (hd : ∀ x ∈ d, 0 ≤ x ∧ x < 18446744073709551616) (hl : L.length < 1000000) (x : PR) (hx : x.ok w o) :
    Calls Try.prog 47 #[.pointer (some (blk k)), .agg #[.int .u64 x.r.h, .int .i64 x.r.kind, .slice x.aA x.r.A.length x.cA, .slice x.aB x.r.B.length x.cB, .int .u64 x.r.n, .int .u64 x.r.m]] w
      (Gs (fun j => j = k) w o (.int .u64 (putR d L x.r).1) fun w' o' => ROrc w' o' k (putR d L x.r).2.1 (putR d L x.r).2.2) := by
  obtain ⟨R, rfl, h⟩ := h
  rw [List.length_map] at hl
  refine (cachetteref03_Oracle_put.go _ _ _ _ _ _ _ _ _ _ _ (R := fun v w' => ∃ o', v = .int .u64 (putR d (R.map PR.r) x.r).1 ∧ Step (fun j => j = k) w o w' o' ∧ ROrc w' o' k (putR d (R.map PR.r) x.r).2.1 (putR d (R.map PR.r) x.r).2.2) ?_).mono fun e w' ⟨v, he, o', hv, hw⟩ => ⟨o', by rw [he, hv], hw⟩
  unfold cachetteref03_Oracle_put.N
  intro w8 p9 X8 hp
  obtain ⟨o8, s8, tp8⟩ := Step.priv1 X8 hp ok
  have hp := hp.one
  have hkl := h.lt
  have hpk : p9 ≠ k := by omega
  have hU : (R.map PR.r).map RRow.h = R.map fun y => y.r.h := by rw [List.map_map]; rfl
  refine ⟨fun q vs w1 => ∃ (t : Int) (d1 : List Int) (o1 : Own), vs = [.int .u64 t, .int .u64 x.r.h, .int .i64 x.r.kind, .slice x.aA x.r.A.length x.cA, .slice x.aB x.r.B.length x.cB, .int .u64 x.r.n, .int .u64 x.r.m] ∧ q = d1.length ∧ pend t d1 (R.map fun y => y.r.h) = pickD d (R.map fun y => y.r.h) ∧ (∀ y ∈ d1, 0 ≤ y ∧ y < 18446744073709551616) ∧
      Step (fun j => j = k) w o w1 o1 ∧ ROrcP w1 o1 k d1 R ∧ o1 p9 = some p9 ∧ p9 < w1.heap.size, d.length, ⟨0, d, o8, rfl, rfl, by unfold pend; rw [if_neg (fun h => h.1 rfl)], hd, s8.none, h.step s8 id, tp8, hp.2⟩, ?_⟩
  rintro q w1 t H Kd Aa An Ac Ba Bn Bc Nn Mm ⟨t', d1, o1, hvs, rfl, hpd, hd1, s1, h1, tp1, lp1⟩
  simp only [List.cons.injEq, Value.int.injEq, Value.slice.injEq, true_and, and_true] at hvs
  obtain ⟨rfl, rfl, rfl, ⟨rfl, rfl, rfl⟩, ⟨rfl, rfl, rfl⟩, rfl, rfl⟩ := hvs
  have hx1 := hx.step s1
  obtain ⟨da, dc, la, lc, b1, b2, b3, b4, b5⟩ := id h1.at_
  -- a draw is taken
  have draw : ∀ (y : Int) (r : List Int), d1 = y :: r → ∀ w32, w32 = w1.setCell (((blk k).add 0).add 0) (.slice (cutA da dc 1 1) (d1.length - 1) (dc - 1)) → ∃ o32, Step (fun j => j = k) w o w32 o32 ∧ ROrcP w32 o32 k r R ∧ o32 p9 = some p9 ∧ p9 < w32.heap.size := fun y r hy w32 e32 => by
    subst hy
    have X32 : Ext (fun b => b = k) w1 w32 := (Ext.refl (fun b => b = k) w1).x_set (q := k) (i := 0) rfl (.inl rfl) e32
    obtain ⟨o32, s32⟩ := Step.store1 X32 s1.ok h1.tk
    have hb := b1.seti 0 rfl e32
    refine ⟨o32, s1.trans s32, ⟨(s32.own h1.lt).trans h1.tk, ⟨cutA da dc 1 1, dc - 1, la, lc, hb, by simp at b2; omega, ?_, b4.keep X32 (fun ad ha => b5 ad ha) fun b hb => s32.own hb, b5⟩, fun z hz => (h1.rows z hz).step s32⟩, (s32.own lp1).trans tp1, Nat.lt_of_lt_of_le lp1 s32.size⟩
    have hc := b3.1.cut 1 dc (by rw [List.length_map]; exact b2)
    have e1 : List.drop 1 (List.map u64V (y :: r)) = r.map u64V := rfl
    rw [e1] at hc
    have : Row w1 o1 (cutA da dc 1 1) (r.map u64V) := ⟨hc, fun h0 ad ha => by
      obtain ⟨b, hb, hbb⟩ := cutA_block ha
      rw [← hbb]; exact b3.2 (by simp) b hb⟩
    exact this.step s32
  have hnone : pickD d (R.map fun y => y.r.h) = none → putR d (R.map PR.r) x.r = (pickN (R.map fun y => y.r.h) (R.length + 1) 1, [], R.map PR.r ++ [{ x.r with h := pickN (R.map fun y => y.r.h) (R.length + 1) 1 }]) := fun hn => by
    unfold putR freshR
    rw [hU, hn, List.length_map]
  have hsome : ∀ z r, pickD d (R.map fun y => y.r.h) = some (z, r) → putR d (R.map PR.r) x.r = (z, r, R.map PR.r ++ [{ x.r with h := z }]) := fun z r hn => by
    unfold putR freshR
    rw [hU, hn]
  have hin : ∀ z, 0 ≤ atI (R.map PR.r) z ↔ z ∈ R.map fun y => y.r.h := fun z => by rw [atI_mem, List.map_map]; rfl
  refine ⟨_, rfl, da, d1.length, dc, b1.cella (i := 0) rfl, fun hpos => ⟨fun h0 => ?_, fun h0 => ?_⟩, fun hneg => ⟨fun h0 => ?_, fun h0 => ?_⟩⟩
  · -- none at hand, and draws are left
    subst h0
    cases d1 with
    | nil => simp at hpos
    | cons y r =>
      obtain ⟨ad, ha⟩ := b3.1.addr (by simp)
      have hy := hd1 y (by simp)
      refine ⟨da, _, dc, b1.cella (i := 0) rfl, ad, ha, by omega, y, by subst ha; exact b3.1.at_ (i := 0) rfl, da, _, dc, b1.cella (i := 0) rfl, by simp only [List.length_cons]; omega, b1.cana (i := 0) rfl, fun z hz => by simp at hz; subst hz; exact hpk, thenW_in fun w32 e32 => ?_⟩
      obtain ⟨o32, s32, h32, t32, l32⟩ := draw y r rfl w32 e32
      refine ⟨r.length, by simp, y, r, o32, rfl, rfl, ?_, fun z hz => hd1 z (by simp [hz]), s32, h32, t32, l32⟩
      rw [← hpd, show pend 0 (y :: r) (R.map fun y => y.r.h) = pickD (y :: r) (R.map fun y => y.r.h) from if_neg fun h => h.1 rfl]
      unfold pend
      simp only [pickD]
      by_cases c : y ≠ 0 ∧ y ∉ R.map fun y => y.r.h
      · rw [if_pos c, if_neg (by rintro (h | h); exact c.1 h; exact c.2 h)]
      · rw [if_neg c, if_pos (by by_cases hy0 : y = 0; exact .inl hy0; exact .inr (Decidable.not_not.1 fun h => c ⟨hy0, h⟩))]
  · -- one at hand, and draws are left
    refine (at_spec h1 hl t).mono fun e w36 ⟨he, hw⟩ => ⟨_, he, by subst hw; exact Keep.refl _ _, fun hat => ?_, fun hat => ?_⟩ <;> subst hw
    · have hused := (hin t).1 hat
      cases d1 with
      | nil => simp at hpos
      | cons y r =>
        obtain ⟨ad, ha⟩ := b3.1.addr (by simp)
        refine ⟨da, _, dc, b1.cella (i := 0) rfl, ad, ha, by omega, y, by subst ha; exact b3.1.at_ (i := 0) rfl, da, _, dc, b1.cella (i := 0) rfl, by simp only [List.length_cons]; omega, b1.cana (i := 0) rfl, fun z hz => by simp at hz; subst hz; exact hpk, thenW_in fun w45 e45 => ?_⟩
        obtain ⟨o32, s32, h32, t32, l32⟩ := draw y r rfl w45 e45
        refine ⟨r.length, by simp, y, r, o32, rfl, rfl, ?_, fun z hz => hd1 z (by simp [hz]), s32, h32, t32, l32⟩
        rw [← hpd, show pend t (y :: r) (R.map fun y => y.r.h) = pickD (y :: r) (R.map fun y => y.r.h) from if_neg fun h => h.2 hused]
        unfold pend
        simp only [pickD]
        by_cases c : y ≠ 0 ∧ y ∉ R.map fun y => y.r.h
        · rw [if_pos c, if_neg (by rintro (h | h); exact c.1 h; exact c.2 h)]
        · rw [if_neg c, if_pos (by by_cases hy0 : y = 0; exact .inl hy0; exact .inr (Decidable.not_not.1 fun h => c ⟨hy0, h⟩))]
    · have hfree : t ∉ R.map fun y => y.r.h := fun e => by have := (hin t).2 e; omega
      refine (at_spec h1 hl t).mono fun e w49 ⟨he, hw⟩ => ⟨_, he, by subst hw; exact Keep.refl _ _, fun hat2 => absurd hat2 (by omega), fun _ => ?_⟩
      subst hw
      have : pickD d (R.map fun y => y.r.h) = some (t, d1) := by rw [← hpd]; unfold pend; rw [if_pos ⟨h0, hfree⟩]
      rw [hsome _ _ this]
      exact tail_ok h1 s1 hl hp.1 tp1 hpk { x with r := { x.r with h := t } } hx1
  · -- none at hand, none left
    obtain rfl : d1 = [] := List.eq_nil_of_length_eq_zero (by omega)
    subst h0
    have : pickD d (R.map fun y => y.r.h) = none := by rw [← hpd]; unfold pend; rw [if_neg (fun h => h.1 rfl)]; rfl
    rw [hnone this]
    exact loop_ok h1 s1 hl hp.1 tp1 hpk x hx1
  · -- one at hand, none left
    obtain rfl : d1 = [] := List.eq_nil_of_length_eq_zero (by omega)
    refine (at_spec h1 hl t).mono fun e w36 ⟨he, hw⟩ => ⟨_, he, by subst hw; exact Keep.refl _ _, fun hat => ?_, fun hat => ?_⟩ <;> subst hw
    · have hused := (hin t).1 hat
      have : pickD d (R.map fun y => y.r.h) = none := by rw [← hpd]; unfold pend; rw [if_neg (fun h : t ≠ 0 ∧ t ∉ _ => h.2 hused)]; rfl
      rw [hnone this]
      exact loop_ok h1 s1 hl hp.1 tp1 hpk x hx1
    · have hfree : t ∉ R.map fun y => y.r.h := fun e => by have := (hin t).2 e; omega
      have : pickD d (R.map fun y => y.r.h) = some (t, []) := by rw [← hpd]; unfold pend; rw [if_pos ⟨h0, hfree⟩]
      rw [hsome _ _ this]
      exact tail_ok h1 s1 hl hp.1 tp1 hpk { x with r := { x.r with h := t } } hx1
end
end Go.Proofs.Ytfmdpjhkojbocaa

/- The reference's oracle: what its calls answer. -/
set_option linter.unusedVariables false
set_option linter.unusedSimpArgs false
set_option maxRecDepth 20000
namespace Go.Proofs.Ytfmdpjhkojbocaa
open Go Go.Mx Go.Proofs
/-- (*cachetteref03.Oracle).Pair -/
def cachetteref03_Oracle_Pair.M (o1 : Option Addr) (R : Value → World → Prop) (w : World) : Prop :=
 Calls Try.prog 47 #[.pointer o1, .agg #[.int .u64 0, .int .i64 3, .slice none 0 0, .slice none 0 0, .int .u64 0, .int .u64 0]] w fun a3 a5 => ∃ (a0 : Int), a3 = .returned (.int .u64 a0) ∧
 Calls Try.prog 47 #[.pointer o1, .agg #[.int .u64 0, .int .i64 4, .slice none 0 0, .slice none 0 0, .int .u64 a0, .int .u64 0]] a5 fun a4 a2 => ∃ (a1 : Int), a4 = .returned (.int .u64 a1) ∧
 R (.tuple #[.int .u64 a0, .int .u64 a1]) a2

theorem cachetteref03_Oracle_Pair.eq (o1 : Option Addr) (R : Value → World → Prop) (w : World) : mfunc Try.prog [] 18 [.pointer o1] R w = cachetteref03_Oracle_Pair.M o1 R w := by kernel_rfl
theorem cachetteref03_Oracle_Pair.ok (o1 : Option Addr) {R : Value → World → Prop} {w : World} (h : cachetteref03_Oracle_Pair.M o1 R w) : Calls Try.prog 18 #[.pointer o1] w fun e w' => ∃ v, e = .returned v ∧ R v w' :=
  mfunc_ok follows (H := []) (args := [.pointer o1]) (by rw [cachetteref03_Oracle_Pair.eq]; exact h)

def cachetteref03_Oracle_Pair.N (o1 : Option Addr) (R : Value → World → Prop) (w : World) : Prop :=
 Calls Try.prog 47 #[.pointer o1, .agg #[.int .u64 0, .int .i64 3, .slice none 0 0, .slice none 0 0, .int .u64 0, .int .u64 0]] w fun a3 a5 => ∃ (a0 : Int), a3 = .returned (.int .u64 a0) ∧
 Calls Try.prog 47 #[.pointer o1, .agg #[.int .u64 0, .int .i64 4, .slice none 0 0, .slice none 0 0, .int .u64 a0, .int .u64 0]] a5 fun a4 a2 => ∃ (a1 : Int), a4 = .returned (.int .u64 a1) ∧
 R (.tuple #[.int .u64 a0, .int .u64 a1]) a2

theorem cachetteref03_Oracle_Pair.up (o1 : Option Addr) {R : Value → World → Prop} {w : World} (h : cachetteref03_Oracle_Pair.N o1 R w) : cachetteref03_Oracle_Pair.M o1 R w := by
  unfold cachetteref03_Oracle_Pair.M
  unfold cachetteref03_Oracle_Pair.N at h
  refine h.mono fun a3 a5 h => ?_
  obtain ⟨a1, he, h⟩ := h
  refine ⟨a1, he, ?_⟩
  refine h.mono fun a4 a2 h => ?_
  obtain ⟨a0, he, h⟩ := h
  refine ⟨a0, he, ?_⟩
  exact h

theorem cachetteref03_Oracle_Pair.go (o1 : Option Addr) {R : Value → World → Prop} {w : World} (h : cachetteref03_Oracle_Pair.N o1 R w) : Calls Try.prog 18 #[.pointer o1] w fun e w' => ∃ v, e = .returned v ∧ R v w' := cachetteref03_Oracle_Pair.ok o1 (cachetteref03_Oracle_Pair.up o1 h)
/-- (*cachetteref03.Oracle).Sign -/
def cachetteref03_Oracle_Sign.M (o1 : Option Addr) (a2 : Int) (be : Option Addr) (ba : Nat) (b6 : Nat) (R : Value → World → Prop) (w : World) : Prop :=
 Calls Try.prog 74 #[.pointer o1, .int .u64 a2, .int .i64 3] w fun ax a0 => ∃ (H4 : Int) (a7 : Int) (bh : Option Addr) (b9 : Nat) (bd : Nat) (bi : Option Addr) (bj : Nat) (bg : Nat) (N8 : Int) (M9 : Int) (a9 : Bool), ax = .returned (.tuple #[.agg #[.int .u64 H4, .int .i64 a7, .slice bh b9 bd, .slice bi bj bg, .int .u64 N8, .int .u64 M9], .bool a9]) ∧
 thenW (a0.alloc (.cells #[.int .u64 0, .int .i64 0, .slice none 0 0, .slice none 0 0, .int .u64 0, .int .u64 0] 105)) fun af =>
 canStore af ((blk a0.heap.size).add 0) ∧
 thenW (af.setCell ((blk a0.heap.size).add 0) (.int .u64 H4)) fun ao =>
 canStore ao ((blk a0.heap.size).add 1) ∧
 thenW (ao.setCell ((blk a0.heap.size).add 1) (.int .i64 a7)) fun ar =>
 canStore ar ((blk a0.heap.size).add 2) ∧
 thenW (ar.setCell ((blk a0.heap.size).add 2) (.slice bh b9 bd)) fun ah =>
 canStore ah ((blk a0.heap.size).add 3) ∧
 thenW (ah.setCell ((blk a0.heap.size).add 3) (.slice bi bj bg)) fun ag =>
 canStore ag ((blk a0.heap.size).add 4) ∧
 thenW (ag.setCell ((blk a0.heap.size).add 4) (.int .u64 N8)) fun ap =>
 canStore ap ((blk a0.heap.size).add 5) ∧
 thenW (ap.setCell ((blk a0.heap.size).add 5) (.int .u64 M9)) fun au =>
 bif !a9 then (
 R (.tuple #[.int .u64 0, .int .i64 11]) au) else (
 ∃ (I0 : Nat → List Value → World → Prop) (bo : Nat), I0 bo [.int .i64 0] au ∧ ∀ (av : Nat) (a1 : World) (a3 : Int), I0 av [.int .i64 a3] a1 →
 o1.elim False fun br =>
 ∃ (ay : Option Addr) (ae : Nat) (b3 : Nat), a1.cell? (br.add 1) = some (.slice ay ae b3) ∧
 bif decide (a3 < (ae : Int)) then (
 o1.elim False fun bs =>
 ∃ (aa : Option Addr) (ai : Nat) (b5 : Nat), a1.cell? (bs.add 1) = some (.slice aa ai b5) ∧
 aa.elim False fun bm =>
 0 ≤ (a3 : Int) ∧ (a3 : Int) < (ai : Int) ∧
 ∃ (a5 : Int), a1.cell? ((bm.add (Int.toNat a3 * 6)).add 1) = some (.int .i64 a5) ∧
 bif a5 == 5 then (
 o1.elim False fun bn =>
 ∃ (am : Option Addr) (aj : Nat) (b2 : Nat), a1.cell? (bn.add 1) = some (.slice am aj b2) ∧
 am.elim False fun bt =>
 0 ≤ (a3 : Int) ∧ (a3 : Int) < (aj : Int) ∧
 ∃ (b7 : Int), a1.cell? ((bt.add (Int.toNat a3 * 6)).add 4) = some (.int .u64 b7) ∧
 bif b7 == a2 then (
 o1.elim False fun bp =>
 ∃ (ad : Option Addr) (ab : Nat) (b4 : Nat), a1.cell? (bp.add 1) = some (.slice ad ab b4) ∧
 ad.elim False fun bl =>
 0 ≤ (a3 : Int) ∧ (a3 : Int) < (ab : Int) ∧
 ∃ (ak : Option Addr) (aq : Nat) (al : Nat), a1.cell? ((bl.add (Int.toNat a3 * 6)).add 2) = some (.slice ak aq al) ∧
 Calls Try.prog 13 #[.slice ak aq al, .slice be ba b6] a1 fun b1 a6 => ∃ (a4 : Bool), b1 = .returned (.bool a4) ∧
 bif a4 then (
 o1.elim False fun bq =>
 ∃ (an : Option Addr) (ac : Nat) (aw : Nat), a6.cell? (bq.add 1) = some (.slice an ac aw) ∧
 an.elim False fun bk =>
 0 ≤ (a3 : Int) ∧ (a3 : Int) < (ac : Int) ∧
 ∃ (b8 : Int), a6.cell? ((bk.add (Int.toNat a3 * 6)).add 0) = some (.int .u64 b8) ∧
 R (.tuple #[.int .u64 b8, .int .i64 0]) a6) else (
 ∃ bb, bb < av ∧ I0 bb [.int .i64 (IntKind.i64.wrap (a3 + 1))] a6)) else (
 ∃ bf, bf < av ∧ I0 bf [.int .i64 (IntKind.i64.wrap (a3 + 1))] a1)) else (
 ∃ bc, bc < av ∧ I0 bc [.int .i64 (IntKind.i64.wrap (a3 + 1))] a1)) else (
 Calls Try.prog 47 #[.pointer o1, .agg #[.int .u64 0, .int .i64 5, .slice be ba b6, .slice none 0 0, .int .u64 a2, .int .u64 0]] a1 fun az b0 => ∃ (a8 : Int), az = .returned (.int .u64 a8) ∧
 R (.tuple #[.int .u64 a8, .int .i64 0]) b0))

theorem cachetteref03_Oracle_Sign.eq (o1 : Option Addr) (secret2 : Int) (b3a : Option Addr) (b3n : Nat) (b3c : Nat) (R : Value → World → Prop) (w : World) : mfunc Try.prog [(0, [0, 1, 2], [(10, (.one (.int .i64)))])] 54 [.pointer o1, .int .u64 secret2, .slice b3a b3n b3c] R w = cachetteref03_Oracle_Sign.M o1 secret2 b3a b3n b3c R w := by kernel_rfl
theorem cachetteref03_Oracle_Sign.ok (o1 : Option Addr) (a0 : Int) (a2 : Option Addr) (a3 : Nat) (a1 : Nat) {R : Value → World → Prop} {w : World} (h : cachetteref03_Oracle_Sign.M o1 a0 a2 a3 a1 R w) : Calls Try.prog 54 #[.pointer o1, .int .u64 a0, .slice a2 a3 a1] w fun e w' => ∃ v, e = .returned v ∧ R v w' :=
  mfunc_ok follows (H := [(0, [0, 1, 2], [(10, (.one (.int .i64)))])]) (args := [.pointer o1, .int .u64 a0, .slice a2 a3 a1]) (by rw [cachetteref03_Oracle_Sign.eq]; exact h)

def cachetteref03_Oracle_Sign.N (o1 : Option Addr) (a2 : Int) (b6 : Option Addr) (b5 : Nat) (b2 : Nat) (R : Value → World → Prop) (w : World) : Prop :=
 Calls Try.prog 74 #[.pointer o1, .int .u64 a2, .int .i64 3] w fun ar ak => ∃ (H4 : Int) (ad : Int) (bg : Option Addr) (bd : Nat) (be : Nat) (bh : Option Addr) (bj : Nat) (bf : Nat) (N8 : Int) (M9 : Int) (a5 : Bool), ar = .returned (.tuple #[.agg #[.int .u64 H4, .int .i64 ad, .slice bg bd be, .slice bh bj bf, .int .u64 N8, .int .u64 M9], .bool a5]) ∧
 (a5 = false →
 ∀ (a6 : World), Ext no ak a6 →
 R (.tuple #[.int .u64 0, .int .i64 11]) a6) ∧
 (a5 = true →
 ∀ (a6 : World), Ext no ak a6 →
 ∃ (I0 : Nat → List Value → World → Prop) (bi : Nat), I0 bi [.int .i64 0] a6 ∧ ∀ (ao : Nat) (a0 : World) (a1 : Int), I0 ao [.int .i64 a1] a0 →
 ∃ aa : Addr, o1 = some aa ∧
 ∃ (b0 : Option Addr) (a9 : Nat) (aq : Nat), a0.cell? (aa.add 1) = some (.slice b0 a9 aq) ∧
 (a1 < (a9 : Int) →
 ∃ (ab : Option Addr) (ai : Nat) (ax : Nat), a0.cell? (aa.add 1) = some (.slice ab ai ax) ∧
 ∃ b8 : Addr, ab = some b8 ∧
 0 ≤ (a1 : Int) ∧ (a1 : Int) < (ai : Int) ∧
 ∃ (a4 : Int), a0.cell? ((b8.add (Int.toNat a1 * 6)).add 1) = some (.int .i64 a4) ∧
 (a4 = 5 →
 ∃ (am : Option Addr) (ac : Nat) (ap : Nat), a0.cell? (aa.add 1) = some (.slice am ac ap) ∧
 ∃ b7 : Addr, am = some b7 ∧
 0 ≤ (a1 : Int) ∧ (a1 : Int) < (ac : Int) ∧
 ∃ (b1 : Int), a0.cell? ((b7.add (Int.toNat a1 * 6)).add 4) = some (.int .u64 b1) ∧
 (b1 = a2 →
 ∃ (aj : Option Addr) (an : Nat) (au : Nat), a0.cell? (aa.add 1) = some (.slice aj an au) ∧
 ∃ bc : Addr, aj = some bc ∧
 0 ≤ (a1 : Int) ∧ (a1 : Int) < (an : Int) ∧
 ∃ (al : Option Addr) (af : Nat) (ae : Nat), a0.cell? ((bc.add (Int.toNat a1 * 6)).add 2) = some (.slice al af ae) ∧
 Calls Try.prog 13 #[.slice al af ae, .slice b6 b5 b2] a0 fun ay a7 => ∃ (a3 : Bool), ay = .returned (.bool a3) ∧
 (a3 = true →
 ∃ (ag : Option Addr) (ah : Nat) (aw : Nat), a7.cell? (aa.add 1) = some (.slice ag ah aw) ∧
 ∃ bb : Addr, ag = some bb ∧
 0 ≤ (a1 : Int) ∧ (a1 : Int) < (ah : Int) ∧
 ∃ (b4 : Int), a7.cell? ((bb.add (Int.toNat a1 * 6)).add 0) = some (.int .u64 b4) ∧
 R (.tuple #[.int .u64 b4, .int .i64 0]) a7) ∧
 (a3 = false →
 (-9223372036854775808 : Int) ≤ (a1 + 1) ∧ (a1 + 1) < 9223372036854775808 ∧
 ∃ b3, b3 < ao ∧ I0 b3 [.int .i64 (a1 + 1)] a7)) ∧
 (b1 ≠ a2 →
 (-9223372036854775808 : Int) ≤ (a1 + 1) ∧ (a1 + 1) < 9223372036854775808 ∧
 ∃ ba, ba < ao ∧ I0 ba [.int .i64 (a1 + 1)] a0)) ∧
 (a4 ≠ 5 →
 (-9223372036854775808 : Int) ≤ (a1 + 1) ∧ (a1 + 1) < 9223372036854775808 ∧
 ∃ b9, b9 < ao ∧ I0 b9 [.int .i64 (a1 + 1)] a0)) ∧
 ((a9 : Int) ≤ a1 →
 Calls Try.prog 47 #[.pointer o1, .agg #[.int .u64 0, .int .i64 5, .slice b6 b5 b2, .slice none 0 0, .int .u64 a2, .int .u64 0]] a0 fun az av => ∃ (a8 : Int), az = .returned (.int .u64 a8) ∧
 R (.tuple #[.int .u64 a8, .int .i64 0]) av))

theorem cachetteref03_Oracle_Sign.up (o1 : Option Addr) (a3 : Int) (c3 : Option Addr) (c9 : Nat) (c4 : Nat) {R : Value → World → Prop} {w : World} (h : cachetteref03_Oracle_Sign.N o1 a3 c3 c9 c4 R w) : cachetteref03_Oracle_Sign.M o1 a3 c3 c9 c4 R w := by
  unfold cachetteref03_Oracle_Sign.M
  unfold cachetteref03_Oracle_Sign.N at h
  refine h.mono fun cl a0 h => ?_
  obtain ⟨H4, a1, ai, af, ac, ak, al, aj, N8, M9, ae, he, h⟩ := h
  refine ⟨H4, a1, ai, af, ac, ak, al, aj, N8, M9, ae, he, ?_⟩
  refine thenW_in fun cb c7 => ?_
  have a2 := Blk.of_new c7
  have aa := ((Ext.refl no a0)).size
  have ay := (Ext.refl no a0).x_alloc c7
  refine ⟨a2.cani 0 rfl rfl, thenW_in fun bx c5 => ?_⟩
  have b7 := ay.x_set (q := a0.heap.size) (i := 0) rfl (.inr aa) c5
  have a2 : Blk bx a0.heap.size 105 [.int .u64 H4, .int .i64 0, .slice none 0 0, .slice none 0 0, .int .u64 0, .int .u64 0] := a2.seti 0 rfl c5
  refine ⟨a2.cani 1 rfl rfl, thenW_in fun b9 c2 => ?_⟩
  have b4 := b7.x_set (q := a0.heap.size) (i := 1) rfl (.inr aa) c2
  have a2 : Blk b9 a0.heap.size 105 [.int .u64 H4, .int .i64 a1, .slice none 0 0, .slice none 0 0, .int .u64 0, .int .u64 0] := a2.seti 1 rfl c2
  refine ⟨a2.cani 2 rfl rfl, thenW_in fun ap ca => ?_⟩
  have bv := b4.x_set (q := a0.heap.size) (i := 2) rfl (.inr aa) ca
  have a2 : Blk ap a0.heap.size 105 [.int .u64 H4, .int .i64 a1, .slice ai af ac, .slice none 0 0, .int .u64 0, .int .u64 0] := a2.seti 2 rfl ca
  refine ⟨a2.cani 3 rfl rfl, thenW_in fun bd c1 => ?_⟩
  have bw := bv.x_set (q := a0.heap.size) (i := 3) rfl (.inr aa) c1
  have a2 : Blk bd a0.heap.size 105 [.int .u64 H4, .int .i64 a1, .slice ai af ac, .slice ak al aj, .int .u64 0, .int .u64 0] := a2.seti 3 rfl c1
  refine ⟨a2.cani 4 rfl rfl, thenW_in fun au c6 => ?_⟩
  have ao := bw.x_set (q := a0.heap.size) (i := 4) rfl (.inr aa) c6
  have a2 : Blk au a0.heap.size 105 [.int .u64 H4, .int .i64 a1, .slice ai af ac, .slice ak al aj, .int .u64 N8, .int .u64 0] := a2.seti 4 rfl c6
  refine ⟨a2.cani 5 rfl rfl, thenW_in fun a6 c8 => ?_⟩
  have ad := ao.x_set (q := a0.heap.size) (i := 5) rfl (.inr aa) c8
  have a2 : Blk a6 a0.heap.size 105 [.int .u64 H4, .int .i64 a1, .slice ai af ac, .slice ak al aj, .int .u64 N8, .int .u64 M9] := a2.seti 5 rfl c8
  refine bif_of (fun c0 => ?_) (fun c0 => ?_)
  · have h := h.1 (not_t c0)
    have h := h a6 ad
    exact h
  · have h := h.2 (not_f c0)
    have h := h a6 ad
    obtain ⟨I0, ck, h0, h⟩ := h
    refine ⟨I0, ck, h0, fun cj aw cf hI => ?_⟩
    have h := h cj aw cf hI
    obtain ⟨cq, a4, h⟩ := h
    refine elim_some a4 ?_
    obtain ⟨bz, b1, ba, bu, h⟩ := h
    refine ⟨bz, b1, ba, bu, ?_⟩
    refine bif_of (fun b5 => ?_) (fun b5 => ?_)
    · have h := h.1 (of_decide_eq_true b5)
      refine elim_some a4 ?_
      obtain ⟨bb, bt, ar, bj, h⟩ := h
      refine ⟨bb, bt, ar, bj, ?_⟩
      obtain ⟨cp, ax, h⟩ := h
      refine elim_some ax ?_
      obtain ⟨a7, a5, h⟩ := h
      refine ⟨a7, a5, ?_⟩
      obtain ⟨a9, bh, h⟩ := h
      refine ⟨a9, bh, ?_⟩
      refine bif_of (fun b0 => ?_) (fun b0 => ?_)
      · have h := h.1 (beq_t b0)
        refine elim_some a4 ?_
        obtain ⟨bm, az, bo, an, h⟩ := h
        refine ⟨bm, az, bo, an, ?_⟩
        obtain ⟨cr, bi, h⟩ := h
        refine elim_some bi ?_
        obtain ⟨a7, a5, h⟩ := h
        refine ⟨a7, a5, ?_⟩
        obtain ⟨ci, bs, h⟩ := h
        refine ⟨ci, bs, ?_⟩
        refine bif_of (fun bk => ?_) (fun bk => ?_)
        · have h := h.1 (beq_t bk)
          refine elim_some a4 ?_
          obtain ⟨b6, bn, be, b2, h⟩ := h
          refine ⟨b6, bn, be, b2, ?_⟩
          obtain ⟨ct, am, h⟩ := h
          refine elim_some am ?_
          obtain ⟨a7, a5, h⟩ := h
          refine ⟨a7, a5, ?_⟩
          obtain ⟨av, bq, bc, bl, h⟩ := h
          refine ⟨av, bq, bc, bl, ?_⟩
          refine h.mono fun cn cd h => ?_
          obtain ⟨a8, he, h⟩ := h
          refine ⟨a8, he, ?_⟩
          refine bif_of (fun bf => ?_) (fun bf => ?_)
          · have h := h.1 bf
            refine elim_some a4 ?_
            obtain ⟨bg, br, aq, b3, h⟩ := h
            refine ⟨bg, br, aq, b3, ?_⟩
            obtain ⟨cs, bp, h⟩ := h
            refine elim_some bp ?_
            obtain ⟨a7, a5, h⟩ := h
            refine ⟨a7, a5, ?_⟩
            obtain ⟨cc, b8, h⟩ := h
            refine ⟨cc, b8, ?_⟩
            exact h
          · have h := h.2 bf
            obtain ⟨ag, ah, h⟩ := h
            try rw [w64 ag ah]
            obtain ⟨ce, hk, h⟩ := h
            exact ⟨ce, hk, h⟩
        · have h := h.2 (beq_f bk)
          obtain ⟨ag, ah, h⟩ := h
          try rw [w64 ag ah]
          obtain ⟨co, hk, h⟩ := h
          exact ⟨co, hk, h⟩
      · have h := h.2 (beq_f b0)
        obtain ⟨ag, ah, h⟩ := h
        try rw [w64 ag ah]
        obtain ⟨ch, hk, h⟩ := h
        exact ⟨ch, hk, h⟩
    · have h := h.2 (Int.not_lt.1 (of_decide_eq_false b5))
      refine h.mono fun cg cm h => ?_
      obtain ⟨ab, he, h⟩ := h
      refine ⟨ab, he, ?_⟩
      exact h

theorem cachetteref03_Oracle_Sign.go (o1 : Option Addr) (a0 : Int) (a2 : Option Addr) (a3 : Nat) (a1 : Nat) {R : Value → World → Prop} {w : World} (h : cachetteref03_Oracle_Sign.N o1 a0 a2 a3 a1 R w) : Calls Try.prog 54 #[.pointer o1, .int .u64 a0, .slice a2 a3 a1] w fun e w' => ∃ v, e = .returned v ∧ R v w' := cachetteref03_Oracle_Sign.ok o1 a0 a2 a3 a1 (cachetteref03_Oracle_Sign.up o1 a0 a2 a3 a1 h)
/-- (*cachetteref03.Oracle).Verify -/
def cachetteref03_Oracle_Verify.M (o1 : Option Addr) (a3 : Int) (bg : Option Addr) (bf : Nat) (be : Nat) (aw : Int) (R : Value → World → Prop) (w : World) : Prop :=
 Calls Try.prog 74 #[.pointer o1, .int .u64 a3, .int .i64 4] w fun b0 a1 => ∃ (H5 : Int) (a6 : Int) (b3 : Option Addr) (b7 : Nat) (b9 : Nat) (bd : Option Addr) (b2 : Nat) (bc : Nat) (N9 : Int) (b6 : Int) (a7 : Bool), b0 = .returned (.tuple #[.agg #[.int .u64 H5, .int .i64 a6, .slice b3 b7 b9, .slice bd b2 bc, .int .u64 N9, .int .u64 b6], .bool a7]) ∧
 thenW (a1.alloc (.cells #[.int .u64 0, .int .i64 0, .slice none 0 0, .slice none 0 0, .int .u64 0, .int .u64 0] 105)) fun an =>
 canStore an ((blk a1.heap.size).add 0) ∧
 thenW (an.setCell ((blk a1.heap.size).add 0) (.int .u64 H5)) fun ar =>
 canStore ar ((blk a1.heap.size).add 1) ∧
 thenW (ar.setCell ((blk a1.heap.size).add 1) (.int .i64 a6)) fun ah =>
 canStore ah ((blk a1.heap.size).add 2) ∧
 thenW (ah.setCell ((blk a1.heap.size).add 2) (.slice b3 b7 b9)) fun ag =>
 canStore ag ((blk a1.heap.size).add 3) ∧
 thenW (ag.setCell ((blk a1.heap.size).add 3) (.slice bd b2 bc)) fun ao =>
 canStore ao ((blk a1.heap.size).add 4) ∧
 thenW (ao.setCell ((blk a1.heap.size).add 4) (.int .u64 N9)) fun af =>
 canStore af ((blk a1.heap.size).add 5) ∧
 thenW (af.setCell ((blk a1.heap.size).add 5) (.int .u64 b6)) fun ay =>
 Calls Try.prog 74 #[.pointer o1, .int .u64 aw, .int .i64 5] ay fun az a0 => ∃ (ba : Int) (a4 : Int) (al : Option Addr) (ac : Nat) (au : Nat) (ak : Option Addr) (ab : Nat) (ap : Nat) (b8 : Int) (b5 : Int) (a8 : Bool), az = .returned (.tuple #[.agg #[.int .u64 ba, .int .i64 a4, .slice al ac au, .slice ak ab ap, .int .u64 b8, .int .u64 b5], .bool a8]) ∧
 thenW (a0.alloc (.cells #[.int .u64 0, .int .i64 0, .slice none 0 0, .slice none 0 0, .int .u64 0, .int .u64 0] 105)) fun ad =>
 canStore ad ((blk a0.heap.size).add 0) ∧
 thenW (ad.setCell ((blk a0.heap.size).add 0) (.int .u64 ba)) fun am =>
 canStore am ((blk a0.heap.size).add 1) ∧
 thenW (am.setCell ((blk a0.heap.size).add 1) (.int .i64 a4)) fun ai =>
 canStore ai ((blk a0.heap.size).add 2) ∧
 thenW (ai.setCell ((blk a0.heap.size).add 2) (.slice al ac au)) fun aa =>
 canStore aa ((blk a0.heap.size).add 3) ∧
 thenW (aa.setCell ((blk a0.heap.size).add 3) (.slice ak ab ap)) fun ae =>
 canStore ae ((blk a0.heap.size).add 4) ∧
 thenW (ae.setCell ((blk a0.heap.size).add 4) (.int .u64 b8)) fun a9 =>
 canStore a9 ((blk a0.heap.size).add 5) ∧
 thenW (a9.setCell ((blk a0.heap.size).add 5) (.int .u64 b5)) fun a2 =>
 bif a7 then (
 bif a8 then (
 ∃ (b4 : Int), a2.cell? ((blk a0.heap.size).add 4) = some (.int .u64 b4) ∧
 ∃ (bb : Int), a2.cell? ((blk a1.heap.size).add 4) = some (.int .u64 bb) ∧
 bif b4 == bb then (
 ∃ (av : Option Addr) (aq : Nat) (aj : Nat), a2.cell? ((blk a0.heap.size).add 2) = some (.slice av aq aj) ∧
 Calls Try.prog 13 #[.slice av aq aj, .slice bg bf be] a2 fun ax b1 => ∃ (a5 : Bool), ax = .returned (.bool a5) ∧
 R (.bool a5) b1) else (
 R (.bool false) a2)) else (
 R (.bool false) a2)) else (
 R (.bool false) a2)

theorem cachetteref03_Oracle_Verify.eq (o1 : Option Addr) (publicv2 : Int) (b3a : Option Addr) (b3n : Nat) (b3c : Nat) (sig4 : Int) (R : Value → World → Prop) (w : World) : mfunc Try.prog [] 59 [.pointer o1, .int .u64 publicv2, .slice b3a b3n b3c, .int .u64 sig4] R w = cachetteref03_Oracle_Verify.M o1 publicv2 b3a b3n b3c sig4 R w := by kernel_rfl
theorem cachetteref03_Oracle_Verify.ok (o1 : Option Addr) (a0 : Int) (a4 : Option Addr) (a2 : Nat) (a3 : Nat) (a1 : Int) {R : Value → World → Prop} {w : World} (h : cachetteref03_Oracle_Verify.M o1 a0 a4 a2 a3 a1 R w) : Calls Try.prog 59 #[.pointer o1, .int .u64 a0, .slice a4 a2 a3, .int .u64 a1] w fun e w' => ∃ v, e = .returned v ∧ R v w' :=
  mfunc_ok follows (H := []) (args := [.pointer o1, .int .u64 a0, .slice a4 a2 a3, .int .u64 a1]) (by rw [cachetteref03_Oracle_Verify.eq]; exact h)

def cachetteref03_Oracle_Verify.N (o1 : Option Addr) (a4 : Int) (aw : Option Addr) (ar : Nat) (ap : Nat) (ae : Int) (R : Value → World → Prop) (w : World) : Prop :=
 Calls Try.prog 74 #[.pointer o1, .int .u64 a4, .int .i64 4] w fun af aa => ∃ (H5 : Int) (ab : Int) (ao : Option Addr) (ax : Nat) (ay : Nat) (aq : Option Addr) (an : Nat) (az : Nat) (N9 : Int) (b0 : Int) (a5 : Bool), af = .returned (.tuple #[.agg #[.int .u64 H5, .int .i64 ab, .slice ao ax ay, .slice aq an az, .int .u64 N9, .int .u64 b0], .bool a5]) ∧
 ∀ (a6 : World) (am : Nat), Ext no aa a6 → Priv aa a6 [am] →
 Calls Try.prog 74 #[.pointer o1, .int .u64 ae, .int .i64 5] a6 fun ak a3 => ∃ (av : Int) (a7 : Int) (a9 : Option Addr) (ac : Nat) (a8 : Nat) (ai : Option Addr) (aj : Nat) (al : Nat) (ad : Int) (au : Int) (a2 : Bool), ak = .returned (.tuple #[.agg #[.int .u64 av, .int .i64 a7, .slice a9 ac a8, .slice ai aj al, .int .u64 ad, .int .u64 au], .bool a2]) ∧
 Keep [am] a6 a3 ∧
 (a5 = true →
 (a2 = true →
 (ad = N9 →
 ∀ (a0 : World), Ext no a3 a0 →
 Calls Try.prog 13 #[.slice a9 ac a8, .slice aw ar ap] a0 fun ag ah => ∃ (a1 : Bool), ag = .returned (.bool a1) ∧
 R (.bool a1) ah) ∧
 (ad ≠ N9 →
 ∀ (a0 : World), Ext no a3 a0 →
 R (.bool false) a0)) ∧
 (a2 = false →
 ∀ (a0 : World), Ext no a3 a0 →
 R (.bool false) a0)) ∧
 (a5 = false →
 ∀ (a0 : World), Ext no a3 a0 →
 R (.bool false) a0)

theorem cachetteref03_Oracle_Verify.up (o1 : Option Addr) (a7 : Int) (bw : Option Addr) (c5 : Nat) (bx : Nat) (ap : Int) {R : Value → World → Prop} {w : World} (h : cachetteref03_Oracle_Verify.N o1 a7 bw c5 bx ap R w) : cachetteref03_Oracle_Verify.M o1 a7 bw c5 bx ap R w := by
  unfold cachetteref03_Oracle_Verify.M
  unfold cachetteref03_Oracle_Verify.N at h
  refine h.mono fun c8 a2 h => ?_
  obtain ⟨H5, a5, ak, aq, an, aw, au, av, N9, c4, ao, he, h⟩ := h
  refine ⟨H5, a5, ak, aq, an, aw, au, av, N9, c4, ao, he, ?_⟩
  refine thenW_in fun cc bz => ?_
  have a1 := Blk.of_new bz
  have ah := ((Ext.refl no a2)).size
  have be := (Ext.refl no a2).x_alloc bz
  refine ⟨a1.cani 0 rfl rfl, thenW_in fun bf bv => ?_⟩
  have bb := be.x_set (q := a2.heap.size) (i := 0) rfl (.inr ah) bv
  have a1 : Blk bf a2.heap.size 105 [.int .u64 H5, .int .i64 0, .slice none 0 0, .slice none 0 0, .int .u64 0, .int .u64 0] := a1.seti 0 rfl bv
  refine ⟨a1.cani 1 rfl rfl, thenW_in fun b0 c6 => ?_⟩
  have bp := bb.x_set (q := a2.heap.size) (i := 1) rfl (.inr ah) c6
  have a1 : Blk b0 a2.heap.size 105 [.int .u64 H5, .int .i64 a5, .slice none 0 0, .slice none 0 0, .int .u64 0, .int .u64 0] := a1.seti 1 rfl c6
  refine ⟨a1.cani 2 rfl rfl, thenW_in fun bh bu => ?_⟩
  have bq := bp.x_set (q := a2.heap.size) (i := 2) rfl (.inr ah) bu
  have a1 : Blk bh a2.heap.size 105 [.int .u64 H5, .int .i64 a5, .slice ak aq an, .slice none 0 0, .int .u64 0, .int .u64 0] := a1.seti 2 rfl bu
  refine ⟨a1.cani 3 rfl rfl, thenW_in fun b3 c0 => ?_⟩
  have ay := bq.x_set (q := a2.heap.size) (i := 3) rfl (.inr ah) c0
  have a1 : Blk b3 a2.heap.size 105 [.int .u64 H5, .int .i64 a5, .slice ak aq an, .slice aw au av, .int .u64 0, .int .u64 0] := a1.seti 3 rfl c0
  refine ⟨a1.cani 4 rfl rfl, thenW_in fun b7 c2 => ?_⟩
  have bd := ay.x_set (q := a2.heap.size) (i := 4) rfl (.inr ah) c2
  have a1 : Blk b7 a2.heap.size 105 [.int .u64 H5, .int .i64 a5, .slice ak aq an, .slice aw au av, .int .u64 N9, .int .u64 0] := a1.seti 4 rfl c2
  refine ⟨a1.cani 5 rfl rfl, thenW_in fun am c1 => ?_⟩
  have bc := bd.x_set (q := a2.heap.size) (i := 5) rfl (.inr ah) c1
  have a1 : Blk am a2.heap.size 105 [.int .u64 H5, .int .i64 a5, .slice ak aq an, .slice aw au av, .int .u64 N9, .int .u64 c4] := a1.seti 5 rfl c1
  have h := h am (a2.heap.size) bc (Priv.cons ah a1.lt Priv.nil)
  refine h.mono fun c7 a0 h => ?_
  obtain ⟨ag, a3, a9, aa, a8, ae, ac, ad, ar, c3, al, he, hk, h⟩ := h
  refine ⟨ag, a3, a9, aa, a8, ae, ac, ad, ar, c3, al, he, ?_⟩
  have a1 := hk.blk a1 (by simp)
  refine thenW_in fun cb bn => ?_
  have a4 := Blk.of_new bn
  have aj := ((Ext.refl no a0)).size
  have a6 := Nat.ne_of_lt a1.lt
  have a1 := a1.x_alloc bn
  have bj := (Ext.refl no a0).x_alloc bn
  refine ⟨a4.cani 0 rfl rfl, thenW_in fun bk br => ?_⟩
  have b5 := bj.x_set (q := a0.heap.size) (i := 0) rfl (.inr aj) br
  have a1 := a1.oth (q := a0.heap.size) (i := 0) rfl a6 br
  have a4 : Blk bk a0.heap.size 105 [.int .u64 ag, .int .i64 0, .slice none 0 0, .slice none 0 0, .int .u64 0, .int .u64 0] := a4.seti 0 rfl br
  refine ⟨a4.cani 1 rfl rfl, thenW_in fun ax b6 => ?_⟩
  have bs := b5.x_set (q := a0.heap.size) (i := 1) rfl (.inr aj) b6
  have a1 := a1.oth (q := a0.heap.size) (i := 1) rfl a6 b6
  have a4 : Blk ax a0.heap.size 105 [.int .u64 ag, .int .i64 a3, .slice none 0 0, .slice none 0 0, .int .u64 0, .int .u64 0] := a4.seti 1 rfl b6
  refine ⟨a4.cani 2 rfl rfl, thenW_in fun az bo => ?_⟩
  have bl := bs.x_set (q := a0.heap.size) (i := 2) rfl (.inr aj) bo
  have a1 := a1.oth (q := a0.heap.size) (i := 2) rfl a6 bo
  have a4 : Blk az a0.heap.size 105 [.int .u64 ag, .int .i64 a3, .slice a9 aa a8, .slice none 0 0, .int .u64 0, .int .u64 0] := a4.seti 2 rfl bo
  refine ⟨a4.cani 3 rfl rfl, thenW_in fun b8 bt => ?_⟩
  have bg := bl.x_set (q := a0.heap.size) (i := 3) rfl (.inr aj) bt
  have a1 := a1.oth (q := a0.heap.size) (i := 3) rfl a6 bt
  have a4 : Blk b8 a0.heap.size 105 [.int .u64 ag, .int .i64 a3, .slice a9 aa a8, .slice ae ac ad, .int .u64 0, .int .u64 0] := a4.seti 3 rfl bt
  refine ⟨a4.cani 4 rfl rfl, thenW_in fun b9 bm => ?_⟩
  have ba := bg.x_set (q := a0.heap.size) (i := 4) rfl (.inr aj) bm
  have a1 := a1.oth (q := a0.heap.size) (i := 4) rfl a6 bm
  have a4 : Blk b9 a0.heap.size 105 [.int .u64 ag, .int .i64 a3, .slice a9 aa a8, .slice ae ac ad, .int .u64 ar, .int .u64 0] := a4.seti 4 rfl bm
  refine ⟨a4.cani 5 rfl rfl, thenW_in fun ab b2 => ?_⟩
  have af := ba.x_set (q := a0.heap.size) (i := 5) rfl (.inr aj) b2
  have a1 := a1.oth (q := a0.heap.size) (i := 5) rfl a6 b2
  have a4 : Blk ab a0.heap.size 105 [.int .u64 ag, .int .i64 a3, .slice a9 aa a8, .slice ae ac ad, .int .u64 ar, .int .u64 c3] := a4.seti 5 rfl b2
  refine bif_of (fun b4 => ?_) (fun b4 => ?_)
  · have h := h.1 b4
    refine bif_of (fun bi => ?_) (fun bi => ?_)
    · have h := h.1 bi
      refine ⟨ar, a4.celli 4 rfl rfl, ?_⟩
      refine ⟨N9, a1.celli 4 rfl rfl, ?_⟩
      refine bif_of (fun b1 => ?_) (fun b1 => ?_)
      · have h := h.1 (beq_t b1)
        refine ⟨a9, aa, a8, a4.celli 2 rfl rfl, ?_⟩
        have h := h ab af
        refine h.mono fun c9 ca h => ?_
        obtain ⟨ai, he, h⟩ := h
        refine ⟨ai, he, ?_⟩
        exact h
      · have h := h.2 (beq_f b1)
        have h := h ab af
        exact h
    · have h := h.2 bi
      have h := h ab af
      exact h
  · have h := h.2 b4
    have h := h ab af
    exact h

theorem cachetteref03_Oracle_Verify.go (o1 : Option Addr) (a0 : Int) (a4 : Option Addr) (a2 : Nat) (a3 : Nat) (a1 : Int) {R : Value → World → Prop} {w : World} (h : cachetteref03_Oracle_Verify.N o1 a0 a4 a2 a3 a1 R w) : Calls Try.prog 59 #[.pointer o1, .int .u64 a0, .slice a4 a2 a3, .int .u64 a1] w fun e w' => ∃ v, e = .returned v ∧ R v w' := cachetteref03_Oracle_Verify.ok o1 a0 a4 a2 a3 a1 (cachetteref03_Oracle_Verify.up o1 a0 a4 a2 a3 a1 h)
theorem cachetteref03_Oracle_Verify.run (o1 : Option Addr) (a0 : Int) (a4 : Option Addr) (a2 : Nat) (a3 : Nat) (a1 : Int) {V : Value} {Q : World → Prop} {w : World} (h : cachetteref03_Oracle_Verify.N o1 a0 a4 a2 a3 a1 (fun v w' => v = V ∧ Q w') w) : Calls Try.prog 59 #[.pointer o1, .int .u64 a0, .slice a4 a2 a3, .int .u64 a1] w (Ret V Q) := (cachetteref03_Oracle_Verify.go o1 a0 a4 a2 a3 a1 h).mono fun e w' ⟨v, he, hv, hq⟩ => ⟨by rw [he, hv], hq⟩

def isR (L : List RRow) (x kind : Int) : Option RRow := (L.find? fun r => r.h == x).bind fun r => if r.kind = kind then some r else none
def pairR (d : List Int) (L : List RRow) : (Int × Int) × List Int × List RRow :=
  let p := putR d L ⟨0, 3, [], [], 0, 0⟩
  let q := putR p.2.1 p.2.2 ⟨0, 4, [], [], p.1, 0⟩
  ((p.1, q.1), q.2)
def signR (d : List Int) (L : List RRow) (s : Int) (b : List UInt8) : (Int × Int) × List Int × List RRow :=
  match isR L s 3 with
  | none => ((0, 11), d, L)
  | some _ =>
    match L.find? (fun r => r.kind == 5 && (r.n == s && decide (r.A = b))) with
    | some r => ((r.h, 0), d, L)
    | none => let q := putR d L ⟨0, 5, b, [], s, 0⟩; ((q.1, 0), q.2)
def verifyR (L : List RRow) (p : Int) (b : List UInt8) (x : Int) : Bool :=
  match isR L p 4, isR L x 5 with
  | some y, some z => decide (z.n = y.n ∧ z.A = b)
  | _, _ => false
def zeroC : Value := .agg #[.int .u64 0, .int .i64 0, .slice none 0 0, .slice none 0 0, .int .u64 0, .int .u64 0]
def PR.V (x : PR) : Value := .agg #[.int .u64 x.r.h, .int .i64 x.r.kind, .slice x.aA x.r.A.length x.cA, .slice x.aB x.r.B.length x.cB, .int .u64 x.r.n, .int .u64 x.r.m]
section
variable {w w' : World} {o o' : Own} {k : Nat} {K : Nat → Prop} {d : List Int} {R : List PR} {L : List RRow}
theorem atI_some {L : List RRow} {x : Int} {i : Nat} (h : atI L x = i) : ∃ hi : i < L.length, L[i].h = x ∧ L.find? (fun r => r.h == x) = some L[i] := by
  unfold atI at h
  cases hf : L.findIdx? (fun r => r.h == x) with
  | none => rw [hf] at h; simp at h
  | some j =>
    rw [hf] at h
    have : j = i := by simp at h; omega
    subst this
    rw [List.findIdx?_eq_some_iff_getElem] at hf
    obtain ⟨h1, h2, h3⟩ := hf
    refine ⟨h1, by simpa using h2, ?_⟩
    rw [List.find?_eq_some_iff_getElem]
    exact ⟨h2, j, h1, rfl, fun q hq => by simpa using h3 q hq⟩
theorem atI_none {L : List RRow} {x : Int} (h : atI L x < 0) : L.find? (fun r => r.h == x) = none := by
  rw [List.find?_eq_none]
  intro r hr
  have h1 : x ∉ L.map (·.h) := fun hm => by have := (atI_mem L x).2 hm; omega
  intro e
  exact h1 (List.mem_map.2 ⟨r, hr, by simpa using e⟩)
theorem is_spec (h : ROrcP w o k d R) (ht : Tags w o) (hl : R.length < 1000000) (x kind : Int) :
    Calls Try.prog 74 #[.pointer (some (blk k)), .int .u64 x, .int .i64 kind] w (fun e w' => Ext no w w' ∧ ((isR (R.map PR.r) x kind = none ∧ e = .returned (.tuple #[zeroC, .bool false])) ∨ ∃ y ∈ R, isR (R.map PR.r) x kind = some y.r ∧ e = .returned (.tuple #[y.V, .bool true]))) := by
  refine (cachetteref03_Oracle_is.go _ _ _ (R := fun v w' => Ext no w w' ∧ ((isR (R.map PR.r) x kind = none ∧ v = .tuple #[zeroC, .bool false]) ∨ ∃ y ∈ R, isR (R.map PR.r) x kind = some y.r ∧ v = .tuple #[y.V, .bool true])) ?_).mono fun e w' ⟨v, he, hx, hv⟩ => ⟨hx, hv.imp (fun ⟨a, b⟩ => ⟨a, by rw [he, b]⟩) fun ⟨y, a, b, c⟩ => ⟨y, a, b, by rw [he, c]⟩⟩
  unfold cachetteref03_Oracle_is.N
  intro w4 p5 X4 hp
  have hp := hp.one
  have X5 : ∀ {w1}, Ext (fun b => b = p5) w4 w1 → Ext no w w1 := fun h => X4.then h fun b hb => .inr (by omega)
  obtain ⟨da, dc, la, lc, h1, h2, h3, h4, h5⟩ := id h.at_
  have hb4 := h1.ext X4 id
  have hat : Calls Try.prog 71 #[.pointer (some (blk k)), .int .u64 x] w4 (Ret (.int .i64 (atI (R.map PR.r) x)) fun w' => w' = w4) := by
    exact at_spec (h.step (Step.of_no X4 ht) id) hl x
  refine hat.mono fun e w8 ⟨he, hw⟩ => ⟨_, he, by subst hw; exact Keep.refl _ _, fun hn => ?_, fun hn => ?_⟩ <;> subst hw
  · intro w15 X15
    refine ⟨X5 X15, .inl ⟨?_, rfl⟩⟩
    unfold isR
    rw [atI_none hn]; rfl
  · obtain ⟨i, hi⟩ : ∃ i : Nat, atI (R.map PR.r) x = i := ⟨(atI (R.map PR.r) x).toNat, by omega⟩
    obtain ⟨hil, hih, hif⟩ := atI_some hi
    rw [List.length_map] at hil
    rw [hi]
    have hg : R[i]? = some R[i] := List.getElem?_eq_getElem hil
    rw [List.getElem_map] at hih hif
    have hrow := h4.row.no X4
    obtain ⟨ad, ha⟩ := hrow.addr (Cs_ne (by intro e; subst e; simp at hil))
    refine ⟨_, rfl, la, R.length, lc, hb4.cella (i := 1) rfl, ad, ha, by omega, by omega, R[i].r.kind, by rw [Int.toNat_natCast]; exact row_cell hrow ha hg (j := 1) rfl, fun hk => ?_, fun hk => ?_⟩
    · intro w28 X28
      refine ⟨X5 X28, .inl ⟨?_, rfl⟩⟩
      unfold isR
      rw [hif]
      show (if R[i].r.kind = kind then some R[i].r else none) = none
      rw [if_neg hk]
    · refine ⟨la, R.length, lc, hb4.cella (i := 1) rfl, ad, ha, by omega, by omega, R[i].r.h, R[i].r.kind, R[i].aA, _, R[i].cA, R[i].aB, _, R[i].cB, R[i].r.n, R[i].r.m, ?_, fun w44 X44 => ⟨X5 X44, .inr ⟨R[i], List.getElem_mem hil, ?_, rfl⟩⟩⟩
      · rw [Int.toNat_natCast]
        exact ⟨row_cell hrow ha hg (j := 0) rfl, row_cell hrow ha hg (j := 1) rfl, row_cell hrow ha hg (j := 2) rfl, row_cell hrow ha hg (j := 3) rfl, row_cell hrow ha hg (j := 4) rfl, row_cell hrow ha hg (j := 5) rfl, trivial⟩
      · unfold isR
        rw [hif]
        show (if R[i].r.kind = kind then some R[i].r else none) = _
        rw [if_pos hk]
/-- what is asked of a row. -/
structure ROk (w : World) (o : Own) (d : List Int) (L : List RRow) : Prop where
  tags : Tags w o
  draws : ∀ x ∈ d, 0 ≤ x ∧ x < 18446744073709551616
  short : L.length < 1000000
  bytes : ∀ r ∈ L, r.A.length < 1000000 ∧ r.B.length < 1000000
theorem freshR_draws {d used : List Int} (hd : ∀ x ∈ d, 0 ≤ x ∧ x < 18446744073709551616) : ∀ x ∈ (freshR d used).2, 0 ≤ x ∧ x < 18446744073709551616 := fun x hx => by
  unfold freshR at hx
  cases hp : pickD d used with
  | none => rw [hp] at hx; simp at hx
  | some q => obtain ⟨a, b⟩ := q; rw [hp] at hx; exact hd x (pickD_rest hp x hx)
theorem putR_len (d : List Int) (L : List RRow) (r : RRow) : (putR d L r).2.2.length = L.length + 1 := by simp [putR]
theorem rPair_spec (h : ROrc w o k d L) (hk : ROk w o d L) (hl : L.length + 1 < 1000000) :
    Calls Try.prog 18 #[.pointer (some (blk k))] w (Gs (fun j => j = k) w o (.tuple #[.int .u64 (pairR d L).1.1, .int .u64 (pairR d L).1.2]) fun w' o' => ROrc w' o' k (pairR d L).2.1 (pairR d L).2.2) := by
  refine (cachetteref03_Oracle_Pair.go _ (R := fun v w' => ∃ o', v = .tuple #[.int .u64 (pairR d L).1.1, .int .u64 (pairR d L).1.2] ∧ Step (fun j => j = k) w o w' o' ∧ ROrc w' o' k (pairR d L).2.1 (pairR d L).2.2) ?_).mono fun e w' ⟨v, he, o', hv, hw⟩ => ⟨o', by rw [he, hv], hw⟩
  unfold cachetteref03_Oracle_Pair.N
  have z : ∀ (w : World) (o : Own) (kd n : Int), PR.ok w o ⟨⟨0, kd, [], [], n, 0⟩, none, 0, none, 0⟩ := fun w o kd n => ⟨Row.nil _ _ _, Row.nil _ _ _, Nat.le_refl _, Nat.le_refl _⟩
  refine (put_spec h hk.tags hk.draws hk.short ⟨⟨0, 3, [], [], 0, 0⟩, none, 0, none, 0⟩ (z _ _ _ _)).mono fun e w4 ⟨o4, he, s4, h4⟩ => ⟨_, he, ?_⟩
  refine (put_spec h4 s4.ok (freshR_draws hk.draws) (by rw [putR_len]; exact hl) ⟨⟨0, 4, [], [], (putR d L ⟨0, 3, [], [], 0, 0⟩).1, 0⟩, none, 0, none, 0⟩ (z _ _ _ _)).mono fun e w7 ⟨o7, he, s7, h7⟩ => ⟨_, he, o7, rfl, s4.trans s7, h7⟩
/-- a walk through the rows: none of those ahead is the one. -/
theorem find_at {L : List RRow} {p : RRow → Bool} {t : Nat} (hn : ∀ y ∈ L.take t, p y = false) (ht : t < L.length) (hp : p L[t] = true) : L.find? p = some L[t] := by
  rw [List.find?_eq_some_iff_getElem]
  exact ⟨hp, t, ht, rfl, fun j hj => by simp [hn L[j] (List.mem_take_iff_getElem.2 ⟨j, by omega, rfl⟩)]⟩
theorem find_end {L : List RRow} {p : RRow → Bool} (hn : ∀ y ∈ L, p y = false) : L.find? p = none := by
  rw [List.find?_eq_none]; intro y hy; simp [hn y hy]
theorem take_step {α : Type} {L : List α} {P : α → Prop} {t : Nat} (hn : ∀ y ∈ L.take t, P y) (ht : t < L.length) (hp : P L[t]) : ∀ y ∈ L.take (t + 1), P y := fun y hy => by
  rw [List.take_add_one, List.getElem?_eq_getElem ht] at hy
  rcases List.mem_append.1 hy with hy | hy
  · exact hn y hy
  · simp at hy; rw [hy]; exact hp
theorem rSign_spec (h : ROrc w o k d L) (hk : ROk w o d L) (s : Int) {a : Option Addr} {c : Nat} {b : List UInt8} (hr : Row w o a (bytesV b)) (hc : b.length ≤ c) :
    Calls Try.prog 54 #[.pointer (some (blk k)), .int .u64 s, .slice a b.length c] w (Gs (fun j => j = k) w o (.tuple #[.int .u64 (signR d L s b).1.1, .int .i64 (signR d L s b).1.2]) fun w' o' => ROrc w' o' k (signR d L s b).2.1 (signR d L s b).2.2) := by
  refine (cachetteref03_Oracle_Sign.go _ _ _ _ _ (R := fun v w' => ∃ o', v = .tuple #[.int .u64 (signR d L s b).1.1, .int .i64 (signR d L s b).1.2] ∧ Step (fun j => j = k) w o w' o' ∧ ROrc w' o' k (signR d L s b).2.1 (signR d L s b).2.2) ?_).mono fun e w' ⟨v, he, o', hv, hw⟩ => ⟨o', by rw [he, hv], hw⟩
  unfold cachetteref03_Oracle_Sign.N
  obtain ⟨R, hLR, h0⟩ := id h
  have hlen : L.length = R.length := by rw [hLR, List.length_map]
  have hk1 := hk.short
  have hget : ∀ t (ht : t < R.length), L[t]'(by omega) = R[t].r := fun t ht => by simp [hLR]
  refine (is_spec h0 hk.tags (by omega) s 3).mono fun e w12 ⟨X12, hor⟩ => ?_
  rw [← hLR] at hor
  have s12 := Step.of_no X12 hk.tags
  rcases hor with ⟨hn, he⟩ | ⟨y, hy, hn, he⟩
  · refine ⟨_, _, _, _, _, _, _, _, _, _, _, he, fun _ w19 X19 => ?_, fun h => (by cases h)⟩
    have s19' := Step.of_no X19 s12.ok
    have s19 := s12.trans s19'
    have hres : signR d L s b = ((0, 11), d, L) := by unfold signR; rw [hn]
    rw [hres]
    exact ⟨_, rfl, s19.none, h.step s19 id⟩
  · refine ⟨_, _, _, _, _, _, _, _, _, _, _, he, fun h => (by cases h), fun _ w19 X19 => ?_⟩
    have s19' := Step.of_no X19 s12.ok
    have s19 := s12.trans s19'
    refine ⟨fun q vs w1 => ∃ (t : Nat) (o1 : Own), vs = [.int .i64 t] ∧ q + t = L.length ∧ (∀ y ∈ L.take t, (y.kind == 5 && (y.n == s && decide (y.A = b))) = false) ∧ Step no w o w1 o1, L.length, ⟨0, _, rfl, rfl, by simp, s19⟩, ?_⟩
    rintro q w1 i ⟨t, o1, hi, hq, hne, s1⟩
    simp only [List.cons.injEq, Value.int.injEq, true_and, and_true] at hi
    subst hi
    have h1 := h0.step s1 id
    obtain ⟨da, dc, la, lc, b1, b2, b3, b4, b5⟩ := id h1.at_
    refine ⟨_, rfl, la, R.length, lc, b1.cella (i := 1) rfl, fun ht => ?_, fun ht => ?_⟩
    · have htl : t < R.length := by omega
      have htL : t < L.length := by omega
      have hg : R[t]? = some R[t] := List.getElem?_eq_getElem htl
      obtain ⟨ad, ha⟩ := b4.row.addr (Cs_ne (by intro e; subst e; simp at htl))
      have hst := hk.bytes L[t] (List.getElem_mem htL)
      rw [hget t htl] at hst
      refine ⟨la, R.length, lc, b1.cella (i := 1) rfl, ad, ha, by omega, by omega, R[t].r.kind, by rw [Int.toNat_natCast]; exact row_cell b4.row ha hg (j := 1) rfl, fun hkd => ?_, fun hkd => ?_⟩
      · refine ⟨la, R.length, lc, b1.cella (i := 1) rfl, ad, ha, by omega, by omega, R[t].r.n, by rw [Int.toNat_natCast]; exact row_cell b4.row ha hg (j := 4) rfl, fun hnn => ?_, fun hnn => ?_⟩
        · refine ⟨la, R.length, lc, b1.cella (i := 1) rfl, ad, ha, by omega, by omega, R[t].aA, _, R[t].cA, by rw [Int.toNat_natCast]; exact row_cell b4.row ha hg (j := 2) rfl, ?_⟩
          refine (W.sameB_spec (h1.rows R[t] (List.getElem_mem htl)).1.1 (hr.step s1).1 (by omega)).mono fun e w24 ⟨he, X24⟩ => ⟨_, he, fun hs => ?_, fun hs => ?_⟩
          · have hs := of_decide_eq_true hs
            have s24' := Step.of_no X24 s1.ok
            have s24 := s1.trans s24'
            have h24 := h1.step s24' id
            obtain ⟨da, dc, la, lc, b1, b2, b3, b4, b5⟩ := id h24.at_
            obtain ⟨ad, ha⟩ := b4.row.addr (Cs_ne (by intro e; subst e; simp at htl))
            have hf : L.find? (fun r => r.kind == 5 && (r.n == s && decide (r.A = b))) = some L[t] := find_at hne htL (by rw [hget t htl, hkd, hnn, hs]; simp)
            have hres : signR d L s b = ((R[t].r.h, 0), d, L) := by unfold signR; rw [hn]; simp only [hf, hget t htl]
            rw [hres]
            exact ⟨la, R.length, lc, b1.cella (i := 1) rfl, ad, ha, by omega, by omega, R[t].r.h, by rw [Int.toNat_natCast]; exact row_cell b4.row ha hg (j := 0) rfl, _, rfl, s24.none, R, hLR, h24⟩
          · have hs := of_decide_eq_false hs
            exact ⟨by omega, by omega, q - 1, by omega, t + 1, grow w1 o1, rfl, by omega, take_step hne htL (by rw [hget t htl]; simp [hs]), s1.trans (Step.of_no X24 s1.ok)⟩
        · exact ⟨by omega, by omega, q - 1, by omega, t + 1, o1, rfl, by omega, take_step hne htL (by rw [hget t htl]; simp [hnn]), s1⟩
      · exact ⟨by omega, by omega, q - 1, by omega, t + 1, o1, rfl, by omega, take_step hne htL (by rw [hget t htl]; simp [hkd]), s1⟩
    · obtain rfl : t = L.length := by omega
      rw [List.take_length] at hne
      have hres : signR d L s b = (((putR d L ⟨0, 5, b, [], s, 0⟩).1, 0), (putR d L ⟨0, 5, b, [], s, 0⟩).2) := by unfold signR; rw [hn]; simp only [find_end hne]
      rw [hres]
      refine (put_spec (h.step s1 id) s1.ok hk.draws hk.short ⟨⟨0, 5, b, [], s, 0⟩, a, c, none, 0⟩ ⟨hr.step s1, Row.nil _ _ _, hc, Nat.le_refl _⟩).mono fun e w35 ⟨o35, he, s35, h35⟩ => ⟨_, he, o35, rfl, s1.none.trans s35, h35⟩
theorem rVerify_spec (h : ROrc w o k d L) (hk : ROk w o d L) (p x : Int) {a : Option Addr} {c : Nat} {b : List UInt8} (hr : Row w o a (bytesV b)) :
    Calls Try.prog 59 #[.pointer (some (blk k)), .int .u64 p, .slice a b.length c, .int .u64 x] w (Ret (.bool (verifyR L p b x)) fun w' => Ext no w w') := by
  refine cachetteref03_Oracle_Verify.run _ _ _ _ _ _ ?_
  unfold cachetteref03_Oracle_Verify.N
  obtain ⟨R, hLR, h0⟩ := id h
  have hlen : L.length = R.length := by rw [hLR, List.length_map]
  have hk1 := hk.short
  refine (is_spec h0 hk.tags (by omega) p 4).mono fun e w13 ⟨X13, hor⟩ => ?_
  rw [← hLR] at hor
  have s13 := Step.of_no X13 hk.tags
  have rest : ∀ (w20 : World) (p21 : Nat), Ext no w13 w20 → Priv w13 w20 [p21] → ∀ (N9 : Int) (b1 : Bool), (isR L p 4 = none ∧ b1 = false ∨ ∃ y, isR L p 4 = some y ∧ b1 = true ∧ y.n = N9) →
      Calls Try.prog 74 #[.pointer (some (blk k)), .int .u64 x, .int .i64 5] w20 fun ee29 ww30 => ∃ (H22 : Int) (Kind23 : Int) (A24a : Option Addr) (A24n : Nat) (A24c : Nat) (B25a : Option Addr) (B25n : Nat) (B25c : Nat) (N26 : Int) (M27 : Int) (isv28 : Bool), ee29 = .returned (.tuple #[.agg #[.int .u64 H22, .int .i64 Kind23, .slice A24a A24n A24c, .slice B25a B25n B25c, .int .u64 N26, .int .u64 M27], .bool isv28]) ∧
      Keep [p21] w20 ww30 ∧
      (b1 = true →
        (isv28 = true →
          (N26 = N9 →
            ∀ (ww37 : World), Ext no ww30 ww37 →
            Calls Try.prog 13 #[.slice A24a A24n A24c, .slice a b.length c] ww37 fun ee43 ww44 => ∃ (same42 : Bool), ee43 = .returned (.bool same42) ∧
            (Value.bool same42 = .bool (verifyR L p b x) ∧ Ext no w ww44)) ∧
          (N26 ≠ N9 →
            ∀ (ww37 : World), Ext no ww30 ww37 →
            (Value.bool false = .bool (verifyR L p b x) ∧ Ext no w ww37))) ∧
        (isv28 = false →
          ∀ (ww37 : World), Ext no ww30 ww37 →
          (Value.bool false = .bool (verifyR L p b x) ∧ Ext no w ww37))) ∧
      (b1 = false →
        ∀ (ww37 : World), Ext no ww30 ww37 →
        (Value.bool false = .bool (verifyR L p b x) ∧ Ext no w ww37)) := fun w20 p21 X20 hp N9 b1 hb1 => by
    have s20' := Step.of_no X20 s13.ok
    have s20 := s13.trans s20'
    refine (is_spec (h0.step s20 id) s20.ok (by omega) x 5).mono fun e w30 ⟨X30, hor⟩ => ?_
    rw [← hLR] at hor
    have Y30 := (X13.trans X20).trans X30
    have s30 := s20.trans (Step.of_no X30 s20.ok)
    rcases hor with ⟨hn, he⟩ | ⟨y, hy, hn, he⟩
    · have hf : verifyR L p b x = false := by unfold verifyR; rw [hn]; cases isR L p 4 <;> rfl
      exact ⟨_, _, _, _, _, _, _, _, _, _, _, he, X30.kept, fun _ => ⟨fun h => (by cases h), fun _ w37 X37 => ⟨by rw [hf], Y30.trans X37⟩⟩, fun _ w37 X37 => ⟨by rw [hf], Y30.trans X37⟩⟩
    · rcases hb1 with ⟨h4, rfl⟩ | ⟨z, h4, rfl, hz⟩
      · have hf : verifyR L p b x = false := by unfold verifyR; rw [h4]
        exact ⟨_, _, _, _, _, _, _, _, _, _, _, he, X30.kept, fun h => (by cases h), fun _ w37 X37 => ⟨by rw [hf], Y30.trans X37⟩⟩
      · have hv : verifyR L p b x = decide (y.r.n = z.n ∧ y.r.A = b) := by unfold verifyR; rw [h4, hn]
        refine ⟨_, _, _, _, _, _, _, _, _, _, _, he, X30.kept, fun _ => ⟨fun _ => ⟨fun hnn w37 X37 => ?_, fun hnn w37 X37 => ⟨by rw [hv, decide_eq_false fun h => hnn (h.1.trans hz)], Y30.trans X37⟩⟩, fun h => (by cases h)⟩, fun h => (by cases h)⟩
        have s37 := s30.trans (Step.of_no X37 s30.ok)
        have hyL : y.r ∈ L := by rw [hLR]; exact List.mem_map.2 ⟨y, hy, rfl⟩
        refine (W.sameB_spec ((h0.rows y hy).step s37).1.1 (hr.step s37).1 (hk.bytes _ hyL).1).mono fun e w44 ⟨he, X44⟩ => ⟨_, he, ?_, (Y30.trans X37).trans X44⟩
        rw [hv]
        congr 1
        rw [decide_eq_decide]
        exact ⟨fun h => ⟨hnn.trans hz.symm, h⟩, fun h => h.2⟩
  rcases hor with ⟨hn, he⟩ | ⟨y, hy, hn, he⟩
  · exact ⟨_, _, _, _, _, _, _, _, _, _, _, he, fun w20 p21 X20 hp => rest w20 p21 X20 hp 0 false (.inl ⟨hn, rfl⟩)⟩
  · exact ⟨_, _, _, _, _, _, _, _, _, _, _, he, fun w20 p21 X20 hp => rest w20 p21 X20 hp y.r.n true (.inr ⟨y.r, hn, rfl, rfl⟩)⟩
end
end Go.Proofs.Ytfmdpjhkojbocaa

/- The oracle's tables, plainly: what stays true through all calls. -/
set_option linter.unusedVariables false
set_option linter.unusedSimpArgs false
namespace Go.Proofs.Ytfmdpjhkojbocaa
open Go Go.Mx Go.Proofs
structure OInv (S : OS) : Prop where
  ok : S.ok
  rng : ∀ x ∈ S.used, 0 < x ∧ (x < 18446744073709551616 ∨ x ≤ 2 * S.used.length)
  hu : ∀ b h, alook S.hashes b = some h → h ∈ S.used
  hi : ∀ b c h, alook S.hashes b = some h → alook S.hashes c = some h → b = c
  sg : ∀ q x, alook S.signs q = some x → alook S.signed x = some q
  gs : ∀ x q, alook S.signed x = some q → alook S.signs q = some x
  su : ∀ x q, alook S.signed x = some q → x ∈ S.used
  pu : ∀ p s, alook S.publics p = some s → p ∈ S.used
  ps : ∀ p s, alook S.publics p = some s → s ∈ S.secrets
  eu : ∀ s ∈ S.secrets, s ∈ S.used
theorem OInv.nz {S : OS} (h : OInv S) : ∀ x ∈ S.used, x ≠ 0 := fun x hx => by have := (h.rng x hx).1; omega
theorem OInv.fit {S : OS} (h : OInv S) (hl : S.used.length < 1000000000) {x : Int} (hx : x ∈ S.used) : 0 ≤ x ∧ x < 18446744073709551616 := by
  have := h.rng x hx
  omega
theorem fresh_rng {S : OS} (h : S.ok) : 0 < (freshOf S).1 ∧ ((freshOf S).1 < 18446744073709551616 ∨ (freshOf S).1 ≤ 2 * ((S.used.length : Int) + 1)) := by
  obtain ⟨h1, h2, h3, h4⟩ := h
  unfold freshOf
  cases hp : pickD S.draws S.used with
  | some q =>
    obtain ⟨x, r⟩ := q
    obtain ⟨a, b, c⟩ := pickD_spec hp
    have := h4 x c
    exact ⟨by show 0 < x; omega, .inl this.2⟩
  | none =>
    obtain ⟨a, b, c, d, e⟩ := pickN_spec S.used (S.used.length + 1) S.next h1 (gap S.used _ _ (by omega))
    exact ⟨by show 0 < pickN _ _ _; omega, .inr (by show pickN _ _ _ ≤ _; omega)⟩
/-- nothing is lost. -/
structure OS.le (S S' : OS) : Prop where
  hashes : ∀ b h, alook S.hashes b = some h → alook S'.hashes b = some h
  signs : ∀ q x, alook S.signs q = some x → alook S'.signs q = some x
  signed : ∀ x q, alook S.signed x = some q → alook S'.signed x = some q
  publics : ∀ p s, alook S.publics p = some s → alook S'.publics p = some s
  secrets : ∀ s ∈ S.secrets, s ∈ S'.secrets
  used : ∀ x ∈ S.used, x ∈ S'.used
theorem OS.le.refl (S : OS) : OS.le S S := ⟨fun _ _ h => h, fun _ _ h => h, fun _ _ h => h, fun _ _ h => h, fun _ h => h, fun _ h => h⟩
theorem OS.le.trans {S T U : OS} (a : OS.le S T) (b : OS.le T U) : OS.le S U :=
  ⟨fun x y h => b.hashes x y (a.hashes x y h), fun x y h => b.signs x y (a.signs x y h), fun x y h => b.signed x y (a.signed x y h), fun x y h => b.publics x y (a.publics x y h), fun x h => b.secrets x (a.secrets x h), fun x h => b.used x (a.used x h)⟩
theorem OInv.init {l : List Int} (hl : ∀ d ∈ l, 0 ≤ d ∧ d < 18446744073709551616) : OInv (OS.init l) :=
  ⟨OS.init_ok l hl, fun x h => by simp [OS.init] at h, fun b h e => by simp [OS.init, alook] at e, fun b c h e => by simp [OS.init, alook] at e, fun q x e => by simp [OS.init, alook] at e, fun x q e => by simp [OS.init, alook] at e,
    fun x q e => by simp [OS.init, alook] at e, fun p s e => by simp [OS.init, alook] at e, fun p s e => by simp [OS.init, alook] at e, fun s h => by simp [OS.init] at h⟩
/-- after a fresh handle, the tables as they were. -/
theorem fresh_inv {S : OS} (h : OInv S) : OInv (freshOf S).2 ∧ OS.le S (freshOf S).2 ∧ (freshOf S).1 ∉ S.used ∧ (freshOf S).1 ∈ (freshOf S).2.used ∧ (freshOf S).1 ≠ 0 := by
  obtain ⟨a1, a2, a3, a4⟩ := freshOf_spec h.ok
  obtain ⟨c1, c2, c3, c4, c5, c6, c7, c8⟩ := freshOf_frame S
  have hsub : ∀ x ∈ S.used, x ∈ (freshOf S).2.used := fun x hx => by rw [a3]; simp [hx]
  refine ⟨⟨a4, fun x hx => ?_, fun b k e => hsub _ (h.hu b k (by rw [← c1]; exact e)), fun b c k e1 e2 => h.hi b c k (by rw [← c1]; exact e1) (by rw [← c1]; exact e2), fun q x e => ?_, fun x q e => ?_, fun x q e => ?_, fun p s e => ?_, fun p s e => ?_, fun s hs => ?_⟩,
    ⟨fun b k e => by rw [c1]; exact e, fun q x e => by rw [c5]; exact e, fun x q e => by rw [c6]; exact e, fun p s e => by rw [c4]; exact e, fun s hs => by rw [c3]; exact hs, hsub⟩, a2, by rw [a3]; simp, a1⟩
  · have hl : (freshOf S).2.used.length = S.used.length + 1 := by rw [a3]; simp
    rw [hl]
    rw [a3] at hx
    rcases List.mem_append.1 hx with hx | hx
    · have := h.rng x hx; omega
    · simp at hx; rw [hx]; have := fresh_rng h.ok; omega
  · rw [c5] at e; rw [c6]; exact h.sg q x e
  · rw [c6] at e; rw [c5]; exact h.gs x q e
  · rw [c6] at e; exact hsub _ (h.su x q e)
  · rw [c4] at e; exact hsub _ (h.pu p s e)
  · rw [c4] at e; rw [c3]; exact h.ps p s e
  · rw [c3] at hs; exact hsub _ (h.eu s hs)
theorem badd_mem {l : List Int} {x y : Int} : y ∈ badd l x ↔ y ∈ l ∨ y = x := by
  unfold badd
  split
  · constructor
    · exact .inl
    · rintro (h | rfl)
      · exact h
      · assumption
  · simp
theorem pair_inv {S : OS} (h : OInv S) : OInv (pairOf S).2 ∧ OS.le S (pairOf S).2 ∧ alook (pairOf S).2.publics (pairOf S).1.2 = some (pairOf S).1.1 ∧ (pairOf S).1.1 ∈ (pairOf S).2.secrets ∧ (pairOf S).1.2 ∉ (pairOf S).2.secrets ∧ (pairOf S).1.1 ∉ S.secrets ∧
    (pairOf S).2.hashes = S.hashes ∧ (pairOf S).2.signs = S.signs ∧ (pairOf S).2.signed = S.signed := by
  obtain ⟨a1, a2, a3, a4, a5, a6, a7, a8, a9, a10, a11, a12, a13, a14⟩ := pairOf_spec h.ok
  obtain ⟨k1, _⟩ := pairOf_ok h.ok
  have hsub : ∀ x ∈ S.used, x ∈ (pairOf S).2.used := fun x hx => by rw [a6]; simp [hx]
  have hl : ∀ c k, alook (pairOf S).2.publics c = some k → ((pairOf S).1.2 = c ∧ k = (pairOf S).1.1) ∨ alook S.publics c = some k := fun c k e => by
    rw [a8, alook_put] at e
    split at e
    · rename_i hbc; cases e; exact .inl ⟨hbc, rfl⟩
    · exact .inr e
  have hall : ∀ x ∈ (pairOf S).2.used, 0 < x ∧ (x < 18446744073709551616 ∨ x ≤ 2 * ((pairOf S).2.used.length : Int)) := fun x hx => by
    have h5 : OS.ok { (freshOf S).2 with secrets := badd S.secrets (freshOf S).1 } := (freshOf_spec h.ok).2.2.2
    have r1 := fresh_rng h.ok
    have r2 : 0 < (pairOf S).1.2 ∧ ((pairOf S).1.2 < 18446744073709551616 ∨ (pairOf S).1.2 ≤ 2 * (((freshOf S).2.used.length : Int) + 1)) := fresh_rng h5
    have r3 : (freshOf S).2.used.length = S.used.length + 1 := by rw [(freshOf_spec h.ok).2.2.1]; simp
    have r4 : (pairOf S).2.used.length = S.used.length + 2 := by rw [a6]; simp
    rw [r4]
    rw [a6] at hx
    rcases List.mem_append.1 hx with hx | hx
    · rcases List.mem_append.1 hx with hx | hx
      · have := h.rng x hx; omega
      · simp at hx; rw [hx]; show 0 < (freshOf S).1 ∧ ((freshOf S).1 < _ ∨ (freshOf S).1 ≤ _); omega
    · simp at hx; rw [hx]; omega
  refine ⟨⟨k1, hall, fun b k e => hsub _ (h.hu b k (by rw [← a9]; exact e)), fun b c k e1 e2 => h.hi b c k (by rw [← a9]; exact e1) (by rw [← a9]; exact e2), fun q x e => by rw [a11] at e; rw [a12]; exact h.sg q x e, fun x q e => by rw [a12] at e; rw [a11]; exact h.gs x q e,
    fun x q e => by rw [a12] at e; exact hsub _ (h.su x q e), fun p s e => ?_, fun p s e => ?_, fun s hs => ?_⟩, ⟨fun b k e => by rw [a9]; exact e, fun q x e => by rw [a11]; exact e, fun x q e => by rw [a12]; exact e, fun p s e => ?_, fun s hs => by rw [a7, badd_mem]; exact .inl hs, hsub⟩, ?_, by rw [a7, badd_mem]; exact .inr rfl, fun hs => ?_, fun hs => a3 (h.eu _ hs), a9, a11, a12⟩
  · rcases hl p s e with ⟨rfl, _⟩ | e
    · rw [a6]; simp
    · exact hsub _ (h.pu p s e)
  · rw [a7, badd_mem]
    rcases hl p s e with ⟨_, rfl⟩ | e
    · exact .inr rfl
    · exact .inl (h.ps p s e)
  · rw [a7, badd_mem] at hs
    rcases hs with hs | rfl
    · exact hsub _ (h.eu s hs)
    · rw [a6]; simp
  · rw [a8, alook_put, if_neg (fun e' => a4 (by rw [e']; exact h.pu p s e))]; exact e
  · rw [a8, alook_put, if_pos rfl]
  · rw [a7, badd_mem] at hs
    rcases hs with hs | hs
    · exact a4 (h.eu _ hs)
    · exact a5 hs.symm
theorem sign_inv {S : OS} (h : OInv S) {k : Int} (hk : k ∈ S.secrets) (b : List UInt8) : OInv (signOf S k b).2 ∧ OS.le S (signOf S k b).2 ∧ (signOf S k b).1.2 = true ∧ alook (signOf S k b).2.signed (signOf S k b).1.1 = some (k, b) ∧ alook (signOf S k b).2.signs (k, b) = some (signOf S k b).1.1 ∧
    (signOf S k b).2.hashes = S.hashes ∧ (signOf S k b).2.publics = S.publics ∧ (signOf S k b).2.secrets = S.secrets := by
  obtain ⟨c1, c2, c3, c4, c5, c6, c7, c8⟩ := freshOf_frame S
  obtain ⟨f1, f2, f3, f4, f5⟩ := fresh_inv h
  unfold signOf
  rw [if_pos hk]
  cases hs : alook S.signs (k, b) with
  | some x => exact ⟨h, OS.le.refl _, rfl, h.sg _ _ hs, hs, rfl, rfl, rfl⟩
  | none =>
    have hl : ∀ c z, alook (aput S.signs (k, b) (freshOf S).1) c = some z → ((k, b) = c ∧ z = (freshOf S).1) ∨ alook S.signs c = some z := fun c z e => by
      rw [alook_put] at e
      split at e
      · rename_i hbc; cases e; exact .inl ⟨hbc, rfl⟩
      · exact .inr e
    have hg : ∀ c z, alook (aput S.signed (freshOf S).1 (k, b)) c = some z → ((freshOf S).1 = c ∧ z = (k, b)) ∨ alook S.signed c = some z := fun c z e => by
      rw [alook_put] at e
      split at e
      · rename_i hbc; cases e; exact .inl ⟨hbc, rfl⟩
      · exact .inr e
    have hn : ∀ x q, alook S.signed x = some q → (freshOf S).1 ≠ x := fun x q e e' => f3 (by rw [e']; exact h.su x q e)
    refine ⟨⟨f1.ok, f1.rng, f1.hu, f1.hi, fun q x e => ?_, fun x q e => ?_, fun x q e => ?_, f1.pu, f1.ps, f1.eu⟩, ⟨f2.hashes, fun q x e => ?_, fun x q e => ?_, f2.publics, f2.secrets, f2.used⟩, rfl, ?_, ?_, c1, c4, c3⟩
    · show alook (aput S.signed (freshOf S).1 (k, b)) x = some q
      rcases hl q x e with ⟨rfl, rfl⟩ | e
      · rw [alook_put, if_pos rfl]
      · rw [alook_put, if_neg (hn x q (h.sg q x e))]; exact h.sg q x e
    · show alook (aput S.signs (k, b) (freshOf S).1) q = some x
      rcases hg x q e with ⟨rfl, rfl⟩ | e
      · rw [alook_put, if_pos rfl]
      · rw [alook_put, if_neg (fun e' => by subst e'; have := h.gs x _ e; rw [hs] at this; cases this)]; exact h.gs x q e
    · rcases hg x q e with ⟨rfl, rfl⟩ | e
      · exact f4
      · exact f2.used _ (h.su x q e)
    · show alook (aput S.signs (k, b) (freshOf S).1) q = some x
      rw [alook_put, if_neg (fun e' => by subst e'; rw [hs] at e; cases e)]; exact e
    · show alook (aput S.signed (freshOf S).1 (k, b)) x = some q
      rw [alook_put, if_neg (hn x q e)]; exact e
    · show alook (aput S.signed (freshOf S).1 (k, b)) (freshOf S).1 = _
      rw [alook_put, if_pos rfl]
    · show alook (aput S.signs (k, b) (freshOf S).1) (k, b) = _
      rw [alook_put, if_pos rfl]
theorem sign_no {S : OS} {k : Int} (hk : k ∉ S.secrets) (b : List UInt8) : signOf S k b = ((0, false), S) := by unfold signOf; rw [if_neg hk]
theorem sign_inv' {S : OS} (h : OInv S) (k : Int) (b : List UInt8) : OInv (signOf S k b).2 ∧ OS.le S (signOf S k b).2 ∧ (signOf S k b).2.hashes = S.hashes ∧ (signOf S k b).2.publics = S.publics ∧ (signOf S k b).2.secrets = S.secrets := by
  by_cases hk : k ∈ S.secrets
  · obtain ⟨a1, a2, a3, a4, a5, a6, a7, a8⟩ := sign_inv h hk b; exact ⟨a1, a2, a6, a7, a8⟩
  · rw [sign_no hk]; exact ⟨h, OS.le.refl _, rfl, rfl, rfl⟩
end Go.Proofs.Ytfmdpjhkojbocaa

/- The two oracles side by side: tables against rows. -/
set_option linter.unusedVariables false
set_option linter.unusedSimpArgs false
namespace Go.Proofs.Ytfmdpjhkojbocaa
open Go Go.Mx Go.Proofs
theorem ex_add {L : List RRow} {r0 : RRow} {f : RRow → Prop} : (∃ r ∈ L ++ [r0], f r) ↔ (∃ r ∈ L, f r) ∨ f r0 := by
  constructor
  · rintro ⟨r, hr, h⟩
    rcases List.mem_append.1 hr with hr | hr
    · exact .inl ⟨r, hr, h⟩
    · simp at hr; subst hr; exact .inr h
  · rintro (⟨r, hr, h⟩ | h)
    · exact ⟨r, List.mem_append_left _ hr, h⟩
    · exact ⟨r0, by simp, h⟩
theorem ex_no {L : List RRow} {r0 : RRow} {f : RRow → Prop} (h : ¬ f r0) : (∃ r ∈ L ++ [r0], f r) ↔ ∃ r ∈ L, f r := by
  rw [ex_add]; exact ⟨fun h' => h'.resolve_right h, .inl⟩
theorem alook_new {κ β : Type} [DecidableEq κ] {T : List (κ × β)} {k c : κ} {v y : β} (h : alook T k = none) : alook (aput T k v) c = some y ↔ alook T c = some y ∨ (k = c ∧ v = y) := by
  rw [alook_put]
  by_cases hc : k = c
  · subst hc; rw [if_pos rfl, h]; simp
  · rw [if_neg hc]; simp [hc]
structure Sim (S : OS) (d : List Int) (L : List RRow) : Prop where
  ok : S.ok
  dr : S.draws = d
  us : S.used = L.map RRow.h
  nd : (L.map RRow.h).Nodup
  nz : ∀ r ∈ L, r.h ≠ 0
  hs : ∀ b x, alook S.hashes b = some x ↔ ∃ r ∈ L, r.kind = 1 ∧ r.A = b ∧ r.h = x
  ky : ∀ k, k ∈ S.keys ↔ ∃ r ∈ L, r.kind = 2 ∧ r.h = k
  sc : ∀ s, s ∈ S.secrets ↔ ∃ r ∈ L, r.kind = 3 ∧ r.h = s
  pb : ∀ p s, alook S.publics p = some s ↔ ∃ r ∈ L, r.kind = 4 ∧ r.h = p ∧ r.n = s
  sg : ∀ q x, alook S.signs q = some x ↔ ∃ r ∈ L, r.kind = 5 ∧ (r.n, r.A) = q ∧ r.h = x
  sd : ∀ x q, alook S.signed x = some q ↔ ∃ r ∈ L, r.kind = 5 ∧ (r.n, r.A) = q ∧ r.h = x
  se : ∀ x q, alook S.sealed x = some q ↔ ∃ r ∈ L, r.kind = 6 ∧ r.h = x ∧ q = ⟨r.n, r.A, r.B⟩
  wr : ∀ x q, alook S.wrapped x = some q ↔ ∃ r ∈ L, r.kind = 7 ∧ r.h = x ∧ (r.n, r.m) = q
theorem Sim.init {l : List Int} (hl : ∀ d ∈ l, 0 ≤ d ∧ d < 18446744073709551616) : Sim (OS.init l) l [] := by
  refine ⟨OS.init_ok l hl, rfl, rfl, by simp, by simp, ?_, ?_, ?_, ?_, ?_, ?_, ?_, ?_⟩ <;> simp [OS.init, alook]
section
variable {S : OS} {d : List Int} {L : List RRow}
theorem Sim.mem_used (h : Sim S d L) {r : RRow} (hr : r ∈ L) : r.h ∈ S.used := by rw [h.us]; exact List.mem_map_of_mem hr
theorem uniq : ∀ {L : List RRow}, (L.map RRow.h).Nodup → ∀ {r s : RRow}, r ∈ L → s ∈ L → r.h = s.h → r = s
  | [], _, r, s, hr, _, _ => by cases hr
  | a :: l, hn, r, s, hr, hs, he => by
    simp only [List.map_cons, List.nodup_cons] at hn
    rcases List.mem_cons.1 hr with rfl | hr' <;> rcases List.mem_cons.1 hs with rfl | hs'
    · rfl
    · exact (hn.1 (List.mem_map.2 ⟨s, hs', he.symm⟩)).elim
    · exact (hn.1 (List.mem_map.2 ⟨r, hr', he⟩)).elim
    · exact uniq hn.2 hr' hs' he
theorem isR_some (hn : (L.map RRow.h).Nodup) {x k : Int} {r : RRow} : isR L x k = some r ↔ r ∈ L ∧ r.h = x ∧ r.kind = k := by
  unfold isR
  constructor
  · intro h
    rw [Option.bind_eq_some_iff] at h
    obtain ⟨a, h1, h2⟩ := h
    have m := List.mem_of_find?_eq_some h1
    have e := List.find?_some h1
    split at h2
    · rename_i hk; cases h2; exact ⟨m, by simpa using e, hk⟩
    · cases h2
  · rintro ⟨h1, h2, h3⟩
    cases hf : L.find? (fun r => r.h == x) with
    | none =>
      rw [List.find?_eq_none] at hf
      exact absurd (by simpa using h2) (hf r h1)
    | some a =>
      have m := List.mem_of_find?_eq_some hf
      have e := List.find?_some hf
      obtain rfl : a = r := uniq hn m h1 (by rw [h2]; simpa using e)
      show (if a.kind = k then some a else none) = some a
      rw [if_pos h3]
theorem isR_none (hn : (L.map RRow.h).Nodup) {x k : Int} : isR L x k = none ↔ ¬ ∃ r ∈ L, r.kind = k ∧ r.h = x := by
  constructor
  · rintro h ⟨r, h1, h2, h3⟩
    rw [(isR_some hn).2 ⟨h1, h3, h2⟩] at h; cases h
  · intro h
    cases hi : isR L x k with
    | none => rfl
    | some r => obtain ⟨a, b, c⟩ := (isR_some hn).1 hi; exact absurd ⟨r, a, c, b⟩ h
/-- the same handle. -/
theorem Sim.fresh (h : Sim S d L) (r : RRow) : (putR d L r).1 = (freshOf S).1 ∧ (putR d L r).2.1 = (freshOf S).2.draws := by
  obtain ⟨h1, h2, h3, h4⟩ := h.ok
  unfold putR freshOf freshR
  rw [← h.us, ← h.dr]
  cases hp : pickD S.draws S.used with
  | some q => exact ⟨rfl, rfl⟩
  | none =>
    refine ⟨?_, rfl⟩
    obtain ⟨a1, a2, a3, a4, a5⟩ := pickN_spec S.used (S.used.length + 1) S.next h1 (gap S.used _ _ (by omega))
    obtain ⟨b1, b2, b3, b4, b5⟩ := pickN_spec S.used (S.used.length + 1) 1 (Int.le_refl _) (gap S.used _ _ (by omega))
    show pickN S.used (S.used.length + 1) 1 = pickN S.used (S.used.length + 1) S.next
    generalize pickN S.used (S.used.length + 1) 1 = x at *
    generalize pickN S.used (S.used.length + 1) S.next = y at *
    rcases Int.lt_trichotomy x y with c | c | c
    · exfalso
      by_cases hx : x < S.next
      · exact b3 (h2 x b1 hx)
      · exact b3 (a5 x (by omega) c)
    · exact c
    · exact absurd (b5 y (by omega) c) a3
/-- a row more: all but the tables. -/
theorem Sim.put (h : Sim S d L) (r : RRow) : (freshOf S).2.ok ∧ (freshOf S).2.draws = (putR d L r).2.1 ∧ (freshOf S).2.used = (putR d L r).2.2.map RRow.h ∧ ((putR d L r).2.2.map RRow.h).Nodup ∧ (∀ z ∈ (putR d L r).2.2, z.h ≠ 0) ∧
    (putR d L r).2.2 = L ++ [{ r with h := (freshOf S).1 }] ∧ (∀ z ∈ L, z.h ≠ (freshOf S).1) := by
  obtain ⟨a1, a2, a3, a4⟩ := freshOf_spec h.ok
  obtain ⟨b1, b2⟩ := h.fresh r
  have e : (putR d L r).2.2 = L ++ [{ r with h := (freshOf S).1 }] := by rw [← b1]; rfl
  have hne : ∀ z ∈ L, z.h ≠ (freshOf S).1 := fun z hz he => a2 (he ▸ h.mem_used hz)
  refine ⟨a4, b2.symm, by rw [a3, e, h.us]; simp, ?_, ?_, e, hne⟩
  · rw [e, List.map_append, List.nodup_append]
    refine ⟨h.nd, by simp, fun a ha b hb => ?_⟩
    obtain ⟨z, hz, rfl⟩ := List.mem_map.1 ha
    simp at hb; subst hb; exact hne z hz
  · rw [e]
    intro z hz
    rcases List.mem_append.1 hz with hz | hz
    · exact h.nz z hz
    · simp at hz; subst hz; exact a1
theorem new_none {κ β : Type} [DecidableEq κ] {T : List (κ × β)} {k : κ} (h : ∀ y, ¬ alook T k = some y) : alook T k = none := by
  cases hk : alook T k with
  | none => rfl
  | some y => exact absurd hk (h y)
theorem Sim.find (h : Sim S d L) {p : RRow → Bool} {x : Int} (hx : ∃ r ∈ L, p r = true ∧ r.h = x) (hu : ∀ r ∈ L, p r = true → r.h = x) : ∃ r, L.find? p = some r ∧ r.h = x := by
  cases hf : L.find? p with
  | none => obtain ⟨r, a, b, _⟩ := hx; rw [List.find?_eq_none] at hf; exact absurd b (hf r a)
  | some r => exact ⟨r, rfl, hu r (List.mem_of_find?_eq_some hf) (List.find?_some hf)⟩
theorem sec_sim (h : Sim S d L) : (putR d L ⟨0, 3, [], [], 0, 0⟩).1 = (freshOf S).1 ∧ Sim { (freshOf S).2 with secrets := badd S.secrets (freshOf S).1 } (putR d L ⟨0, 3, [], [], 0, 0⟩).2.1 (putR d L ⟨0, 3, [], [], 0, 0⟩).2.2 := by
  obtain ⟨a1, a2, a3, a4, a5, a6, a7⟩ := h.put ⟨0, 3, [], [], 0, 0⟩
  obtain ⟨c1, c2, c3, c4, c5, c6, c7, c8⟩ := freshOf_frame S
  refine ⟨(h.fresh _).1, ⟨a1, a2, a3, a4, a5, fun c x => ?_, fun k => ?_, fun s => ?_, fun p s => ?_, fun q x => ?_, fun x q => ?_, fun x q => ?_, fun x q => ?_⟩⟩ <;> simp only [a6]
  · rw [c1, h.hs, ex_no (by simp)]
  · rw [c2, h.ky, ex_no (by simp)]
  · rw [badd_mem, h.sc, ex_add]; simp [eq_comm]
  · rw [c4, h.pb, ex_no (by simp)]
  · rw [c5, h.sg, ex_no (by simp)]
  · rw [c6, h.sd, ex_no (by simp)]
  · rw [c7, h.se, ex_no (by simp)]
  · rw [c8, h.wr, ex_no (by simp)]
theorem pair_sim (h : Sim S d L) : (pairR d L).1 = (pairOf S).1 ∧ Sim (pairOf S).2 (pairR d L).2.1 (pairR d L).2.2 := by
  obtain ⟨e1, h1⟩ := sec_sim h
  unfold pairR pairOf
  simp only []
  rw [e1]
  generalize putR d L ⟨0, 3, [], [], 0, 0⟩ = P at *
  obtain ⟨a1, a2, a3, a4, a5, a6, a7⟩ := h1.put ⟨0, 4, [], [], (freshOf S).1, 0⟩
  obtain ⟨c1, c2, c3, c4, c5, c6, c7, c8⟩ := freshOf_frame S
  obtain ⟨d1, d2, d3, d4, d5, d6, d7, d8⟩ := freshOf_frame { (freshOf S).2 with secrets := badd S.secrets (freshOf S).1 }
  have e2 := (h1.fresh ⟨0, 4, [], [], (freshOf S).1, 0⟩).1
  refine ⟨by rw [e2], ⟨a1, a2, a3, a4, a5, fun c x => ?_, fun k => ?_, fun s => ?_, fun p s => ?_, fun q x => ?_, fun x q => ?_, fun x q => ?_, fun x q => ?_⟩⟩ <;> simp only [a6]
  · rw [d1, h1.hs, ex_no (by simp)]
  · rw [d2, h1.ky, ex_no (by simp)]
  · rw [d3, h1.sc, ex_no (by simp)]
  · have hpb : alook S.publics p = some s ↔ _ := (by rw [congrArg (fun t => alook t p) c4.symm] : alook S.publics p = some s ↔ alook (freshOf S).2.publics p = some s).trans (h1.pb p s)
    rw [alook_new (new_none fun y hy => ?_), hpb, ex_add]
    · simp
    · have hy := (congrArg (fun t => alook t _) c4).trans hy
      obtain ⟨r, q1, q2, q3, q4⟩ := (h1.pb _ _).1 hy
      exact a7 r q1 q3
  · rw [d5, h1.sg, ex_no (by simp)]
  · rw [d6, h1.sd, ex_no (by simp)]
  · rw [d7, h1.se, ex_no (by simp)]
  · rw [d8, h1.wr, ex_no (by simp)]
theorem sec_is (h : Sim S d L) (s : Int) : (∃ r, isR L s 3 = some r) ↔ s ∈ S.secrets := by
  rw [h.sc]
  constructor
  · rintro ⟨r, hr⟩; obtain ⟨a, b, c⟩ := (isR_some h.nd).1 hr; exact ⟨r, a, c, b⟩
  · rintro ⟨r, a, c, b⟩; exact ⟨r, (isR_some h.nd).2 ⟨a, b, c⟩⟩
theorem sign_sim (h : Sim S d L) (s : Int) (b : List UInt8) : (signR d L s b).1 = ((signOf S s b).1.1, if (signOf S s b).1.2 then 0 else 11) ∧ Sim (signOf S s b).2 (signR d L s b).2.1 (signR d L s b).2.2 := by
  unfold signR signOf
  by_cases hs : s ∈ S.secrets
  · obtain ⟨r0, hr0⟩ := (sec_is h s).2 hs
    rw [if_pos hs, hr0]
    simp only []
    cases hk : alook S.signs (s, b) with
    | some x =>
      obtain ⟨r, h1, h2, h3, h4⟩ := (h.sg _ x).1 hk
      obtain ⟨z, hz, hx⟩ := h.find (p := fun r => r.kind == 5 && (r.n == s && decide (r.A = b))) ⟨r, h1, by cases h3; simp [h2], h4⟩ fun r hr hp => by
        simp at hp
        have := (h.sg (s, b) r.h).2 ⟨r, hr, hp.1, by rw [hp.2.1, hp.2.2], rfl⟩
        rw [hk] at this; exact (Option.some.inj this).symm
      rw [hz]
      exact ⟨by simp [hx], h⟩
    | none =>
      have hf : L.find? (fun r => r.kind == 5 && (r.n == s && decide (r.A = b))) = none := by
        rw [List.find?_eq_none]
        intro r hr hp
        simp at hp
        rw [(h.sg (s, b) r.h).2 ⟨r, hr, hp.1, by rw [hp.2.1, hp.2.2], rfl⟩] at hk; cases hk
      rw [hf]
      obtain ⟨a1, a2, a3, a4, a5, a6, a7⟩ := h.put ⟨0, 5, b, [], s, 0⟩
      obtain ⟨c1, c2, c3, c4, c5, c6, c7, c8⟩ := freshOf_frame S
      refine ⟨by simp [(h.fresh _).1], ⟨a1, a2, a3, a4, a5, fun c x => ?_, fun k => ?_, fun s => ?_, fun p s => ?_, fun q x => ?_, fun x q => ?_, fun x q => ?_, fun x q => ?_⟩⟩ <;> simp only [a6]
      · rw [c1, h.hs, ex_no (by simp)]
      · rw [c2, h.ky, ex_no (by simp)]
      · rw [c3, h.sc, ex_no (by simp)]
      · rw [c4, h.pb, ex_no (by simp)]
      · rw [alook_new hk, h.sg, ex_add]; simp
      · rw [alook_new (new_none fun y hy => ?_), h.sd, ex_add]
        · simp [and_comm]
        · obtain ⟨r, q1, q2, q3, q4⟩ := (h.sd _ _).1 hy
          exact a7 r q1 q4
      · rw [c7, h.se, ex_no (by simp)]
      · rw [c8, h.wr, ex_no (by simp)]
  · have hi : isR L s 3 = none := by
      cases hi : isR L s 3 with
      | none => rfl
      | some r => exact absurd ((sec_is h s).1 ⟨r, hi⟩) hs
    rw [if_neg hs, hi]
    exact ⟨rfl, h⟩
theorem pub_is (h : Sim S d L) (p : Int) : (isR L p 4).map RRow.n = alook S.publics p := by
  cases hi : isR L p 4 with
  | none =>
    cases hk : alook S.publics p with
    | none => rfl
    | some s => obtain ⟨r, a, b, c, _⟩ := (h.pb p s).1 hk; exact absurd ⟨r, a, b, c⟩ ((isR_none h.nd).1 hi)
  | some r => obtain ⟨a, b, c⟩ := (isR_some h.nd).1 hi; exact ((h.pb p r.n).2 ⟨r, a, c, b, rfl⟩).symm
theorem sig_is (h : Sim S d L) (x : Int) : (isR L x 5).map (fun r => (r.n, r.A)) = alook S.signed x := by
  cases hi : isR L x 5 with
  | none =>
    cases hk : alook S.signed x with
    | none => rfl
    | some s => obtain ⟨r, a, b, _, c⟩ := (h.sd x s).1 hk; exact absurd ⟨r, a, b, c⟩ ((isR_none h.nd).1 hi)
  | some r => obtain ⟨a, b, c⟩ := (isR_some h.nd).1 hi; exact ((h.sd x (r.n, r.A)).2 ⟨r, a, c, rfl, b⟩).symm
theorem verify_sim (h : Sim S d L) (p : Int) (b : List UInt8) (x : Int) : verifyR L p b x = verifyOf S p b x := by
  unfold verifyR verifyOf
  rw [← pub_is h p, ← sig_is h x]
  cases isR L p 4 with
  | none => rfl
  | some y =>
    cases isR L x 5 with
    | none => rfl
    | some z => show decide (z.n = y.n ∧ z.A = b) = decide ((z.n, z.A) = (y.n, b)); congr 1; simp
end
end Go.Proofs.Ytfmdpjhkojbocaa

/- A function's own blocks, each its own owner. -/
set_option linter.unusedSimpArgs false
set_option linter.unusedVariables false
set_option linter.unusedSectionVars false
namespace Go.Mx
section
variable {K K1 : Nat → Prop} {w w1 w' : World} {o o1 o' : Own} {p q j : Nat}
def Mine (L : List Nat) (w : World) (o : Own) : Prop := ∀ p ∈ L, p < w.heap.size ∧ o p = some p
theorem Mine.nil : Mine [] w o := fun p hp => by simp at hp
theorem Mine.step {L : List Nat} (h : Mine L w o) (s : Step K w o w' o') : Mine L w' o' := fun p hp => ⟨Nat.lt_of_lt_of_le (h p hp).1 s.size, by rw [s.own (h p hp).1]; exact (h p hp).2⟩
theorem Mine.keep {L : List Nat} (h : Mine L w o) (s : Step K w o w' o') (hk : ∀ p ∈ L, ¬ K p) : Keep L w w' := s.keep fun p hp _ k hk' => by
  rw [(h p hp).2] at hk'; cases hk'; exact hk p hp
theorem Mine.sub {L M : List Nat} (h : Mine L w o) (k : ∀ p ∈ M, p ∈ L) : Mine M w o := fun p hp => h p (k p hp)
theorem Mine.app {L M : List Nat} (h : Mine L w o) (k : Mine M w o) : Mine (L ++ M) w o := fun p hp => (List.mem_append.1 hp).elim (h p) (k p)
theorem Mine.lt {L : List Nat} (h : Mine L w o) {p : Nat} (hp : p ∈ L) : p < w.heap.size := (h p hp).1
def tags (w : World) (o : Own) (L : List Nat) : Own := fun b => if b < w.heap.size then o b else if b ∈ L then some b else none
theorem Step.priv {L : List Nat} (h : Ext no w w') (hp : Priv w w' L) (ok : Tags w o) : Step no w o w' (tags w o L) ∧ Mine L w' (tags w o L) := by
  refine ⟨⟨h.mono fun _ h _ => h.elim, fun b hb => if_pos hb, ok, fun b j hb hj => ?_⟩, fun p hq => ⟨(hp p hq).2, ?_⟩⟩
  · unfold tags at hj
    split at hj
    · rename_i hl; exact Nat.lt_of_lt_of_le (ok b j hl hj) h.size
    · split at hj
      · cases hj; exact hb
      · cases hj
  · unfold tags
    rw [if_neg (by have := (hp p hq).1; omega), if_pos hq]
/-- stores into blocks of one's own. -/
theorem Step.stores {L : List Nat} {m : Nat → Prop} (h : Ext m w w') (ok : Tags w o) (hL : Mine L w o) (hm : ∀ b, m b → b ∈ L) : Step (fun j => j ∈ L) w o w' (grow w o) :=
  Step.of_exts h ok fun b hb _ => ⟨b, (hL b (hm b hb)).2, hm b hb⟩
end
end Go.Mx

/- The reference's rows, few and short; both oracles. -/
set_option linter.unusedVariables false
set_option linter.unusedSimpArgs false
set_option maxRecDepth 20000
namespace Go.Proofs.Ytfmdpjhkojbocaa
open Go Go.Mx Go.Proofs
/-- the rows are few, and short. -/
structure RFine (n : Nat) (d : List Int) (L : List RRow) : Prop where
  draws : ∀ x ∈ d, 0 ≤ x ∧ x < 18446744073709551616
  short : L.length ≤ n
  bytes : ∀ r ∈ L, r.A.length < 1000000 ∧ r.B.length < 1000000
section
variable {w w' : World} {o o' : Own} {k n : Nat} {K : Nat → Prop} {S : OS} {d : List Int} {L : List RRow}
theorem RFine.rok (h : RFine n d L) (ok : Tags w o) (hn : n < 1000000) : ROk w o d L := ⟨ok, h.draws, Nat.lt_of_le_of_lt h.short hn, h.bytes⟩
theorem RFine.more (h : RFine n d L) : RFine (n + 1) d L := ⟨h.draws, Nat.le_succ_of_le h.short, h.bytes⟩
theorem RFine.put (h : RFine n d L) (r : RRow) (hr : r.A.length < 1000000 ∧ r.B.length < 1000000) : RFine (n + 1) (putR d L r).2.1 (putR d L r).2.2 := by
  refine ⟨freshR_draws h.draws, ?_, fun z hz => ?_⟩
  · have := h.short; rw [putR_len]; omega
  · rcases List.mem_append.1 hz with hz | hz
    · exact h.bytes z hz
    · simp at hz; subst hz; exact hr
theorem RFine.pair (h : RFine n d L) : RFine (n + 2) (pairR d L).2.1 (pairR d L).2.2 :=
  (h.put ⟨0, 3, [], [], 0, 0⟩ (by decide)).put _ ⟨by show (0 : Nat) < _; decide, by show (0 : Nat) < _; decide⟩
theorem RFine.sign (h : RFine n d L) (s : Int) {b : List UInt8} (hb : b.length < 1000000) : RFine (n + 1) (signR d L s b).2.1 (signR d L s b).2.2 := by
  unfold signR
  split
  · exact h.more
  · split
    · exact h.more
    · exact h.put _ ⟨hb, by show (0 : Nat) < _; decide⟩
/-- both oracles. -/
structure Two (w : World) (o : Own) (k j : Nat) (S : OS) (d : List Int) (L : List RRow) (n : Nat) : Prop where
  p : POrc w o k S
  r : ROrc w o j d L
  sim : Sim S d L
  inv : OInv S
  fine : RFine n d L
  ok : Tags w o
  ne : k ≠ j
variable {j : Nat}
theorem Two.step (h : Two w o k j S d L n) (s : Step no w o w' o') : Two w' o' k j S d L n := ⟨h.p.step s id, h.r.step s id, h.sim, h.inv, h.fine, s.ok, h.ne⟩
theorem Two.len (h : Two w o k j S d L n) : S.used.length ≤ n := by rw [h.sim.us, List.length_map]; exact h.fine.short
theorem Two.rok (h : Two w o k j S d L n) (hn : n < 1000000) : ROk w o d L := h.fine.rok h.ok hn
theorem Two.turn {w1 : World} {o1 : Own} {S' : OS} {d' : List Int} {L' : List RRow} {n' : Nat} (h : Two w o k j S d L n) (s1 : Step (fun i => i = k) w o w1 o1) (p1 : POrc w1 o1 k S') (s2 : Step (fun i => i = j) w1 o1 w' o') (r2 : ROrc w' o' j d' L')
    (sim : Sim S' d' L') (inv : OInv S') (fine : RFine n' d' L') : Two w' o' k j S' d' L' n' ∧ Step (fun i => i = k ∨ i = j) w o w' o' :=
  ⟨⟨p1.step s2 h.ne, r2, sim, inv, fine, s2.ok, h.ne⟩, (s1.mono fun _ h _ => .inl h).trans (s2.mono fun _ h _ => .inr h)⟩
end
/-- the reference's, as it is made. -/
theorem ROrc.init {w w' : World} {o : Own} {q : Nat} {da : Option Addr} {dc : Nat} {d : List Int} (X : Ext no w w') (hb : Blk w' q 63 [.slice da d.length dc, .slice none 0 0]) (h1 : w.heap.size ≤ q) (h2 : q < w'.heap.size) (ok : Tags w o) (hd : Row w o da (d.map u64V)) (hc : d.length ≤ dc) :
    ∃ o', Step no w o w' o' ∧ ROrc w' o' q d [] := by
  have s := (Step.of_no X ok).tag h1 h2
  refine ⟨_, s, [], rfl, tag_self, ⟨da, dc, none, 0, hb, hc, hd.step s, Grows.nil _ _ _ _ _, fun ad ha => by cases ha⟩, fun x hx => by cases hx⟩
end Go.Proofs.Ytfmdpjhkojbocaa

/- A struct of numbers: when two are the same. -/
set_option linter.unusedVariables false
set_option linter.unusedSimpArgs false
set_option maxRecDepth 20000
namespace Go.Proofs.Ytfmdpjhkojbocaa
open Go Go.Mx Go.Proofs
theorem W.eqf_step {P : Program} {w : World} {d : Nat} {xs ys : Array Value} {f : Field} {fs : List Field} {a b : Value} {r : Bool} (n : f.name ≠ "_") (qa : (part f.type xs f.offset).run P w = .ok a w) (qb : (part f.type ys f.offset).run P w = .ok b w) (he : (Op.equalIn d f.type a b).run P w = .ok r w) :
    (Op.eqFields d xs ys (f :: fs)).run P w = if r then (Op.eqFields d xs ys fs).run P w else .ok false w := by
  simp only [Op.eqFields, n, ne_eq, not_false_eq_true, if_true, Sem.run_bind, qa, qb, he, Result.andThen_ok]
  cases r <;> simp
theorem eqT27 (x0 : Int) (x1 : Int) (y0 : Int) (y1 : Int) (w : World) : (Op.equalIn 10000 27 (.agg #[.int .i64 x0, .int .i64 x1]) (.agg #[.int .i64 y0, .int .i64 y1])).run Try.prog w = .ok (decide (x0 = y0 ∧ x1 = y1)) w := by
  obtain ⟨f0, f1, ht, n0, o0, p0, u0, n1, o1, p1, u1, hp⟩ : ∃ f0 f1, Try.prog.underlying 27 = some (.struct #[f0, f1]) ∧ f0.name ≠ "_" ∧ f0.offset = 0 ∧ Try.prog.plainKey f0.type = true ∧ Try.prog.underlying f0.type = some (.int .i64) ∧ f1.name ≠ "_" ∧ f1.offset = 1 ∧ Try.prog.plainKey f1.type = true ∧ Try.prog.underlying f1.type = some (.int .i64) ∧ Try.prog.stoodInHeld 27 = false :=
    ⟨_, _, Try.underlying27, by decide, rfl, by kernel_rfl, by kernel_rfl, by decide, rfl, by kernel_rfl, by kernel_rfl, by kernel_rfl⟩
  have hf : Try.prog.fieldsOf 27 = #[f0, f1] := by simp [Program.fieldsOf, ht]
  rw [show (10000 : Nat) = 9998 + 1 + 1 from rfl, run_equalIn_struct w (9998 + 1) _ _ _ (by rw [hf]; exact ht) hp, hf]
  show (Op.eqFields (9998 + 1) _ _ [f0, f1]).run Try.prog w = _
  rw [W.eqf_step n0 (run_part_plain w p0 (by rw [o0]; rfl)) (run_part_plain w p0 (by rw [o0]; rfl)) (run_equalIn_int w _ _ _ _ _ _ u0), W.eqf_step n1 (run_part_plain w p1 (by rw [o1]; rfl)) (run_part_plain w p1 (by rw [o1]; rfl)) (run_equalIn_int w _ _ _ _ _ _ u1)]
  by_cases e0 : x0 = y0 <;> by_cases e1 : x1 = y1 <;> simp [e0, e1, Op.eqFields]
theorem eqT27_eq (x0 : Int) (x1 : Int) (y0 : Int) (y1 : Int) (w : World) : (binOp .eql 27 (.agg #[.int .i64 x0, .int .i64 x1]) (.agg #[.int .i64 y0, .int .i64 y1])).run Try.prog w = .ok (.bool (decide (x0 = y0 ∧ x1 = y1))) w := by rw [run_eql_struct, eqT27]; rfl
end Go.Proofs.Ytfmdpjhkojbocaa

/- Wire: so many bytes of a reader; the reference's whole numbers, and bytes with their length. -/
set_option linter.unusedVariables false
set_option linter.unusedSimpArgs false
set_option maxRecDepth 20000
namespace Go.Proofs.Ytfmdpjhkojbocaa
open Go Go.Mx Go.Proofs
open W (OwnB GivesW numR countR doneR zig unzig intR)
section
variable {w w' : World} {a : Option Addr} {c N p : Nat} {bs : List UInt8} {k : Int}
/-! ### the reference's -/
end
end Go.Proofs.Ytfmdpjhkojbocaa
