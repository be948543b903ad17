/- The oracle's state, told by lists; what it is in memory; what its steps do. -/
import Derived.Test.YtaifegpikhjiiaaZC
import Derived.Test.YtaifegpikhjiiaaZA
import Derived.Deep.AppendSrc
set_option linter.unusedVariables false
set_option linter.unusedSimpArgs false
set_option linter.unusedSectionVars false
namespace Go.Proofs.Ytaifegpikhjiiaa
open Go Go.Mx Go.Proofs

structure Sealed where
  key : Int
  bound : List UInt8
  plain : List UInt8
structure OS where
  draws : List Int
  used : List Int
  next : Int
  hashes : List (List UInt8 × Int)
  keys : List Int
  secrets : List Int
  publics : List (Int × Int)
  signs : List ((Int × List UInt8) × Int)
  signed : List (Int × (Int × List UInt8))
  sealed : List (Int × Sealed)
  wrapped : List (Int × (Int × Int))

structure OG where
  p : Nat
  used : Nat
  hashes : Nat
  keys : Nat
  secrets : Nat
  publics : Nat
  signs : Nat
  signed : Nat
  sealed : Nat
  wrapped : Nat
  x : Nat → Prop
def OG.list (g : OG) : List Nat := [g.p, g.used, g.hashes, g.keys, g.secrets, g.publics, g.signs, g.signed, g.sealed, g.wrapped]
def OG.m (g : OG) : Nat → Prop := fun b => b ∈ g.list
def OG.M (g : OG) : Nat → Prop := fun b => g.m b ∨ g.x b

def u64V (n : Int) : Value := .int .u64 n
def signedV (x : Int × List UInt8) : Value := .agg #[.int .u64 x.1, strV x.2]
def bset (l : List Int) : List (Int × Value) := l.map fun n => (n, .bool true)
def SealedV (w : World) (m : Nat → Prop) (s : Sealed) (v : Value) : Prop :=
  ∃ ba bc pa pc, v = .agg #[.int .u64 s.key, .slice ba s.bound.length bc, .slice pa s.plain.length pc] ∧ RowAt w ba (bytesV s.bound) ∧ (bytesV s.bound ≠ [] → Out m ba) ∧ RowAt w pa (bytesV s.plain) ∧ (bytesV s.plain ≠ [] → Out m pa)
def SealedL (w : World) (m : Nat → Prop) : List (Int × Sealed) → List (Int × Value) → Prop
  | [], [] => True
  | p :: r, q :: s => p.1 = q.1 ∧ SealedV w m p.2 q.2 ∧ SealedL w m r s
  | _, _ => False

def OrcP (w : World) (g : OG) (draws : List Int) (next : Int) : Prop :=
  ∃ da dc, Blk w g.p 117 [.slice da draws.length dc, .map (some g.used), .int .u64 next, .map (some g.hashes), .map (some g.keys), .map (some g.secrets), .map (some g.publics), .map (some g.signs), .map (some g.signed), .map (some g.sealed), .map (some g.wrapped)] ∧
    draws.length ≤ dc ∧ RowAt w da (draws.map u64V) ∧ (draws.map u64V ≠ [] → Out g.M da)

structure Orc (w : World) (g : OG) (S : OS) : Prop where
  nd : g.list.Nodup
  st : OrcP w g S.draws S.next
  used : MapIs w g.used u64V (bset S.used)
  hashes : MapIs w g.hashes strV (S.hashes.map fun p => (p.1, u64V p.2))
  keys : MapIs w g.keys u64V (bset S.keys)
  secrets : MapIs w g.secrets u64V (bset S.secrets)
  publics : MapIs w g.publics u64V (S.publics.map fun p => (p.1, u64V p.2))
  signs : MapIs w g.signs signedV (S.signs.map fun p => (p.1, u64V p.2))
  signed : MapIs w g.signed u64V (S.signed.map fun p => (p.1, signedV p.2))
  sealed : ∃ lv, MapIs w g.sealed u64V lv ∧ SealedL w g.M S.sealed lv
  wrapped : MapIs w g.wrapped u64V (S.wrapped.map fun p => (p.1, .agg #[.int .u64 p.2.1, .int .u64 p.2.2]))
  xm : ∀ b, g.m b → ¬ g.x b
  xlt : ∀ b, g.x b → b < w.heap.size

theorem SealedL.ext {w w' : World} {m n : Nat → Prop} (k : Ext n w w') (hn : ∀ b, n b → m b) : ∀ {l : List (Int × Sealed)} {lv : List (Int × Value)}, SealedL w m l lv → SealedL w' m l lv
  | [], [], _ => trivial
  | p :: r, q :: s, h => by
    obtain ⟨h1, ⟨ba, bc, pa, pc, hv, h2, h3, h4, h5⟩, h6⟩ := h
    exact ⟨h1, ⟨ba, bc, pa, pc, hv, h2.ext' k (fun h0 ad ha hb => h3 h0 ad ha (hn _ hb)), h3, h4.ext' k (fun h0 ad ha hb => h5 h0 ad ha (hn _ hb)), h5⟩, SealedL.ext k hn h6⟩
  | [], _ :: _, h => h.elim
  | _ :: _, [], h => h.elim
theorem OrcP.ext {w w' : World} {g : OG} {d : List Int} {x : Int} {n : Nat → Prop} (h : OrcP w g d x) (k : Ext n w w') (hn : ∀ b, n b → g.M b) (hp : ¬ n g.p) : OrcP w' g d x := by
  obtain ⟨da, dc, h1, h2, h3, h4⟩ := h
  exact ⟨da, dc, h1.ext k hp, h2, h3.ext' k (fun h0 ad ha hb => h4 h0 ad ha (hn _ hb)), h4⟩

section
variable {w w' : World} {g : OG} {S : OS}
theorem m_list {g : OG} : g.m g.p ∧ g.m g.used ∧ g.m g.hashes ∧ g.m g.keys ∧ g.m g.secrets ∧ g.m g.publics ∧ g.m g.signs ∧ g.m g.signed ∧ g.m g.sealed ∧ g.m g.wrapped := by simp [OG.m, OG.list]
theorem Orc.ext {m : Nat → Prop} (h : Orc w g S) (k : Ext m w w') (hd : ∀ b, b < w.heap.size → m b → g.x b) : Orc w' g S := by
  have k' : Ext g.x w w' := k.mono fun b hb hlt => hd b hlt hb
  obtain ⟨lv, h1, h2⟩ := h.sealed
  obtain ⟨q1, q2, q3, q4, q5, q6, q7, q8, q9, q10⟩ := m_list (g := g)
  exact ⟨h.nd, h.st.ext k' (fun b hb => .inr hb) (h.xm _ q1), h.used.ext k' (h.xm _ q2), h.hashes.ext k' (h.xm _ q3), h.keys.ext k' (h.xm _ q4), h.secrets.ext k' (h.xm _ q5), h.publics.ext k' (h.xm _ q6), h.signs.ext k' (h.xm _ q7), h.signed.ext k' (h.xm _ q8), ⟨lv, h1.ext k' (h.xm _ q9), h2.ext k' fun b hb => .inr hb⟩, h.wrapped.ext k' (h.xm _ q10), h.xm, fun b hb => Nat.lt_of_lt_of_le (h.xlt b hb) k.size⟩
theorem Orc.none (h : Orc w g S) (k : Ext no w w') : Orc w' g S := h.ext k fun b _ hb => hb.elim
theorem Orc.mlt (h : Orc w g S) : ∀ b, g.m b → b < w.heap.size := fun b hb => by
  obtain ⟨da, dc, hp, _⟩ := h.st
  obtain ⟨lv, hse, _⟩ := h.sealed
  simp only [OG.m, OG.list, List.mem_cons, List.not_mem_nil, or_false] at hb
  rcases hb with rfl | rfl | rfl | rfl | rfl | rfl | rfl | rfl | rfl | rfl
  · exact hp.lt
  · exact h.used.lt
  · exact h.hashes.lt
  · exact h.keys.lt
  · exact h.secrets.lt
  · exact h.publics.lt
  · exact h.signs.lt
  · exact h.signed.lt
  · exact hse.lt
  · exact h.wrapped.lt
def OG.more (g : OG) (w w' : World) : OG := { g with x := fun b => g.x b ∨ (w.heap.size ≤ b ∧ b < w'.heap.size) }
theorem SealedL.wide {w : World} {m n : Nat → Prop} (hn : ∀ b, n b → m b ∨ w.heap.size ≤ b) : ∀ {l : List (Int × Sealed)} {lv : List (Int × Value)}, SealedL w m l lv → SealedL w n l lv
  | [], [], _ => trivial
  | p :: r, q :: s, h => by
    obtain ⟨h1, ⟨ba, bc, pa, pc, hv, h2, h3, h4, h5⟩, h6⟩ := h
    refine ⟨h1, ⟨ba, bc, pa, pc, hv, h2, fun h0 ad ha hb => ?_, h4, fun h0 ad ha hb => ?_⟩, SealedL.wide hn h6⟩
    · rcases hn _ hb with h | h
      · exact h3 h0 ad ha h
      · have := h2.lt h0 ha; omega
    · rcases hn _ hb with h | h
      · exact h5 h0 ad ha h
      · have := h4.lt h0 ha; omega
  | [], _ :: _, h => h.elim
  | _ :: _, [], h => h.elim
theorem Orc.foreign {n : Nat → Prop} (h : Orc w g S) (k : Ext n w w') (hd : ∀ b, b < w.heap.size → n b → g.x b) : Orc w' (g.more w w') S := by
  have hw := h.ext k hd
  have k' : Ext g.x w w' := k.mono fun b hb hlt => hd b hlt hb
  have hM : ∀ b, (g.more w w').M b → g.M b ∨ w.heap.size ≤ b := fun b hb => by
    rcases hb with hb | hb | hb
    · exact .inl (.inl hb)
    · exact .inl (.inr hb)
    · exact .inr hb.1
  obtain ⟨lv, h1, h2⟩ := h.sealed
  obtain ⟨lv', h1', h2'⟩ := hw.sealed
  obtain ⟨da, dc, hp, h3, h4, h5⟩ := h.st
  refine ⟨hw.nd, ⟨da, dc, hp.ext k' (h.xm _ m_list.1), h3, h4.ext' k' (fun h0 ad ha hb => h5 h0 ad ha (.inr hb)), fun h0 ad ha hb => ?_⟩, hw.used, hw.hashes, hw.keys, hw.secrets, hw.publics, hw.signs, hw.signed,
    ⟨lv, h1.ext k' (h.xm _ m_list.2.2.2.2.2.2.2.2.1), (h2.wide hM).ext k' fun b hb => .inr (.inl hb)⟩, hw.wrapped, fun b hb hx => ?_, fun b hb => ?_⟩
  · rcases hM _ hb with h | h
    · exact h5 h0 ad ha h
    · have := h4.lt h0 ha; omega
  · rcases hx with hx | hx
    · exact h.xm b hb hx
    · have := h.mlt b hb; omega
  · rcases hb with hb | hb
    · exact Nat.lt_of_lt_of_le (h.xlt b hb) k.size
    · exact hb.2
theorem nd_ne (h : Orc w g S) : g.p ≠ g.used ∧ g.p ≠ g.hashes ∧ g.p ≠ g.keys ∧ g.p ≠ g.secrets ∧ g.p ≠ g.publics ∧ g.p ≠ g.signs ∧ g.p ≠ g.signed ∧ g.p ≠ g.sealed ∧ g.p ≠ g.wrapped ∧
    g.used ≠ g.hashes ∧ g.used ≠ g.keys ∧ g.used ≠ g.secrets ∧ g.used ≠ g.publics ∧ g.used ≠ g.signs ∧ g.used ≠ g.signed ∧ g.used ≠ g.sealed ∧ g.used ≠ g.wrapped ∧
    g.hashes ≠ g.keys ∧ g.hashes ≠ g.secrets ∧ g.hashes ≠ g.publics ∧ g.hashes ≠ g.signs ∧ g.hashes ≠ g.signed ∧ g.hashes ≠ g.sealed ∧ g.hashes ≠ g.wrapped ∧
    g.keys ≠ g.secrets ∧ g.keys ≠ g.publics ∧ g.keys ≠ g.signs ∧ g.keys ≠ g.signed ∧ g.keys ≠ g.sealed ∧ g.keys ≠ g.wrapped ∧
    g.secrets ≠ g.publics ∧ g.secrets ≠ g.signs ∧ g.secrets ≠ g.signed ∧ g.secrets ≠ g.sealed ∧ g.secrets ≠ g.wrapped ∧
    g.publics ≠ g.signs ∧ g.publics ≠ g.signed ∧ g.publics ≠ g.sealed ∧ g.publics ≠ g.wrapped ∧
    g.signs ≠ g.signed ∧ g.signs ≠ g.sealed ∧ g.signs ≠ g.wrapped ∧ g.signed ≠ g.sealed ∧ g.signed ≠ g.wrapped ∧ g.sealed ≠ g.wrapped := by
  have := h.nd
  simp only [OG.list, List.nodup_cons, List.mem_cons, not_or, List.not_mem_nil, not_false_eq_true, List.nodup_nil, and_true] at this
  simp only [this, ne_eq, not_false_eq_true, and_self]

theorem one_sub {g : OG} {b : Nat} (hb : b ∈ g.list) : ∀ c, (fun x => x = b) c → g.M c := fun c hc => by subst hc; exact .inl hb

theorem Orc.set_used (h : Orc w g S) (k : Ext (fun b => b = g.used) w w') {l : List Int} (hl : MapIs w' g.used u64V (bset l)) : Orc w' g { S with used := l } := by
  have hn := nd_ne h
  have hs := one_sub (g := g) (b := g.used) (by simp [OG.list])
  obtain ⟨lv, h1, h2⟩ := h.sealed
  exact ⟨h.nd, h.st.ext k hs (by simp_all), hl, h.hashes.ext k (by simp_all [eq_comm]), h.keys.ext k (by simp_all [eq_comm]), h.secrets.ext k (by simp_all [eq_comm]), h.publics.ext k (by simp_all [eq_comm]), h.signs.ext k (by simp_all [eq_comm]), h.signed.ext k (by simp_all [eq_comm]), ⟨lv, h1.ext k (by simp_all [eq_comm]), h2.ext k hs⟩, h.wrapped.ext k (by simp_all [eq_comm]), h.xm, fun b hb => Nat.lt_of_lt_of_le (h.xlt b hb) k.size⟩
theorem Orc.set_keys (h : Orc w g S) (k : Ext (fun b => b = g.keys) w w') {l : List Int} (hl : MapIs w' g.keys u64V (bset l)) : Orc w' g { S with keys := l } := by
  have hn := nd_ne h
  have hs := one_sub (g := g) (b := g.keys) (by simp [OG.list])
  obtain ⟨lv, h1, h2⟩ := h.sealed
  exact ⟨h.nd, h.st.ext k hs (by simp_all), h.used.ext k (by simp_all [eq_comm]), h.hashes.ext k (by simp_all [eq_comm]), hl, h.secrets.ext k (by simp_all [eq_comm]), h.publics.ext k (by simp_all [eq_comm]), h.signs.ext k (by simp_all [eq_comm]), h.signed.ext k (by simp_all [eq_comm]), ⟨lv, h1.ext k (by simp_all [eq_comm]), h2.ext k hs⟩, h.wrapped.ext k (by simp_all [eq_comm]), h.xm, fun b hb => Nat.lt_of_lt_of_le (h.xlt b hb) k.size⟩
theorem Orc.set_secrets (h : Orc w g S) (k : Ext (fun b => b = g.secrets) w w') {l : List Int} (hl : MapIs w' g.secrets u64V (bset l)) : Orc w' g { S with secrets := l } := by
  have hn := nd_ne h
  have hs := one_sub (g := g) (b := g.secrets) (by simp [OG.list])
  obtain ⟨lv, h1, h2⟩ := h.sealed
  exact ⟨h.nd, h.st.ext k hs (by simp_all), h.used.ext k (by simp_all [eq_comm]), h.hashes.ext k (by simp_all [eq_comm]), h.keys.ext k (by simp_all [eq_comm]), hl, h.publics.ext k (by simp_all [eq_comm]), h.signs.ext k (by simp_all [eq_comm]), h.signed.ext k (by simp_all [eq_comm]), ⟨lv, h1.ext k (by simp_all [eq_comm]), h2.ext k hs⟩, h.wrapped.ext k (by simp_all [eq_comm]), h.xm, fun b hb => Nat.lt_of_lt_of_le (h.xlt b hb) k.size⟩
theorem Orc.set_publics (h : Orc w g S) (k : Ext (fun b => b = g.publics) w w') {l : List (Int × Int)} (hl : MapIs w' g.publics u64V (l.map fun p => (p.1, u64V p.2))) : Orc w' g { S with publics := l } := by
  have hn := nd_ne h
  have hs := one_sub (g := g) (b := g.publics) (by simp [OG.list])
  obtain ⟨lv, h1, h2⟩ := h.sealed
  exact ⟨h.nd, h.st.ext k hs (by simp_all), h.used.ext k (by simp_all [eq_comm]), h.hashes.ext k (by simp_all [eq_comm]), h.keys.ext k (by simp_all [eq_comm]), h.secrets.ext k (by simp_all [eq_comm]), hl, h.signs.ext k (by simp_all [eq_comm]), h.signed.ext k (by simp_all [eq_comm]), ⟨lv, h1.ext k (by simp_all [eq_comm]), h2.ext k hs⟩, h.wrapped.ext k (by simp_all [eq_comm]), h.xm, fun b hb => Nat.lt_of_lt_of_le (h.xlt b hb) k.size⟩
theorem Orc.set_wrapped (h : Orc w g S) (k : Ext (fun b => b = g.wrapped) w w') {l : List (Int × (Int × Int))} (hl : MapIs w' g.wrapped u64V (l.map fun p => (p.1, .agg #[.int .u64 p.2.1, .int .u64 p.2.2]))) : Orc w' g { S with wrapped := l } := by
  have hn := nd_ne h
  have hs := one_sub (g := g) (b := g.wrapped) (by simp [OG.list])
  obtain ⟨lv, h1, h2⟩ := h.sealed
  exact ⟨h.nd, h.st.ext k hs (by simp_all), h.used.ext k (by simp_all [eq_comm]), h.hashes.ext k (by simp_all [eq_comm]), h.keys.ext k (by simp_all [eq_comm]), h.secrets.ext k (by simp_all [eq_comm]), h.publics.ext k (by simp_all [eq_comm]), h.signs.ext k (by simp_all [eq_comm]), h.signed.ext k (by simp_all [eq_comm]), ⟨lv, h1.ext k (by simp_all [eq_comm]), h2.ext k hs⟩, hl, h.xm, fun b hb => Nat.lt_of_lt_of_le (h.xlt b hb) k.size⟩
theorem Orc.set_sealed (h : Orc w g S) (k : Ext (fun b => b = g.sealed) w w') {l : List (Int × Sealed)} {lv : List (Int × Value)} (hl : MapIs w' g.sealed u64V lv) (hv : SealedL w' g.M l lv) : Orc w' g { S with sealed := l } := by
  have hn := nd_ne h
  have hs := one_sub (g := g) (b := g.sealed) (by simp [OG.list])
  exact ⟨h.nd, h.st.ext k hs (by simp_all), h.used.ext k (by simp_all [eq_comm]), h.hashes.ext k (by simp_all [eq_comm]), h.keys.ext k (by simp_all [eq_comm]), h.secrets.ext k (by simp_all [eq_comm]), h.publics.ext k (by simp_all [eq_comm]), h.signs.ext k (by simp_all [eq_comm]), h.signed.ext k (by simp_all [eq_comm]), ⟨lv, hl, hv⟩, h.wrapped.ext k (by simp_all [eq_comm]), h.xm, fun b hb => Nat.lt_of_lt_of_le (h.xlt b hb) k.size⟩
theorem Orc.set_p (h : Orc w g S) (k : Ext (fun b => b = g.p) w w') {d : List Int} {x : Int} (hl : OrcP w' g d x) : Orc w' g { S with draws := d, next := x } := by
  have hn := nd_ne h
  have hs := one_sub (g := g) (b := g.p) (by simp [OG.list])
  obtain ⟨lv, h1, h2⟩ := h.sealed
  exact ⟨h.nd, hl, h.used.ext k (by simp_all [eq_comm]), h.hashes.ext k (by simp_all [eq_comm]), h.keys.ext k (by simp_all [eq_comm]), h.secrets.ext k (by simp_all [eq_comm]), h.publics.ext k (by simp_all [eq_comm]), h.signs.ext k (by simp_all [eq_comm]), h.signed.ext k (by simp_all [eq_comm]), ⟨lv, h1.ext k (by simp_all [eq_comm]), h2.ext k hs⟩, h.wrapped.ext k (by simp_all [eq_comm]), h.xm, fun b hb => Nat.lt_of_lt_of_le (h.xlt b hb) k.size⟩
end

theorem mlook_bset {l : List Int} {h : Int} : mlook (bset l) h = if h ∈ l then some (.bool true) else none := by
  induction l with
  | nil => rfl
  | cons a r ih =>
    simp only [bset, List.map_cons, mlook] at ih ⊢
    by_cases ha : a = h
    · simp [ha]
    · simp only [ha, if_false, List.mem_cons, Ne.symm ha, false_or]; exact ih
theorem mput_bset {l : List Int} {h : Int} (hn : h ∉ l) : mput (bset l) h (.bool true) = bset (l ++ [h]) := by
  induction l with
  | nil => rfl
  | cons a r ih =>
    simp only [List.mem_cons, not_or] at hn
    simp only [bset, List.map_cons, List.cons_append, mput, Ne.symm hn.1, if_false] at ih ⊢
    rw [ih hn.2]
theorem mput_bset_in {l : List Int} {h : Int} (hn : h ∈ l) : mput (bset l) h (.bool true) = bset l := by
  induction l with
  | nil => cases hn
  | cons a r ih =>
    simp only [bset, List.map_cons, mput] at ih ⊢
    by_cases ha : a = h
    · simp [ha]
    · simp only [ha, if_false]
      rw [ih (by rcases List.mem_cons.1 hn with h | h; exact absurd h.symm ha; exact h)]

/-! ### lists of pairs -/
section
variable {κ β : Type} [DecidableEq κ]
def alook : List (κ × β) → κ → Option β
  | [], _ => none
  | p :: r, x => if p.1 = x then some p.2 else alook r x
def aput : List (κ × β) → κ → β → List (κ × β)
  | [], x, v => [(x, v)]
  | p :: r, x, v => if p.1 = x then (x, v) :: r else p :: aput r x v
theorem mlook_map (f : β → Value) : ∀ (l : List (κ × β)) (x : κ), mlook (l.map fun p => (p.1, f p.2)) x = (alook l x).map f
  | [], x => rfl
  | p :: r, x => by
    simp only [List.map_cons, mlook, alook]
    by_cases h : p.1 = x
    · simp [h]
    · simp only [h, if_false]; exact mlook_map f r x
theorem mput_map (f : β → Value) : ∀ (l : List (κ × β)) (x : κ) (v : β), mput (l.map fun p => (p.1, f p.2)) x (f v) = (aput l x v).map fun p => (p.1, f p.2)
  | [], x, v => rfl
  | p :: r, x, v => by
    simp only [List.map_cons, mput, aput]
    by_cases h : p.1 = x
    · simp [h]
    · simp only [h, if_false, List.map_cons]; rw [mput_map f r x v]
theorem alook_put : ∀ (l : List (κ × β)) (x y : κ) (v : β), alook (aput l x v) y = if x = y then some v else alook l y
  | [], x, y, v => rfl
  | p :: r, x, y, v => by
    simp only [aput]
    by_cases h : p.1 = x
    · subst h; simp only [if_true, alook]; split <;> rfl
    · simp only [h, if_false, alook, alook_put r x y v]
      by_cases h2 : p.1 = y
      · subst h2; simp [Ne.symm h]
      · simp [h2]
end

/-! ### a fresh handle -/
def pickD : List Int → List Int → Option (Int × List Int)
  | [], _ => none
  | h :: r, used => if h = 0 ∨ h ∈ used then pickD r used else some (h, r)
def pickN (used : List Int) : Nat → Int → Int
  | 0, n => n
  | k + 1, n => if n = 0 ∨ n ∈ used then pickN used k (n + 1) else n
def freshOf (S : OS) : Int × OS :=
  match pickD S.draws S.used with
  | some (h, r) => (h, { S with draws := r, used := S.used ++ [h] })
  | none => let h := pickN S.used (S.used.length + 1) S.next; (h, { S with draws := [], next := h, used := S.used ++ [h] })
def OS.ok (S : OS) : Prop := 1 ≤ S.next ∧ (∀ n, 1 ≤ n → n < S.next → n ∈ S.used) ∧ S.next ≤ S.used.length + 1 ∧ ∀ d ∈ S.draws, 0 ≤ d ∧ d < 18446744073709551616

theorem pickN_spec (used : List Int) : ∀ (k : Nat) (n : Int), 1 ≤ n → (∃ m, n ≤ m ∧ m < n + k ∧ m ∉ used) →
    n ≤ pickN used k n ∧ pickN used k n < n + k ∧ pickN used k n ∉ used ∧ pickN used k n ≠ 0 ∧ ∀ m, n ≤ m → m < pickN used k n → m ∈ used
  | 0, n, h1, ⟨m, h2, h3, _⟩ => by omega
  | k + 1, n, h1, ⟨m, h2, h3, h4⟩ => by
    simp only [pickN]
    by_cases hn : n = 0 ∨ n ∈ used
    · rw [if_pos hn]
      have hn' : n ∈ used := hn.resolve_left (by omega)
      have hm : m ≠ n := fun e => h4 (e ▸ hn')
      obtain ⟨a, b, c, d, e⟩ := pickN_spec used k (n + 1) (by omega) ⟨m, by omega, by omega, h4⟩
      refine ⟨by omega, by omega, c, d, fun q hq1 hq2 => ?_⟩
      by_cases hqn : q = n
      · subst hqn; exact hn'
      · exact e q (by omega) hq2
    · rw [if_neg hn]
      rw [not_or] at hn
      exact ⟨by omega, by omega, hn.2, hn.1, fun q h1 h2 => by omega⟩

theorem gap (used : List Int) : ∀ (k : Nat) (n : Int), used.length < k → ∃ m, n ≤ m ∧ m < n + k ∧ m ∉ used := by
  induction used with
  | nil => intro k n hk; exact ⟨n, by omega, by simp at hk; omega, by simp⟩
  | cons a r ih =>
    intro k n hk
    simp only [List.length_cons] at hk
    -- numbers below and above a
    by_cases ha : n ≤ a ∧ a < n + k
    · by_cases hr : (r.length : Int) < a - n
      · obtain ⟨m, h1, h2, h3⟩ := ih (a - n).toNat n (by omega)
        exact ⟨m, h1, by omega, by simp only [List.mem_cons, not_or]; exact ⟨by omega, h3⟩⟩
      · -- count below and above together: move the numbers above a down by one
        obtain ⟨m, h1, h2, h3⟩ : ∃ m, n ≤ m ∧ m < n + (k - 1 : Nat) ∧ m ∉ r.map (fun x => if a < x then x - 1 else x) := by
          have hl : (r.map (fun x => if a < x then x - 1 else x)).length < k - 1 := by simp; omega
          have : ∀ (l : List Int) (k : Nat), l.length < k → ∃ m, n ≤ m ∧ m < n + k ∧ m ∉ l := by
            intro l
            induction hq : l.length generalizing l with
            | zero =>
              intro k hk
              have : l = [] := List.eq_nil_of_length_eq_zero hq
              subst this; exact ⟨n, by omega, by omega, by simp⟩
            | succ q ihq =>
              intro k hk
              by_cases hall : ∃ m, n ≤ m ∧ m < n + k ∧ m ∉ l
              · exact hall
              · exfalso
                -- the last number is in l: strike it
                have hlast : (n + k - 1) ∈ l := by
                  by_cases h : (n + k - 1) ∈ l
                  · exact h
                  · exact absurd ⟨n + k - 1, by omega, by omega, h⟩ hall
                have hlen : (l.erase (n + k - 1)).length = q := by rw [List.length_erase_of_mem hlast, hq]; rfl
                obtain ⟨m, h1, h2, h3⟩ := ihq (l.erase (n + k - 1)) hlen (k - 1) (by omega)
                refine hall ⟨m, h1, by omega, fun hm => h3 ?_⟩
                exact (List.mem_erase_of_ne (by omega)).2 hm
          exact this _ _ hl
        by_cases hma : m < a
        · refine ⟨m, h1, by omega, ?_⟩
          simp only [List.mem_cons, not_or]
          refine ⟨by omega, fun hm => h3 ?_⟩
          exact List.mem_map.2 ⟨m, hm, by rw [if_neg (by omega)]⟩
        · refine ⟨m + 1, by omega, by omega, ?_⟩
          simp only [List.mem_cons, not_or]
          refine ⟨by omega, fun hm => h3 ?_⟩
          exact List.mem_map.2 ⟨m + 1, hm, by rw [if_pos (by omega)]; omega⟩
    · obtain ⟨m, h1, h2, h3⟩ := ih k n (by omega)
      exact ⟨m, h1, h2, by simp only [List.mem_cons, not_or]; exact ⟨by omega, h3⟩⟩

theorem pickD_spec {d used : List Int} {h : Int} {r : List Int} (hp : pickD d used = some (h, r)) : h ≠ 0 ∧ h ∉ used ∧ h ∈ d := by
  induction d with
  | nil => simp [pickD] at hp
  | cons a d ih =>
    simp only [pickD] at hp
    by_cases ha : a = 0 ∨ a ∈ used
    · rw [if_pos ha] at hp
      obtain ⟨h1, h2, h3⟩ := ih hp
      exact ⟨h1, h2, List.mem_cons_of_mem _ h3⟩
    · rw [if_neg ha] at hp
      simp only [Option.some.injEq, Prod.mk.injEq] at hp
      rw [not_or] at ha
      exact ⟨hp.1 ▸ ha.1, hp.1 ▸ ha.2, hp.1 ▸ List.mem_cons_self⟩

theorem pickD_rest {d used : List Int} {h : Int} {r : List Int} (hp : pickD d used = some (h, r)) : ∀ x ∈ r, x ∈ d := by
  induction d with
  | nil => simp [pickD] at hp
  | cons a d ih =>
    simp only [pickD] at hp
    by_cases ha : a = 0 ∨ a ∈ used
    · rw [if_pos ha] at hp
      exact fun x hx => List.mem_cons_of_mem _ (ih hp x hx)
    · rw [if_neg ha] at hp
      simp only [Option.some.injEq, Prod.mk.injEq] at hp
      rw [← hp.2]
      exact fun x hx => List.mem_cons_of_mem _ hx
theorem freshOf_fit {S : OS} (h : S.ok) (hl : S.used.length < 1000000) : 0 < (freshOf S).1 ∧ (freshOf S).1 < 18446744073709551616 := by
  obtain ⟨h1, h2, h3, h4⟩ := h
  unfold freshOf
  cases hp : pickD S.draws S.used with
  | some q =>
    obtain ⟨x, r⟩ := q
    obtain ⟨a, b, c⟩ := pickD_spec hp
    have := h4 x c
    exact ⟨by show 0 < x; omega, this.2⟩
  | none =>
    obtain ⟨a, b, c, d, e⟩ := pickN_spec S.used (S.used.length + 1) S.next h1 (gap S.used _ _ (by omega))
    exact ⟨by show 0 < pickN _ _ _; omega, by show pickN _ _ _ < _; omega⟩
theorem freshOf_spec {S : OS} (h : S.ok) : (freshOf S).1 ≠ 0 ∧ (freshOf S).1 ∉ S.used ∧ (freshOf S).2.used = S.used ++ [(freshOf S).1] ∧ (freshOf S).2.ok := by
  obtain ⟨h1, h2, h3, h4⟩ := h
  unfold freshOf
  cases hp : pickD S.draws S.used with
  | some q =>
    obtain ⟨x, r⟩ := q
    obtain ⟨a, b, _⟩ := pickD_spec hp
    exact ⟨a, b, rfl, h1, fun n hn1 hn2 => List.mem_append_left _ (h2 n hn1 hn2), by simp; omega, fun d hd => h4 d (pickD_rest hp d hd)⟩
  | none =>
    obtain ⟨a, b, c, d, e⟩ := pickN_spec S.used (S.used.length + 1) S.next h1 (gap S.used _ _ (by omega))
    refine ⟨d, c, rfl, by show 1 ≤ pickN _ _ _; omega, fun n hn1 hn2 => ?_, ?_, fun d hd => by cases hd⟩
    · refine List.mem_append_left _ ?_
      by_cases hlt : n < S.next
      · exact h2 n hn1 hlt
      · exact e n (by omega) hn2
    · -- all numbers from 1 on below it are used, and they are apart
      show pickN S.used (S.used.length + 1) S.next ≤ ((S.used ++ [_]).length : Int) + 1
      have hall : ∀ m, 1 ≤ m → m < pickN S.used (S.used.length + 1) S.next → m ∈ S.used := fun m h1' h2' => by
        by_cases hlt : m < S.next
        · exact h2 m h1' hlt
        · exact e m (by omega) h2'
      by_cases hle : pickN S.used (S.used.length + 1) S.next ≤ (S.used.length : Int) + 2
      · simp; omega
      · obtain ⟨m, q1, q2, q3⟩ := gap S.used (S.used.length + 1) 1 (by omega)
        exact absurd (hall m q1 (by omega)) q3

theorem freshOf_frame (S : OS) : (freshOf S).2.hashes = S.hashes ∧ (freshOf S).2.keys = S.keys ∧ (freshOf S).2.secrets = S.secrets ∧ (freshOf S).2.publics = S.publics ∧
    (freshOf S).2.signs = S.signs ∧ (freshOf S).2.signed = S.signed ∧ (freshOf S).2.sealed = S.sealed ∧ (freshOf S).2.wrapped = S.wrapped := by
  unfold freshOf
  cases pickD S.draws S.used with
  | some q => exact ⟨rfl, rfl, rfl, rfl, rfl, rfl, rfl, rfl⟩
  | none => exact ⟨rfl, rfl, rfl, rfl, rfl, rfl, rfl, rfl⟩

def OS.init (l : List Int) : OS := ⟨l, [], 1, [], [], [], [], [], [], [], []⟩
theorem OS.init_ok (l : List Int) (hl : ∀ d ∈ l, 0 ≤ d ∧ d < 18446744073709551616) : (OS.init l).ok := ⟨Int.le_refl _, fun n h1 h2 => by simp only [OS.init] at h2; omega, by simp [OS.init], hl⟩
def badd (l : List Int) (x : Int) : List Int := if x ∈ l then l else l ++ [x]
theorem mput_badd (l : List Int) (x : Int) : mput (bset l) x (.bool true) = bset (badd l x) := by
  unfold badd
  split
  · exact mput_bset_in ‹_›
  · exact mput_bset ‹_›
def keyOf (S : OS) : Int × OS := ((freshOf S).1, { (freshOf S).2 with keys := badd S.keys (freshOf S).1 })
theorem keyOf_ok {S : OS} (h : S.ok) : (keyOf S).2.ok ∧ (keyOf S).2.used.length ≤ S.used.length + 1 := by
  obtain ⟨_, _, h3, h4⟩ := freshOf_spec h
  exact ⟨h4, by show (freshOf S).2.used.length ≤ _; rw [h3]; simp⟩

def pairOf (S : OS) : (Int × Int) × OS :=
  let S1 := { (freshOf S).2 with secrets := badd S.secrets (freshOf S).1 }
  (((freshOf S).1, (freshOf S1).1), { (freshOf S1).2 with publics := aput S.publics (freshOf S1).1 (freshOf S).1 })
theorem pairOf_ok {S : OS} (h : S.ok) : (pairOf S).2.ok ∧ (pairOf S).2.used.length ≤ S.used.length + 2 := by
  obtain ⟨_, _, h3, h4⟩ := freshOf_spec h
  have h5 : OS.ok { (freshOf S).2 with secrets := badd S.secrets (freshOf S).1 } := h4
  obtain ⟨_, _, h6, h7⟩ := freshOf_spec h5
  exact ⟨h7, by show (freshOf _).2.used.length ≤ _; rw [h6]; show ((freshOf S).2.used ++ _).length ≤ _; rw [h3]; simp⟩
theorem pairOf_spec {S : OS} (h : S.ok) : (pairOf S).1.1 ≠ 0 ∧ (pairOf S).1.2 ≠ 0 ∧ (pairOf S).1.1 ∉ S.used ∧ (pairOf S).1.2 ∉ S.used ∧ (pairOf S).1.1 ≠ (pairOf S).1.2 ∧ (pairOf S).2.used = S.used ++ [(pairOf S).1.1] ++ [(pairOf S).1.2] ∧
    (pairOf S).2.secrets = badd S.secrets (pairOf S).1.1 ∧ (pairOf S).2.publics = aput S.publics (pairOf S).1.2 (pairOf S).1.1 ∧
    (pairOf S).2.hashes = S.hashes ∧ (pairOf S).2.keys = S.keys ∧ (pairOf S).2.signs = S.signs ∧ (pairOf S).2.signed = S.signed ∧ (pairOf S).2.sealed = S.sealed ∧ (pairOf S).2.wrapped = S.wrapped := by
  obtain ⟨a1, a2, a3, a4⟩ := freshOf_spec h
  have h5 : OS.ok { (freshOf S).2 with secrets := badd S.secrets (freshOf S).1 } := a4
  obtain ⟨b1, b2, b3, b4⟩ := freshOf_spec h5
  obtain ⟨c1, c2, c3, c4, c5, c6, c7, c8⟩ := freshOf_frame S
  obtain ⟨d1, d2, d3, d4, d5, d6, d7, d8⟩ := freshOf_frame { (freshOf S).2 with secrets := badd S.secrets (freshOf S).1 }
  have hu : ({ (freshOf S).2 with secrets := badd S.secrets (freshOf S).1 } : OS).used = S.used ++ [(freshOf S).1] := a3
  rw [hu] at b2 b3
  simp only [List.mem_append, List.mem_singleton, not_or] at b2
  exact ⟨a1, b1, a2, b2.1, fun e => b2.2 e.symm, b3, d3, rfl, d1.trans c1, d2.trans c2, d5.trans c5, d6.trans c6, d7.trans c7, d8.trans c8⟩

theorem SealedL.look {w : World} {m : Nat → Prop} : ∀ {l : List (Int × Sealed)} {lv : List (Int × Value)}, SealedL w m l lv → ∀ x, (alook l x = none ∧ mlook lv x = none) ∨ ∃ s v, alook l x = some s ∧ mlook lv x = some v ∧ SealedV w m s v
  | [], [], _, x => .inl ⟨rfl, rfl⟩
  | p :: r, q :: s, h, x => by
    obtain ⟨h1, h2, h3⟩ := h
    simp only [alook, mlook, ← h1]
    by_cases hp : p.1 = x
    · rw [if_pos hp, if_pos hp]; exact .inr ⟨_, _, rfl, rfl, h2⟩
    · rw [if_neg hp, if_neg hp]; exact SealedL.look h3 x
  | [], _ :: _, h, _ => h.elim
  | _ :: _, [], h, _ => h.elim
theorem SealedL.put {w : World} {m : Nat → Prop} {x : Int} {t : Sealed} {v : Value} (hv : SealedV w m t v) : ∀ {l : List (Int × Sealed)} {lv : List (Int × Value)}, SealedL w m l lv → SealedL w m (aput l x t) (mput lv x v)
  | [], [], _ => ⟨rfl, hv, trivial⟩
  | p :: r, q :: s, h => by
    obtain ⟨h1, h2, h3⟩ := h
    simp only [aput, mput, ← h1]
    by_cases hp : p.1 = x
    · rw [if_pos hp, if_pos hp]; exact ⟨rfl, hv, h3⟩
    · rw [if_neg hp, if_neg hp]; exact ⟨h1, h2, SealedL.put hv h3⟩
  | [], _ :: _, h => h.elim
  | _ :: _, [], h => h.elim
theorem Orc.ltM {w : World} {g : OG} {S : OS} (h : Orc w g S) : ∀ b, g.M b → b < w.heap.size := fun b hb => hb.elim (h.mlt b) (h.xlt b)
end Go.Proofs.Ytaifegpikhjiiaa

/- What the oracle's methods do. -/
set_option linter.unusedVariables false
set_option linter.unusedSimpArgs false
namespace Go.Proofs.Ytaifegpikhjiiaa
open Go Go.Mx Go.Proofs

theorem keysU : Keys Try.prog 27 u64V := keys_int Try.underlying27
def Gives (v : Value) (Q : World → Prop) (e : Ending) (w' : World) : Prop := e = .returned v ∧ Q w'

section
variable {w w' : World} {g : OG} {S : OS}
theorem Orc.pCell (h : Orc w g S) {i : Nat} {v : Value} (hv : ∀ da dc, ([.slice da S.draws.length dc, .map (some g.used), .int .u64 S.next, .map (some g.hashes), .map (some g.keys), .map (some g.secrets), .map (some g.publics), .map (some g.signs), .map (some g.signed), .map (some g.sealed), .map (some g.wrapped)] : List Value)[i]? = some v) :
    w.cell? ((blk g.p).add i) = some v := by
  obtain ⟨da, dc, hb, _⟩ := h.st
  exact hb.cella (hv da dc)

theorem m_used : g.m g.used := by simp [OG.m, OG.list]
theorem m_p : g.m g.p := by simp [OG.m, OG.list]
theorem m_keys : g.m g.keys := by simp [OG.m, OG.list]
theorem m_secrets : g.m g.secrets := by simp [OG.m, OG.list]
theorem m_publics : g.m g.publics := by simp [OG.m, OG.list]

theorem take_no (h : Orc w g S) {x : Int} (hx : x = 0 ∨ x ∈ S.used) :
    Calls Try.prog 76 #[.pointer (some (blk g.p)), .int .u64 x] w (Gives (.bool false) fun w' => w' = w) := by
  refine (oTake.ok _ _ (R := fun v w' => v = .bool false ∧ w' = w) ?_).mono fun e w' ⟨v, he, hv, hw⟩ => ⟨by rw [he, hv], hw⟩
  unfold oTake.M
  by_cases h0 : x = 0
  · subst h0; exact ⟨rfl, rfl⟩
  · have hx' : x ∈ S.used := hx.resolve_left h0
    have : (x == 0) = false := by simpa using h0
    rw [this]
    obtain ⟨i, hi, hz, _⟩ := info_of inf4
    have hl := h.used.lookup keysU Try.underlying109 hi hz x false
    rw [mlook_bset, if_pos hx'] at hl
    exact ⟨some g.used, h.pCell fun _ _ => rfl, true, hl, rfl, rfl⟩
theorem take_yes (h : Orc w g S) {x : Int} (h0 : x ≠ 0) (hx : x ∉ S.used) :
    Calls Try.prog 76 #[.pointer (some (blk g.p)), .int .u64 x] w (Gives (.bool true) fun w' => Orc w' g { S with used := S.used ++ [x] } ∧ Ext g.m w w') := by
  refine (oTake.ok _ _ (R := fun v w' => v = .bool true ∧ Orc w' g { S with used := S.used ++ [x] } ∧ Ext g.m w w') ?_).mono fun e w' ⟨v, he, hv, hw⟩ => ⟨by rw [he, hv], hw⟩
  unfold oTake.M
  have : (x == 0) = false := by simpa using h0
  rw [this]
  obtain ⟨i, hi, hz, _⟩ := info_of inf4
  have hl := h.used.lookup keysU Try.underlying109 hi hz x false
  rw [mlook_bset, if_neg hx] at hl
  obtain ⟨w1, hr, hm, hext⟩ := h.used.update keysU Try.underlying109 x (.bool true)
  rw [mput_bset hx] at hm
  exact ⟨some g.used, h.pCell fun _ _ => rfl, false, hl, some g.used, h.pCell fun _ _ => rfl, w1, hr, rfl, h.set_used (hext _ rfl) hm, hext _ m_used⟩

theorem fresh_spec (h : Orc w g S) (hok : S.ok) (hlen : S.used.length < 1000000) :
    Calls Try.prog 49 #[.pointer (some (blk g.p))] w (Gives (u64V (freshOf S).1) fun w' => Orc w' g (freshOf S).2 ∧ Ext g.m w w') := by
  refine (oFresh.ok _ (R := fun v w' => v = u64V (freshOf S).1 ∧ Orc w' g (freshOf S).2 ∧ Ext g.m w w') ?_).mono fun e w' ⟨v, he, hv, hw⟩ => ⟨by rw [he, hv], hw⟩
  unfold oFresh.M
  refine ⟨fun k vs w1 => ∃ d, k = d.length ∧ Orc w1 g { S with draws := d } ∧ pickD d S.used = pickD S.draws S.used ∧ Ext g.m w w1, S.draws.length, ⟨S.draws, rfl, h, rfl, Ext.refl _ _⟩, ?_⟩
  rintro k w1 ⟨d, rfl, h1, hp, hx⟩
  obtain ⟨da, dc, hb, hle, hrow, hout⟩ := h1.st
  refine ⟨da, d.length, dc, hb.cella rfl, ?_⟩
  cases d with
  | nil =>
    -- the counter
    simp only [List.length_nil, Int.natCast_zero, gt_iff_lt, Int.lt_irrefl, decide_false, cond_false]
    have hf : freshOf S = (pickN S.used (S.used.length + 1) S.next, { S with draws := [], next := pickN S.used (S.used.length + 1) S.next, used := S.used ++ [pickN S.used (S.used.length + 1) S.next] }) := by
      simp [freshOf, ← hp, pickD]
    obtain ⟨q1, q2, q3, q4⟩ := hok
    obtain ⟨a1, a2, a3, a4, a5⟩ := pickN_spec S.used (S.used.length + 1) S.next q1 (gap S.used _ _ (by omega))
    rw [hf]
    generalize hN : pickN S.used (S.used.length + 1) S.next = N at *
    refine ⟨fun k vs w1 => ∃ n, S.next ≤ n ∧ n ≤ N ∧ k = (N - n).toNat ∧ Orc w1 g { S with draws := [], next := n } ∧ Ext g.m w w1, (N - S.next).toNat, ⟨S.next, Int.le_refl _, a1, rfl, h1, hx⟩, ?_⟩
    rintro k w2 ⟨n, hn1, hn2, rfl, h2, hx2⟩
    refine ⟨n, h2.pCell fun _ _ => rfl, ?_⟩
    by_cases hn : n = N
    · subst hn
      refine (take_yes h2 a4 a3).mono fun e w3 ⟨he, h3, hx3⟩ => ⟨true, he, ?_⟩
      exact ⟨n, h3.pCell fun _ _ => rfl, rfl, h3, hx2.trans hx3⟩
    · refine (take_no h2 (.inr (a5 n hn1 (by omega)))).mono fun e w3 ⟨he, hw3⟩ => ⟨false, he, ?_⟩
      subst hw3
      obtain ⟨da2, dc2, hb2, hle2, hrow2, hout2⟩ := h2.st
      have hwr : IntKind.u64.wrap (n + 1) = n + 1 := by
        simp only [IntKind.wrap, IntKind.bits, IntKind.signed]
        simp
        omega
      refine ⟨n, h2.pCell fun _ _ => rfl, hb2.cana (i := 2) rfl, thenW_in fun w4 hw4 => ?_⟩
      rw [hwr] at hw4
      have hext : Ext (fun b => b = g.p) w3 w4 := by
        subst hw4; exact (Ext.refl _ _).setCell (.inl (by rw [add_zero, add_blk])) _
      have hb4 := hb2.seta 2 (.int .u64 (n + 1))
      refine ⟨(N - (n + 1)).toNat, by omega, n + 1, by omega, by omega, rfl, ?_, hx2.trans (hext.mono fun b hb _ => by subst hb; exact m_p)⟩
      refine h2.set_p hext ⟨da2, dc2, ?_, hle2, RowAt.nil _ _, hout2⟩
      subst hw4
      exact hb4
  | cons x r =>
    have hpos : decide (((x :: r).length : Int) > 0) = true := by simp
    rw [hpos]
    have hcell : w1.cell? (((blk g.p).add 0)) = some (.slice da (x :: r).length dc) := hb.cella rfl
    obtain ⟨ad, rfl⟩ := hrow.addr (by simp)
    have hx0 : w1.cell? (ad.add (Int.toNat 0 * 1)) = some (.int .u64 x) := hrow.at_ (i := 0) rfl
    refine ⟨_, _, dc, hcell, Int.le_refl _, by show (0 : Int) < ((x :: r).length : Int); rw [List.length_cons]; omega, x, hx0, _, _, dc, hcell, by omega, by show (1 : Int) ≤ ((x :: r).length : Int); rw [List.length_cons]; omega, hb.cana (i := 0) rfl, thenW_in fun w2 hw2 => ?_⟩
    have hext : Ext (fun b => b = g.p) w1 w2 := by
      subst hw2; exact (Ext.refl _ _).setCell (.inl (by rw [add_zero, add_blk])) _
    have hb2 := hb.seta 0 (.slice (if dc = Int.toNat 1 then some ad else Option.map (fun z : Addr => z.add ((Int.toNat 1) * 1)) (some ad)) ((x :: r).length - (Int.toNat 1)) (dc - (Int.toNat 1)))
    have hxm : Ext g.m w w2 := hx.trans (hext.mono fun b hb _ => by subst hb; exact m_p)
    have hrow2 : RowAt w1 (if dc = 1 then some ad else Option.map (·.add 1) (some ad)) (r.map u64V) := by
      have := hrow.drop 1 dc (fun e => by simp only [List.length_cons, List.length_map] at hle ⊢; omega)
      simpa using this
    have hout2 : r.map u64V ≠ [] → Out g.M (if dc = 1 then some ad else Option.map (·.add 1) (some ad)) := fun _ q hq => by
      split at hq
      · exact hout (by simp) q hq
      · simp only [Option.map_some, Option.some.injEq] at hq
        subst hq; rw [block_add]; exact hout (by simp) ad rfl
    have h2 : Orc w2 g { S with draws := r } := by
      refine h1.set_p (x := S.next) hext ⟨_, dc - 1, ?_, by simp at hle ⊢; omega, hrow2.ext' hext (fun h0 q hq hb => hout2 h0 q hq (.inl (by rw [hb]; exact m_p))), hout2⟩
      subst hw2
      exact hb2
    by_cases hxu : x = 0 ∨ x ∈ S.used
    · refine (take_no h2 hxu).mono fun e w3 ⟨he, hw3⟩ => ⟨false, he, ?_⟩
      subst hw3
      exact ⟨r.length, by simp, r, rfl, h2, by rw [← hp]; simp [pickD, hxu], hxm⟩
    · rw [not_or] at hxu
      refine (take_yes h2 hxu.1 hxu.2).mono fun e w3 ⟨he, h3, hx3⟩ => ⟨true, he, ?_⟩
      have hf : freshOf S = (x, { S with draws := r, used := S.used ++ [x] }) := by
        simp [freshOf, ← hp, pickD, hxu]
      rw [hf]
      exact ⟨rfl, h3, hxm.trans hx3⟩

theorem u64_one (l : List Int) : ∀ u ∈ l.map u64V, u.oneCell' = true := fun u hu => by
  obtain ⟨b, _, rfl⟩ := List.mem_map.1 hu; rfl
theorem clone64_spec {a : Option Addr} {c : Nat} {l : List Int} (h : RowAt w a (l.map u64V)) (hl : l.length ≤ 1000000) :
    Calls Try.prog 48 #[.slice a l.length c] w (fun e w' => ∃ a' c', e = .returned (.slice a' l.length c') ∧ l.length ≤ c' ∧ RowAt w' a' (l.map u64V) ∧ Ext no w w' ∧ Fresh w w' a') := by
  refine (clone64.ok a l.length c (R := fun v w' => ∃ a' c', v = (.slice a' l.length c') ∧ l.length ≤ c' ∧ RowAt w' a' (l.map u64V) ∧ Ext no w w' ∧ Fresh w w' a') ?_).mono fun e w' ⟨v, he, a', c', hv, hw⟩ => ⟨a', c', by rw [he, hv], hw⟩
  unfold clone64.M
  cases a with
  | none =>
    have : l = [] := by simpa using h.none_nil
    subst this
    exact ⟨none, 0, rfl, Nat.le_refl _, RowAt.nil _ _, Ext.refl _ _, fun ad ha => by cases ha⟩
  | some ad =>
    rw [Option.isNone_some, cond_false]
    refine thenW_in fun w2 hw2 => ?_
    subst hw2
    obtain ⟨i, hi, hz, hs, hb⟩ := info_of inf27
    obtain ⟨a', c', w', hr, h1, h2, h3, h4⟩ := clone_run (c := c) (m := l.length) (ty := 22) Try.underlying22 hi hz hs hb rfl (by simp) h (u64_one l) (by omega) (by omega)
    exact ⟨a', l.length, c', w', hr, a', c', rfl, h1, h2, h3, h4⟩
theorem cloneB_spec {a : Option Addr} {c : Nat} {l : List UInt8} (h : RowAt w a (bytesV l)) (hl : l.length ≤ 1000000) :
    Calls Try.prog 40 #[.slice a l.length c] w (fun e w' => ∃ a' c', e = .returned (.slice a' l.length c') ∧ l.length ≤ c' ∧ RowAt w' a' (bytesV l) ∧ Ext no w w' ∧ Fresh w w' a') := by
  refine (cloneB.ok a l.length c (R := fun v w' => ∃ a' c', v = (.slice a' l.length c') ∧ l.length ≤ c' ∧ RowAt w' a' (bytesV l) ∧ Ext no w w' ∧ Fresh w w' a') ?_).mono fun e w' ⟨v, he, a', c', hv, hw⟩ => ⟨a', c', by rw [he, hv], hw⟩
  unfold cloneB.M
  cases a with
  | none =>
    have : l = [] := by simpa [bytesV] using h.none_nil
    subst this
    exact ⟨none, 0, rfl, Nat.le_refl _, RowAt.nil _ _, Ext.refl _ _, fun ad ha => by cases ha⟩
  | some ad =>
    rw [Option.isNone_some, cond_false]
    refine thenW_in fun w2 hw2 => ?_
    subst hw2
    obtain ⟨i, hi, hz, hs, hb⟩ := info_of inf5
    obtain ⟨a', c', w', hr, h1, h2, h3, h4⟩ := clone_run (c := c) (m := l.length) (ty := 29) Try.underlying29 hi hz hs hb rfl (bytesV_length l) h (bytesV_one l) (by omega) (by omega)
    exact ⟨a', l.length, c', w', hr, a', c', rfl, h1, h2, h3, h4⟩

theorem new_map {κ : Type} [DecidableEq κ] (enc : κ → Value) {w1 w2 : World} (h : w2 = w1.alloc (.map #[] 0)) : MapIs w2 w1.heap.size enc [] ∧ Ext no w1 w2 ∧ w2.heap.size = w1.heap.size + 1 := by
  subst h; exact ⟨MapIs.new _ _, (Ext.refl _ _).alloc _, by simp⟩
theorem New_specX (x0 : Nat → Prop) (hx0 : ∀ b, x0 b → b < w.heap.size) {a : Option Addr} {c : Nat} {l : List Int} (h : RowAt w a (l.map u64V)) (hl : l.length ≤ 1000000) :
    Calls Try.prog 17 #[.slice a l.length c] w (fun e w' => ∃ g : OG, e = .returned (.pointer (some (blk g.p))) ∧ Orc w' g (OS.init l) ∧ Ext no w w' ∧ (∀ b, g.m b → w.heap.size ≤ b ∧ b < w'.heap.size) ∧ g.x = x0) := by
  refine (oNew.ok a l.length c (R := fun v w' => ∃ g : OG, v = (.pointer (some (blk g.p))) ∧ Orc w' g (OS.init l) ∧ Ext no w w' ∧ (∀ b, g.m b → w.heap.size ≤ b ∧ b < w'.heap.size) ∧ g.x = x0) ?_).mono fun e w' ⟨v, he, g, hv, hw⟩ => ⟨g, by rw [he, hv], hw⟩
  unfold oNew.M
  refine (clone64_spec h hl).mono fun e w4 ⟨a', c', he, hle, hrow, hx, hf⟩ => ⟨a', l.length, c', he, ?_⟩
  refine thenW_in fun w5 h5 => thenW_in fun w6 h6 => thenW_in fun w7 h7 => thenW_in fun w8 h8 => thenW_in fun w9 h9 => thenW_in fun w10 h10 => thenW_in fun w11 h11 => thenW_in fun w12 h12 => thenW_in fun w13 h13 => thenW_in fun w14 h14 => ?_
  obtain ⟨m5, e5, s5⟩ := new_map u64V h5
  obtain ⟨m6, e6, s6⟩ := new_map strV h6
  obtain ⟨m7, e7, s7⟩ := new_map u64V h7
  obtain ⟨m8, e8, s8⟩ := new_map u64V h8
  obtain ⟨m9, e9, s9⟩ := new_map u64V h9
  obtain ⟨m10, e10, s10⟩ := new_map signedV h10
  obtain ⟨m11, e11, s11⟩ := new_map u64V h11
  obtain ⟨m12, e12, s12⟩ := new_map u64V h12
  obtain ⟨m13, e13, s13⟩ := new_map u64V h13
  have e14 : Ext no w13 w14 := by rw [h14]; exact (Ext.refl _ _).alloc _
  have s14 : w14.heap.size = w13.heap.size + 1 := by rw [h14]; simp
  have x13 := e14
  have x12 := e13.trans x13
  have x11 := e12.trans x12
  have x10 := e11.trans x11
  have x9 := e10.trans x10
  have x8 := e9.trans x9
  have x7 := e8.trans x8
  have x6 := e7.trans x7
  have x5 := e6.trans x6
  have x4 := e5.trans x5
  have hsz := hx.size
  have hm : ∀ b, (OG.mk w13.heap.size w4.heap.size w5.heap.size w6.heap.size w7.heap.size w8.heap.size w9.heap.size w10.heap.size w11.heap.size w12.heap.size x0).m b → w4.heap.size ≤ b ∧ b < w14.heap.size := fun b hb => by
    simp only [OG.m, OG.list, List.mem_cons, List.not_mem_nil, or_false] at hb
    omega
  refine ⟨⟨w13.heap.size, w4.heap.size, w5.heap.size, w6.heap.size, w7.heap.size, w8.heap.size, w9.heap.size, w10.heap.size, w11.heap.size, w12.heap.size, x0⟩, rfl, ⟨?_, ?_, m5.ext x5 id, m6.ext x6 id, m7.ext x7 id, m8.ext x8 id, m9.ext x9 id, m10.ext x10 id, m11.ext x11 id, ⟨[], m12.ext x12 id, trivial⟩, m13.ext x13 id, fun b hb hxx => ?_, fun b hb => ?_⟩, hx.trans x4, fun b hb => ⟨?_, (hm b hb).2⟩, rfl⟩
  · simp only [OG.list, List.nodup_cons, List.mem_cons, not_or, List.not_mem_nil, not_false_eq_true, List.nodup_nil, and_true]
    omega
  · refine ⟨a', c', ?_, hle, hrow.ext x4 (fun _ _ h => h), fun _ => hf.out fun b hb => hb.elim (fun hb => .inr (hm b hb).1) (fun hb => .inl (hx0 b hb))⟩
    rw [h14]
    exact Blk.new _ _ _
  · have h1 := (hm b hb).1
    have h2 := hx0 b hxx
    omega
  · exact Nat.lt_of_lt_of_le (hx0 b hb) (hx.trans x4).size
  · exact Nat.le_trans hsz (hm b hb).1

theorem Key_spec (h : Orc w g S) (hok : S.ok) (hlen : S.used.length < 1000000) :
    Calls Try.prog 28 #[.pointer (some (blk g.p))] w (Gives (u64V (keyOf S).1) fun w' => Orc w' g (keyOf S).2 ∧ Ext g.m w w') := by
  refine (oKey.ok _ (R := fun v w' => v = u64V (keyOf S).1 ∧ Orc w' g (keyOf S).2 ∧ Ext g.m w w') ?_).mono fun e w' ⟨v, he, hv, hw⟩ => ⟨by rw [he, hv], hw⟩
  unfold oKey.M
  refine (fresh_spec h hok hlen).mono fun e w4 ⟨he, hO, hx⟩ => ⟨(freshOf S).1, he, ?_⟩
  obtain ⟨w7, hu, hm, hext⟩ := hO.keys.update keysU Try.underlying109 (freshOf S).1 (.bool true)
  rw [(freshOf_frame S).2.1, mput_badd] at hm
  exact ⟨some g.keys, hO.pCell fun _ _ => rfl, w7, hu, rfl, hO.set_keys (hext _ rfl) hm, hx.trans (hext _ m_keys)⟩

end
end Go.Proofs.Ytaifegpikhjiiaa

/- What the oracle's pairs and signatures do. -/
set_option linter.unusedVariables false
set_option linter.unusedSimpArgs false
namespace Go.Proofs.Ytaifegpikhjiiaa
open Go Go.Mx Go.Proofs
section
variable {w w' : World} {g : OG} {S : OS}
theorem m_sealed : g.m g.sealed := by simp [OG.m, OG.list]
theorem m_wrapped : g.m g.wrapped := by simp [OG.m, OG.list]

theorem Pair_spec (h : Orc w g S) (hok : S.ok) (hlen : S.used.length + 1 < 1000000) :
    Calls Try.prog 18 #[.pointer (some (blk g.p))] w (Gives (.tuple #[u64V (pairOf S).1.1, u64V (pairOf S).1.2]) fun w' => Orc w' g (pairOf S).2 ∧ Ext g.m w w') := by
  refine (oPair.ok _ (R := fun v w' => v = .tuple #[u64V (pairOf S).1.1, u64V (pairOf S).1.2] ∧ Orc w' g (pairOf S).2 ∧ Ext g.m w w') ?_).mono fun e w' ⟨v, he, hv, hw⟩ => ⟨by rw [he, hv], hw⟩
  unfold oPair.M
  refine (fresh_spec h hok (by omega)).mono fun e w4 ⟨he, hO, hx⟩ => ⟨(freshOf S).1, he, ?_⟩
  obtain ⟨w7, hu, hm, hext⟩ := hO.secrets.update keysU Try.underlying109 (freshOf S).1 (.bool true)
  rw [(freshOf_frame S).2.2.1, mput_badd] at hm
  have hO7 := hO.set_secrets (hext _ rfl) hm
  obtain ⟨_, _, h3, h4⟩ := freshOf_spec hok
  refine ⟨some g.secrets, hO.pCell fun _ _ => rfl, w7, hu, ?_⟩
  refine (fresh_spec hO7 h4 (by show (freshOf S).2.used.length < _; rw [h3]; simp; omega)).mono fun e w10 ⟨he, hO10, hx10⟩ => ⟨_, he, ?_⟩
  obtain ⟨w13, hu13, hm13, hext13⟩ := hO10.publics.update keysU Try.underlying111 (pairOf S).1.2 (u64V (freshOf S).1)
  rw [mput_map, (freshOf_frame _).2.2.2.1] at hm13
  rw [show ({ (freshOf S).2 with secrets := badd S.secrets (freshOf S).1 } : OS).publics = S.publics from (freshOf_frame S).2.2.2.1] at hm13
  exact ⟨some g.publics, hO10.pCell fun _ _ => rfl, w13, hu13, rfl, hO10.set_publics (hext13 _ rfl) hm13, ((hx.trans (hext _ m_secrets)).trans hx10).trans (hext13 _ m_publics)⟩

theorem look_key (h : Orc w g S) (k : Int) : (Instr.lookup 109 (.map (some g.keys)) (.int .u64 k) false).run Try.prog w = .ok (.bool (decide (k ∈ S.keys))) w := by
  obtain ⟨i, hi, hz, _⟩ := info_of inf4
  have hl := h.keys.lookup keysU Try.underlying109 hi hz k false
  rw [mlook_bset] at hl
  refine hl.trans ?_
  by_cases hk : k ∈ S.keys
  · simp [hk]
  · simp [hk]
theorem look_public (h : Orc w g S) (k : Int) : (Instr.lookup 111 (.map (some g.publics)) (.int .u64 k) true).run Try.prog w = .ok (.tuple #[.int .u64 ((alook S.publics k).getD 0), .bool (alook S.publics k).isSome]) w := by
  obtain ⟨i, hi, hz, _⟩ := info_of inf27
  have hl := h.publics.lookup keysU Try.underlying111 hi hz k true
  rw [mlook_map] at hl
  refine hl.trans ?_
  cases alook S.publics k <;> rfl

end
end Go.Proofs.Ytaifegpikhjiiaa

/- The oracle, as an owner of blocks. -/
set_option linter.unusedVariables false
set_option linter.unusedSimpArgs false
set_option maxRecDepth 20000
namespace Go.Proofs.Ytaifegpikhjiiaa
open Go Go.Mx Go.Proofs
def POrc (w : World) (o : Own) (k : Nat) (S : OS) : Prop := ∃ g : OG, g.p = k ∧ Orc w g S ∧ (∀ b, g.m b → o b = some k) ∧ (∀ b, b < w.heap.size → ∀ j, o b = some j → j ≠ k → g.x b)
def Gs (K : Nat → Prop) (w : World) (o : Own) (v : Value) (Q : World → Own → Prop) (e : Ending) (w' : World) : Prop := ∃ o', e = .returned v ∧ Step K w o w' o' ∧ Q w' o'
section
variable {w w' : World} {o o' : Own} {k : Nat} {S : OS} {K : Nat → Prop}
theorem POrc.lt (h : POrc w o k S) : k < w.heap.size := by obtain ⟨g, rfl, h1, _⟩ := h; exact h1.mlt _ m_p
theorem POrc.step (h : POrc w o k S) (s : Step K w o w' o') (hk : ¬ K k) : POrc w' o' k S := by
  obtain ⟨g, h0, h1, h2, h3⟩ := h
  refine ⟨g.more w w', h0, h1.foreign s.ext fun b hb ⟨j, hj, hK⟩ => h3 b hb j hj fun e => hk (e ▸ hK), fun b hb => ?_, fun b hb j hj hne => ?_⟩
  · rw [s.same b (h1.mlt b hb)]; exact h2 b hb
  · by_cases hl : b < w.heap.size
    · rw [s.same b hl] at hj; exact .inl (h3 b hl j hj hne)
    · exact .inr ⟨by omega, hb⟩
theorem own_out {g : OG} {a : Option Addr} {cs : List Value} (h2 : ∀ b, g.m b → o b = some k) (hr : Row w o a cs) : cs ≠ [] → Out g.m a := fun h0 ad ha hm => by
  have := h2 _ hm
  rw [hr.2 h0 ad ha] at this; cases this
theorem POrc.turn {g : OG} {S' : OS} (h2 : ∀ b, g.m b → o b = some g.p) (h3 : ∀ b, b < w.heap.size → ∀ j, o b = some j → j ≠ g.p → g.x b) (hl : ∀ b, g.m b → b < w.heap.size) (ok : Tags w o) (h : Orc w' g S') (X : Ext g.m w w') :
    Step (fun j => j = g.p) w o w' (grow w o) ∧ POrc w' (grow w o) g.p S' := by
  refine ⟨Step.of_ext X ok fun b hb _ => h2 b hb, g, rfl, h, fun b hb => ?_, fun b hb j hj hne => ?_⟩
  · rw [grow_lt (hl b hb)]; exact h2 b hb
  · by_cases hlt : b < w.heap.size
    · rw [grow_lt hlt] at hj; exact h3 b hlt j hj hne
    · rw [grow_ge (by omega)] at hj; cases hj
open Classical in
theorem NewO (ok : Tags w o) {a : Option Addr} {c : Nat} {l : List Int} (h : RowAt w a (l.map u64V)) (hl : l.length ≤ 1000000) :
    Calls Try.prog 17 #[.slice a l.length c] w (fun e w' => ∃ k o', e = .returned (.pointer (some (blk k))) ∧ w.heap.size ≤ k ∧ Step no w o w' o' ∧ POrc w' o' k (OS.init l)) := by
  refine (New_specX (fun b => b < w.heap.size ∧ o b ≠ none) (fun b hb => hb.1) h hl).mono fun e w' ⟨g, he, hO, hx, hg, hgx⟩ => ?_
  have hp := hg _ m_p
  refine ⟨g.p, fun b => if b < w.heap.size then o b else if g.m b then some g.p else none, he, hp.1, ⟨hx.mono fun _ h _ => h.elim, fun b hb => if_pos hb, ok, fun b j hb hj => ?_⟩, g, rfl, hO, fun b hb => ?_, fun b hb j hj hne => ?_⟩
  · by_cases hlt : b < w.heap.size
    · simp only [if_pos hlt] at hj; exact Nat.lt_of_lt_of_le (ok b j hlt hj) hx.size
    · simp only [if_neg hlt] at hj
      split at hj
      · cases hj; exact hp.2
      · cases hj
  · have := (hg b hb).1
    simp only [if_neg (by omega : ¬ b < w.heap.size), if_pos hb]
  · by_cases hlt : b < w.heap.size
    · simp only [if_pos hlt] at hj
      rw [hgx]
      exact ⟨hlt, by rw [hj]; simp⟩
    · simp only [if_neg hlt] at hj
      split at hj
      · cases hj; exact absurd rfl hne
      · cases hj
theorem PairO (h : POrc w o k S) (ok : Tags w o) (hok : S.ok) (hlen : S.used.length + 1 < 1000000) :
    Calls Try.prog 18 #[.pointer (some (blk k))] w (Gs (fun j => j = k) w o (.tuple #[u64V (pairOf S).1.1, u64V (pairOf S).1.2]) fun w' o' => POrc w' o' k (pairOf S).2) := by
  obtain ⟨g, rfl, h1, h2, h3⟩ := h
  refine (Pair_spec h1 hok hlen).mono fun e w' ⟨he, hO, hx⟩ => ?_
  obtain ⟨s, p⟩ := POrc.turn h2 h3 h1.mlt ok hO hx
  exact ⟨_, he, s, p⟩
end
end Go.Proofs.Ytaifegpikhjiiaa

/- The reference's oracle: one list of all that was handed out. -/
set_option linter.unusedVariables false
set_option linter.unusedSimpArgs false
set_option maxRecDepth 20000
namespace Go.Proofs.Ytaifegpikhjiiaa
open Go Go.Mx Go.Proofs
def cachetteref03_Oracle_at.M (o1 : Option Addr) (h2 : Int) (R : Value → World → Prop) (w : World) : Prop :=
 ∃ (I0 : Nat → List Value → World → Prop) (m4 : Nat), I0 m4 [.int .i64 0] w ∧ ∀ (m5 : Nat) (a0 : World) (i3 : Int), I0 m5 [.int .i64 i3] a0 →
 o1.elim False fun a7 =>
 ∃ (aa : Option Addr) (a6 : Nat) (a8 : Nat), a0.cell? (a7.add 1) = some (.slice aa a6 a8) ∧
 bif decide (i3 < (a6 : Int)) then (
 o1.elim False fun a9 =>
 ∃ (a2 : Option Addr) (a1 : Nat) (a3 : Nat), a0.cell? (a9.add 1) = some (.slice a2 a1 a3) ∧
 a2.elim False fun ab =>
 0 ≤ (i3 : Int) ∧ (i3 : Int) < (a1 : Int) ∧
 ∃ (a5 : Int), a0.cell? ((ab.add (Int.toNat i3 * 6)).add 0) = some (.int .u64 a5) ∧
 bif a5 == h2 then (
 R (.int .i64 i3) a0) else (
 ∃ a4, a4 < m5 ∧ I0 a4 [.int .i64 (IntKind.i64.wrap (i3 + 1))] a0)) else (
 R (.int .i64 (-1)) a0)

theorem cachetteref03_Oracle_at.eq (o1 : Option Addr) (h2 : Int) (R : Value → World → Prop) (w : World) : mfunc Try.prog [(0, [0, 1], [(5, (.one (.int .i64)))])] 77 [.pointer o1, .int .u64 h2] R w = cachetteref03_Oracle_at.M o1 h2 R w := by kernel_rfl
theorem cachetteref03_Oracle_at.ok (o1 : Option Addr) (h2 : Int) {R : Value → World → Prop} {w : World} (h : cachetteref03_Oracle_at.M o1 h2 R w) : Calls Try.prog 77 #[.pointer o1, .int .u64 h2] w fun e w' => ∃ v, e = .returned v ∧ R v w' :=
  mfunc_ok follows (H := [(0, [0, 1], [(5, (.one (.int .i64)))])]) (args := [.pointer o1, .int .u64 h2]) (by rw [cachetteref03_Oracle_at.eq]; exact h)

def cachetteref03_Oracle_at.N (o1 : Option Addr) (h2 : Int) (R : Value → World → Prop) (w : World) : Prop :=
 ∃ (I0 : Nat → List Value → World → Prop) (m4 : Nat), I0 m4 [.int .i64 0] w ∧ ∀ (m5 : Nat) (a0 : World) (i3 : Int), I0 m5 [.int .i64 i3] a0 →
 ∃ a7 : Addr, o1 = some a7 ∧
 ∃ (a9 : Option Addr) (a3 : Nat) (aa : Nat), a0.cell? (a7.add 1) = some (.slice a9 a3 aa) ∧
 (i3 < (a3 : Int) →
 ∃ (a1 : Option Addr) (a2 : Nat) (a5 : Nat), a0.cell? (a7.add 1) = some (.slice a1 a2 a5) ∧
 ∃ a8 : Addr, a1 = some a8 ∧
 0 ≤ (i3 : Int) ∧ (i3 : Int) < (a2 : Int) ∧
 ∃ (a4 : Int), a0.cell? ((a8.add (Int.toNat i3 * 6)).add 0) = some (.int .u64 a4) ∧
 (a4 = h2 →
 R (.int .i64 i3) a0) ∧
 (a4 ≠ h2 →
 (-9223372036854775808 : Int) ≤ (i3 + 1) ∧ (i3 + 1) < 9223372036854775808 ∧
 ∃ a6, a6 < m5 ∧ I0 a6 [.int .i64 (i3 + 1)] a0)) ∧
 ((a3 : Int) ≤ i3 →
 R (.int .i64 (-1)) a0)

theorem cachetteref03_Oracle_at.up (o1 : Option Addr) (h2 : Int) {R : Value → World → Prop} {w : World} (h : cachetteref03_Oracle_at.N o1 h2 R w) : cachetteref03_Oracle_at.M o1 h2 R w := by
  unfold cachetteref03_Oracle_at.M
  unfold cachetteref03_Oracle_at.N at h
  obtain ⟨I0, m4, h0, h⟩ := h
  refine ⟨I0, m4, h0, fun m5 ac i3 hI => ?_⟩
  have h := h m5 ac i3 hI
  obtain ⟨a7, a9, h⟩ := h
  refine elim_some a9 ?_
  obtain ⟨ad, af, aj, ab, h⟩ := h
  refine ⟨ad, af, aj, ab, ?_⟩
  refine bif_fo (fun a4 => ?_) (fun a4 => ?_)
  ·have h := h.2 (Int.not_lt.1 (of_decide_eq_false a4))
   exact h
  have h := h.1 (of_decide_eq_true a4)
  refine elim_some a9 ?_
  obtain ⟨a0, a8, a5, a2, h⟩ := h
  refine ⟨a0, a8, a5, a2, ?_⟩
  obtain ⟨al, a6, h⟩ := h
  refine elim_some a6 ?_
  obtain ⟨aa, ah, h⟩ := h
  refine ⟨aa, ah, ?_⟩
  obtain ⟨ak, a1, h⟩ := h
  refine ⟨ak, a1, ?_⟩
  refine bif_of (fun a3 => ?_) (fun a3 => ?_)
  ·have h := h.1 (beq_t a3)
   exact h
  have h := h.2 (beq_f a3)
  obtain ⟨ae, ag, h⟩ := h
  try rw [w64 ae ag]
  obtain ⟨ai, hk, h⟩ := h
  exact ⟨ai, hk, h⟩

theorem cachetteref03_Oracle_at.go (o1 : Option Addr) (h2 : Int) {R : Value → World → Prop} {w : World} (h : cachetteref03_Oracle_at.N o1 h2 R w) : Calls Try.prog 77 #[.pointer o1, .int .u64 h2] w fun e w' => ∃ v, e = .returned v ∧ R v w' := cachetteref03_Oracle_at.ok o1 h2 (cachetteref03_Oracle_at.up o1 h2 h)
theorem cachetteref03_Oracle_at.run (o1 : Option Addr) (h2 : Int) {V : Value} {Q : World → Prop} {w : World} (h : cachetteref03_Oracle_at.N o1 h2 (fun v w' => v = V ∧ Q w') w) : Calls Try.prog 77 #[.pointer o1, .int .u64 h2] w (Ret V Q) := (cachetteref03_Oracle_at.go o1 h2 h).mono fun e w' ⟨v, he, hv, hq⟩ => ⟨by rw [he, hv], hq⟩

abbrev cachetteref03_Oracle_put.J1 (an : Int) (ap : Option Addr) (al : Addr) (R : Value → World → Prop) (ah : World) : Prop :=
 canStore ah ((al.add 0).add 0) ∧
 thenW (ah.setCell ((al.add 0).add 0) (.int .u64 an)) fun am =>
 thenW (am.drew) fun a1 =>
 ap.elim False fun ao =>
 ∃ (a8 : Option Addr) (ab : Nat) (aa : Nat), a1.cell? (ao.add 1) = some (.slice a8 ab aa) ∧
 ∃ (af : Int) (a0 : Int) (a6 : Option Addr) (a3 : Nat) (a5 : Nat) (a2 : Option Addr) (a7 : Nat) (a4 : Nat) (ac : Int) (ai : Int), cellsAt a1 al [.int .u64 af, .int .i64 a0, .slice a6 a3 a5, .slice a2 a7 a4, .int .u64 ac, .int .u64 ai] 0 ∧
 thenW (a1.alloc (.cells #[.int .u64 af, .int .i64 a0, .slice a6 a3 a5, .slice a2 a7 a4, .int .u64 ac, .int .u64 ai] 131)) fun aj =>
 aj.cell? (ao.add 1) = some (.slice a8 ab aa) ∧
 ∃ (ae : Option Addr) (ad : Nat) (ag : Nat) (a9 : World), (Builtin.append_ #[80, 80] 80 #[.slice a8 ab aa, .slice (some (blk a1.heap.size)) 1 1]).run Try.prog aj = .ok (.slice ae ad ag) a9 ∧
 ap.elim False fun aq =>
 canStore a9 ((aq.add 1).add 0) ∧
 thenW (a9.setCell ((aq.add 1).add 0) (.slice ae ad ag)) fun ak =>
 R (.int .u64 an) ak

abbrev cachetteref03_Oracle_put.J2 (aq : Int) (ao : Option Addr) (am : Addr) (R : Value → World → Prop) (aj : World) : Prop :=
 canStore aj ((am.add 0).add 0) ∧
 thenW (aj.setCell ((am.add 0).add 0) (.int .u64 aq)) fun an =>
 thenW (an.drew) fun a8 =>
 ao.elim False fun ap =>
 ∃ (ah : Option Addr) (ag : Nat) (af : Nat), a8.cell? (ap.add 1) = some (.slice ah ag af) ∧
 ∃ (al : Int) (a0 : Int) (a7 : Option Addr) (a3 : Nat) (a6 : Nat) (a4 : Option Addr) (a2 : Nat) (a1 : Nat) (ae : Int) (ac : Int), cellsAt a8 am [.int .u64 al, .int .i64 a0, .slice a7 a3 a6, .slice a4 a2 a1, .int .u64 ae, .int .u64 ac] 0 ∧
 thenW (a8.alloc (.cells #[.int .u64 al, .int .i64 a0, .slice a7 a3 a6, .slice a4 a2 a1, .int .u64 ae, .int .u64 ac] 131)) fun ad =>
 ad.cell? (ap.add 1) = some (.slice ah ag af) ∧
 ∃ (ab : Option Addr) (a9 : Nat) (aa : Nat) (a5 : World), (Builtin.append_ #[80, 80] 80 #[.slice ah ag af, .slice (some (blk a8.heap.size)) 1 1]).run Try.prog ad = .ok (.slice ab a9 aa) a5 ∧
 ao.elim False fun ai =>
 canStore a5 ((ai.add 1).add 0) ∧
 thenW (a5.setCell ((ai.add 1).add 0) (.slice ab a9 aa)) fun ak =>
 R (.int .u64 aq) ak

def cachetteref03_Oracle_put.M (o1 : Option Addr) (c6 : Int) (au : Int) (bb : Option Addr) (bk : Nat) (bd : Nat) (ba : Option Addr) (bl : Nat) (b9 : Nat) (cf : Int) (c7 : Int) (R : Value → World → Prop) (w : World) : Prop :=
 thenW (w.alloc (.cells #[.int .u64 c6, .int .i64 au, .slice bb bk bd, .slice ba bl b9, .int .u64 cf, .int .u64 c7] 131)) fun cd =>
 ∃ (I0 : Nat → List Value → World → Prop) (c2 : Nat), I0 c2 [.int .u64 0] cd ∧ ∀ (bc : Nat) (a6 : World) (h9 : Int), I0 bc [.int .u64 h9] a6 →
 o1.elim False fun cb =>
 ∃ (ad : Option Addr) (a7 : Nat) (af : Nat), a6.cell? (cb.add 0) = some (.slice ad a7 af) ∧
 bif decide ((a7 : Int) > 0) then (
 bif h9 == 0 then (
 o1.elim False fun c5 =>
 ∃ (ab : Option Addr) (aa : Nat) (ae : Nat), a6.cell? (c5.add 0) = some (.slice ab aa ae) ∧
 ab.elim False fun c3 =>
 0 ≤ (0 : Int) ∧ (0 : Int) < (aa : Int) ∧
 ∃ (bo : Int), a6.cell? (c3.add (Int.toNat 0 * 1)) = some (.int .u64 bo) ∧
 o1.elim False fun c8 =>
 ∃ (a0 : Option Addr) (a1 : Nat) (a5 : Nat), a6.cell? (c8.add 0) = some (.slice a0 a1 a5) ∧
 (0 : Int) ≤ (1 : Int) ∧ (1 : Int) ≤ (a1 : Int) ∧
 o1.elim False fun bs =>
 canStore a6 ((bs.add 0).add 0) ∧
 thenW (a6.setCell ((bs.add 0).add 0) (.slice (if a5 = Int.toNat 1 then a0 else Option.map (fun z : Addr => z.add ((Int.toNat 1) * 1)) a0) (a1 - (Int.toNat 1)) (a5 - (Int.toNat 1)))) fun bm =>
 ∃ br, br < bc ∧ I0 br [.int .u64 bo] bm) else (
 Calls Try.prog 77 #[.pointer o1, .int .u64 h9] a6 fun bh ac => ∃ (al : Int), bh = .returned (.int .i64 al) ∧
 bif decide (al ≥ 0) then (
 o1.elim False fun cc =>
 ∃ (a9 : Option Addr) (a8 : Nat) (ah : Nat), ac.cell? (cc.add 0) = some (.slice a9 a8 ah) ∧
 a9.elim False fun c9 =>
 0 ≤ (0 : Int) ∧ (0 : Int) < (a8 : Int) ∧
 ∃ (bt : Int), ac.cell? (c9.add (Int.toNat 0 * 1)) = some (.int .u64 bt) ∧
 o1.elim False fun c4 =>
 ∃ (a4 : Option Addr) (a3 : Nat) (a2 : Nat), ac.cell? (c4.add 0) = some (.slice a4 a3 a2) ∧
 (0 : Int) ≤ (1 : Int) ∧ (1 : Int) ≤ (a3 : Int) ∧
 o1.elim False fun bq =>
 canStore ac ((bq.add 0).add 0) ∧
 thenW (ac.setCell ((bq.add 0).add 0) (.slice (if a2 = Int.toNat 1 then a4 else Option.map (fun z : Addr => z.add ((Int.toNat 1) * 1)) a4) (a3 - (Int.toNat 1)) (a2 - (Int.toNat 1)))) fun bn =>
 ∃ bx, bx < bc ∧ I0 bx [.int .u64 bt] bn) else (
 bif h9 == 0 then (
 ∃ (I2 : Nat → List Value → World → Prop) (ca : Nat), I2 ca [.int .u64 1] ac ∧ ∀ (bu : Nat) (av : World) (b7 : Int), I2 bu [.int .u64 b7] av →
 Calls Try.prog 77 #[.pointer o1, .int .u64 b7] av fun be b0 => ∃ (an : Int), be = .returned (.int .i64 an) ∧
 bif decide (an ≥ 0) then (
 ∃ c0, c0 < bu ∧ I2 c0 [.int .u64 (IntKind.u64.wrap (b7 + 1))] b0) else (
 cachetteref03_Oracle_put.J1 b7 o1 (blk w.heap.size) R b0)) else (
 Calls Try.prog 77 #[.pointer o1, .int .u64 h9] ac fun bj ax => ∃ (ar : Int), bj = .returned (.int .i64 ar) ∧
 bif decide (ar ≥ 0) then (
 ∃ (I2 : Nat → List Value → World → Prop) (ce : Nat), I2 ce [.int .u64 1] ax ∧ ∀ (bp : Nat) (aw : World) (b6 : Int), I2 bp [.int .u64 b6] aw →
 Calls Try.prog 77 #[.pointer o1, .int .u64 b6] aw fun bf b4 => ∃ (am : Int), bf = .returned (.int .i64 am) ∧
 bif decide (am ≥ 0) then (
 ∃ bw, bw < bp ∧ I2 bw [.int .u64 (IntKind.u64.wrap (b6 + 1))] b4) else (
 cachetteref03_Oracle_put.J1 b6 o1 (blk w.heap.size) R b4)) else (
 cachetteref03_Oracle_put.J1 h9 o1 (blk w.heap.size) R ax))))) else (
 bif h9 == 0 then (
 ∃ (I2 : Nat → List Value → World → Prop) (c1 : Nat), I2 c1 [.int .u64 1] a6 ∧ ∀ (bv : Nat) (az : World) (b8 : Int), I2 bv [.int .u64 b8] az →
 Calls Try.prog 77 #[.pointer o1, .int .u64 b8] az fun bi b3 => ∃ (aq : Int), bi = .returned (.int .i64 aq) ∧
 bif decide (aq ≥ 0) then (
 ∃ bz, bz < bv ∧ I2 bz [.int .u64 (IntKind.u64.wrap (b8 + 1))] b3) else (
 cachetteref03_Oracle_put.J2 b8 o1 (blk w.heap.size) R b3)) else (
 Calls Try.prog 77 #[.pointer o1, .int .u64 h9] a6 fun b1 ap => ∃ (ai : Int), b1 = .returned (.int .i64 ai) ∧
 bif decide (ai ≥ 0) then (
 ∃ (I2 : Nat → List Value → World → Prop) (bg : Nat), I2 bg [.int .u64 1] ap ∧ ∀ (ay : Nat) (ak : World) (aj : Int), I2 ay [.int .u64 aj] ak →
 Calls Try.prog 77 #[.pointer o1, .int .u64 aj] ak fun b2 ao => ∃ (ag : Int), b2 = .returned (.int .i64 ag) ∧
 bif decide (ag ≥ 0) then (
 ∃ b5, b5 < ay ∧ I2 b5 [.int .u64 (IntKind.u64.wrap (aj + 1))] ao) else (
 cachetteref03_Oracle_put.J2 aj o1 (blk w.heap.size) R ao)) else (
 cachetteref03_Oracle_put.J2 h9 o1 (blk w.heap.size) R ap)))

theorem cachetteref03_Oracle_put.eq (o1 : Option Addr) (rH2 : Int) (rKind3 : Int) (rA4a : Option Addr) (rA4n : Nat) (rA4c : Nat) (rB5a : Option Addr) (rB5n : Nat) (rB5c : Nat) (rN6 : Int) (rM7 : Int) (R : Value → World → Prop) (w : World) : mfunc Try.prog [(0, [0, 3], [(5, (.one (.int .u64)))]), (2, [0, 3], [(5, (.one (.int .u64)))])] 50 [.pointer o1, .agg #[.int .u64 rH2, .int .i64 rKind3, .slice rA4a rA4n rA4c, .slice rB5a rB5n rB5c, .int .u64 rN6, .int .u64 rM7]] R w = cachetteref03_Oracle_put.M o1 rH2 rKind3 rA4a rA4n rA4c rB5a rB5n rB5c rN6 rM7 R w := by kernel_rfl
theorem cachetteref03_Oracle_put.ok (o1 : Option Addr) (a8 : Int) (a0 : Int) (a2 : Option Addr) (a5 : Nat) (a6 : Nat) (a4 : Option Addr) (a1 : Nat) (a3 : Nat) (a7 : Int) (a9 : Int) {R : Value → World → Prop} {w : World} (h : cachetteref03_Oracle_put.M o1 a8 a0 a2 a5 a6 a4 a1 a3 a7 a9 R w) : Calls Try.prog 50 #[.pointer o1, .agg #[.int .u64 a8, .int .i64 a0, .slice a2 a5 a6, .slice a4 a1 a3, .int .u64 a7, .int .u64 a9]] w fun e w' => ∃ v, e = .returned v ∧ R v w' :=
  mfunc_ok follows (H := [(0, [0, 3], [(5, (.one (.int .u64)))]), (2, [0, 3], [(5, (.one (.int .u64)))])]) (args := [.pointer o1, .agg #[.int .u64 a8, .int .i64 a0, .slice a2 a5 a6, .slice a4 a1 a3, .int .u64 a7, .int .u64 a9]]) (by rw [cachetteref03_Oracle_put.eq]; exact h)

def cachetteref03_Oracle_put.N (o1 : Option Addr) (el : Int) (cz : Int) (ds : Option Addr) (e6 : Nat) (dw : Nat) (dr : Option Addr) (e7 : Nat) (dq : Nat) (eq : Int) (en : Int) (R : Value → World → Prop) (w : World) : Prop :=
 ∀ (e5 : World) (p9 : Nat), Ext no w e5 → Priv w e5 [p9] →
 ∃ (I0 : Nat → List Value → World → Prop) (eo : Nat), I0 eo [.int .u64 0, .int .u64 el, .int .i64 cz, .slice ds e6 dw, .slice dr e7 dq, .int .u64 eq, .int .u64 en] e5 ∧ ∀ (dv : Nat) (a2 : World) (ay : Int) (d4 : Int) (a0 : Int) (ai : Option Addr) (ah : Nat) (af : Nat) (ao : Option Addr) (a9 : Nat) (ag : Nat) (c4 : Int) (c8 : Int), I0 dv [.int .u64 ay, .int .u64 d4, .int .i64 a0, .slice ai ah af, .slice ao a9 ag, .int .u64 c4, .int .u64 c8] a2 →
 ∃ a1 : Addr, o1 = some a1 ∧
 ∃ (br : Option Addr) (a7 : Nat) (b3 : Nat), a2.cell? (a1.add 0) = some (.slice br a7 b3) ∧
 ((a7 : Int) > 0 →
 (ay = 0 →
 ∃ (ac : Option Addr) (am : Nat) (bs : Nat), a2.cell? (a1.add 0) = some (.slice ac am bs) ∧
 ∃ ei : Addr, ac = some ei ∧
 (0 : Int) < (am : Int) ∧
 ∃ (eb : Int), a2.cell? (ei.add (Int.toNat 0 * 1)) = some (.int .u64 eb) ∧
 ∃ (an : Option Addr) (a4 : Nat) (a6 : Nat), a2.cell? (a1.add 0) = some (.slice an a4 a6) ∧
 (1 : Int) ≤ (a4 : Int) ∧ 
 canStore a2 ((a1.add 0).add 0) ∧
 (∀ p ∈ [p9], p ≠ Addr.block (a1.add 0)) ∧
 thenW (a2.setCell ((a1.add 0).add 0) (.slice (cutA an a6 1 1) (a4 - 1) (a6 - 1))) fun e3 =>
 ∃ ed, ed < dv ∧ I0 ed [.int .u64 eb, .int .u64 d4, .int .i64 a0, .slice ai ah af, .slice ao a9 ag, .int .u64 c4, .int .u64 c8] e3) ∧
 (ay ≠ 0 →
 Calls Try.prog 77 #[.pointer o1, .int .u64 ay] a2 fun dt al => ∃ (b6 : Int), dt = .returned (.int .i64 b6) ∧
 Keep [p9] a2 al ∧
 (b6 ≥ 0 →
 ∃ (aj : Option Addr) (ad : Nat) (bd : Nat), al.cell? (a1.add 0) = some (.slice aj ad bd) ∧
 ∃ eg : Addr, aj = some eg ∧
 (0 : Int) < (ad : Int) ∧
 ∃ (ee : Int), al.cell? (eg.add (Int.toNat 0 * 1)) = some (.int .u64 ee) ∧
 ∃ (ab : Option Addr) (a5 : Nat) (a3 : Nat), al.cell? (a1.add 0) = some (.slice ab a5 a3) ∧
 (1 : Int) ≤ (a5 : Int) ∧ 
 canStore al ((a1.add 0).add 0) ∧
 (∀ p ∈ [p9], p ≠ Addr.block (a1.add 0)) ∧
 thenW (al.setCell ((a1.add 0).add 0) (.slice (cutA ab a3 1 1) (a5 - 1) (a3 - 1))) fun e0 =>
 ∃ ef, ef < dv ∧ I0 ef [.int .u64 ee, .int .u64 d4, .int .i64 a0, .slice ai ah af, .slice ao a9 ag, .int .u64 c4, .int .u64 c8] e0) ∧
 (b6 < 0 →
 Calls Try.prog 77 #[.pointer o1, .int .u64 ay] al fun e1 cf => ∃ (bo : Int), e1 = .returned (.int .i64 bo) ∧
 Keep [p9] al cf ∧
 (bo ≥ 0 →
 ∃ (I2 : Nat → List Value → World → Prop) (em : Nat), I2 em [.int .u64 1, .int .u64 d4, .int .i64 a0, .slice ai ah af, .slice ao a9 ag, .int .u64 c4, .int .u64 c8] cf ∧ ∀ (ec : Nat) (cg : World) (d6 : Int) (ej : Int) (aq : Int) (cv : Option Addr) (ce : Nat) (ch : Nat) (cd : Option Addr) (cs : Nat) (cn : Nat) (e2 : Int) (dx : Int), I2 ec [.int .u64 d6, .int .u64 ej, .int .i64 aq, .slice cv ce ch, .slice cd cs cn, .int .u64 e2, .int .u64 dx] cg →
 Calls Try.prog 77 #[.pointer o1, .int .u64 d6] cg fun e4 d3 => ∃ (bf : Int), e4 = .returned (.int .i64 bf) ∧
 Keep [p9] cg d3 ∧
 (bf ≥ 0 →
 ∃ ek, ek < ec ∧ I2 ek [.int .u64 (IntKind.u64.wrap (d6 + 1)), .int .u64 ej, .int .i64 aq, .slice cv ce ch, .slice cd cs cn, .int .u64 e2, .int .u64 dx] d3) ∧
 (bf < 0 →
 ∀ (bz : World), Ext (fun b => b = p9) d3 bz →
 ∃ (cj : Option Addr) (d0 : Nat) (cc : Nat), bz.cell? (a1.add 1) = some (.slice cj d0 cc) ∧
 ∀ (bu : World) (dn : Nat), Ext no bz bu → Blk bu dn 131 [.int .u64 d6, .int .i64 aq, .slice cv ce ch, .slice cd cs cn, .int .u64 e2, .int .u64 dx] → bz.heap.size ≤ dn → dn < bu.heap.size →
 bu.cell? (a1.add 1) = some (.slice cj d0 cc) ∧
 ∃ (dh : Option Addr) (da : Nat) (d9 : Nat) (ct : World), (Builtin.append_ #[80, 80] 80 #[.slice cj d0 cc, .slice (some (blk dn)) 1 1]).run Try.prog bu = .ok (.slice dh da d9) ct ∧
 canStore ct ((a1.add 1).add 0) ∧
 thenW (ct.setCell ((a1.add 1).add 0) (.slice dh da d9)) fun e9 =>
 R (.int .u64 d6) e9)) ∧
 (bo < 0 →
 ∀ (c0 : World), Ext (fun b => b = p9) cf c0 →
 ∃ (ck : Option Addr) (cx : Nat) (d1 : Nat), c0.cell? (a1.add 1) = some (.slice ck cx d1) ∧
 ∀ (b2 : World) (dm : Nat), Ext no c0 b2 → Blk b2 dm 131 [.int .u64 ay, .int .i64 a0, .slice ai ah af, .slice ao a9 ag, .int .u64 c4, .int .u64 c8] → c0.heap.size ≤ dm → dm < b2.heap.size →
 b2.cell? (a1.add 1) = some (.slice ck cx d1) ∧
 ∃ (de : Option Addr) (d5 : Nat) (dd : Nat) (cw : World), (Builtin.append_ #[80, 80] 80 #[.slice ck cx d1, .slice (some (blk dm)) 1 1]).run Try.prog b2 = .ok (.slice de d5 dd) cw ∧
 canStore cw ((a1.add 1).add 0) ∧
 thenW (cw.setCell ((a1.add 1).add 0) (.slice de d5 dd)) fun dy =>
 R (.int .u64 ay) dy)))) ∧
 ((a7 : Int) ≤ 0 →
 (ay = 0 →
 ∃ (I2 : Nat → List Value → World → Prop) (ep : Nat), I2 ep [.int .u64 1, .int .u64 d4, .int .i64 a0, .slice ai ah af, .slice ao a9 ag, .int .u64 c4, .int .u64 c8] a2 ∧ ∀ (eh : Nat) (cy : World) (dk : Int) (ea : Int) (au : Int) (cr : Option Addr) (cu : Nat) (cm : Nat) (co : Option Addr) (cp : Nat) (cl : Nat) (e8 : Int) (dz : Int), I2 eh [.int .u64 dk, .int .u64 ea, .int .i64 au, .slice cr cu cm, .slice co cp cl, .int .u64 e8, .int .u64 dz] cy →
 Calls Try.prog 77 #[.pointer o1, .int .u64 dk] cy fun dp ci => ∃ (bl : Int), dp = .returned (.int .i64 bl) ∧
 Keep [p9] cy ci ∧
 (bl ≥ 0 →
 ∃ dj, dj < eh ∧ I2 dj [.int .u64 (IntKind.u64.wrap (dk + 1)), .int .u64 ea, .int .i64 au, .slice cr cu cm, .slice co cp cl, .int .u64 e8, .int .u64 dz] ci) ∧
 (bl < 0 →
 ∀ (aw : World), Ext (fun b => b = p9) ci aw →
 ∃ (b4 : Option Addr) (bq : Nat) (az : Nat), aw.cell? (a1.add 1) = some (.slice b4 bq az) ∧
 ∀ (aa : World) (bw : Nat), Ext no aw aa → Blk aa bw 131 [.int .u64 dk, .int .i64 au, .slice cr cu cm, .slice co cp cl, .int .u64 e8, .int .u64 dz] → aw.heap.size ≤ bw → bw < aa.heap.size →
 aa.cell? (a1.add 1) = some (.slice b4 bq az) ∧
 ∃ (c6 : Option Addr) (ca : Nat) (c1 : Nat) (b7 : World), (Builtin.append_ #[80, 80] 80 #[.slice b4 bq az, .slice (some (blk bw)) 1 1]).run Try.prog aa = .ok (.slice c6 ca c1) b7 ∧
 canStore b7 ((a1.add 1).add 0) ∧
 thenW (b7.setCell ((a1.add 1).add 0) (.slice c6 ca c1)) fun dg =>
 R (.int .u64 dk) dg)) ∧
 (ay ≠ 0 →
 Calls Try.prog 77 #[.pointer o1, .int .u64 ay] a2 fun d7 b8 => ∃ (ap : Int), d7 = .returned (.int .i64 ap) ∧
 Keep [p9] a2 b8 ∧
 (ap ≥ 0 →
 ∃ (I2 : Nat → List Value → World → Prop) (du : Nat), I2 du [.int .u64 1, .int .u64 d4, .int .i64 a0, .slice ai ah af, .slice ao a9 ag, .int .u64 c4, .int .u64 c8] b8 ∧ ∀ (di : Nat) (b5 : World) (bb : Int) (dl : Int) (a8 : Int) (bj : Option Addr) (bh : Nat) (bc : Nat) (b9 : Option Addr) (bi : Nat) (bg : Nat) (cq : Int) (d2 : Int), I2 di [.int .u64 bb, .int .u64 dl, .int .i64 a8, .slice bj bh bc, .slice b9 bi bg, .int .u64 cq, .int .u64 d2] b5 →
 Calls Try.prog 77 #[.pointer o1, .int .u64 bb] b5 fun d8 bk => ∃ (ar : Int), d8 = .returned (.int .i64 ar) ∧
 Keep [p9] b5 bk ∧
 (ar ≥ 0 →
 ∃ df, df < di ∧ I2 df [.int .u64 (IntKind.u64.wrap (bb + 1)), .int .u64 dl, .int .i64 a8, .slice bj bh bc, .slice b9 bi bg, .int .u64 cq, .int .u64 d2] bk) ∧
 (ar < 0 →
 ∀ (ax : World), Ext (fun b => b = p9) bk ax →
 ∃ (ba : Option Addr) (b0 : Nat) (be : Nat), ax.cell? (a1.add 1) = some (.slice ba b0 be) ∧
 ∀ (ae : World) (bx : Nat), Ext no ax ae → Blk ae bx 131 [.int .u64 bb, .int .i64 a8, .slice bj bh bc, .slice b9 bi bg, .int .u64 cq, .int .u64 d2] → ax.heap.size ≤ bx → bx < ae.heap.size →
 ae.cell? (a1.add 1) = some (.slice ba b0 be) ∧
 ∃ (cb : Option Addr) (c5 : Nat) (c3 : Nat) (bm : World), (Builtin.append_ #[80, 80] 80 #[.slice ba b0 be, .slice (some (blk bx)) 1 1]).run Try.prog ae = .ok (.slice cb c5 c3) bm ∧
 canStore bm ((a1.add 1).add 0) ∧
 thenW (bm.setCell ((a1.add 1).add 0) (.slice cb c5 c3)) fun db =>
 R (.int .u64 bb) db)) ∧
 (ap < 0 →
 ∀ (av : World), Ext (fun b => b = p9) b8 av →
 ∃ (bt : Option Addr) (bn : Nat) (b1 : Nat), av.cell? (a1.add 1) = some (.slice bt bn b1) ∧
 ∀ (ak : World) (bv : Nat), Ext no av ak → Blk ak bv 131 [.int .u64 ay, .int .i64 a0, .slice ai ah af, .slice ao a9 ag, .int .u64 c4, .int .u64 c8] → av.heap.size ≤ bv → bv < ak.heap.size →
 ak.cell? (a1.add 1) = some (.slice bt bn b1) ∧
 ∃ (c2 : Option Addr) (c7 : Nat) (c9 : Nat) (bp : World), (Builtin.append_ #[80, 80] 80 #[.slice bt bn b1, .slice (some (blk bv)) 1 1]).run Try.prog ak = .ok (.slice c2 c7 c9) bp ∧
 canStore bp ((a1.add 1).add 0) ∧
 thenW (bp.setCell ((a1.add 1).add 0) (.slice c2 c7 c9)) fun dc =>
 R (.int .u64 ay) dc)))

theorem cachetteref03_Oracle_put.up (o1 : Option Addr) (cu : Int) (ai : Int) (be : Option Addr) (bl : Nat) (bi : Nat) (bc : Option Addr) (bm : Nat) (bb : Nat) (dw : Int) (cx : Int) {R : Value → World → Prop} {w : World} (h : cachetteref03_Oracle_put.N o1 cu ai be bl bi bc bm bb dw cx R w) : cachetteref03_Oracle_put.M o1 cu ai be bl bi bc bm bb dw cx R w := by
  unfold cachetteref03_Oracle_put.M
  unfold cachetteref03_Oracle_put.N at h
  refine thenW_in fun es e8 => ?_
  have a1 := Blk.of_new e8
  have eo := ((Ext.refl no w)).size
  have eu := (Ext.refl no w).x_alloc e8
  have h := h es (w.heap.size) eu (Priv.cons eo a1.lt Priv.nil)
  obtain ⟨I0, ee, h0, h⟩ := h
  refine ⟨fun k vs ww => ∃ (b6 : Int) (a2 : Int) (ae : Option Addr) (ad : Nat) (ab : Nat) (af : Option Addr) (a9 : Nat) (ac : Nat) (ak : Int) (al : Int), Blk ww w.heap.size 131 [.int .u64 b6, .int .i64 a2, .slice ae ad ab, .slice af a9 ac, .int .u64 ak, .int .u64 al] ∧ I0 k (vs ++ [.int .u64 b6, .int .i64 a2, .slice ae ad ab, .slice af a9 ac, .int .u64 ak, .int .u64 al]) ww, ee, ⟨cu, ai, be, bl, bi, bc, bm, bb, dw, cx, a1, h0⟩, fun ed ch bt hI => ?_⟩
  obtain ⟨b6, a2, ae, ad, ab, af, a9, ac, ak, al, a1, hI⟩ := hI
  have h := h ed ch bt b6 a2 ae ad ab af a9 ac ak al hI
  obtain ⟨ey, aa, h⟩ := h
  refine elim_some aa ?_
  obtain ⟨b3, az, am, ds, h⟩ := h
  refine ⟨b3, az, am, ds, ?_⟩
  refine bif_of (fun dl => ?_) (fun dl => ?_)
  have h := h.1 (of_decide_eq_true dl)
  refine bif_of (fun cc => ?_) (fun cc => ?_)
  ·have h := h.1 (beq_t cc)
   refine elim_some aa ?_
   obtain ⟨ap, b0, b4, d6, h⟩ := h
   refine ⟨ap, b0, b4, d6, ?_⟩
   obtain ⟨f0, d0, h⟩ := h
   refine elim_some d0 ?_
   obtain ⟨cl, h⟩ := h
   refine ⟨by decide, cl, ?_⟩
   obtain ⟨ef, dg, h⟩ := h
   refine ⟨ef, dg, ?_⟩
   refine elim_some aa ?_
   obtain ⟨b1, au, ax, dt, h⟩ := h
   refine ⟨b1, au, ax, dt, ?_⟩
   obtain ⟨cd, h⟩ := h
   refine ⟨by decide, cd, ?_⟩
   refine elim_some aa ?_
   obtain ⟨hcs, hof, h⟩ := h
   refine ⟨hcs, thenW_in fun ep e7 => ?_⟩
   replace h := thenW_out h e7
   have a1 := a1.off (by rw [block_add]; exact hof _ (by simp)) e7
   obtain ⟨el, hk, h⟩ := h
   exact ⟨el, hk, b6, a2, ae, ad, ab, af, a9, ac, ak, al, a1, h⟩
  have h := h.2 (beq_f cc)
  refine h.mono fun eb et h => ?_
  obtain ⟨br, he, hk, h⟩ := h
  refine ⟨br, he, ?_⟩
  have a1 := hk.blk a1 (by simp)
  refine bif_of (fun di => ?_) (fun di => ?_)
  ·have h := h.1 (of_decide_eq_true di)
   refine elim_some aa ?_
   obtain ⟨ay, ar, av, cq, h⟩ := h
   refine ⟨ay, ar, av, cq, ?_⟩
   obtain ⟨ez, d5, h⟩ := h
   refine elim_some d5 ?_
   obtain ⟨cl, h⟩ := h
   refine ⟨by decide, cl, ?_⟩
   obtain ⟨em, dc, h⟩ := h
   refine ⟨em, dc, ?_⟩
   refine elim_some aa ?_
   obtain ⟨an, aw, ao, cj, h⟩ := h
   refine ⟨an, aw, ao, cj, ?_⟩
   obtain ⟨cd, h⟩ := h
   refine ⟨by decide, cd, ?_⟩
   refine elim_some aa ?_
   obtain ⟨hcs, hof, h⟩ := h
   refine ⟨hcs, thenW_in fun ej dz => ?_⟩
   replace h := thenW_out h dz
   have a1 := a1.off (by rw [block_add]; exact hof _ (by simp)) dz
   obtain ⟨en, hk, h⟩ := h
   exact ⟨en, hk, b6, a2, ae, ad, ab, af, a9, ac, ak, al, a1, h⟩
  have h := h.2 (Int.not_le.1 (of_decide_eq_false di))
  refine bif_ff cc ?_
  refine h.mono fun ek b9 h => ?_
  obtain ⟨c6, he, hk, h⟩ := h
  refine ⟨c6, he, ?_⟩
  have a1 := hk.blk a1 (by simp)
  refine bif_fo (fun cm => ?_) (fun cm => ?_)
  ·have h := h.2 (Int.not_le.1 (of_decide_eq_false cm))
   first | unfold cachetteref03_Oracle_put.J1 | unfold cachetteref03_Oracle_put.J2
   have dd : Ext (fun b => b = w.heap.size) b9 b9 := ((Ext.refl no b9)).none
   refine ⟨a1.cani 0 rfl rfl, thenW_in fun du e5 => ?_⟩
   have dk := dd.x_set (q := w.heap.size) (i := 0) rfl (.inl rfl) e5
   have a1 : Blk du w.heap.size 131 [.int .u64 bt, .int .i64 a2, .slice ae ad ab, .slice af a9 ac, .int .u64 ak, .int .u64 al] := a1.seti 0 rfl e5
   refine thenW_in fun b8 e6 => ?_
   have d7 := dk.x_drew e6
   have a1 := a1.x_drew e6
   refine elim_some aa ?_
   have h := h b8 d7
   obtain ⟨d3, dp, dv, dj, h⟩ := h
   refine ⟨d3, dp, dv, dj, ?_⟩
   refine ⟨bt, a2, ae, ad, ab, af, a9, ac, ak, al, ⟨a1.celli 0 rfl rfl, a1.celli 1 rfl rfl, a1.celli 2 rfl rfl, a1.celli 3 rfl rfl, a1.celli 4 rfl rfl, a1.celli 5 rfl rfl, trivial⟩, ?_⟩
   refine thenW_in fun ck cp => ?_
   have h := h ck b8.heap.size ((Ext.refl no b8).x_alloc cp) (Blk.of_new cp) ((Ext.refl no b8)).size (size_lt_alloc cp)
   obtain ⟨cs, h⟩ := h
   refine ⟨cs, ?_⟩
   obtain ⟨d9, cg, d8, dn, hr, h⟩ := h
   refine ⟨d9, cg, d8, dn, hr, ?_⟩
   refine elim_some aa ?_
   obtain ⟨hcs, h⟩ := h
   refine ⟨hcs, thenW_in fun eg eh => ?_⟩
   replace h := thenW_out h eh
   exact h
  have h := h.1 (of_decide_eq_true cm)
  obtain ⟨I2, ec, h0, h⟩ := h
  refine ⟨fun k vs ww => ∃ (c8 : Int) (a0 : Int) (a8 : Option Addr) (a4 : Nat) (a5 : Nat) (a3 : Option Addr) (a7 : Nat) (a6 : Nat) (ah : Int) (ag : Int), Blk ww w.heap.size 131 [.int .u64 c8, .int .i64 a0, .slice a8 a4 a5, .slice a3 a7 a6, .int .u64 ah, .int .u64 ag] ∧ I2 k (vs ++ [.int .u64 c8, .int .i64 a0, .slice a8 a4 a5, .slice a3 a7 a6, .int .u64 ah, .int .u64 ag]) ww, ec, ⟨b6, a2, ae, ad, ab, af, a9, ac, ak, al, a1, h0⟩, fun ei ci bd hI => ?_⟩
  obtain ⟨c8, a0, a8, a4, a5, a3, a7, a6, ah, ag, a1, hI⟩ := hI
  have h := h ei ci bd c8 a0 a8 a4 a5 a3 a7 a6 ah ag hI
  refine h.mono fun eq b5 h => ?_
  obtain ⟨bw, he, hk, h⟩ := h
  refine ⟨bw, he, ?_⟩
  have a1 := hk.blk a1 (by simp)
  refine bif_of (fun dx => ?_) (fun dx => ?_)
  ·have h := h.1 (of_decide_eq_true dx)
   obtain ⟨ew, hk, h⟩ := h
   exact ⟨ew, hk, c8, a0, a8, a4, a5, a3, a7, a6, ah, ag, a1, h⟩
  have h := h.2 (Int.not_le.1 (of_decide_eq_false dx))
  rotate_left
  focus
   have h := h.2 (Int.not_lt.1 (of_decide_eq_false dl))
   refine bif_of (fun cf => ?_) (fun cf => ?_)
   have h := h.1 (beq_t cf)
   obtain ⟨I2, ev, h0, h⟩ := h
   refine ⟨fun k vs ww => ∃ (bp : Int) (a0 : Int) (a8 : Option Addr) (a4 : Nat) (a5 : Nat) (a3 : Option Addr) (a7 : Nat) (a6 : Nat) (ah : Int) (ag : Int), Blk ww w.heap.size 131 [.int .u64 bp, .int .i64 a0, .slice a8 a4 a5, .slice a3 a7 a6, .int .u64 ah, .int .u64 ag] ∧ I2 k (vs ++ [.int .u64 bp, .int .i64 a0, .slice a8 a4 a5, .slice a3 a7 a6, .int .u64 ah, .int .u64 ag]) ww, ev, ⟨b6, a2, ae, ad, ab, af, a9, ac, ak, al, a1, h0⟩, fun er dq bd hI => ?_⟩
   obtain ⟨bp, a0, a8, a4, a5, a3, a7, a6, ah, ag, a1, hI⟩ := hI
   have h := h er dq bd bp a0 a8 a4 a5 a3 a7 a6 ah ag hI
   refine h.mono fun e9 b5 h => ?_
   obtain ⟨c4, he, hk, h⟩ := h
   refine ⟨c4, he, ?_⟩
   have a1 := hk.blk a1 (by simp)
   refine bif_of (fun bg => ?_) (fun bg => ?_)
   ·have h := h.1 (of_decide_eq_true bg)
    obtain ⟨dm, hk, h⟩ := h
    exact ⟨dm, hk, bp, a0, a8, a4, a5, a3, a7, a6, ah, ag, a1, h⟩
   have h := h.2 (Int.not_le.1 (of_decide_eq_false bg))
   rotate_left
   have h := h.2 (beq_f cf)
   refine h.mono fun e0 aq h => ?_
   obtain ⟨ba, he, hk, h⟩ := h
   refine ⟨ba, he, ?_⟩
   have a1 := hk.blk a1 (by simp)
   refine bif_fo (fun bh => ?_) (fun bh => ?_)
   ·have h := h.2 (Int.not_le.1 (of_decide_eq_false bh))
    first | unfold cachetteref03_Oracle_put.J1 | unfold cachetteref03_Oracle_put.J2
    have ca : Ext (fun b => b = w.heap.size) aq aq := ((Ext.refl no aq)).none
    refine ⟨a1.cani 0 rfl rfl, thenW_in fun bv c2 => ?_⟩
    have c9 := ca.x_set (q := w.heap.size) (i := 0) rfl (.inl rfl) c2
    have a1 : Blk bv w.heap.size 131 [.int .u64 bt, .int .i64 a2, .slice ae ad ab, .slice af a9 ac, .int .u64 ak, .int .u64 al] := a1.seti 0 rfl c2
    refine thenW_in fun aj bn => ?_
    have bx := c9.x_drew bn
    have a1 := a1.x_drew bn
    refine elim_some aa ?_
    have h := h aj bx
    obtain ⟨cb, c5, bo, bs, h⟩ := h
    refine ⟨cb, c5, bo, bs, ?_⟩
    refine ⟨bt, a2, ae, ad, ab, af, a9, ac, ak, al, ⟨a1.celli 0 rfl rfl, a1.celli 1 rfl rfl, a1.celli 2 rfl rfl, a1.celli 3 rfl rfl, a1.celli 4 rfl rfl, a1.celli 5 rfl rfl, trivial⟩, ?_⟩
    refine thenW_in fun c3 bj => ?_
    have h := h c3 aj.heap.size ((Ext.refl no aj).x_alloc bj) (Blk.of_new bj) ((Ext.refl no aj)).size (size_lt_alloc bj)
    obtain ⟨c1, h⟩ := h
    refine ⟨c1, ?_⟩
    obtain ⟨bu, bz, c0, c7, hr, h⟩ := h
    refine ⟨bu, bz, c0, c7, hr, ?_⟩
    refine elim_some aa ?_
    obtain ⟨hcs, h⟩ := h
    refine ⟨hcs, thenW_in fun e4 d1 => ?_⟩
    replace h := thenW_out h d1
    exact h
   have h := h.1 (of_decide_eq_true bh)
   obtain ⟨I2, cw, h0, h⟩ := h
   refine ⟨fun k vs ww => ∃ (b2 : Int) (a0 : Int) (a8 : Option Addr) (a4 : Nat) (a5 : Nat) (a3 : Option Addr) (a7 : Nat) (a6 : Nat) (ah : Int) (ag : Int), Blk ww w.heap.size 131 [.int .u64 b2, .int .i64 a0, .slice a8 a4 a5, .slice a3 a7 a6, .int .u64 ah, .int .u64 ag] ∧ I2 k (vs ++ [.int .u64 b2, .int .i64 a0, .slice a8 a4 a5, .slice a3 a7 a6, .int .u64 ah, .int .u64 ag]) ww, cw, ⟨b6, a2, ae, ad, ab, af, a9, ac, ak, al, a1, h0⟩, fun dh bq bd hI => ?_⟩
   obtain ⟨b2, a0, a8, a4, a5, a3, a7, a6, ah, ag, a1, hI⟩ := hI
   have h := h dh bq bd b2 a0 a8 a4 a5 a3 a7 a6 ah ag hI
   refine h.mono fun e1 b5 h => ?_
   obtain ⟨bk, he, hk, h⟩ := h
   refine ⟨bk, he, ?_⟩
   have a1 := hk.blk a1 (by simp)
   refine bif_of (fun bf => ?_) (fun bf => ?_)
   ·have h := h.1 (of_decide_eq_true bf)
    obtain ⟨da, hk, h⟩ := h
    exact ⟨da, hk, b2, a0, a8, a4, a5, a3, a7, a6, ah, ag, a1, h⟩
   have h := h.2 (Int.not_le.1 (of_decide_eq_false bf))
   rotate_left
  rotate_left 2
  all_goals
   first | unfold cachetteref03_Oracle_put.J1 | unfold cachetteref03_Oracle_put.J2
   have cy : Ext (fun b => b = w.heap.size) b5 b5 := ((Ext.refl no b5)).none
   refine ⟨a1.cani 0 rfl rfl, thenW_in fun ct e3 => ?_⟩
   have d2 := cy.x_set (q := w.heap.size) (i := 0) rfl (.inl rfl) e3
   have a1 : Blk ct w.heap.size 131 [.int .u64 bd, .int .i64 a0, .slice a8 a4 a5, .slice a3 a7 a6, .int .u64 ah, .int .u64 ag] := a1.seti 0 rfl e3
   refine thenW_in fun b7 e2 => ?_
   have cr := d2.x_drew e2
   have a1 := a1.x_drew e2
   refine elim_some aa ?_
   have h := h b7 cr
   obtain ⟨cz, dr, ce, d4, h⟩ := h
   refine ⟨cz, dr, ce, d4, ?_⟩
   refine ⟨bd, a0, a8, a4, a5, a3, a7, a6, ah, ag, ⟨a1.celli 0 rfl rfl, a1.celli 1 rfl rfl, a1.celli 2 rfl rfl, a1.celli 3 rfl rfl, a1.celli 4 rfl rfl, a1.celli 5 rfl rfl, trivial⟩, ?_⟩
   refine thenW_in fun dy cn => ?_
   have h := h dy b7.heap.size ((Ext.refl no b7).x_alloc cn) (Blk.of_new cn) ((Ext.refl no b7)).size (size_lt_alloc cn)
   obtain ⟨de, h⟩ := h
   refine ⟨de, ?_⟩
   obtain ⟨db, cv, co, df, hr, h⟩ := h
   refine ⟨db, cv, co, df, hr, ?_⟩
   refine elim_some aa ?_
   obtain ⟨hcs, h⟩ := h
   refine ⟨hcs, thenW_in fun ex ea => ?_⟩
   replace h := thenW_out h ea
   exact h

theorem cachetteref03_Oracle_put.go (o1 : Option Addr) (a8 : Int) (a0 : Int) (a2 : Option Addr) (a5 : Nat) (a6 : Nat) (a4 : Option Addr) (a1 : Nat) (a3 : Nat) (a7 : Int) (a9 : Int) {R : Value → World → Prop} {w : World} (h : cachetteref03_Oracle_put.N o1 a8 a0 a2 a5 a6 a4 a1 a3 a7 a9 R w) : Calls Try.prog 50 #[.pointer o1, .agg #[.int .u64 a8, .int .i64 a0, .slice a2 a5 a6, .slice a4 a1 a3, .int .u64 a7, .int .u64 a9]] w fun e w' => ∃ v, e = .returned v ∧ R v w' := cachetteref03_Oracle_put.ok o1 a8 a0 a2 a5 a6 a4 a1 a3 a7 a9 (cachetteref03_Oracle_put.up o1 a8 a0 a2 a5 a6 a4 a1 a3 a7 a9 h)
theorem inf131 : (Try.prog.info? 131).map (fun i => (i.zero, i.size, i.bytes)) = some (some (.agg #[.int .u64 0, .int .i64 0, .slice none 0 0, .slice none 0 0, .int .u64 0, .int .u64 0]), 6, 80) := by kernel_rfl
structure RRow where
  h : Int
  kind : Int
  A : List UInt8
  B : List UInt8
  n : Int
  m : Int
structure PR where
  r : RRow
  aA : Option Addr
  cA : Nat
  aB : Option Addr
  cB : Nat
def PR.C (x : PR) : List Value := [.int .u64 x.r.h, .int .i64 x.r.kind, .slice x.aA x.r.A.length x.cA, .slice x.aB x.r.B.length x.cB, .int .u64 x.r.n, .int .u64 x.r.m]
def PR.ok (w : World) (o : Own) (x : PR) : Prop := Row w o x.aA (bytesV x.r.A) ∧ Row w o x.aB (bytesV x.r.B) ∧ x.r.A.length ≤ x.cA ∧ x.r.B.length ≤ x.cB
def PR.Cs (R : List PR) : List Value := R.flatMap PR.C
structure ROrcP (w : World) (o : Own) (k : Nat) (d : List Int) (R : List PR) : Prop where
  tk : o k = some k
  at_ : ∃ da dc la lc, Blk w k 82 [.slice da d.length dc, .slice la R.length lc] ∧ d.length ≤ dc ∧ Row w o da (d.map u64V) ∧ Grows 131 6 w o k la R.length lc (PR.Cs R) ∧ (∀ ad, la = some ad → ad.block ≠ k)
  rows : ∀ x ∈ R, x.ok w o
def ROrc (w : World) (o : Own) (k : Nat) (d : List Int) (L : List RRow) : Prop := ∃ R, L = R.map PR.r ∧ ROrcP w o k d R
theorem PR.Cs_length (R : List PR) : (PR.Cs R).length = R.length * 6 := by
  induction R with
  | nil => rfl
  | cons x r ih => simp only [PR.Cs, List.flatMap_cons, List.length_append, List.length_cons] at ih ⊢; rw [ih]; simp [PR.C]; omega
theorem PR.Cs_get : ∀ {R : List PR} {i : Nat} {x : PR}, R[i]? = some x → ∀ j, j < 6 → (PR.Cs R)[i * 6 + j]? = x.C[j]?
  | [], i, x, hi, j, hj => by simp at hi
  | a :: r, 0, x, hi, j, hj => by
    simp only [List.getElem?_cons_zero, Option.some.injEq] at hi
    subst hi
    simp only [PR.Cs, List.flatMap_cons, Nat.zero_mul, Nat.zero_add]
    rw [List.getElem?_append_left (by simp [PR.C]; omega)]
  | a :: r, i + 1, x, hi, j, hj => by
    simp only [List.getElem?_cons_succ] at hi
    have := PR.Cs_get hi j hj
    simp only [PR.Cs, List.flatMap_cons] at this ⊢
    rw [List.getElem?_append_right (by simp [PR.C]; omega), show (i + 1) * 6 + j - a.C.length = i * 6 + j by simp [PR.C]; omega]
    exact this
theorem PR.one (x : PR) : ∀ u ∈ x.C, u.oneCell' = true := fun u hu => by
  simp only [PR.C, List.mem_cons, List.not_mem_nil, or_false] at hu
  rcases hu with rfl | rfl | rfl | rfl | rfl | rfl <;> rfl
section
variable {w w' : World} {o o' : Own} {k : Nat} {K : Nat → Prop} {d : List Int} {R : List PR} {L : List RRow}
theorem PR.ok.step {x : PR} (h : x.ok w o) (s : Step K w o w' o') : x.ok w' o' := ⟨h.1.step s, h.2.1.step s, h.2.2⟩
theorem ROrcP.lt (h : ROrcP w o k d R) : k < w.heap.size := by obtain ⟨da, dc, la, lc, hb, _⟩ := h.at_; exact hb.lt
theorem ROrcP.step (h : ROrcP w o k d R) (s : Step K w o w' o') (hk : ¬ K k) : ROrcP w' o' k d R := by
  obtain ⟨da, dc, la, lc, h1, h2, h3, h4, h5⟩ := h.at_
  exact ⟨by rw [s.own h.lt]; exact h.tk, ⟨da, dc, la, lc, s.blk h1 h.tk hk, h2, h3.step s, h4.step s hk, h5⟩, fun x hx => (h.rows x hx).step s⟩
theorem ROrc.step (h : ROrc w o k d L) (s : Step K w o w' o') (hk : ¬ K k) : ROrc w' o' k d L := by
  obtain ⟨R, h1, h2⟩ := h; exact ⟨R, h1, h2.step s hk⟩
theorem ROrc.lt (h : ROrc w o k d L) : k < w.heap.size := by obtain ⟨R, _, h⟩ := h; exact h.lt
def atI (L : List RRow) (h : Int) : Int := match L.findIdx? (fun r => r.h == h) with | some i => i | none => -1
theorem row_cell {la : Option Addr} {ad : Addr} (hr : RowAt w la (PR.Cs R)) (ha : la = some ad) {i : Nat} {x : PR} (hi : R[i]? = some x) {j : Nat} {v : Value} (hv : x.C[j]? = some v) : w.cell? ((ad.add (i * 6)).add j) = some v := by
  have hj : j < 6 := by have := (List.getElem?_eq_some_iff.1 hv).1; simpa [PR.C] using this
  subst ha
  rw [add_add]
  exact hr.at_ ((PR.Cs_get hi j hj).trans hv)
theorem Cs_ne (h : R ≠ []) : PR.Cs R ≠ [] := fun e => by
  have := PR.Cs_length R
  rw [e] at this
  simp at this
  exact h (List.eq_nil_of_length_eq_zero (by omega))
theorem at_spec (h : ROrcP w o k d R) (hl : R.length < 1000000) (x : Int) :
    Calls Try.prog 77 #[.pointer (some (blk k)), .int .u64 x] w (Ret (.int .i64 (atI (R.map PR.r) x)) fun w' => w' = w) := by
  refine cachetteref03_Oracle_at.run _ _ ?_
  unfold cachetteref03_Oracle_at.N
  obtain ⟨da, dc, la, lc, h1, h2, h3, h4, h5⟩ := h.at_
  refine ⟨fun q vs w1 => ∃ t : Nat, vs = [.int .i64 t] ∧ q + t = R.length ∧ (∀ y ∈ R.take t, y.r.h ≠ x) ∧ w1 = w, R.length, ⟨0, rfl, rfl, by simp, rfl⟩, ?_⟩
  rintro q w1 i ⟨t, hi, hq, hn, rfl⟩
  simp only [List.cons.injEq, Value.int.injEq, true_and, and_true] at hi
  subst hi
  refine ⟨_, rfl, la, R.length, lc, h1.cella (i := 1) rfl, fun ht => ?_, fun ht => ?_⟩
  · have htl : t < R.length := by omega
    have hne : R ≠ [] := by intro e; subst e; simp at htl
    obtain ⟨ad, ha⟩ := h4.row.addr (Cs_ne hne)
    have hg : R[t]? = some R[t] := List.getElem?_eq_getElem htl
    refine ⟨la, R.length, lc, h1.cella (i := 1) rfl, ad, ha, by omega, by omega, R[t].r.h, by rw [Int.toNat_natCast]; exact row_cell h4.row ha hg (j := 0) rfl, fun he => ?_, fun he => ?_⟩
    · refine ⟨?_, rfl⟩
      have : (R.map PR.r).findIdx? (fun r => r.h == x) = some t := by
        rw [List.findIdx?_eq_some_iff_getElem]
        refine ⟨by simpa using htl, by simpa using he, fun j hj => ?_⟩
        have := hn R[j] (List.mem_take_iff_getElem.2 ⟨j, by omega, rfl⟩)
        simpa using this
      unfold atI
      rw [this]
    · refine ⟨by omega, by omega, q - 1, by omega, t + 1, rfl, by omega, fun y hy => ?_, rfl⟩
      rw [List.take_add_one, hg] at hy
      rcases List.mem_append.1 hy with hy | hy
      · exact hn y hy
      · simp at hy; rw [hy]; exact he
  · obtain rfl : t = R.length := by omega
    rw [List.take_length] at hn
    refine ⟨?_, rfl⟩
    have : (R.map PR.r).findIdx? (fun r => r.h == x) = none := by
      rw [List.findIdx?_eq_none_iff]
      intro r hr
      obtain ⟨y, hy, rfl⟩ := List.mem_map.1 hr
      simpa using hn y hy
    unfold atI
    rw [this]
theorem atI_mem (L : List RRow) (x : Int) : 0 ≤ atI L x ↔ x ∈ L.map RRow.h := by
  unfold atI
  cases h : L.findIdx? (fun r => r.h == x) with
  | some i =>
    rw [List.findIdx?_eq_some_iff_getElem] at h
    obtain ⟨h1, h2, _⟩ := h
    simp only [Int.natCast_nonneg, true_iff]
    exact List.mem_map.2 ⟨L[i], List.getElem_mem h1, by simpa using h2⟩
  | none =>
    rw [List.findIdx?_eq_none_iff] at h
    constructor
    · intro h; exact absurd h (by show ¬ (0 : Int) ≤ -1; decide)
    · intro hm
      obtain ⟨r, hr, rfl⟩ := List.mem_map.1 hm
      have := h r hr
      simp at this
def freshR (d used : List Int) : Int × List Int := match pickD d used with | some q => q | none => (pickN used (used.length + 1) 1, [])
def putTail (RR : Value → World → Prop) (w : World) (p : Nat) (a : Addr) (h kind : Int) (aA : Option Addr) (nA cA : Nat) (aB : Option Addr) (nB cB : Nat) (n m : Int) : Prop :=
  ∀ (w67 : World), Ext (fun b => b = p) w w67 →
  ∃ (La : Option Addr) (Ln : Nat) (Lc : Nat), w67.cell? (a.add 1) = some (.slice La Ln Lc) ∧
  ∀ (w70 : World) (q : Nat), Ext no w67 w70 → Blk w70 q 131 [.int .u64 h, .int .i64 kind, .slice aA nA cA, .slice aB nB cB, .int .u64 n, .int .u64 m] → w67.heap.size ≤ q → q < w70.heap.size →
  w70.cell? (a.add 1) = some (.slice La Ln Lc) ∧
  ∃ (a73a : Option Addr) (a73n : Nat) (a73c : Nat) (w74 : World), (Builtin.append_ #[80, 80] 80 #[.slice La Ln Lc, .slice (some (blk q)) 1 1]).run Try.prog w70 = .ok (.slice a73a a73n a73c) w74 ∧
  canStore w74 ((a.add 1).add 0) ∧
  thenW (w74.setCell ((a.add 1).add 0) (.slice a73a a73n a73c)) fun w75 =>
  RR (.int .u64 h) w75
theorem tail_ok {w0 : World} {o0 : Own} {p : Nat} (h : ROrcP w o k d R) (s : Step (fun j => j = k) w0 o0 w o) (hl : R.length < 1000000) (hp : w0.heap.size ≤ p) (hp' : o p = some p) (hpk : p ≠ k) (x : PR) (hx : x.ok w o) :
    putTail (fun v w' => ∃ o', v = .int .u64 x.r.h ∧ Step (fun j => j = k) w0 o0 w' o' ∧ ROrc w' o' k d (R.map PR.r ++ [x.r])) w p (blk k) x.r.h x.r.kind x.aA x.r.A.length x.cA x.aB x.r.B.length x.cB x.r.n x.r.m := by
  intro w67 X67
  obtain ⟨o67, s67⟩ := Step.store1 X67 s.ok hp'
  have h67 := h.step s67 (fun e => hpk e.symm)
  have s067 := s.trans' s67 fun j hj => .inr (by omega)
  have hx67 := hx.step s67
  obtain ⟨da, dc, la, lc, h1, h2, h3, h4, h5⟩ := h67.at_
  refine ⟨la, R.length, lc, h1.cella (i := 1) rfl, fun w70 q X70 hq hq1 hq2 => ?_⟩
  have s70 := Step.of_no X70 s067.ok
  have h70 := h67.step s70 id
  have s070 := s067.trans s70.none
  have hx70 := hx67.step s70
  obtain ⟨i, hi, hz, hsz, hby⟩ := info_of inf131
  have hb70 := s70.blk h1 h67.tk id
  obtain ⟨a', c', w74, o74, hr, s74, g74, hkeep, hblk⟩ := (h4.step s70 id).push (ty := 80) Try.underlying80 hi hz hsz hby rfl (by decide) s070.ok h70.lt (xa := some (blk q)) (m := 1) (xc := 1) (news := x.C) rfl (RowAt.of_blk hq) x.one (by omega) (by omega)
  have hb74 : Blk w74 k 82 [.slice da d.length dc, .slice la R.length lc] := by
    unfold Blk at hb70 ⊢
    rw [hkeep k h70.lt fun ad ha e => h5 ad ha e.symm]; exact hb70
  have s074 := s070.trans s74
  refine ⟨hb70.cella (i := 1) rfl, a', _, c', w74, hr, hb74.cana (i := 1) rfl, thenW_in fun w75 e75 => ?_⟩
  have X75 : Ext (fun b => b = k) w74 w75 := (Ext.refl (fun b => b = k) w74).x_set (q := k) (i := 1) rfl (.inl rfl) e75
  have tk74 : o74 k = some k := (s74.own h70.lt).trans h70.tk
  obtain ⟨o75, s75⟩ := Step.store1 X75 s74.ok tk74
  have hk74 : k < w74.heap.size := Nat.lt_of_lt_of_le h70.lt s74.size
  have hne : ∀ ad, a' = some ad → ad.block ≠ k := fun ad ha e => by
    rcases hblk ad ha with ⟨b, hb1, hb2⟩ | hq
    · exact h5 b hb1 (by omega)
    · have := h70.lt; omega
  refine ⟨o75, rfl, s074.trans s75, R ++ [x], by simp, ⟨(s75.own hk74).trans tk74, ⟨da, dc, a', c', ?_, h2, ((h3.step s70).step s74).step s75, ?_, hne⟩, fun y hy => ?_⟩⟩
  · have := hb74.seti 1 rfl e75
    rw [List.length_append]; exact this
  · have := g74.keep X75 (fun ad ha => hne ad ha) (o' := o75) fun b hb => s75.own hb
    rw [List.length_append, show PR.Cs (R ++ [x]) = PR.Cs R ++ x.C by simp [PR.Cs]]; exact this
  · rcases List.mem_append.1 hy with hy | hy
    · exact ((h70.rows y hy).step s74).step s75
    · simp at hy; subst hy; exact (hx70.step s74).step s75
def putLoop (RR : Value → World → Prop) (w : World) (p : Nat) (op : Option Addr) (a : Addr) (rh kind : Int) (aA : Option Addr) (nA cA : Nat) (aB : Option Addr) (nB cB : Nat) (n m : Int) : Prop :=
  ∃ (I2 : Nat → List Value → World → Prop) (m58 : Nat), I2 m58 [.int .u64 1, .int .u64 rh, .int .i64 kind, .slice aA nA cA, .slice aB nB cB, .int .u64 n, .int .u64 m] w ∧ ∀ (m59 : Nat) (ww60 : World) (h51 : Int) (H52 : Int) (Kind53 : Int) (A54a : Option Addr) (A54n : Nat) (A54c : Nat) (B55a : Option Addr) (B55n : Nat) (B55c : Nat) (N56 : Int) (M57 : Int), I2 m59 [.int .u64 h51, .int .u64 H52, .int .i64 Kind53, .slice A54a A54n A54c, .slice B55a B55n B55c, .int .u64 N56, .int .u64 M57] ww60 →
    Calls Try.prog 77 #[.pointer op, .int .u64 h51] ww60 fun ee62 ww63 => ∃ (atv61 : Int), ee62 = .returned (.int .i64 atv61) ∧
    Keep [p] ww60 ww63 ∧
    (atv61 ≥ 0 →
      ∃ m65, m65 < m59 ∧ I2 m65 [.int .u64 (IntKind.u64.wrap (h51 + 1)), .int .u64 H52, .int .i64 Kind53, .slice A54a A54n A54c, .slice B55a B55n B55c, .int .u64 N56, .int .u64 M57] ww63) ∧
    (atv61 < 0 → putTail RR ww63 p a h51 Kind53 A54a A54n A54c B55a B55n B55c N56 M57)
theorem loop_ok {w0 : World} {o0 : Own} {p : Nat} (h : ROrcP w o k d R) (s : Step (fun j => j = k) w0 o0 w o) (hl : R.length < 1000000) (hp : w0.heap.size ≤ p) (hp' : o p = some p) (hpk : p ≠ k) (x : PR) (hx : x.ok w o) :
    putLoop (fun v w' => ∃ o', v = .int .u64 (pickN (R.map fun y => y.r.h) (R.length + 1) 1) ∧ Step (fun j => j = k) w0 o0 w' o' ∧ ROrc w' o' k d (R.map PR.r ++ [{ x.r with h := pickN (R.map fun y => y.r.h) (R.length + 1) 1 }])) w p (some (blk k)) (blk k) x.r.h x.r.kind x.aA x.r.A.length x.cA x.aB x.r.B.length x.cB x.r.n x.r.m := by
  obtain ⟨a1, a2, a3, a4, a5⟩ := pickN_spec (R.map fun y => y.r.h) (R.length + 1) 1 (Int.le_refl _) (gap _ _ _ (by simp))
  generalize pickN (R.map fun y => y.r.h) (R.length + 1) 1 = z at *
  refine ⟨fun q vs w1 => ∃ t : Int, 1 ≤ t ∧ t ≤ z ∧ q = (z - t).toNat ∧ vs = [.int .u64 t, .int .u64 x.r.h, .int .i64 x.r.kind, .slice x.aA x.r.A.length x.cA, .slice x.aB x.r.B.length x.cB, .int .u64 x.r.n, .int .u64 x.r.m] ∧ w1 = w, (z - 1).toNat, ⟨1, Int.le_refl _, a1, rfl, rfl, rfl⟩, ?_⟩
  rintro q w1 t H Kd Aa An Ac Ba Bn Bc Nn Mm ⟨t', ht1, ht2, rfl, hvs, rfl⟩
  simp only [List.cons.injEq, Value.int.injEq, Value.slice.injEq, true_and, and_true] at hvs
  obtain ⟨rfl, rfl, rfl, ⟨rfl, rfl, rfl⟩, ⟨rfl, rfl, rfl⟩, rfl, rfl⟩ := hvs
  refine (at_spec h hl t).mono fun e w63 ⟨he, hw⟩ => ⟨_, he, by subst hw; exact Keep.refl _ _, fun hat => ?_, fun hat => ?_⟩
  · subst hw
    have hm := (atI_mem _ _).1 hat
    rw [List.map_map] at hm
    have hne : t ≠ z := fun e => by subst e; exact a3 hm
    refine ⟨(z - (t + 1)).toNat, by omega, t + 1, by omega, by omega, rfl, ?_, rfl⟩
    rw [wu64 (by omega) (by omega)]
  · subst hw
    have hm : ¬ t ∈ R.map fun y => y.r.h := fun e => by
      have := (atI_mem (R.map PR.r) t).2 (by rw [List.map_map]; exact e)
      omega
    have : t = z := Decidable.byContradiction fun hne => hm (a5 t ht1 (by omega))
    subst this
    exact tail_ok h s hl hp hp' hpk { x with r := { x.r with h := t } } hx
def putR (d : List Int) (L : List RRow) (r : RRow) : Int × List Int × List RRow :=
  ((freshR d (L.map RRow.h)).1, (freshR d (L.map RRow.h)).2, L ++ [{ r with h := (freshR d (L.map RRow.h)).1 }])
def pend (h : Int) (d used : List Int) : Option (Int × List Int) := if h ≠ 0 ∧ h ∉ used then some (h, d) else pickD d used
theorem put_spec (h : ROrc w o k d L) (ok : Tags w o) (hd : ∀ x ∈ d, 0 ≤ x ∧ x < 18446744073709551616) (hl : L.length < 1000000) (x : PR) (hx : x.ok w o) :
    Calls Try.prog 50 #[.pointer (some (blk k)), .agg #[.int .u64 x.r.h, .int .i64 x.r.kind, .slice x.aA x.r.A.length x.cA, .slice x.aB x.r.B.length x.cB, .int .u64 x.r.n, .int .u64 x.r.m]] w
      (Gs (fun j => j = k) w o (.int .u64 (putR d L x.r).1) fun w' o' => ROrc w' o' k (putR d L x.r).2.1 (putR d L x.r).2.2) := by
  obtain ⟨R, rfl, h⟩ := h
  rw [List.length_map] at hl
  refine (cachetteref03_Oracle_put.go _ _ _ _ _ _ _ _ _ _ _ (R := fun v w' => ∃ o', v = .int .u64 (putR d (R.map PR.r) x.r).1 ∧ Step (fun j => j = k) w o w' o' ∧ ROrc w' o' k (putR d (R.map PR.r) x.r).2.1 (putR d (R.map PR.r) x.r).2.2) ?_).mono fun e w' ⟨v, he, o', hv, hw⟩ => ⟨o', by rw [he, hv], hw⟩
  unfold cachetteref03_Oracle_put.N
  intro w8 p9 X8 hp
  obtain ⟨o8, s8, tp8⟩ := Step.priv1 X8 hp ok
  have hp := hp.one
  have hkl := h.lt
  have hpk : p9 ≠ k := by omega
  have hU : (R.map PR.r).map RRow.h = R.map fun y => y.r.h := by rw [List.map_map]; rfl
  refine ⟨fun q vs w1 => ∃ (t : Int) (d1 : List Int) (o1 : Own), vs = [.int .u64 t, .int .u64 x.r.h, .int .i64 x.r.kind, .slice x.aA x.r.A.length x.cA, .slice x.aB x.r.B.length x.cB, .int .u64 x.r.n, .int .u64 x.r.m] ∧ q = d1.length ∧ pend t d1 (R.map fun y => y.r.h) = pickD d (R.map fun y => y.r.h) ∧ (∀ y ∈ d1, 0 ≤ y ∧ y < 18446744073709551616) ∧
      Step (fun j => j = k) w o w1 o1 ∧ ROrcP w1 o1 k d1 R ∧ o1 p9 = some p9 ∧ p9 < w1.heap.size, d.length, ⟨0, d, o8, rfl, rfl, by unfold pend; rw [if_neg (fun h => h.1 rfl)], hd, s8.none, h.step s8 id, tp8, hp.2⟩, ?_⟩
  rintro q w1 t H Kd Aa An Ac Ba Bn Bc Nn Mm ⟨t', d1, o1, hvs, rfl, hpd, hd1, s1, h1, tp1, lp1⟩
  simp only [List.cons.injEq, Value.int.injEq, Value.slice.injEq, true_and, and_true] at hvs
  obtain ⟨rfl, rfl, rfl, ⟨rfl, rfl, rfl⟩, ⟨rfl, rfl, rfl⟩, rfl, rfl⟩ := hvs
  have hx1 := hx.step s1
  obtain ⟨da, dc, la, lc, b1, b2, b3, b4, b5⟩ := id h1.at_
  -- a draw is taken
  have draw : ∀ (y : Int) (r : List Int), d1 = y :: r → ∀ w32, w32 = w1.setCell (((blk k).add 0).add 0) (.slice (cutA da dc 1 1) (d1.length - 1) (dc - 1)) → ∃ o32, Step (fun j => j = k) w o w32 o32 ∧ ROrcP w32 o32 k r R ∧ o32 p9 = some p9 ∧ p9 < w32.heap.size := fun y r hy w32 e32 => by
    subst hy
    have X32 : Ext (fun b => b = k) w1 w32 := (Ext.refl (fun b => b = k) w1).x_set (q := k) (i := 0) rfl (.inl rfl) e32
    obtain ⟨o32, s32⟩ := Step.store1 X32 s1.ok h1.tk
    have hb := b1.seti 0 rfl e32
    refine ⟨o32, s1.trans s32, ⟨(s32.own h1.lt).trans h1.tk, ⟨cutA da dc 1 1, dc - 1, la, lc, hb, by simp at b2; omega, ?_, b4.keep X32 (fun ad ha => b5 ad ha) fun b hb => s32.own hb, b5⟩, fun z hz => (h1.rows z hz).step s32⟩, (s32.own lp1).trans tp1, Nat.lt_of_lt_of_le lp1 s32.size⟩
    have hc := b3.1.cut 1 dc (by rw [List.length_map]; exact b2)
    have e1 : List.drop 1 (List.map u64V (y :: r)) = r.map u64V := rfl
    rw [e1] at hc
    have : Row w1 o1 (cutA da dc 1 1) (r.map u64V) := ⟨hc, fun h0 ad ha => by
      obtain ⟨b, hb, hbb⟩ := cutA_block ha
      rw [← hbb]; exact b3.2 (by simp) b hb⟩
    exact this.step s32
  have hnone : pickD d (R.map fun y => y.r.h) = none → putR d (R.map PR.r) x.r = (pickN (R.map fun y => y.r.h) (R.length + 1) 1, [], R.map PR.r ++ [{ x.r with h := pickN (R.map fun y => y.r.h) (R.length + 1) 1 }]) := fun hn => by
    unfold putR freshR
    rw [hU, hn, List.length_map]
  have hsome : ∀ z r, pickD d (R.map fun y => y.r.h) = some (z, r) → putR d (R.map PR.r) x.r = (z, r, R.map PR.r ++ [{ x.r with h := z }]) := fun z r hn => by
    unfold putR freshR
    rw [hU, hn]
  have hin : ∀ z, 0 ≤ atI (R.map PR.r) z ↔ z ∈ R.map fun y => y.r.h := fun z => by rw [atI_mem, List.map_map]; rfl
  refine ⟨_, rfl, da, d1.length, dc, b1.cella (i := 0) rfl, fun hpos => ⟨fun h0 => ?_, fun h0 => ?_⟩, fun hneg => ⟨fun h0 => ?_, fun h0 => ?_⟩⟩
  · -- none at hand, and draws are left
    subst h0
    cases d1 with
    | nil => simp at hpos
    | cons y r =>
      obtain ⟨ad, ha⟩ := b3.1.addr (by simp)
      have hy := hd1 y (by simp)
      refine ⟨da, _, dc, b1.cella (i := 0) rfl, ad, ha, by omega, y, by subst ha; exact b3.1.at_ (i := 0) rfl, da, _, dc, b1.cella (i := 0) rfl, by simp only [List.length_cons]; omega, b1.cana (i := 0) rfl, fun z hz => by simp at hz; subst hz; exact hpk, thenW_in fun w32 e32 => ?_⟩
      obtain ⟨o32, s32, h32, t32, l32⟩ := draw y r rfl w32 e32
      refine ⟨r.length, by simp, y, r, o32, rfl, rfl, ?_, fun z hz => hd1 z (by simp [hz]), s32, h32, t32, l32⟩
      rw [← hpd, show pend 0 (y :: r) (R.map fun y => y.r.h) = pickD (y :: r) (R.map fun y => y.r.h) from if_neg fun h => h.1 rfl]
      unfold pend
      simp only [pickD]
      by_cases c : y ≠ 0 ∧ y ∉ R.map fun y => y.r.h
      · rw [if_pos c, if_neg (by rintro (h | h); exact c.1 h; exact c.2 h)]
      · rw [if_neg c, if_pos (by by_cases hy0 : y = 0; exact .inl hy0; exact .inr (Decidable.not_not.1 fun h => c ⟨hy0, h⟩))]
  · -- one at hand, and draws are left
    refine (at_spec h1 hl t).mono fun e w36 ⟨he, hw⟩ => ⟨_, he, by subst hw; exact Keep.refl _ _, fun hat => ?_, fun hat => ?_⟩ <;> subst hw
    · have hused := (hin t).1 hat
      cases d1 with
      | nil => simp at hpos
      | cons y r =>
        obtain ⟨ad, ha⟩ := b3.1.addr (by simp)
        refine ⟨da, _, dc, b1.cella (i := 0) rfl, ad, ha, by omega, y, by subst ha; exact b3.1.at_ (i := 0) rfl, da, _, dc, b1.cella (i := 0) rfl, by simp only [List.length_cons]; omega, b1.cana (i := 0) rfl, fun z hz => by simp at hz; subst hz; exact hpk, thenW_in fun w45 e45 => ?_⟩
        obtain ⟨o32, s32, h32, t32, l32⟩ := draw y r rfl w45 e45
        refine ⟨r.length, by simp, y, r, o32, rfl, rfl, ?_, fun z hz => hd1 z (by simp [hz]), s32, h32, t32, l32⟩
        rw [← hpd, show pend t (y :: r) (R.map fun y => y.r.h) = pickD (y :: r) (R.map fun y => y.r.h) from if_neg fun h => h.2 hused]
        unfold pend
        simp only [pickD]
        by_cases c : y ≠ 0 ∧ y ∉ R.map fun y => y.r.h
        · rw [if_pos c, if_neg (by rintro (h | h); exact c.1 h; exact c.2 h)]
        · rw [if_neg c, if_pos (by by_cases hy0 : y = 0; exact .inl hy0; exact .inr (Decidable.not_not.1 fun h => c ⟨hy0, h⟩))]
    · have hfree : t ∉ R.map fun y => y.r.h := fun e => by have := (hin t).2 e; omega
      refine (at_spec h1 hl t).mono fun e w49 ⟨he, hw⟩ => ⟨_, he, by subst hw; exact Keep.refl _ _, fun hat2 => absurd hat2 (by omega), fun _ => ?_⟩
      subst hw
      have : pickD d (R.map fun y => y.r.h) = some (t, d1) := by rw [← hpd]; unfold pend; rw [if_pos ⟨h0, hfree⟩]
      rw [hsome _ _ this]
      exact tail_ok h1 s1 hl hp.1 tp1 hpk { x with r := { x.r with h := t } } hx1
  · -- none at hand, none left
    obtain rfl : d1 = [] := List.eq_nil_of_length_eq_zero (by omega)
    subst h0
    have : pickD d (R.map fun y => y.r.h) = none := by rw [← hpd]; unfold pend; rw [if_neg (fun h => h.1 rfl)]; rfl
    rw [hnone this]
    exact loop_ok h1 s1 hl hp.1 tp1 hpk x hx1
  · -- one at hand, none left
    obtain rfl : d1 = [] := List.eq_nil_of_length_eq_zero (by omega)
    refine (at_spec h1 hl t).mono fun e w36 ⟨he, hw⟩ => ⟨_, he, by subst hw; exact Keep.refl _ _, fun hat => ?_, fun hat => ?_⟩ <;> subst hw
    · have hused := (hin t).1 hat
      have : pickD d (R.map fun y => y.r.h) = none := by rw [← hpd]; unfold pend; rw [if_neg (fun h : t ≠ 0 ∧ t ∉ _ => h.2 hused)]; rfl
      rw [hnone this]
      exact loop_ok h1 s1 hl hp.1 tp1 hpk x hx1
    · have hfree : t ∉ R.map fun y => y.r.h := fun e => by have := (hin t).2 e; omega
      have : pickD d (R.map fun y => y.r.h) = some (t, []) := by rw [← hpd]; unfold pend; rw [if_pos ⟨h0, hfree⟩]
      rw [hsome _ _ this]
      exact tail_ok h1 s1 hl hp.1 tp1 hpk { x with r := { x.r with h := t } } hx1
end
end Go.Proofs.Ytaifegpikhjiiaa

/- The reference's oracle: what its calls answer. -/
set_option linter.unusedVariables false
set_option linter.unusedSimpArgs false
set_option maxRecDepth 20000
namespace Go.Proofs.Ytaifegpikhjiiaa
open Go Go.Mx Go.Proofs
def cachetteref03_Oracle_Pair.M (o1 : Option Addr) (R : Value → World → Prop) (w : World) : Prop :=
 Calls Try.prog 50 #[.pointer o1, .agg #[.int .u64 0, .int .i64 3, .slice none 0 0, .slice none 0 0, .int .u64 0, .int .u64 0]] w fun a2 a3 => ∃ (a0 : Int), a2 = .returned (.int .u64 a0) ∧
 Calls Try.prog 50 #[.pointer o1, .agg #[.int .u64 0, .int .i64 4, .slice none 0 0, .slice none 0 0, .int .u64 a0, .int .u64 0]] a3 fun a4 a5 => ∃ (a1 : Int), a4 = .returned (.int .u64 a1) ∧
 R (.tuple #[.int .u64 a0, .int .u64 a1]) a5

theorem cachetteref03_Oracle_Pair.eq (o1 : Option Addr) (R : Value → World → Prop) (w : World) : mfunc Try.prog [] 22 [.pointer o1] R w = cachetteref03_Oracle_Pair.M o1 R w := by kernel_rfl
theorem cachetteref03_Oracle_Pair.ok (o1 : Option Addr) {R : Value → World → Prop} {w : World} (h : cachetteref03_Oracle_Pair.M o1 R w) : Calls Try.prog 22 #[.pointer o1] w fun e w' => ∃ v, e = .returned v ∧ R v w' :=
  mfunc_ok follows (H := []) (args := [.pointer o1]) (by rw [cachetteref03_Oracle_Pair.eq]; exact h)

def cachetteref03_Oracle_Pair.N (o1 : Option Addr) (R : Value → World → Prop) (w : World) : Prop :=
 Calls Try.prog 50 #[.pointer o1, .agg #[.int .u64 0, .int .i64 3, .slice none 0 0, .slice none 0 0, .int .u64 0, .int .u64 0]] w fun a2 a3 => ∃ (a0 : Int), a2 = .returned (.int .u64 a0) ∧
 Calls Try.prog 50 #[.pointer o1, .agg #[.int .u64 0, .int .i64 4, .slice none 0 0, .slice none 0 0, .int .u64 a0, .int .u64 0]] a3 fun a4 a5 => ∃ (a1 : Int), a4 = .returned (.int .u64 a1) ∧
 R (.tuple #[.int .u64 a0, .int .u64 a1]) a5

theorem cachetteref03_Oracle_Pair.up (o1 : Option Addr) {R : Value → World → Prop} {w : World} (h : cachetteref03_Oracle_Pair.N o1 R w) : cachetteref03_Oracle_Pair.M o1 R w := by
  unfold cachetteref03_Oracle_Pair.M
  unfold cachetteref03_Oracle_Pair.N at h
  refine h.mono fun a2 a3 h => ?_
  obtain ⟨a1, he, h⟩ := h
  refine ⟨a1, he, ?_⟩
  refine h.mono fun a4 a5 h => ?_
  obtain ⟨a0, he, h⟩ := h
  refine ⟨a0, he, ?_⟩
  exact h

theorem cachetteref03_Oracle_Pair.go (o1 : Option Addr) {R : Value → World → Prop} {w : World} (h : cachetteref03_Oracle_Pair.N o1 R w) : Calls Try.prog 22 #[.pointer o1] w fun e w' => ∃ v, e = .returned v ∧ R v w' := cachetteref03_Oracle_Pair.ok o1 (cachetteref03_Oracle_Pair.up o1 h)
def isR (L : List RRow) (x kind : Int) : Option RRow := (L.find? fun r => r.h == x).bind fun r => if r.kind = kind then some r else none
def keyR (d : List Int) (L : List RRow) : Int × List Int × List RRow := putR d L ⟨0, 2, [], [], 0, 0⟩
def pairR (d : List Int) (L : List RRow) : (Int × Int) × List Int × List RRow :=
  let p := putR d L ⟨0, 3, [], [], 0, 0⟩
  let q := putR p.2.1 p.2.2 ⟨0, 4, [], [], p.1, 0⟩
  ((p.1, q.1), q.2)
section
variable {w w' : World} {o o' : Own} {k : Nat} {K : Nat → Prop} {d : List Int} {R : List PR} {L : List RRow}
structure ROk (w : World) (o : Own) (d : List Int) (L : List RRow) : Prop where
  tags : Tags w o
  draws : ∀ x ∈ d, 0 ≤ x ∧ x < 18446744073709551616
  short : L.length < 1000000
  bytes : ∀ r ∈ L, r.A.length < 1000000 ∧ r.B.length < 1000000
theorem freshR_draws {d used : List Int} (hd : ∀ x ∈ d, 0 ≤ x ∧ x < 18446744073709551616) : ∀ x ∈ (freshR d used).2, 0 ≤ x ∧ x < 18446744073709551616 := fun x hx => by
  unfold freshR at hx
  cases hp : pickD d used with
  | none => rw [hp] at hx; simp at hx
  | some q => obtain ⟨a, b⟩ := q; rw [hp] at hx; exact hd x (pickD_rest hp x hx)
theorem putR_len (d : List Int) (L : List RRow) (r : RRow) : (putR d L r).2.2.length = L.length + 1 := by simp [putR]
theorem rPair_spec (h : ROrc w o k d L) (hk : ROk w o d L) (hl : L.length + 1 < 1000000) :
    Calls Try.prog 22 #[.pointer (some (blk k))] w (Gs (fun j => j = k) w o (.tuple #[.int .u64 (pairR d L).1.1, .int .u64 (pairR d L).1.2]) fun w' o' => ROrc w' o' k (pairR d L).2.1 (pairR d L).2.2) := by
  refine (cachetteref03_Oracle_Pair.go _ (R := fun v w' => ∃ o', v = .tuple #[.int .u64 (pairR d L).1.1, .int .u64 (pairR d L).1.2] ∧ Step (fun j => j = k) w o w' o' ∧ ROrc w' o' k (pairR d L).2.1 (pairR d L).2.2) ?_).mono fun e w' ⟨v, he, o', hv, hw⟩ => ⟨o', by rw [he, hv], hw⟩
  unfold cachetteref03_Oracle_Pair.N
  have z : ∀ (w : World) (o : Own) (kd n : Int), PR.ok w o ⟨⟨0, kd, [], [], n, 0⟩, none, 0, none, 0⟩ := fun w o kd n => ⟨Row.nil _ _ _, Row.nil _ _ _, Nat.le_refl _, Nat.le_refl _⟩
  refine (put_spec h hk.tags hk.draws hk.short ⟨⟨0, 3, [], [], 0, 0⟩, none, 0, none, 0⟩ (z _ _ _ _)).mono fun e w4 ⟨o4, he, s4, h4⟩ => ⟨_, he, ?_⟩
  refine (put_spec h4 s4.ok (freshR_draws hk.draws) (by rw [putR_len]; exact hl) ⟨⟨0, 4, [], [], (putR d L ⟨0, 3, [], [], 0, 0⟩).1, 0⟩, none, 0, none, 0⟩ (z _ _ _ _)).mono fun e w7 ⟨o7, he, s7, h7⟩ => ⟨_, he, o7, rfl, s4.trans s7, h7⟩
end
end Go.Proofs.Ytaifegpikhjiiaa

/- The oracle's tables, plainly: what stays true through all calls. -/
set_option linter.unusedVariables false
set_option linter.unusedSimpArgs false
namespace Go.Proofs.Ytaifegpikhjiiaa
open Go Go.Mx Go.Proofs
structure OInv (S : OS) : Prop where
  ok : S.ok
  rng : ∀ x ∈ S.used, 0 < x ∧ (x < 18446744073709551616 ∨ x ≤ 2 * S.used.length)
  hu : ∀ b h, alook S.hashes b = some h → h ∈ S.used
  hi : ∀ b c h, alook S.hashes b = some h → alook S.hashes c = some h → b = c
  sg : ∀ q x, alook S.signs q = some x → alook S.signed x = some q
  gs : ∀ x q, alook S.signed x = some q → alook S.signs q = some x
  su : ∀ x q, alook S.signed x = some q → x ∈ S.used
  pu : ∀ p s, alook S.publics p = some s → p ∈ S.used
  ps : ∀ p s, alook S.publics p = some s → s ∈ S.secrets
  eu : ∀ s ∈ S.secrets, s ∈ S.used
theorem OInv.fit {S : OS} (h : OInv S) (hl : S.used.length < 1000000000) {x : Int} (hx : x ∈ S.used) : 0 ≤ x ∧ x < 18446744073709551616 := by
  have := h.rng x hx
  omega
theorem fresh_rng {S : OS} (h : S.ok) : 0 < (freshOf S).1 ∧ ((freshOf S).1 < 18446744073709551616 ∨ (freshOf S).1 ≤ 2 * ((S.used.length : Int) + 1)) := by
  obtain ⟨h1, h2, h3, h4⟩ := h
  unfold freshOf
  cases hp : pickD S.draws S.used with
  | some q =>
    obtain ⟨x, r⟩ := q
    obtain ⟨a, b, c⟩ := pickD_spec hp
    have := h4 x c
    exact ⟨by show 0 < x; omega, .inl this.2⟩
  | none =>
    obtain ⟨a, b, c, d, e⟩ := pickN_spec S.used (S.used.length + 1) S.next h1 (gap S.used _ _ (by omega))
    exact ⟨by show 0 < pickN _ _ _; omega, .inr (by show pickN _ _ _ ≤ _; omega)⟩
structure OS.le (S S' : OS) : Prop where
  hashes : ∀ b h, alook S.hashes b = some h → alook S'.hashes b = some h
  signs : ∀ q x, alook S.signs q = some x → alook S'.signs q = some x
  signed : ∀ x q, alook S.signed x = some q → alook S'.signed x = some q
  publics : ∀ p s, alook S.publics p = some s → alook S'.publics p = some s
  secrets : ∀ s ∈ S.secrets, s ∈ S'.secrets
  used : ∀ x ∈ S.used, x ∈ S'.used
theorem OInv.init {l : List Int} (hl : ∀ d ∈ l, 0 ≤ d ∧ d < 18446744073709551616) : OInv (OS.init l) :=
  ⟨OS.init_ok l hl, fun x h => by simp [OS.init] at h, fun b h e => by simp [OS.init, alook] at e, fun b c h e => by simp [OS.init, alook] at e, fun q x e => by simp [OS.init, alook] at e, fun x q e => by simp [OS.init, alook] at e,
    fun x q e => by simp [OS.init, alook] at e, fun p s e => by simp [OS.init, alook] at e, fun p s e => by simp [OS.init, alook] at e, fun s h => by simp [OS.init] at h⟩
theorem fresh_inv {S : OS} (h : OInv S) : OInv (freshOf S).2 ∧ OS.le S (freshOf S).2 ∧ (freshOf S).1 ∉ S.used ∧ (freshOf S).1 ∈ (freshOf S).2.used ∧ (freshOf S).1 ≠ 0 := by
  obtain ⟨a1, a2, a3, a4⟩ := freshOf_spec h.ok
  obtain ⟨c1, c2, c3, c4, c5, c6, c7, c8⟩ := freshOf_frame S
  have hsub : ∀ x ∈ S.used, x ∈ (freshOf S).2.used := fun x hx => by rw [a3]; simp [hx]
  refine ⟨⟨a4, fun x hx => ?_, fun b k e => hsub _ (h.hu b k (by rw [← c1]; exact e)), fun b c k e1 e2 => h.hi b c k (by rw [← c1]; exact e1) (by rw [← c1]; exact e2), fun q x e => ?_, fun x q e => ?_, fun x q e => ?_, fun p s e => ?_, fun p s e => ?_, fun s hs => ?_⟩,
    ⟨fun b k e => by rw [c1]; exact e, fun q x e => by rw [c5]; exact e, fun x q e => by rw [c6]; exact e, fun p s e => by rw [c4]; exact e, fun s hs => by rw [c3]; exact hs, hsub⟩, a2, by rw [a3]; simp, a1⟩
  · have hl : (freshOf S).2.used.length = S.used.length + 1 := by rw [a3]; simp
    rw [hl]
    rw [a3] at hx
    rcases List.mem_append.1 hx with hx | hx
    · have := h.rng x hx; omega
    · simp at hx; rw [hx]; have := fresh_rng h.ok; omega
  · rw [c5] at e; rw [c6]; exact h.sg q x e
  · rw [c6] at e; rw [c5]; exact h.gs x q e
  · rw [c6] at e; exact hsub _ (h.su x q e)
  · rw [c4] at e; exact hsub _ (h.pu p s e)
  · rw [c4] at e; rw [c3]; exact h.ps p s e
  · rw [c3] at hs; exact hsub _ (h.eu s hs)
theorem badd_mem {l : List Int} {x y : Int} : y ∈ badd l x ↔ y ∈ l ∨ y = x := by
  unfold badd
  split
  · constructor
    · exact .inl
    · rintro (h | rfl)
      · exact h
      · assumption
  · simp
theorem pair_inv {S : OS} (h : OInv S) : OInv (pairOf S).2 ∧ OS.le S (pairOf S).2 ∧ alook (pairOf S).2.publics (pairOf S).1.2 = some (pairOf S).1.1 ∧ (pairOf S).1.1 ∈ (pairOf S).2.secrets ∧ (pairOf S).1.2 ∉ (pairOf S).2.secrets ∧ (pairOf S).1.1 ∉ S.secrets ∧
    (pairOf S).2.hashes = S.hashes ∧ (pairOf S).2.signs = S.signs ∧ (pairOf S).2.signed = S.signed := by
  obtain ⟨a1, a2, a3, a4, a5, a6, a7, a8, a9, a10, a11, a12, a13, a14⟩ := pairOf_spec h.ok
  obtain ⟨k1, _⟩ := pairOf_ok h.ok
  have hsub : ∀ x ∈ S.used, x ∈ (pairOf S).2.used := fun x hx => by rw [a6]; simp [hx]
  have hl : ∀ c k, alook (pairOf S).2.publics c = some k → ((pairOf S).1.2 = c ∧ k = (pairOf S).1.1) ∨ alook S.publics c = some k := fun c k e => by
    rw [a8, alook_put] at e
    split at e
    · rename_i hbc; cases e; exact .inl ⟨hbc, rfl⟩
    · exact .inr e
  have hall : ∀ x ∈ (pairOf S).2.used, 0 < x ∧ (x < 18446744073709551616 ∨ x ≤ 2 * ((pairOf S).2.used.length : Int)) := fun x hx => by
    have h5 : OS.ok { (freshOf S).2 with secrets := badd S.secrets (freshOf S).1 } := (freshOf_spec h.ok).2.2.2
    have r1 := fresh_rng h.ok
    have r2 : 0 < (pairOf S).1.2 ∧ ((pairOf S).1.2 < 18446744073709551616 ∨ (pairOf S).1.2 ≤ 2 * (((freshOf S).2.used.length : Int) + 1)) := fresh_rng h5
    have r3 : (freshOf S).2.used.length = S.used.length + 1 := by rw [(freshOf_spec h.ok).2.2.1]; simp
    have r4 : (pairOf S).2.used.length = S.used.length + 2 := by rw [a6]; simp
    rw [r4]
    rw [a6] at hx
    rcases List.mem_append.1 hx with hx | hx
    · rcases List.mem_append.1 hx with hx | hx
      · have := h.rng x hx; omega
      · simp at hx; rw [hx]; show 0 < (freshOf S).1 ∧ ((freshOf S).1 < _ ∨ (freshOf S).1 ≤ _); omega
    · simp at hx; rw [hx]; omega
  refine ⟨⟨k1, hall, fun b k e => hsub _ (h.hu b k (by rw [← a9]; exact e)), fun b c k e1 e2 => h.hi b c k (by rw [← a9]; exact e1) (by rw [← a9]; exact e2), fun q x e => by rw [a11] at e; rw [a12]; exact h.sg q x e, fun x q e => by rw [a12] at e; rw [a11]; exact h.gs x q e,
    fun x q e => by rw [a12] at e; exact hsub _ (h.su x q e), fun p s e => ?_, fun p s e => ?_, fun s hs => ?_⟩, ⟨fun b k e => by rw [a9]; exact e, fun q x e => by rw [a11]; exact e, fun x q e => by rw [a12]; exact e, fun p s e => ?_, fun s hs => by rw [a7, badd_mem]; exact .inl hs, hsub⟩, ?_, by rw [a7, badd_mem]; exact .inr rfl, fun hs => ?_, fun hs => a3 (h.eu _ hs), a9, a11, a12⟩
  · rcases hl p s e with ⟨rfl, _⟩ | e
    · rw [a6]; simp
    · exact hsub _ (h.pu p s e)
  · rw [a7, badd_mem]
    rcases hl p s e with ⟨_, rfl⟩ | e
    · exact .inr rfl
    · exact .inl (h.ps p s e)
  · rw [a7, badd_mem] at hs
    rcases hs with hs | rfl
    · exact hsub _ (h.eu s hs)
    · rw [a6]; simp
  · rw [a8, alook_put, if_neg (fun e' => a4 (by rw [e']; exact h.pu p s e))]; exact e
  · rw [a8, alook_put, if_pos rfl]
  · rw [a7, badd_mem] at hs
    rcases hs with hs | hs
    · exact a4 (h.eu _ hs)
    · exact a5 hs.symm
end Go.Proofs.Ytaifegpikhjiiaa

/- The two oracles side by side: tables against rows. -/
set_option linter.unusedVariables false
set_option linter.unusedSimpArgs false
namespace Go.Proofs.Ytaifegpikhjiiaa
open Go Go.Mx Go.Proofs
theorem ex_add {L : List RRow} {r0 : RRow} {f : RRow → Prop} : (∃ r ∈ L ++ [r0], f r) ↔ (∃ r ∈ L, f r) ∨ f r0 := by
  constructor
  · rintro ⟨r, hr, h⟩
    rcases List.mem_append.1 hr with hr | hr
    · exact .inl ⟨r, hr, h⟩
    · simp at hr; subst hr; exact .inr h
  · rintro (⟨r, hr, h⟩ | h)
    · exact ⟨r, List.mem_append_left _ hr, h⟩
    · exact ⟨r0, by simp, h⟩
theorem ex_no {L : List RRow} {r0 : RRow} {f : RRow → Prop} (h : ¬ f r0) : (∃ r ∈ L ++ [r0], f r) ↔ ∃ r ∈ L, f r := by
  rw [ex_add]; exact ⟨fun h' => h'.resolve_right h, .inl⟩
theorem alook_new {κ β : Type} [DecidableEq κ] {T : List (κ × β)} {k c : κ} {v y : β} (h : alook T k = none) : alook (aput T k v) c = some y ↔ alook T c = some y ∨ (k = c ∧ v = y) := by
  rw [alook_put]
  by_cases hc : k = c
  · subst hc; rw [if_pos rfl, h]; simp
  · rw [if_neg hc]; simp [hc]
structure Sim (S : OS) (d : List Int) (L : List RRow) : Prop where
  ok : S.ok
  dr : S.draws = d
  us : S.used = L.map RRow.h
  nd : (L.map RRow.h).Nodup
  nz : ∀ r ∈ L, r.h ≠ 0
  hs : ∀ b x, alook S.hashes b = some x ↔ ∃ r ∈ L, r.kind = 1 ∧ r.A = b ∧ r.h = x
  ky : ∀ k, k ∈ S.keys ↔ ∃ r ∈ L, r.kind = 2 ∧ r.h = k
  sc : ∀ s, s ∈ S.secrets ↔ ∃ r ∈ L, r.kind = 3 ∧ r.h = s
  pb : ∀ p s, alook S.publics p = some s ↔ ∃ r ∈ L, r.kind = 4 ∧ r.h = p ∧ r.n = s
  sg : ∀ q x, alook S.signs q = some x ↔ ∃ r ∈ L, r.kind = 5 ∧ (r.n, r.A) = q ∧ r.h = x
  sd : ∀ x q, alook S.signed x = some q ↔ ∃ r ∈ L, r.kind = 5 ∧ (r.n, r.A) = q ∧ r.h = x
  se : ∀ x q, alook S.sealed x = some q ↔ ∃ r ∈ L, r.kind = 6 ∧ r.h = x ∧ q = ⟨r.n, r.A, r.B⟩
  wr : ∀ x q, alook S.wrapped x = some q ↔ ∃ r ∈ L, r.kind = 7 ∧ r.h = x ∧ (r.n, r.m) = q
theorem Sim.init {l : List Int} (hl : ∀ d ∈ l, 0 ≤ d ∧ d < 18446744073709551616) : Sim (OS.init l) l [] := by
  refine ⟨OS.init_ok l hl, rfl, rfl, by simp, by simp, ?_, ?_, ?_, ?_, ?_, ?_, ?_, ?_⟩ <;> simp [OS.init, alook]
section
variable {S : OS} {d : List Int} {L : List RRow}
theorem Sim.mem_used (h : Sim S d L) {r : RRow} (hr : r ∈ L) : r.h ∈ S.used := by rw [h.us]; exact List.mem_map_of_mem hr
theorem Sim.fresh (h : Sim S d L) (r : RRow) : (putR d L r).1 = (freshOf S).1 ∧ (putR d L r).2.1 = (freshOf S).2.draws := by
  obtain ⟨h1, h2, h3, h4⟩ := h.ok
  unfold putR freshOf freshR
  rw [← h.us, ← h.dr]
  cases hp : pickD S.draws S.used with
  | some q => exact ⟨rfl, rfl⟩
  | none =>
    refine ⟨?_, rfl⟩
    obtain ⟨a1, a2, a3, a4, a5⟩ := pickN_spec S.used (S.used.length + 1) S.next h1 (gap S.used _ _ (by omega))
    obtain ⟨b1, b2, b3, b4, b5⟩ := pickN_spec S.used (S.used.length + 1) 1 (Int.le_refl _) (gap S.used _ _ (by omega))
    show pickN S.used (S.used.length + 1) 1 = pickN S.used (S.used.length + 1) S.next
    generalize pickN S.used (S.used.length + 1) 1 = x at *
    generalize pickN S.used (S.used.length + 1) S.next = y at *
    rcases Int.lt_trichotomy x y with c | c | c
    · exfalso
      by_cases hx : x < S.next
      · exact b3 (h2 x b1 hx)
      · exact b3 (a5 x (by omega) c)
    · exact c
    · exact absurd (b5 y (by omega) c) a3
theorem Sim.put (h : Sim S d L) (r : RRow) : (freshOf S).2.ok ∧ (freshOf S).2.draws = (putR d L r).2.1 ∧ (freshOf S).2.used = (putR d L r).2.2.map RRow.h ∧ ((putR d L r).2.2.map RRow.h).Nodup ∧ (∀ z ∈ (putR d L r).2.2, z.h ≠ 0) ∧
    (putR d L r).2.2 = L ++ [{ r with h := (freshOf S).1 }] ∧ (∀ z ∈ L, z.h ≠ (freshOf S).1) := by
  obtain ⟨a1, a2, a3, a4⟩ := freshOf_spec h.ok
  obtain ⟨b1, b2⟩ := h.fresh r
  have e : (putR d L r).2.2 = L ++ [{ r with h := (freshOf S).1 }] := by rw [← b1]; rfl
  have hne : ∀ z ∈ L, z.h ≠ (freshOf S).1 := fun z hz he => a2 (he ▸ h.mem_used hz)
  refine ⟨a4, b2.symm, by rw [a3, e, h.us]; simp, ?_, ?_, e, hne⟩
  · rw [e, List.map_append, List.nodup_append]
    refine ⟨h.nd, by simp, fun a ha b hb => ?_⟩
    obtain ⟨z, hz, rfl⟩ := List.mem_map.1 ha
    simp at hb; subst hb; exact hne z hz
  · rw [e]
    intro z hz
    rcases List.mem_append.1 hz with hz | hz
    · exact h.nz z hz
    · simp at hz; subst hz; exact a1
theorem new_none {κ β : Type} [DecidableEq κ] {T : List (κ × β)} {k : κ} (h : ∀ y, ¬ alook T k = some y) : alook T k = none := by
  cases hk : alook T k with
  | none => rfl
  | some y => exact absurd hk (h y)
theorem key_sim (h : Sim S d L) : (keyR d L).1 = (keyOf S).1 ∧ Sim (keyOf S).2 (keyR d L).2.1 (keyR d L).2.2 := by
  unfold keyR keyOf
  obtain ⟨a1, a2, a3, a4, a5, a6, a7⟩ := h.put ⟨0, 2, [], [], 0, 0⟩
  obtain ⟨c1, c2, c3, c4, c5, c6, c7, c8⟩ := freshOf_frame S
  refine ⟨(h.fresh _).1, ⟨a1, a2, a3, a4, a5, fun c x => ?_, fun k => ?_, fun s => ?_, fun p s => ?_, fun q x => ?_, fun x q => ?_, fun x q => ?_, fun x q => ?_⟩⟩ <;> simp only [a6]
  · rw [c1, h.hs, ex_no (by simp)]
  · rw [badd_mem, h.ky, ex_add]; simp [eq_comm]
  · rw [c3, h.sc, ex_no (by simp)]
  · rw [c4, h.pb, ex_no (by simp)]
  · rw [c5, h.sg, ex_no (by simp)]
  · rw [c6, h.sd, ex_no (by simp)]
  · rw [c7, h.se, ex_no (by simp)]
  · rw [c8, h.wr, ex_no (by simp)]
theorem sec_sim (h : Sim S d L) : (putR d L ⟨0, 3, [], [], 0, 0⟩).1 = (freshOf S).1 ∧ Sim { (freshOf S).2 with secrets := badd S.secrets (freshOf S).1 } (putR d L ⟨0, 3, [], [], 0, 0⟩).2.1 (putR d L ⟨0, 3, [], [], 0, 0⟩).2.2 := by
  obtain ⟨a1, a2, a3, a4, a5, a6, a7⟩ := h.put ⟨0, 3, [], [], 0, 0⟩
  obtain ⟨c1, c2, c3, c4, c5, c6, c7, c8⟩ := freshOf_frame S
  refine ⟨(h.fresh _).1, ⟨a1, a2, a3, a4, a5, fun c x => ?_, fun k => ?_, fun s => ?_, fun p s => ?_, fun q x => ?_, fun x q => ?_, fun x q => ?_, fun x q => ?_⟩⟩ <;> simp only [a6]
  · rw [c1, h.hs, ex_no (by simp)]
  · rw [c2, h.ky, ex_no (by simp)]
  · rw [badd_mem, h.sc, ex_add]; simp [eq_comm]
  · rw [c4, h.pb, ex_no (by simp)]
  · rw [c5, h.sg, ex_no (by simp)]
  · rw [c6, h.sd, ex_no (by simp)]
  · rw [c7, h.se, ex_no (by simp)]
  · rw [c8, h.wr, ex_no (by simp)]
theorem pair_sim (h : Sim S d L) : (pairR d L).1 = (pairOf S).1 ∧ Sim (pairOf S).2 (pairR d L).2.1 (pairR d L).2.2 := by
  obtain ⟨e1, h1⟩ := sec_sim h
  unfold pairR pairOf
  simp only []
  rw [e1]
  generalize putR d L ⟨0, 3, [], [], 0, 0⟩ = P at *
  obtain ⟨a1, a2, a3, a4, a5, a6, a7⟩ := h1.put ⟨0, 4, [], [], (freshOf S).1, 0⟩
  obtain ⟨c1, c2, c3, c4, c5, c6, c7, c8⟩ := freshOf_frame S
  obtain ⟨d1, d2, d3, d4, d5, d6, d7, d8⟩ := freshOf_frame { (freshOf S).2 with secrets := badd S.secrets (freshOf S).1 }
  have e2 := (h1.fresh ⟨0, 4, [], [], (freshOf S).1, 0⟩).1
  refine ⟨by rw [e2], ⟨a1, a2, a3, a4, a5, fun c x => ?_, fun k => ?_, fun s => ?_, fun p s => ?_, fun q x => ?_, fun x q => ?_, fun x q => ?_, fun x q => ?_⟩⟩ <;> simp only [a6]
  · rw [d1, h1.hs, ex_no (by simp)]
  · rw [d2, h1.ky, ex_no (by simp)]
  · rw [d3, h1.sc, ex_no (by simp)]
  · have hpb : alook S.publics p = some s ↔ _ := (by rw [congrArg (fun t => alook t p) c4.symm] : alook S.publics p = some s ↔ alook (freshOf S).2.publics p = some s).trans (h1.pb p s)
    rw [alook_new (new_none fun y hy => ?_), hpb, ex_add]
    · simp
    · have hy := (congrArg (fun t => alook t _) c4).trans hy
      obtain ⟨r, q1, q2, q3, q4⟩ := (h1.pb _ _).1 hy
      exact a7 r q1 q3
  · rw [d5, h1.sg, ex_no (by simp)]
  · rw [d6, h1.sd, ex_no (by simp)]
  · rw [d7, h1.se, ex_no (by simp)]
  · rw [d8, h1.wr, ex_no (by simp)]
end
end Go.Proofs.Ytaifegpikhjiiaa

/- Classes of lengths, numbers in eight bytes; what sealing, opening, wrapping and unwrapping do. -/
set_option linter.unusedVariables false
set_option linter.unusedSimpArgs false
namespace Go.Proofs.Ytaifegpikhjiiaa
open Go Go.Mx Go.Proofs

def roomN (c : Nat) : Int := if (16 * 2 ^ c : Int) - 1 ≥ 128 then (16 * 2 ^ c : Int) - 2 else (16 * 2 ^ c : Int) - 1
def classF (n : Int) : Nat → Nat → Int
  | 0, t => -1
  | k + 1, t => if n ≤ roomN t then (t : Int) else classF n k (t + 1)
def classOf (n : Nat) : Int := classF n 7 0
def sizeN (c : Int) : Nat := if 0 ≤ c ∧ c < 7 then 16 * 2 ^ c.toNat else 0
theorem seven {P : Nat → Prop} {t : Nat} (h : t < 7) (h0 : P 0) (h1 : P 1) (h2 : P 2) (h3 : P 3) (h4 : P 4) (h5 : P 5) (h6 : P 6) : P t := by
  match t, h with
  | 0, _ => exact h0
  | 1, _ => exact h1
  | 2, _ => exact h2
  | 3, _ => exact h3
  | 4, _ => exact h4
  | 5, _ => exact h5
  | 6, _ => exact h6
theorem sizeN_le (c : Int) : sizeN c ≤ 1024 := by
  unfold sizeN
  split
  · rename_i h
    obtain ⟨t, rfl⟩ : ∃ t : Nat, c = t := ⟨c.toNat, by omega⟩
    have ht : t < 7 := by omega
    rw [Int.toNat_natCast]
    exact seven (P := fun t => 16 * 2 ^ t ≤ 1024) ht (by decide) (by decide) (by decide) (by decide) (by decide) (by decide) (by decide)
  · omega

section
variable {w w' : World} {g : OG} {S : OS}
theorem size_spec (c : Int) : Calls Try.prog 84 #[.int .i64 c] w (Gives (.int .i64 (sizeN c)) fun w' => w' = w) := by
  refine (bsize.ok _ (R := fun v w' => v = .int .i64 (sizeN c) ∧ w' = w) ?_).mono fun e w' ⟨v, he, hv, hw⟩ => ⟨by rw [he, hv], hw⟩
  unfold bsize.M
  by_cases h1 : c < 0
  · rw [decide_eq_true h1]
    have : sizeN c = 0 := by unfold sizeN; rw [if_neg (by omega)]
    rw [this]; exact ⟨rfl, rfl⟩
  rw [decide_eq_false h1, cond_false]
  by_cases h2 : c ≥ 7
  · rw [decide_eq_true h2]
    have : sizeN c = 0 := by unfold sizeN; rw [if_neg (by omega)]
    rw [this]; exact ⟨rfl, rfl⟩
  rw [decide_eq_false h2, cond_false]
  refine ⟨by omega, ?_, rfl⟩
  obtain ⟨t, rfl⟩ : ∃ t : Nat, c = t := ⟨c.toNat, by omega⟩
  have ht : t < 7 := by omega
  clear h1 h2
  exact seven (P := fun t => Value.int IntKind.i64 (IntKind.i64.wrap (16 * 2 ^ min (Int.toNat (t : Int)) (IntKind.bits .i64))) = Value.int IntKind.i64 (sizeN (t : Int))) ht rfl rfl rfl rfl rfl rfl rfl
theorem Size_spec (c : Int) : Calls Try.prog 61 #[.int .i64 c] w (Gives (.int .i64 (sizeN c)) fun w' => w' = w) := by
  refine (bSize.ok _ (R := fun v w' => v = .int .i64 (sizeN c) ∧ w' = w) ?_).mono fun e w' ⟨v, he, hv, hw⟩ => ⟨by rw [he, hv], hw⟩
  unfold bSize.M
  exact (size_spec c).mono fun e w4 ⟨he, hw⟩ => ⟨_, he, rfl, hw⟩
theorem room_spec {t : Nat} (ht : t < 7) : Calls Try.prog 83 #[.int .i64 t] w (Gives (.int .i64 (roomN t)) fun w' => w' = w) := by
  refine (broom.ok _ (R := fun v w' => v = .int .i64 (roomN t) ∧ w' = w) ?_).mono fun e w' ⟨v, he, hv, hw⟩ => ⟨by rw [he, hv], hw⟩
  unfold broom.M
  refine (size_spec t).mono fun e w4 ⟨he, hw⟩ => ⟨_, he, ?_⟩
  subst hw
  clear he
  exact seven (P := fun t => bif decide (IntKind.i64.wrap ((sizeN (t : Int) : Int) - 1) ≥ 128) then (Value.int IntKind.i64 (IntKind.i64.wrap (IntKind.i64.wrap ((sizeN (t : Int) : Int) - 1) - 1)) = Value.int IntKind.i64 (roomN t) ∧ w4 = w4) else
    (Value.int IntKind.i64 (IntKind.i64.wrap ((sizeN (t : Int) : Int) - 1)) = Value.int IntKind.i64 (roomN t) ∧ w4 = w4)) ht ⟨rfl, rfl⟩ ⟨rfl, rfl⟩ ⟨rfl, rfl⟩ ⟨rfl, rfl⟩ ⟨rfl, rfl⟩ ⟨rfl, rfl⟩ ⟨rfl, rfl⟩
theorem Class_spec (n : Nat) : Calls Try.prog 60 #[.int .i64 n] w (Gives (.int .i64 (classOf n)) fun w' => w' = w) := by
  refine (bClass.ok _ (R := fun v w' => v = .int .i64 (classOf n) ∧ w' = w) ?_).mono fun e w' ⟨v, he, hv, hw⟩ => ⟨by rw [he, hv], hw⟩
  unfold bClass.M
  refine ⟨fun k vs w1 => ∃ t : Nat, vs = [.int .i64 t] ∧ k + t = 7 ∧ classF n k t = classOf n ∧ w1 = w, 7, ⟨0, rfl, rfl, rfl, rfl⟩, ?_⟩
  rintro k w1 i ⟨t, hi, hk, hc, rfl⟩
  simp only [List.cons.injEq, Value.int.injEq, true_and, and_true] at hi
  subst hi
  cases k with
  | zero =>
    obtain rfl : t = 7 := by omega
    exact ⟨by rw [← hc]; rfl, rfl⟩
  | succ k =>
    have ht : t < 7 := by omega
    rw [show decide ((t : Int) < 7) = true by simp; omega, cond_true, show decide ((n : Int) ≥ 0) = true by simp, cond_true]
    refine (room_spec ht).mono fun e w8 ⟨he, hw⟩ => ⟨_, he, ?_⟩
    subst hw
    simp only [classF] at hc
    by_cases hr : (n : Int) ≤ roomN t
    · rw [if_pos hr] at hc
      rw [decide_eq_true hr, cond_true]
      exact ⟨by rw [hc], rfl⟩
    · rw [if_neg hr] at hc
      rw [decide_eq_false hr, cond_false]
      exact ⟨k, by omega, t + 1, by rw [w64 (by omega) (by omega)]; rfl, by omega, hc, rfl⟩
theorem box_spec {h : Nat} (hh : h < 18446744073709551616) {more : Nat} (hm : more ≤ 100000) :
    Calls Try.prog 59 #[.int .u64 h, .int .i64 more] w (fun e w' => ∃ a', e = .returned (.slice a' (boxL h more).length (boxL h more).length) ∧ RowAt w' a' (bytesV (boxL h more)) ∧ Ext no w w' ∧ Fresh w w' a') := by
  refine (oBox.ok _ _ (R := fun v w' => ∃ a', v = .slice a' (boxL h more).length (boxL h more).length ∧ RowAt w' a' (bytesV (boxL h more)) ∧ Ext no w w' ∧ Fresh w w' a') ?_).mono fun e w' ⟨v, he, a', hv, hw⟩ => ⟨a', by rw [he, hv], hw⟩
  unfold oBox.M
  obtain ⟨i, hi, hz, hs, hb⟩ := info_of inf5
  have hmk := run_makeSlice (P := Try.prog) (w := w) 29 5 i _ Try.underlying29 hi hz .i64 .i64 (8 + more) (8 + more) (by omega) (Int.le_refl _) (by rw [hs]; omega) (by rw [hb]; omega) (by omega)
  have e8 : IntKind.i64.wrap ((8 : Int) + more) = 8 + more := w64 (by omega) (by omega)
  rw [e8]
  rw [hs, show ((8 : Int) + more).toNat = 8 + more by omega] at hmk
  have hcells : (madeCells (Value.int .u8 0).cells ((8 + more) * 1)) = (bytesV (boxT h more 0)).toArray := by
    apply Array.ext'
    rw [show (Value.int .u8 0).cells = #[Value.int .u8 0] from rfl, toList_madeCells_one, Nat.mul_one]
    show _ = bytesV (boxT h more 0)
    rw [show boxT h more 0 = List.replicate 8 0 ++ List.replicate more 0 from rfl, List.replicate_append_replicate, bytesV, List.map_replicate]
    rfl
  rw [hcells] at hmk
  refine ⟨_, _, _, _, hmk, ?_⟩
  have hb0 := Blk.new w 5 (bytesV (boxT h more 0))
  refine ⟨fun k vs w1 => ∃ t : Nat, vs = [.int .i64 t] ∧ k + t = 8 ∧ Blk w1 w.heap.size 5 (bytesV (boxT h more t)) ∧ Ext no w w1, 8, ⟨0, rfl, rfl, hb0, (Ext.refl _ _).alloc _⟩, ?_⟩
  rintro k w1 i ⟨t, hi, hk, hbt, hx⟩
  simp only [List.cons.injEq, Value.int.injEq, true_and, and_true] at hi
  subst hi
  cases k with
  | zero =>
    obtain rfl : t = 8 := by omega
    refine ⟨some ⟨w.heap.size, 0, none⟩, ?_, RowAt.of_blk hbt, hx, fun ad ha => ?_⟩
    · rw [boxL_length]
    · cases ha; exact ⟨Nat.le_refl _, hbt.lt⟩
  | succ k =>
    have ht : t < 8 := by omega
    rw [show decide ((t : Int) < 8) = true by simp; omega, cond_true]
    have e1 : IntKind.i64.wrap ((56 : Int) - IntKind.i64.wrap (8 * (t : Int))) = ((56 - 8 * t : Nat) : Int) := by
      rw [w64 (n := 8 * (t : Int)) (by omega) (by omega), w64 (n := 56 - 8 * (t : Int)) (by omega) (by omega)]; omega
    rw [e1]
    refine ⟨by omega, by omega, by omega, ?_, ?_⟩
    · rw [show ((⟨w.heap.size, 0, none⟩ : Addr).add (Int.toNat (t : Int) * 1)).add 0 = (blk w.heap.size).add t by rw [add_zero, Int.toNat_natCast, Nat.mul_one]]
      exact hbt.cana (v := ((bytesV (boxT h more t))[t]?).getD .nilIface) (by
        rw [List.getElem?_eq_getElem (by rw [bytesV_length, boxT_length]; omega)]; rfl)
    · refine thenW_in fun w10 h10 => ⟨k, by omega, t + 1, ?_, by omega, ?_, ?_⟩
      · rw [w64 (by omega) (by omega)]; rfl
      · have hset := hbt.seta t (.int .u8 (IntKind.u8.wrap (Int.fdiv (h : Int) (2 ^ (min (Int.toNat ((56 - 8 * t : Nat) : Int)) (IntKind.bits .u64))))))
        rw [show ((⟨w.heap.size, 0, none⟩ : Addr).add (Int.toNat (t : Int) * 1)).add 0 = (blk w.heap.size).add t by rw [add_zero, Int.toNat_natCast, Nat.mul_one]] at h10
        rw [← h10] at hset
        have hv : IntKind.u8.wrap (Int.fdiv (h : Int) (2 ^ (min (Int.toNat ((56 - 8 * t : Nat) : Int)) (IntKind.bits .u64)))) = ((byteAt h t).toNat : Int) := by
          rw [byteAt_toNat, IntKind.wrap_u8, Int.toNat_natCast, show min (56 - 8 * t) (IntKind.bits .u64) = 56 - 8 * t by rw [show IntKind.bits .u64 = 64 from rfl]; omega,
            Int.fdiv_eq_ediv_of_nonneg _ (Int.le_of_lt (Int.pow_pos (by decide))), Int.natCast_emod, Int.natCast_ediv, Int.natCast_pow]
          rfl
        rw [hv] at hset
        have hl : (bytesV (boxT h more t)).set t (.int .u8 ((byteAt h t).toNat : Int)) = bytesV (boxT h more (t + 1)) := by
          clear hset hv h10 e1 hbt hk hmk hcells
          match t, ht with
          | 0, _ => rfl
          | 1, _ => rfl
          | 2, _ => rfl
          | 3, _ => rfl
          | 4, _ => rfl
          | 5, _ => rfl
          | 6, _ => rfl
          | 7, _ => rfl
        rw [hl] at hset
        exact hset
      · rw [h10]; exact hx.setCell (.inr (by rw [block_add, block_add]; exact Nat.le_refl _)) _

theorem cf_spec {a : Option Addr} {c : Nat} {bs : List UInt8} (h : RowAt w a (bytesV bs)) (hl : bs.length < 1000000) :
    Calls Try.prog 70 #[.slice a bs.length c, .func (.func 71) #[] #[]] w (Gives (.bool (bs.any fun c => c != 0)) fun w' => w' = w) := by
  refine (bCF.ok _ _ _ _ _ _ (R := fun v w' => v = .bool (bs.any fun c => c != 0) ∧ w' = w) ?_).mono fun e w' ⟨v, he, hv, hw⟩ => ⟨by rw [he, hv], hw⟩
  unfold bCF.M
  refine (bIF.ok _ _ _ _ _ _ (R := fun v w' => (∃ n, v = .int .i64 n ∧ decide (n ≥ 0) = bs.any fun c => c != 0) ∧ w' = w) ?_).mono fun e w' ⟨v, he, ⟨n, hv, hn⟩, hw⟩ => ⟨n, by rw [he, hv], by rw [hn], hw⟩
  unfold bIF.M
  refine ⟨fun k vs w1 => ∃ t : Nat, vs = [.int .i64 t] ∧ k + t = bs.length ∧ (bs.take t).any (fun c => c != 0) = false ∧ w1 = w, bs.length, ⟨0, rfl, rfl, rfl, rfl⟩, ?_⟩
  rintro k w1 i ⟨t, hi, hk, hc, rfl⟩
  simp only [List.cons.injEq, Value.int.injEq, true_and, and_true] at hi
  subst hi
  cases k with
  | zero =>
    obtain rfl : t = bs.length := by omega
    rw [show decide ((bs.length : Int) < bs.length) = false by simp, cond_false]
    rw [List.take_length] at hc
    exact ⟨⟨-1, rfl, by rw [hc]; rfl⟩, rfl⟩
  | succ k =>
    have ht : t < bs.length := by omega
    rw [show decide ((t : Int) < bs.length) = true by simp; omega, cond_true]
    obtain ⟨ad, rfl⟩ := h.addr (by intro e; rw [bytesV, List.map_eq_nil_iff] at e; subst e; simp at ht)
    refine ⟨by omega, by omega, bs[t].toNat, ?_, ?_⟩
    · rw [show Int.toNat (t : Int) * 1 = t by omega]; exact h.at_ (bytesV_get ht)
    · rw [show enters Try.prog 71 = true by kernel_rfl, cond_true]
      refine (hNz.ok (bs[t].toNat) (R := fun v w' => v = .bool ((bs[t].toNat : Int) != 0) ∧ w' = w1) ⟨rfl, rfl⟩).mono fun e w' ⟨v, he, hv, hw⟩ => ⟨(bs[t].toNat : Int) != 0, by rw [he, hv], ?_⟩
      subst hw
      by_cases hb : bs[t] = 0
      · have hb2 : ((bs[t].toNat : Int) != 0) = false := by simp [hb]
        rw [hb2, cond_false]
        refine ⟨k, by omega, t + 1, by rw [w64 (by omega) (by omega)]; rfl, by omega, ?_, rfl⟩
        rw [List.take_add_one, List.any_append, hc]
        simp [ht, hb]
      · have hb2 : ((bs[t].toNat : Int) != 0) = true := by
          simp only [bne_iff_ne, ne_eq]
          intro e
          exact hb (UInt8.toNat_inj.1 (by show _ = 0; omega))
        rw [hb2, cond_true]
        refine ⟨⟨t, rfl, ?_⟩, rfl⟩
        rw [decide_eq_true (by omega), eq_comm, List.any_eq_true]
        exact ⟨bs[t], List.getElem_mem ht, by simpa using hb⟩

theorem handle_spec {a : Option Addr} {c : Nat} {bs : List UInt8} (h : RowAt w a (bytesV bs)) (hl : bs.length < 1000000) (hle : bs.length ≤ c) :
    Calls Try.prog 42 #[.slice a bs.length c] w (Gives (.int .u64 (handL bs)) fun w' => w' = w) := by
  refine (oHandle.ok _ _ _ (R := fun v w' => v = .int .u64 (handL bs) ∧ w' = w) ?_).mono fun e w' ⟨v, he, hv, hw⟩ => ⟨by rw [he, hv], hw⟩
  unfold oHandle.M
  by_cases h8 : bs.length < 8
  · rw [show decide ((bs.length : Int) < 8) = true by simp; omega, cond_true]
    have : handL bs = 0 := by unfold handL; rw [if_pos h8]
    rw [this]; exact ⟨rfl, rfl⟩
  rw [show decide ((bs.length : Int) < 8) = false by simp; omega, cond_false]
  refine ⟨by omega, by omega, ?_⟩
  have hd := h.drop 8 c (fun e => by rw [bytesV_length]; omega)
  have hdl : (bs.drop 8).length = bs.length - 8 := List.length_drop
  have hcf := cf_spec (c := c - 8) (bs := bs.drop 8) (w := w) (a := if c = 8 then a else a.map (·.add 8)) (by rw [bytesV, List.map_drop]; exact hd) (by omega)
  rw [hdl] at hcf
  refine hcf.mono fun e w4 ⟨he, hw⟩ => ⟨_, he, ?_⟩
  subst hw
  by_cases hz : (bs.drop 8).any (fun c => c != 0) = true
  · rw [hz, cond_true]
    have : handL bs = 0 := by unfold handL; rw [if_neg h8, if_pos hz]
    rw [this]; exact ⟨rfl, rfl⟩
  have hz' : ((bs.drop 8).any fun c => c != 0) = false := by simpa using hz
  rw [hz', cond_false]
  have hv : handL bs = valOf (bs.take 8) := by unfold handL; rw [if_neg h8, if_neg hz]
  refine ⟨by omega, by omega, ?_⟩
  refine ⟨fun k vs w1 => ∃ t : Nat, vs = [.int .u64 (valOf (bs.take t)), .int .i64 t] ∧ k + t = 8 ∧ w1 = w4, 8, ⟨0, rfl, rfl, rfl⟩, ?_⟩
  rintro k w1 n i ⟨t, hi, hk, rfl⟩
  simp only [List.cons.injEq, Value.int.injEq, true_and, and_true] at hi
  obtain ⟨rfl, rfl⟩ := hi
  cases k with
  | zero =>
    obtain rfl : t = 8 := by omega
    exact ⟨by rw [hv], rfl⟩
  | succ k =>
    have ht : t < 8 := by omega
    refine bif_tt (by simp; omega) ?_
    obtain ⟨ad, rfl⟩ := h.addr (by intro e; rw [bytesV, List.map_eq_nil_iff] at e; subst e; simp at h8)
    rw [if_neg (by omega : ¬ c = 0)]
    have htl : t < bs.length := by omega
    refine ⟨by omega, by simp; omega, bs[t].toNat, ?_, by omega, k, by omega, t + 1, ?_, by omega, rfl⟩
    · rw [show ((ad.add (0 * 1)).add (Int.toNat (t : Int) * 1)) = ad.add t by rw [Nat.zero_mul, add_zero, Nat.mul_one, Int.toNat_natCast]]
      exact h.at_ (bytesV_get htl)
    · have hlt := valOf_lt t (bs.take t) (by simp; omega)
      have hlt2 : valOf (bs.take t) < 2 ^ 56 := by
        refine Nat.lt_of_lt_of_le hlt ?_
        exact Nat.le_trans (Nat.pow_le_pow_right (by decide) (by omega : t ≤ 7)) (by decide)
      have hx := u8_lt bs[t]
      rw [or_byte hlt2 hx, wu64 (by omega) (by omega), w64 (by omega) (by omega), List.take_add_one, show bs[t]?.toList = [bs[t]] by simp [htl], valOf_snoc]
      simp
theorem equal_spec {a b : Option Addr} {c d : Nat} {x y : List UInt8} (ha : RowAt w a (bytesV x)) (hb : RowAt w b (bytesV y)) :
    Calls Try.prog 87 #[.slice a x.length c, .slice b y.length d] w (Gives (.bool (decide (x = y))) fun w' => w' = w) := by
  refine (bEqual.ok _ _ _ _ _ _ (R := fun v w' => v = .bool (decide (x = y)) ∧ w' = w) ?_).mono fun e w' ⟨v, he, hv, hw⟩ => ⟨by rw [he, hv], hw⟩
  unfold bEqual.M
  refine ⟨_, conv_str (P := Try.prog) (c := c) Try.underlying29 Try.underlying5 Try.underlying9 ha, _, conv_str (P := Try.prog) (c := d) Try.underlying29 Try.underlying5 Try.underlying9 hb, ?_, rfl⟩
  rw [← beq_toListBytes, bytes_beq]
end
end Go.Proofs.Ytaifegpikhjiiaa

/- What sealing, opening, wrapping and unwrapping do. -/
set_option linter.unusedVariables false
set_option linter.unusedSimpArgs false
namespace Go.Proofs.Ytaifegpikhjiiaa
open Go Go.Mx Go.Proofs

def sealOf (S : OS) (k : Int) (b p : List UInt8) : (List UInt8 × Int) × OS :=
  if k ∈ S.keys then
    if classOf p.length < 0 then (([], 3), S)
    else ((boxL (freshOf S).1.toNat (sizeN (classOf p.length)), 0), { (freshOf S).2 with sealed := aput S.sealed (freshOf S).1 ⟨k, b, p⟩ })
  else (([], 11), S)
def openOf (S : OS) (k : Int) (b x : List UInt8) : List UInt8 × Int :=
  match alook S.sealed (handL x) with
  | none => ([], 4)
  | some s => if x.length ≠ 8 + sizeN (classOf s.plain.length) then ([], 4) else if s.key ≠ k then ([], 11) else if s.bound ≠ b then ([], 5) else (s.plain, 0)
def wrapOf (S : OS) (p k : Int) : (List UInt8 × Int) × OS :=
  if (alook S.publics p).isSome then
    if k ∈ S.keys then ((boxL (freshOf S).1.toNat 8, 0), { (freshOf S).2 with wrapped := aput S.wrapped (freshOf S).1 (p, k) })
    else (([], 11), S)
  else (([], 20), S)
def unwrapOf (S : OS) (s : Int) (x : List UInt8) : Int × Int :=
  match alook S.wrapped (handL x) with
  | none => (0, 4)
  | some q => if x.length ≠ 16 then (0, 4) else if (alook S.publics q.1).getD 0 ≠ s then (0, 11) else (q.2, 0)

def Out8 (w w' : World) (bs : List UInt8) (k : Int) (e : Ending) : Prop := ∃ a c, e = .returned (.tuple #[.slice a bs.length c, .int .i64 k]) ∧ bs.length ≤ c ∧ RowAt w' a (bytesV bs) ∧ Fresh w w' a

theorem infSealed : (Try.prog.info? 137).map (fun i => (i.zero, i.size, i.bytes)) = some (some (.agg #[.int .u64 0, .slice none 0 0, .slice none 0 0]), 3, 56) := by kernel_rfl
theorem infWrapped : (Try.prog.info? 107).map (fun i => (i.zero, i.size, i.bytes)) = some (some (.agg #[.int .u64 0, .int .u64 0]), 2, 16) := by kernel_rfl

theorem wrapOf_ok {S : OS} (h : S.ok) (p k : Int) : (wrapOf S p k).2.ok ∧ (wrapOf S p k).2.used.length ≤ S.used.length + 1 := by
  unfold wrapOf
  split
  · split
    · obtain ⟨_, _, h3, h4⟩ := freshOf_spec h
      exact ⟨h4, by show (freshOf S).2.used.length ≤ _; rw [h3]; simp⟩
    · exact ⟨h, Nat.le_succ _⟩
  · exact ⟨h, Nat.le_succ _⟩

section
variable {w w' : World} {g : OG} {S : OS}
theorem Fresh.nil {w w' : World} : Fresh w w' none := fun ad ha => by cases ha

theorem Seal_spec (h : Orc w g S) (hok : S.ok) (hlen : S.used.length < 1000000) (k : Int) {ba pa : Option Addr} {bc pc : Nat} {b p : List UInt8} (hb : RowAt w ba (bytesV b)) (hp : RowAt w pa (bytesV p)) (hbo : bytesV b ≠ [] → Out g.m ba) (hpo : bytesV p ≠ [] → Out g.m pa)
    (hbl : b.length ≤ 1000000) (hpl : p.length ≤ 1000000) :
    Calls Try.prog 31 #[.pointer (some (blk g.p)), .int .u64 k, .slice ba b.length bc, .slice pa p.length pc] w (fun e w' => Out8 w w' (sealOf S k b p).1.1 (sealOf S k b p).1.2 e ∧ Orc w' g (sealOf S k b p).2 ∧ Ext g.m w w') := by
  refine (oSeal.ok _ _ _ _ _ _ _ _ (R := fun v w' => (∃ a c, v = .tuple #[.slice a (sealOf S k b p).1.1.length c, .int .i64 (sealOf S k b p).1.2] ∧ (sealOf S k b p).1.1.length ≤ c ∧ RowAt w' a (bytesV (sealOf S k b p).1.1) ∧ Fresh w w' a) ∧ Orc w' g (sealOf S k b p).2 ∧ Ext g.m w w') ?_).mono fun e w' ⟨v, he, ⟨a, c, hv, hv2⟩, hw⟩ => ⟨⟨a, c, by rw [he, hv], hv2⟩, hw⟩
  unfold oSeal.M
  refine (Class_spec p.length).mono fun e w7 ⟨he, hw⟩ => ⟨_, he, ?_⟩
  subst hw
  rw [Option.isNone_some, cond_false]
  refine ⟨some g.keys, h.pCell fun _ _ => rfl, _, look_key h k, ?_⟩
  by_cases hk' : ¬ k ∈ S.keys
  · have hk := hk'
    have : sealOf S k b p = (([], 11), S) := by unfold sealOf; rw [if_neg hk]
    rw [this, decide_eq_false hk]
    exact ⟨⟨none, 0, rfl, Nat.le_refl _, RowAt.nil _ _, Fresh.nil⟩, h, Ext.refl _ _⟩
  have hk := Decidable.not_not.1 hk'
  rw [decide_eq_true hk, Bool.not_true, cond_false]
  by_cases hc : classOf p.length < 0
  · have : sealOf S k b p = (([], 3), S) := by unfold sealOf; rw [if_pos hk, if_pos hc]
    rw [this, decide_eq_true hc]
    exact ⟨⟨none, 0, rfl, Nat.le_refl _, RowAt.nil _ _, Fresh.nil⟩, h, Ext.refl _ _⟩
  rw [decide_eq_false hc, cond_false]
  have hse : sealOf S k b p = ((boxL (freshOf S).1.toNat (sizeN (classOf p.length)), 0), { (freshOf S).2 with sealed := aput S.sealed (freshOf S).1 ⟨k, b, p⟩ }) := by unfold sealOf; rw [if_pos hk, if_neg hc]
  rw [hse]
  obtain ⟨f1, f2⟩ := freshOf_fit hok hlen
  refine (fresh_spec h hok hlen).mono fun e w13 ⟨he, hO13, hx13⟩ => ⟨(freshOf S).1, he, thenW_in fun w14 h14 => ?_⟩
  have hx14 : Ext no w13 w14 := by subst h14; exact (Ext.refl _ _).drew
  have hO14 := hO13.none hx14
  have hxa := hx13.trans hx14.none
  refine ⟨some g.sealed, hO14.pCell fun _ _ => rfl, ?_⟩
  refine (cloneB_spec (c := bc) (hb.ext' hxa hbo) hbl).mono fun e w19 ⟨ca, cc, he, hcl, hcr, hx19, hcf⟩ => ⟨ca, b.length, cc, he, ?_⟩
  have hO19 := hO14.none hx19
  refine ⟨hO19.pCell fun _ _ => rfl, ?_⟩
  have hxb := hxa.trans hx19.none
  refine (cloneB_spec (c := pc) (hp.ext' hxb hpo) hpl).mono fun e w22 ⟨da, dc, he, hdl, hdr, hx22, hdf⟩ => ⟨da, p.length, dc, he, ?_⟩
  have hO22 := hO19.none hx22
  refine ⟨hO22.pCell fun _ _ => rfl, ?_⟩
  have hxc := hxb.trans hx22.none
  obtain ⟨lv, hm, hsl⟩ := hO22.sealed
  obtain ⟨w23, hu, hm23, hext⟩ := hm.update keysU Try.underlying114 (freshOf S).1 (.agg #[.int .u64 k, .slice ca b.length cc, .slice da p.length dc])
  have hgc : ∀ q, g.M q → q < w14.heap.size := hO14.ltM
  have hgd : ∀ q, g.M q → q < w19.heap.size := hO19.ltM
  have hoc : Out g.M ca := hcf.out fun q hq => .inl (hgc q hq)
  have hod : Out g.M da := hdf.out fun q hq => .inl (hgd q hq)
  have xu := hext (fun q => q = g.sealed) rfl
  have hsub : ∀ q, (fun q => q = g.sealed) q → g.M q := one_sub (by simp [OG.list])
  have hoc1 : Out (fun q => q = g.sealed) ca := fun ad ha hq => hoc ad ha (hsub _ hq)
  have hod1 : Out (fun q => q = g.sealed) da := fun ad ha hq => hod ad ha (hsub _ hq)
  have hnew : SealedV w23 g.M ⟨k, b, p⟩ (.agg #[.int .u64 k, .slice ca b.length cc, .slice da p.length dc]) :=
    ⟨ca, cc, da, dc, rfl, (hcr.no hx22).ext xu hoc1, fun _ => hoc, hdr.ext xu hod1, fun _ => hod⟩
  have hsl23 := hsl.ext xu hsub
  have hO23 := hO22.set_sealed xu hm23 (SealedL.put hnew hsl23)
  rw [show (freshOf S).2.sealed = S.sealed from (freshOf_frame S).2.2.2.2.2.2.1] at hO23
  refine ⟨w23, hu, ?_⟩
  refine (Size_spec _).mono fun e w26 ⟨he, hw⟩ => ⟨_, he, ?_⟩
  subst hw
  have hsz := sizeN_le (classOf p.length)
  have hfn : (freshOf S).1 = (((freshOf S).1.toNat : Nat) : Int) := by omega
  have hbx := box_spec (w := w26) (h := (freshOf S).1.toNat) (by omega) (more := sizeN (classOf p.length)) (by omega)
  rw [← hfn] at hbx
  refine hbx.mono fun e w29 ⟨a', he, hr, hx29, hf⟩ => ⟨a', _, _, he, ?_⟩
  have hxd := hxc.trans (hext g.m m_sealed)
  exact ⟨⟨a', _, rfl, Nat.le_refl _, hr, fun ad ha => ⟨Nat.le_trans hxd.size (hf ad ha).1, (hf ad ha).2⟩⟩, hO23.none hx29, hxd.trans hx29.none⟩

theorem Open_spec (h : Orc w g S) (k : Int) {ba xa : Option Addr} {bc xc : Nat} {b x : List UInt8} (hb : RowAt w ba (bytesV b)) (hx : RowAt w xa (bytesV x)) (hxl : x.length < 1000000) (hxc : x.length ≤ xc) (hpls : ∀ s, alook S.sealed (handL x) = some s → s.plain.length ≤ 1000000) :
    Calls Try.prog 69 #[.pointer (some (blk g.p)), .int .u64 k, .slice ba b.length bc, .slice xa x.length xc] w (fun e w' => Out8 w w' (openOf S k b x).1 (openOf S k b x).2 e ∧ Ext no w w') := by
  refine (oOpen.ok _ _ _ _ _ _ _ _ (R := fun v w' => (∃ a c, v = .tuple #[.slice a (openOf S k b x).1.length c, .int .i64 (openOf S k b x).2] ∧ (openOf S k b x).1.length ≤ c ∧ RowAt w' a (bytesV (openOf S k b x).1) ∧ Fresh w w' a) ∧ Ext no w w') ?_).mono fun e w' ⟨v, he, ⟨a, c, hv, hv2⟩, hw⟩ => ⟨⟨a, c, by rw [he, hv], hv2⟩, hw⟩
  unfold oOpen.M
  rw [Option.isNone_some, cond_false]
  -- what the table says
  obtain ⟨i, hi, hz, _⟩ := info_of infSealed
  obtain ⟨v, bba, bbc, ppa, ppc, hlk, hval, hrows⟩ : ∃ (v : Option Sealed) (bba : Option Addr) (bbc : Nat) (ppa : Option Addr) (ppc : Nat), alook S.sealed (handL x) = v ∧
      (∀ w1, Ext no w w1 → (Instr.lookup 114 (.map (some g.sealed)) (.int .u64 (handL x)) true).run Try.prog w1 = .ok (.tuple #[.agg #[.int .u64 ((v.map Sealed.key).getD 0), .slice bba ((v.map fun s => s.bound.length).getD 0) bbc, .slice ppa ((v.map fun s => s.plain.length).getD 0) ppc], .bool v.isSome]) w1) ∧
      (∀ s, v = some s → RowAt w bba (bytesV s.bound) ∧ RowAt w ppa (bytesV s.plain)) := by
    obtain ⟨lv, hm, hsl⟩ := h.sealed
    rcases hsl.look (handL x) with ⟨h1, h2⟩ | ⟨s, v, h1, h2, ba1, bc1, pa1, pc1, hv, h3, h4, h5, h6⟩
    · refine ⟨none, none, 0, none, 0, h1, fun w1 e1 => ?_, fun s hs => by cases hs⟩
      have hl := (hm.ext e1 id).lookup keysU Try.underlying114 hi hz (handL x) true
      rw [h2] at hl; exact hl
    · refine ⟨some s, ba1, bc1, pa1, pc1, h1, fun w1 e1 => ?_, fun s' hs => by cases hs; exact ⟨h3, h5⟩⟩
      have hl := (hm.ext e1 id).lookup keysU Try.underlying114 hi hz (handL x) true
      rw [h2] at hl; subst hv; exact hl
  refine thenW_in fun w5 h5 => ?_
  have hx5 : Ext no w w5 := by subst h5; exact (Ext.refl _ _).drew
  refine ⟨some g.sealed, (h.none hx5).pCell fun _ _ => rfl, ?_, ?_⟩
  · refine (handle_spec (hx.no hx5) hxl hxc).mono fun e w10 ⟨he, hw⟩ => ⟨_, he, ?_⟩
    subst hw
    refine ⟨(h.none hx5).pCell fun _ _ => rfl, _, bba, _, bbc, ppa, _, ppc, v.isSome, hval _ hx5, thenW_in fun w15 h15 => ?_⟩
    have hb0 : Blk w15 w10.heap.size 137 [.int .u64 0, .slice none 0 0, .slice none 0 0] := by subst h15; exact Blk.new _ _ _
    have hx15 : Ext no w w15 := by subst h15; exact hx5.alloc _
    refine ⟨hval _ hx15, (h.none hx15).pCell fun _ _ => rfl, hb0.cana (i := 0) rfl, thenW_in fun w16 h16 => ?_⟩
    have hb1 := hb0.seta 0 (.int .u64 ((v.map Sealed.key).getD 0))
    rw [← h16] at hb1
    have hx16 : Ext no w w16 := by subst h16; exact hx15.setCell (.inr (by rw [add_zero]; exact hx5.size)) _
    refine ⟨hb1.cana (i := 1) rfl, thenW_in fun w17 h17 => ?_⟩
    have hb2 := hb1.seta 1 (.slice bba ((v.map fun s => s.bound.length).getD 0) bbc)
    rw [← h17] at hb2
    have hx17 : Ext no w w17 := by subst h17; exact hx16.setCell (.inr (by rw [add_blk]; exact hx5.size)) _
    refine ⟨hb2.cana (i := 2) rfl, thenW_in fun w18 h18 => ?_⟩
    have hb3 := hb2.seta 2 (.slice ppa ((v.map fun s => s.plain.length).getD 0) ppc)
    rw [← h18] at hb3
    have hx18 : Ext no w w18 := by subst h18; exact hx17.setCell (.inr (by rw [add_blk]; exact hx5.size)) _
    clear hx15 hb0 hb1 hb2 hx16 hx17 h15 h16 h17 h18
    have hx15 := hx18
    have hb15 := hb3
    clear hx18 hb3
    have hO15 := h.none hx15
    by_cases hn : v = none
    · subst hn
      rw [show openOf S k b x = ([], 4) by unfold openOf; rw [hlk]]
      exact ⟨⟨none, 0, rfl, Nat.le_refl _, RowAt.nil _ _, Fresh.nil⟩, hx15⟩
    obtain ⟨s, rfl⟩ := Option.ne_none_iff_exists'.1 hn
    obtain ⟨hrb, hrp⟩ := hrows s rfl
    rw [show (some s : Option Sealed).isSome = true from rfl, Bool.not_true, cond_false]
    refine ⟨ppa, s.plain.length, ppc, hb15.cella rfl, ?_⟩
    refine (Class_spec s.plain.length).mono fun e w22 ⟨he, hw⟩ => ⟨_, he, ?_⟩
    subst hw
    refine (Size_spec _).mono fun e w25 ⟨he, hw⟩ => ⟨_, he, ?_⟩
    subst hw
    have hsz := sizeN_le (classOf s.plain.length)
    rw [w64 (n := (8 : Int) + (sizeN (classOf s.plain.length) : Int)) (by omega) (by omega)]
    by_cases hl : x.length ≠ 8 + sizeN (classOf s.plain.length)
    · rw [show ((x.length : Int) != 8 + (sizeN (classOf s.plain.length) : Int)) = true by simp; omega]
      rw [show openOf S k b x = ([], 4) by unfold openOf; rw [hlk]; simp only []; rw [if_pos hl]]
      exact ⟨⟨none, 0, rfl, Nat.le_refl _, RowAt.nil _ _, Fresh.nil⟩, hx15⟩
    rw [show ((x.length : Int) != 8 + (sizeN (classOf s.plain.length) : Int)) = false by simp; omega, cond_false]
    refine ⟨s.key, hb15.cella rfl, ?_⟩
    by_cases hky : s.key ≠ k
    · rw [show (s.key != k) = true by simpa using hky]
      rw [show openOf S k b x = ([], 11) by unfold openOf; rw [hlk]; simp only []; rw [if_neg hl, if_pos hky]]
      exact ⟨⟨none, 0, rfl, Nat.le_refl _, RowAt.nil _ _, Fresh.nil⟩, hx15⟩
    rw [show (s.key != k) = false by simpa using hky, cond_false]
    refine ⟨bba, s.bound.length, bbc, hb15.cella rfl, ?_⟩
    refine (equal_spec (hrb.no hx15) (hb.no hx15)).mono fun e w30 ⟨he, hw⟩ => ⟨_, he, ?_⟩
    subst hw
    by_cases hbd : s.bound ≠ b
    · rw [decide_eq_false hbd]
      rw [show openOf S k b x = ([], 5) by unfold openOf; rw [hlk]; simp only []; rw [if_neg hl, if_neg hky, if_pos hbd]]
      exact ⟨⟨none, 0, rfl, Nat.le_refl _, RowAt.nil _ _, Fresh.nil⟩, hx15⟩
    rw [decide_eq_true (Decidable.not_not.1 hbd), Bool.not_true, cond_false]
    rw [show openOf S k b x = (s.plain, 0) by unfold openOf; rw [hlk]; simp only []; rw [if_neg hl, if_neg hky, if_neg hbd]]
    refine ⟨ppa, s.plain.length, ppc, hb15.cella rfl, ?_⟩
    refine (cloneB_spec (c := ppc) (hrp.no hx15) (hpls s hlk)).mono fun e w34 ⟨a', c', he, hle, hr, hx34, hf⟩ => ⟨a', _, c', he, ?_⟩
    exact ⟨⟨a', c', rfl, hle, hr, fun ad ha => ⟨Nat.le_trans hx15.size (hf ad ha).1, (hf ad ha).2⟩⟩, hx15.trans hx34⟩
  · refine thenW_in fun w35 h35 => ?_
    have hb0 : Blk w35 w5.heap.size 137 [.int .u64 0, .slice none 0 0, .slice none 0 0] := by subst h35; exact Blk.new _ _ _
    have hx35 : Ext no w w35 := by subst h35; exact hx5.alloc _
    refine ⟨(h.none hx35).pCell fun _ _ => rfl, ?_⟩
    refine (handle_spec (hx.no hx35) hxl hxc).mono fun e w10 ⟨he, hw⟩ => ⟨_, he, ?_⟩
    subst hw
    refine ⟨(h.none hx35).pCell fun _ _ => rfl, _, bba, _, bbc, ppa, _, ppc, v.isSome, hval _ hx35, hb0.cana (i := 0) rfl, thenW_in fun w16 h16 => ?_⟩
    have hb1 := hb0.seta 0 (.int .u64 ((v.map Sealed.key).getD 0))
    rw [← h16] at hb1
    have hx16 : Ext no w w16 := by subst h16; exact hx35.setCell (.inr (by rw [add_zero]; exact hx5.size)) _
    refine ⟨hb1.cana (i := 1) rfl, thenW_in fun w17 h17 => ?_⟩
    have hb2 := hb1.seta 1 (.slice bba ((v.map fun s => s.bound.length).getD 0) bbc)
    rw [← h17] at hb2
    have hx17 : Ext no w w17 := by subst h17; exact hx16.setCell (.inr (by rw [add_blk]; exact hx5.size)) _
    refine ⟨hb2.cana (i := 2) rfl, thenW_in fun w18 h18 => ?_⟩
    have hb3 := hb2.seta 2 (.slice ppa ((v.map fun s => s.plain.length).getD 0) ppc)
    rw [← h18] at hb3
    have hx18 : Ext no w w18 := by subst h18; exact hx17.setCell (.inr (by rw [add_blk]; exact hx5.size)) _
    clear hb0 hb1 hb2 hx16 hx17 h35 h16 h17 h18 hx35
    have hx15 := hx18
    have hb15 := hb3
    clear hx18 hb3
    have hO15 := h.none hx15
    by_cases hn : v = none
    · subst hn
      rw [show openOf S k b x = ([], 4) by unfold openOf; rw [hlk]]
      exact ⟨⟨none, 0, rfl, Nat.le_refl _, RowAt.nil _ _, Fresh.nil⟩, hx15⟩
    obtain ⟨s, rfl⟩ := Option.ne_none_iff_exists'.1 hn
    obtain ⟨hrb, hrp⟩ := hrows s rfl
    rw [show (some s : Option Sealed).isSome = true from rfl, Bool.not_true, cond_false]
    refine ⟨ppa, s.plain.length, ppc, hb15.cella rfl, ?_⟩
    refine (Class_spec s.plain.length).mono fun e w22 ⟨he, hw⟩ => ⟨_, he, ?_⟩
    subst hw
    refine (Size_spec _).mono fun e w25 ⟨he, hw⟩ => ⟨_, he, ?_⟩
    subst hw
    have hsz := sizeN_le (classOf s.plain.length)
    rw [w64 (n := (8 : Int) + (sizeN (classOf s.plain.length) : Int)) (by omega) (by omega)]
    by_cases hl : x.length ≠ 8 + sizeN (classOf s.plain.length)
    · rw [show ((x.length : Int) != 8 + (sizeN (classOf s.plain.length) : Int)) = true by simp; omega]
      rw [show openOf S k b x = ([], 4) by unfold openOf; rw [hlk]; simp only []; rw [if_pos hl]]
      exact ⟨⟨none, 0, rfl, Nat.le_refl _, RowAt.nil _ _, Fresh.nil⟩, hx15⟩
    rw [show ((x.length : Int) != 8 + (sizeN (classOf s.plain.length) : Int)) = false by simp; omega, cond_false]
    refine ⟨s.key, hb15.cella rfl, ?_⟩
    by_cases hky : s.key ≠ k
    · rw [show (s.key != k) = true by simpa using hky]
      rw [show openOf S k b x = ([], 11) by unfold openOf; rw [hlk]; simp only []; rw [if_neg hl, if_pos hky]]
      exact ⟨⟨none, 0, rfl, Nat.le_refl _, RowAt.nil _ _, Fresh.nil⟩, hx15⟩
    rw [show (s.key != k) = false by simpa using hky, cond_false]
    refine ⟨bba, s.bound.length, bbc, hb15.cella rfl, ?_⟩
    refine (equal_spec (hrb.no hx15) (hb.no hx15)).mono fun e w30 ⟨he, hw⟩ => ⟨_, he, ?_⟩
    subst hw
    by_cases hbd : s.bound ≠ b
    · rw [decide_eq_false hbd]
      rw [show openOf S k b x = ([], 5) by unfold openOf; rw [hlk]; simp only []; rw [if_neg hl, if_neg hky, if_pos hbd]]
      exact ⟨⟨none, 0, rfl, Nat.le_refl _, RowAt.nil _ _, Fresh.nil⟩, hx15⟩
    rw [decide_eq_true (Decidable.not_not.1 hbd), Bool.not_true, cond_false]
    rw [show openOf S k b x = (s.plain, 0) by unfold openOf; rw [hlk]; simp only []; rw [if_neg hl, if_neg hky, if_neg hbd]]
    refine ⟨ppa, s.plain.length, ppc, hb15.cella rfl, ?_⟩
    refine (cloneB_spec (c := ppc) (hrp.no hx15) (hpls s hlk)).mono fun e w34 ⟨a', c', he, hle, hr, hx34, hf⟩ => ⟨a', _, c', he, ?_⟩
    exact ⟨⟨a', c', rfl, hle, hr, fun ad ha => ⟨Nat.le_trans hx15.size (hf ad ha).1, (hf ad ha).2⟩⟩, hx15.trans hx34⟩
end
end Go.Proofs.Ytaifegpikhjiiaa

/- What wrapping and unwrapping do; what a nil oracle says. -/
set_option linter.unusedVariables false
set_option linter.unusedSimpArgs false
namespace Go.Proofs.Ytaifegpikhjiiaa
open Go Go.Mx Go.Proofs
section
variable {w w' : World} {g : OG} {S : OS}
theorem Wrap_spec (h : Orc w g S) (hok : S.ok) (hlen : S.used.length < 1000000) (p k : Int) :
    Calls Try.prog 30 #[.pointer (some (blk g.p)), .int .u64 p, .int .u64 k] w (fun e w' => Out8 w w' (wrapOf S p k).1.1 (wrapOf S p k).1.2 e ∧ Orc w' g (wrapOf S p k).2 ∧ Ext g.m w w') := by
  refine (oWrap.ok _ _ _ (R := fun v w' => (∃ a c, v = .tuple #[.slice a (wrapOf S p k).1.1.length c, .int .i64 (wrapOf S p k).1.2] ∧ (wrapOf S p k).1.1.length ≤ c ∧ RowAt w' a (bytesV (wrapOf S p k).1.1) ∧ Fresh w w' a) ∧ Orc w' g (wrapOf S p k).2 ∧ Ext g.m w w') ?_).mono fun e w' ⟨v, he, ⟨a, c, hv, hv2⟩, hw⟩ => ⟨⟨a, c, by rw [he, hv], hv2⟩, hw⟩
  unfold oWrap.M
  rw [Option.isNone_some, cond_false]
  refine ⟨some g.publics, h.pCell fun _ _ => rfl, _, _, look_public h p, ?_⟩
  by_cases hp : (alook S.publics p).isSome
  · rw [hp, Bool.not_true, cond_false]
    refine ⟨some g.keys, h.pCell fun _ _ => rfl, _, look_key h k, ?_⟩
    by_cases hk' : ¬ k ∈ S.keys
    · have hk := hk'
      have : wrapOf S p k = (([], 11), S) := by unfold wrapOf; rw [if_pos hp, if_neg hk]
      rw [this, decide_eq_false hk]
      exact ⟨⟨none, 0, rfl, Nat.le_refl _, RowAt.nil _ _, Fresh.nil⟩, h, Ext.refl _ _⟩
    have hk := Decidable.not_not.1 hk'
    rw [decide_eq_true hk, Bool.not_true, cond_false]
    have hwr : wrapOf S p k = ((boxL (freshOf S).1.toNat 8, 0), { (freshOf S).2 with wrapped := aput S.wrapped (freshOf S).1 (p, k) }) := by unfold wrapOf; rw [if_pos hp, if_pos hk]
    rw [hwr]
    obtain ⟨f1, f2⟩ := freshOf_fit hok hlen
    refine (fresh_spec h hok hlen).mono fun e w13 ⟨he, hO13, hx13⟩ => ⟨(freshOf S).1, he, ?_⟩
    obtain ⟨w16, hu, hm, hext⟩ := hO13.wrapped.update keysU Try.underlying115 (freshOf S).1 (.agg #[.int .u64 p, .int .u64 k])
    have hmm := mput_map (fun q : Int × Int => Value.agg #[.int .u64 q.1, .int .u64 q.2]) (freshOf S).2.wrapped (freshOf S).1 (p, k)
    rw [hmm, (freshOf_frame S).2.2.2.2.2.2.2] at hm
    have hO16 := hO13.set_wrapped (hext _ rfl) hm
    refine ⟨some g.wrapped, hO13.pCell fun _ _ => rfl, w16, hu, ?_⟩
    have hfn : (freshOf S).1 = (((freshOf S).1.toNat : Nat) : Int) := by omega
    have hbx := box_spec (w := w16) (h := (freshOf S).1.toNat) (by omega) (more := 8) (by omega)
    rw [← hfn] at hbx
    refine hbx.mono fun e w29 ⟨a', he, hr, hx29, hf⟩ => ⟨a', _, _, he, ?_⟩
    have hxd := hx13.trans (hext g.m m_wrapped)
    exact ⟨⟨a', _, rfl, Nat.le_refl _, hr, fun ad ha => ⟨Nat.le_trans hxd.size (hf ad ha).1, (hf ad ha).2⟩⟩, hO16.none hx29, hxd.trans hx29.none⟩
  · have : wrapOf S p k = (([], 20), S) := by unfold wrapOf; rw [if_neg hp]
    rw [this, show (alook S.publics p).isSome = false by simpa using hp]
    exact ⟨⟨none, 0, rfl, Nat.le_refl _, RowAt.nil _ _, Fresh.nil⟩, h, Ext.refl _ _⟩

theorem look_public0 (h : Orc w g S) (k : Int) : (Instr.lookup 111 (.map (some g.publics)) (.int .u64 k) false).run Try.prog w = .ok (.int .u64 ((alook S.publics k).getD 0)) w := by
  obtain ⟨i, hi, hz, _⟩ := info_of inf27
  have hl := h.publics.lookup keysU Try.underlying111 hi hz k false
  rw [mlook_map] at hl
  refine hl.trans ?_
  cases alook S.publics k <;> rfl

theorem Unwrap_spec (h : Orc w g S) (k : Int) {xa : Option Addr} {xc : Nat} {x : List UInt8} (hx : RowAt w xa (bytesV x)) (hxl : x.length < 1000000) (hxc : x.length ≤ xc) :
    Calls Try.prog 12 #[.pointer (some (blk g.p)), .int .u64 k, .slice xa x.length xc] w (Gives (.tuple #[.int .u64 (unwrapOf S k x).1, .int .i64 (unwrapOf S k x).2]) fun w' => Ext no w w') := by
  refine (oUnwrap.ok _ _ _ _ _ (R := fun v w' => v = .tuple #[.int .u64 (unwrapOf S k x).1, .int .i64 (unwrapOf S k x).2] ∧ Ext no w w') ?_).mono fun e w' ⟨v, he, hv, hw⟩ => ⟨by rw [he, hv], hw⟩
  unfold oUnwrap.M
  rw [Option.isNone_some, cond_false]
  obtain ⟨i, hi, hz, _⟩ := info_of infWrapped
  have hval : ∀ w1, Ext no w w1 → (Instr.lookup 115 (.map (some g.wrapped)) (.int .u64 (handL x)) true).run Try.prog w1 = .ok (.tuple #[.agg #[.int .u64 ((alook S.wrapped (handL x)).getD (0, 0)).1, .int .u64 ((alook S.wrapped (handL x)).getD (0, 0)).2], .bool (alook S.wrapped (handL x)).isSome]) w1 := fun w1 e1 => by
    have hl := (h.none e1).wrapped.lookup keysU Try.underlying115 hi hz (handL x) true
    rw [mlook_map (fun q : Int × Int => Value.agg #[.int .u64 q.1, .int .u64 q.2])] at hl
    refine hl.trans ?_
    cases alook S.wrapped (handL x) <;> rfl
  refine thenW_in fun w5 h5 => ?_
  have hx5 : Ext no w w5 := by subst h5; exact (Ext.refl _ _).drew
  refine ⟨some g.wrapped, (h.none hx5).pCell fun _ _ => rfl, ?_, ?_⟩
  · refine (handle_spec (hx.no hx5) hxl hxc).mono fun e w10 ⟨he, hw⟩ => ⟨_, he, ?_⟩
    subst hw
    refine ⟨(h.none hx5).pCell fun _ _ => rfl, _, _, _, hval _ hx5, thenW_in fun w15 h15 => ?_⟩
    have hb0 : Blk w15 w10.heap.size 107 [.int .u64 0, .int .u64 0] := by subst h15; exact Blk.new _ _ _
    have hx15 : Ext no w w15 := by subst h15; exact hx5.alloc _
    refine ⟨hval _ hx15, (h.none hx15).pCell fun _ _ => rfl, hb0.cana (i := 0) rfl, thenW_in fun w16 h16 => ?_⟩
    have hb1 := hb0.seta 0 (.int .u64 ((alook S.wrapped (handL x)).getD (0, 0)).1)
    rw [← h16] at hb1
    have hx16 : Ext no w w16 := by subst h16; exact hx15.setCell (.inr (by rw [add_zero]; exact hx5.size)) _
    refine ⟨hb1.cana (i := 1) rfl, thenW_in fun w17 h17 => ?_⟩
    have hb2 := hb1.seta 1 (.int .u64 ((alook S.wrapped (handL x)).getD (0, 0)).2)
    rw [← h17] at hb2
    have hx17 : Ext no w w17 := by subst h17; exact hx16.setCell (.inr (by rw [add_blk]; exact hx5.size)) _
    clear hx15 hb0 hb1 hx16 h15 h16 h17
    have hx15 := hx17
    have hb15 := hb2
    clear hx17 hb2
    have hO15 := h.none hx15
    cases hlk : alook S.wrapped (handL x) with
    | none =>
      rw [hlk] at hb15
      rw [show unwrapOf S k x = (0, 4) by unfold unwrapOf; rw [hlk]]
      exact ⟨rfl, hx15⟩
    | some q =>
      rw [hlk] at hb15
      rw [show (some q : Option (Int × Int)).isSome = true from rfl, Bool.not_true, cond_false]
      by_cases hl : x.length ≠ 16
      · rw [show ((x.length : Int) != 16) = true by simp; omega]
        rw [show unwrapOf S k x = (0, 4) by unfold unwrapOf; rw [hlk]; simp only []; rw [if_pos hl]]
        exact ⟨rfl, hx15⟩
      rw [show ((x.length : Int) != 16) = false by simp; omega, cond_false]
      refine thenW_in fun w20 h20 => ?_
      have hx20 : Ext no w w20 := by subst h20; exact hx15.drew
      have hb20 := hb15.drew
      rw [← h20] at hb20
      refine ⟨some g.publics, (h.none hx20).pCell fun _ _ => rfl, _, hb20.cella (i := 0) rfl, _, look_public0 (h.none hx20) _, ?_⟩
      rw [show ((some q : Option (Int × Int)).getD (0, 0)) = q from rfl]
      by_cases hs : (alook S.publics q.1).getD 0 ≠ k
      · rw [show ((alook S.publics q.1).getD 0 != k) = true by simpa using hs]
        rw [show unwrapOf S k x = (0, 11) by unfold unwrapOf; rw [hlk]; simp only []; rw [if_neg hl, if_pos hs]]
        exact ⟨rfl, hx20⟩
      rw [show ((alook S.publics q.1).getD 0 != k) = false by simpa using hs, cond_false]
      rw [show unwrapOf S k x = (q.2, 0) by unfold unwrapOf; rw [hlk]; simp only []; rw [if_neg hl, if_neg hs]]
      exact ⟨q.2, hb20.cella (i := 1) rfl, rfl, hx20⟩
  · refine thenW_in fun w35 h35 => ?_
    have hb0 : Blk w35 w5.heap.size 107 [.int .u64 0, .int .u64 0] := by subst h35; exact Blk.new _ _ _
    have hx35 : Ext no w w35 := by subst h35; exact hx5.alloc _
    refine ⟨(h.none hx35).pCell fun _ _ => rfl, ?_⟩
    refine (handle_spec (hx.no hx35) hxl hxc).mono fun e w10 ⟨he, hw⟩ => ⟨_, he, ?_⟩
    subst hw
    refine ⟨(h.none hx35).pCell fun _ _ => rfl, _, _, _, hval _ hx35, hb0.cana (i := 0) rfl, thenW_in fun w16 h16 => ?_⟩
    have hb1 := hb0.seta 0 (.int .u64 ((alook S.wrapped (handL x)).getD (0, 0)).1)
    rw [← h16] at hb1
    have hx16 : Ext no w w16 := by subst h16; exact hx35.setCell (.inr (by rw [add_zero]; exact hx5.size)) _
    refine ⟨hb1.cana (i := 1) rfl, thenW_in fun w17 h17 => ?_⟩
    have hb2 := hb1.seta 1 (.int .u64 ((alook S.wrapped (handL x)).getD (0, 0)).2)
    rw [← h17] at hb2
    have hx17 : Ext no w w17 := by subst h17; exact hx16.setCell (.inr (by rw [add_blk]; exact hx5.size)) _
    clear hb0 hb1 hx16 h35 h16 h17 hx35
    have hx15 := hx17
    have hb15 := hb2
    clear hx17 hb2
    have hO15 := h.none hx15
    cases hlk : alook S.wrapped (handL x) with
    | none =>
      rw [hlk] at hb15
      rw [show unwrapOf S k x = (0, 4) by unfold unwrapOf; rw [hlk]]
      exact ⟨rfl, hx15⟩
    | some q =>
      rw [hlk] at hb15
      rw [show (some q : Option (Int × Int)).isSome = true from rfl, Bool.not_true, cond_false]
      by_cases hl : x.length ≠ 16
      · rw [show ((x.length : Int) != 16) = true by simp; omega]
        rw [show unwrapOf S k x = (0, 4) by unfold unwrapOf; rw [hlk]; simp only []; rw [if_pos hl]]
        exact ⟨rfl, hx15⟩
      rw [show ((x.length : Int) != 16) = false by simp; omega, cond_false]
      refine thenW_in fun w20 h20 => ?_
      have hx20 : Ext no w w20 := by subst h20; exact hx15.drew
      have hb20 := hb15.drew
      rw [← h20] at hb20
      refine ⟨some g.publics, (h.none hx20).pCell fun _ _ => rfl, _, hb20.cella (i := 0) rfl, _, look_public0 (h.none hx20) _, ?_⟩
      rw [show ((some q : Option (Int × Int)).getD (0, 0)) = q from rfl]
      by_cases hs : (alook S.publics q.1).getD 0 ≠ k
      · rw [show ((alook S.publics q.1).getD 0 != k) = true by simpa using hs]
        rw [show unwrapOf S k x = (0, 11) by unfold unwrapOf; rw [hlk]; simp only []; rw [if_neg hl, if_pos hs]]
        exact ⟨rfl, hx20⟩
      rw [show ((alook S.publics q.1).getD 0 != k) = false by simpa using hs, cond_false]
      rw [show unwrapOf S k x = (q.2, 0) by unfold unwrapOf; rw [hlk]; simp only []; rw [if_neg hl, if_neg hs]]
      exact ⟨q.2, hb20.cella (i := 1) rfl, rfl, hx20⟩

end
end Go.Proofs.Ytaifegpikhjiiaa

/- append(x, make([]byte, m)...). -/
set_option linter.unusedSimpArgs false
set_option linter.unusedVariables false
set_option linter.unusedSectionVars false
namespace Go.Mx
open Go
section
variable {P : Program} {w : World} {t tn ty e : TypeId} {i : TypeInfo} {kn : IntKind} {k : IntKind}
end
end Go.Mx

/- The reference's oracle: what is sealed, and wrapped. -/
set_option linter.unusedVariables false
set_option linter.unusedSimpArgs false
set_option maxRecDepth 20000
set_option maxHeartbeats 2000000
namespace Go.Proofs.Ytaifegpikhjiiaa
open Go Go.Mx Go.Proofs
open W (OwnB)
end Go.Proofs.Ytaifegpikhjiiaa

/- The reference's oracle: Seal, Open, Wrap, Unwrap. -/
set_option linter.unusedVariables false
set_option linter.unusedSimpArgs false
set_option maxRecDepth 20000
set_option maxHeartbeats 2000000
namespace Go.Proofs.Ytaifegpikhjiiaa
open Go Go.Mx Go.Proofs
open W (OwnB)
def wrapR (d : List Int) (L : List RRow) (p k : Int) : (List UInt8 × Int) × List Int × List RRow :=
  match isR L p 4 with
  | none => (([], 20), d, L)
  | some _ => match isR L k 2 with
    | none => (([], 11), d, L)
    | some _ => ((boxL (putR d L ⟨0, 7, [], [], p, k⟩).1.toNat 8, 0), (putR d L ⟨0, 7, [], [], p, k⟩).2)
section
variable {w w' : World} {o o' : Own} {k : Nat} {K : Nat → Prop} {d : List Int} {L : List RRow}
def Gb (K : Nat → Prop) (w : World) (o : Own) (r : List UInt8 × Int) (Q : World → Own → Prop) (e : Ending) (w' : World) : Prop := ∃ o' a' c', e = .returned (.tuple #[.slice a' r.1.length c', .int .i64 r.2]) ∧ Step K w o w' o' ∧ Row w' o' a' (bytesV r.1) ∧ r.1.length ≤ c' ∧ Q w' o'
end
end Go.Proofs.Ytaifegpikhjiiaa

/- The two oracles side by side: what is sealed, and wrapped. -/
set_option linter.unusedVariables false
set_option linter.unusedSimpArgs false
namespace Go.Proofs.Ytaifegpikhjiiaa
open Go Go.Mx Go.Proofs
section
variable {S : OS} {d : List Int} {L : List RRow}
end
end Go.Proofs.Ytaifegpikhjiiaa

/- The oracle of an owner: keys, what is sealed, and wrapped. -/
set_option linter.unusedVariables false
set_option linter.unusedSimpArgs false
set_option maxRecDepth 20000
namespace Go.Proofs.Ytaifegpikhjiiaa
open Go Go.Mx Go.Proofs
section
variable {w w' : World} {o o' : Own} {k : Nat} {S : OS} {K : Nat → Prop}
theorem KeyO (h : POrc w o k S) (ok : Tags w o) (hok : S.ok) (hlen : S.used.length < 1000000) :
    Calls Try.prog 28 #[.pointer (some (blk k))] w (Gs (fun j => j = k) w o (u64V (keyOf S).1) fun w' o' => POrc w' o' k (keyOf S).2) := by
  obtain ⟨g, rfl, h1, h2, h3⟩ := h
  refine (Key_spec h1 hok hlen).mono fun e w' ⟨he, hO, hx⟩ => ?_
  obtain ⟨s, p⟩ := POrc.turn h2 h3 h1.mlt ok hO hx
  exact ⟨_, he, s, p⟩
theorem SealO (h : POrc w o k S) (ok : Tags w o) (hok : S.ok) (hlen : S.used.length < 1000000) (key : Int) {ba pa : Option Addr} {bc pc : Nat} {b p : List UInt8} (hb : Row w o ba (bytesV b)) (hp : Row w o pa (bytesV p)) (hbl : b.length ≤ 1000000) (hpl : p.length ≤ 1000000) :
    Calls Try.prog 31 #[.pointer (some (blk k)), .int .u64 key, .slice ba b.length bc, .slice pa p.length pc] w (Gb (fun j => j = k) w o (sealOf S key b p).1 fun w' o' => POrc w' o' k (sealOf S key b p).2) := by
  obtain ⟨g, rfl, h1, h2, h3⟩ := h
  refine (Seal_spec h1 hok hlen key hb.1 hp.1 (own_out h2 hb) (own_out h2 hp) hbl hpl).mono fun e w' ⟨⟨a, c, he, hc, hr, hf⟩, hO, hx⟩ => ?_
  obtain ⟨s, p⟩ := POrc.turn h2 h3 h1.mlt ok hO hx
  exact ⟨_, a, c, he, s, Row.fresh hr fun ad ha => (hf ad ha).1, hc, p⟩
theorem OpenO (h : POrc w o k S) (ok : Tags w o) (key : Int) {ba xa : Option Addr} {bc xc : Nat} {b x : List UInt8} (hb : RowAt w ba (bytesV b)) (hx : RowAt w xa (bytesV x)) (hxl : x.length < 1000000) (hxc : x.length ≤ xc) (hpls : ∀ s, alook S.sealed (handL x) = some s → s.plain.length ≤ 1000000) :
    Calls Try.prog 69 #[.pointer (some (blk k)), .int .u64 key, .slice ba b.length bc, .slice xa x.length xc] w (Gb no w o (openOf S key b x) fun w' o' => True) := by
  obtain ⟨g, rfl, h1, h2, h3⟩ := h
  refine (Open_spec h1 key hb hx hxl hxc hpls).mono fun e w' ⟨⟨a, c, he, hc, hr, hf⟩, hx⟩ => ?_
  exact ⟨_, a, c, he, Step.of_no hx ok, Row.fresh hr fun ad ha => (hf ad ha).1, hc, trivial⟩
theorem WrapO (h : POrc w o k S) (ok : Tags w o) (hok : S.ok) (hlen : S.used.length < 1000000) (p key : Int) :
    Calls Try.prog 30 #[.pointer (some (blk k)), .int .u64 p, .int .u64 key] w (Gb (fun j => j = k) w o (wrapOf S p key).1 fun w' o' => POrc w' o' k (wrapOf S p key).2) := by
  obtain ⟨g, rfl, h1, h2, h3⟩ := h
  refine (Wrap_spec h1 hok hlen p key).mono fun e w' ⟨⟨a, c, he, hc, hr, hf⟩, hO, hx⟩ => ?_
  obtain ⟨s, p⟩ := POrc.turn h2 h3 h1.mlt ok hO hx
  exact ⟨_, a, c, he, s, Row.fresh hr fun ad ha => (hf ad ha).1, hc, p⟩
theorem UnwrapO (h : POrc w o k S) (s : Int) {xa : Option Addr} {xc : Nat} {x : List UInt8} (hx : RowAt w xa (bytesV x)) (hxl : x.length < 1000000) (hxc : x.length ≤ xc) :
    Calls Try.prog 12 #[.pointer (some (blk k)), .int .u64 s, .slice xa x.length xc] w (Ret (.tuple #[.int .u64 (unwrapOf S s x).1, .int .i64 (unwrapOf S s x).2]) fun w' => Ext no w w') := by
  obtain ⟨g, rfl, h1, h2, h3⟩ := h
  exact (Unwrap_spec h1 s hx hxl hxc).mono fun e w' ⟨he, hx⟩ => ⟨he, hx⟩
end
end Go.Proofs.Ytaifegpikhjiiaa

/- The reference's rows, few and short; both oracles. -/
set_option linter.unusedVariables false
set_option linter.unusedSimpArgs false
set_option maxRecDepth 20000
namespace Go.Proofs.Ytaifegpikhjiiaa
open Go Go.Mx Go.Proofs
structure RFine (n : Nat) (d : List Int) (L : List RRow) : Prop where
  draws : ∀ x ∈ d, 0 ≤ x ∧ x < 18446744073709551616
  short : L.length ≤ n
  bytes : ∀ r ∈ L, r.A.length < 1000000 ∧ r.B.length < 1000000
section
variable {w w' : World} {o o' : Own} {k n : Nat} {K : Nat → Prop} {S : OS} {d : List Int} {L : List RRow}
theorem RFine.rok (h : RFine n d L) (ok : Tags w o) (hn : n < 1000000) : ROk w o d L := ⟨ok, h.draws, Nat.lt_of_le_of_lt h.short hn, h.bytes⟩
theorem RFine.put (h : RFine n d L) (r : RRow) (hr : r.A.length < 1000000 ∧ r.B.length < 1000000) : RFine (n + 1) (putR d L r).2.1 (putR d L r).2.2 := by
  refine ⟨freshR_draws h.draws, ?_, fun z hz => ?_⟩
  · have := h.short; rw [putR_len]; omega
  · rcases List.mem_append.1 hz with hz | hz
    · exact h.bytes z hz
    · simp at hz; subst hz; exact hr
theorem RFine.pair (h : RFine n d L) : RFine (n + 2) (pairR d L).2.1 (pairR d L).2.2 :=
  (h.put ⟨0, 3, [], [], 0, 0⟩ (by decide)).put _ ⟨by show (0 : Nat) < _; decide, by show (0 : Nat) < _; decide⟩
variable {j : Nat}
end
theorem ROrc.init {w w' : World} {o : Own} {q : Nat} {da : Option Addr} {dc : Nat} {d : List Int} (X : Ext no w w') (hb : Blk w' q 82 [.slice da d.length dc, .slice none 0 0]) (h1 : w.heap.size ≤ q) (h2 : q < w'.heap.size) (ok : Tags w o) (hd : Row w o da (d.map u64V)) (hc : d.length ≤ dc) :
    ∃ o', Step no w o w' o' ∧ ROrc w' o' q d [] := by
  have s := (Step.of_no X ok).tag h1 h2
  refine ⟨_, s, [], rfl, tag_self, ⟨da, dc, none, 0, hb, hc, hd.step s, Grows.nil _ _ _ _ _, fun ad ha => by cases ha⟩, fun x hx => by cases hx⟩
end Go.Proofs.Ytaifegpikhjiiaa

/- The reference's oracle, in step with the program's state. -/
set_option linter.unusedVariables false
set_option linter.unusedSimpArgs false
set_option maxRecDepth 20000
namespace Go.Proofs.Ytaifegpikhjiiaa
open Go Go.Mx Go.Proofs
structure Rof (w : World) (o : Own) (j : Nat) (S : OS) (n : Nat) : Prop where
  ex : ∃ d R, ROrc w o j d R ∧ Sim S d R ∧ RFine n d R
  ok : Tags w o
  inv : OInv S
section
variable {w w' : World} {o o' : Own} {j n : Nat} {K : Nat → Prop} {S : OS} {a : Option Addr} {c : Nat} {b : List UInt8}
theorem Rof.step (h : Rof w o j S n) (s : Step K w o w' o') (hj : ¬ K j) : Rof w' o' j S n := by
  obtain ⟨d, R, h1, h2, h3⟩ := h.ex
  exact ⟨⟨d, R, h1.step s hj, h2, h3⟩, s.ok, h.inv⟩
theorem Rof.lt (h : Rof w o j S n) : j < w.heap.size := by obtain ⟨d, R, h1, _⟩ := h.ex; exact h1.lt
theorem Rof.len (h : Rof w o j S n) : S.used.length ≤ n := by obtain ⟨d, R, h1, h2, h3⟩ := h.ex; rw [h2.us, List.length_map]; exact h3.short
theorem Rof.init {w w' : World} {o : Own} {q : Nat} {da : Option Addr} {dc : Nat} {d : List Int} (X : Ext no w w') (hb : Blk w' q 82 [.slice da d.length dc, .slice none 0 0]) (h1 : w.heap.size ≤ q) (h2 : q < w'.heap.size) (ok : Tags w o) (hd : Row w o da (d.map u64V)) (hc : d.length ≤ dc) (hr : ∀ x ∈ d, 0 ≤ x ∧ x < 18446744073709551616) :
    ∃ o', Step no w o w' o' ∧ Rof w' o' q (OS.init d) 0 := by
  obtain ⟨o', s, R⟩ := ROrc.init X hb h1 h2 ok hd hc
  exact ⟨o', s, ⟨_, _, R, Sim.init hr, ⟨hr, Nat.zero_le _, fun r h => by cases h⟩⟩, s.ok, OInv.init hr⟩
theorem Rof.pair (h : Rof w o j S n) (hn : n + 2 < 1000000) :
    Calls Try.prog 22 #[.pointer (some (blk j))] w (Gs (fun i => i = j) w o (.tuple #[u64V (pairOf S).1.1, u64V (pairOf S).1.2]) fun w' o' => Rof w' o' j (pairOf S).2 (n + 2)) := by
  obtain ⟨d, R, h1, h2, h3⟩ := h.ex
  obtain ⟨e1, e2⟩ := pair_sim h2
  refine (rPair_spec h1 (h3.rok h.ok (by omega)) (by have := h3.short; omega)).mono fun x w' ⟨o', he, s, r⟩ => ⟨o', by rw [he, e1]; rfl, s, ⟨_, _, r, e2, h3.pair⟩, s.ok, (pair_inv h.inv).1⟩
end
end Go.Proofs.Ytaifegpikhjiiaa
