/- Vectors: where two are at odds, both together, the chapter's example. -/
import Derived.Test.YtifplncikohlpaaVecB
set_option linter.unusedVariables false
set_option linter.unusedSimpArgs false
set_option maxRecDepth 20000
namespace Go.Proofs.Ytifplncikohlpaa
open Go Go.Mx Go.Proofs
/-- cachettelaw05.light -/
def light5.M (l1a : Option Addr) (l1n : Nat) (l1c : Nat) (R : Value → World → Prop) (w : World) : Prop :=
  ∃ (I0 : Nat → List Value → World → Prop) (m3 : Nat), I0 m3 [.int .i64 0] w ∧ ∀ (m4 : Nat) (ww5 : World) (i2 : Int), I0 m4 [.int .i64 i2] ww5 →
  bif decide (i2 < (l1n : Int)) then (
  l1a.elim False fun a6 =>
  0 ≤ (i2 : Int) ∧ (i2 : Int) < (l1n : Int) ∧
  ∃ (x7a : Option Addr) (x7n : Nat) (x7c : Nat), ww5.cell? (a6.add (Int.toNat i2 * 1)) = some (.slice x7a x7n x7c) ∧
  bif decide ((x7n : Int) > 30) then (
  R (.bool false) ww5) else (
  ∃ m8, m8 < m4 ∧ I0 m8 [.int .i64 (IntKind.i64.wrap (i2 + 1))] ww5)) else (
  R (.bool true) ww5)

theorem light5.eq (l1a : Option Addr) (l1n : Nat) (l1c : Nat) (R : Value → World → Prop) (w : World) : mfunc Try.prog [(0, [0], [(3, (.one (.int .i64)))])] 6 [.slice l1a l1n l1c] R w = light5.M l1a l1n l1c R w := by kernel_rfl
theorem light5.ok (l1a : Option Addr) (l1n : Nat) (l1c : Nat) {R : Value → World → Prop} {w : World} (h : light5.M l1a l1n l1c R w) : Calls Try.prog 6 #[.slice l1a l1n l1c] w fun e w' => ∃ v, e = .returned v ∧ R v w' :=
  mfunc_ok follows (H := [(0, [0], [(3, (.one (.int .i64)))])]) (args := [.slice l1a l1n l1c]) (by rw [light5.eq]; exact h)

/-- cachettelaw05.alive -/
def alive5.M  (R : Value → World → Prop) (w : World) : Prop :=
  thenW (w.alloc (.cells #[.int .i64 0, .int .i64 2, .int .u64 5] 44)) fun ww1 =>
  thenW (ww1.alloc (.cells #[.int .i64 1, .int .i64 1, .int .u64 6] 44)) fun ww2 =>
  Calls Try.prog 17 #[.slice (some (blk w.heap.size)) 1 1, .slice (some (blk ww1.heap.size)) 1 1] ww2 fun ee5 ww6 => ∃ (merge3a : Option Addr) (merge3n : Nat) (merge3c : Nat) (merge4 : Int), ee5 = .returned (.tuple #[.slice merge3a merge3n merge3c, .int .i64 merge4]) ∧
  Calls Try.prog 8 #[.slice (some (blk w.heap.size)) 1 1, .slice (some (blk ww1.heap.size)) 1 1] ww6 fun ee8 ww9 => ∃ (compare7 : Int), ee8 = .returned (.int .i64 compare7) ∧
  bif compare7 == 2 then (
  bif merge4 == 0 then (
  bif (merge3n : Int) == 2 then (
  merge3a.elim False fun a10 =>
  0 ≤ (1 : Int) ∧ (1 : Int) < (merge3n : Int) ∧
  ∃ (Sum11 : Int), ww9.cell? ((a10.add (Int.toNat 1 * 3)).add 2) = some (.int .u64 Sum11) ∧
  bif Sum11 == 6 then (
  Calls Try.prog 9 #[.slice merge3a merge3n merge3c] ww9 fun ee13 ww14 => ∃ (right12 : Bool), ee13 = .returned (.bool right12) ∧
  R (.bool right12) ww14) else (
  R (.bool false) ww9)) else (
  R (.bool false) ww9)) else (
  R (.bool false) ww9)) else (
  R (.bool false) ww9)

theorem alive5.eq  (R : Value → World → Prop) (w : World) : mfunc Try.prog [] 7 [] R w = alive5.M  R w := by kernel_rfl
theorem alive5.ok  {R : Value → World → Prop} {w : World} (h : alive5.M  R w) : Calls Try.prog 7 #[] w fun e w' => ∃ v, e = .returned v ∧ R v w' :=
  mfunc_ok follows (H := []) (args := []) (by rw [alive5.eq]; exact h)


section
variable {w w' : World} {aa ba : Option Addr} {ac bc : Nat} {a b : List Hd}
/-! ### Conflict -/
def confF (s : Int × Bool) (x y : Hd) : Int × Bool := if (!s.2 && (x.2.1 == y.2.1 && x.2.2 != y.2.2)) = true then (x.1, true) else s
def confV (a b : List Hd) : Int × Bool := if bothV a b then foldV confF a b (0, false) 8 else (0, false)
theorem conflict1_spec (x y : Hd) {I W : Nat} {n : Int} {c : Bool} (hI : Blk w I 4 [.bool c]) (hW : Blk w W 3 [.int .i64 n]) (hIW : I ≠ W) :
    Calls Try.prog 42 #[hdV x, hdV y, .pointer (some (blk I)), .pointer (some (blk W))] w (fun e w' => e = .returned (.tuple #[]) ∧ Blk w' I 4 [.bool (confF (n, c) x y).2] ∧ Blk w' W 3 [.int .i64 (confF (n, c) x y).1] ∧ Ext (fun b => b = I ∨ b = W) w w') := by
  refine (vConflict1.ok _ _ _ _ _ _ _ _ (R := fun v w' => v = .tuple #[] ∧ Blk w' I 4 [.bool (confF (n, c) x y).2] ∧ Blk w' W 3 [.int .i64 (confF (n, c) x y).1] ∧ Ext (fun b => b = I ∨ b = W) w w') ?_).mono fun e w' ⟨v, he, hv, hw⟩ => ⟨by rw [he, hv], hw⟩
  unfold vConflict1.M
  refine thenW_in fun w9 h9 => thenW_in fun w10 h10 => ?_
  have e9 : Ext no w w9 := by subst h9; exact (Ext.refl _ _).alloc _
  have e10 : Ext no w9 w10 := by subst h10; exact (Ext.refl _ _).alloc _
  have hX9 : Blk w9 w.heap.size 44 (hdC x) := by subst h9; exact Blk.new _ _ _
  have hX := hX9.ext e10 id
  have hY : Blk w10 w9.heap.size 44 (hdC y) := by subst h10; exact Blk.new _ _ _
  have hI10 := (hI.ext e9 id).ext e10 id
  have hW10 := (hW.ext e9 id).ext e10 id
  have x10 : Ext (fun b => b = I ∨ b = W) w w10 := (e9.trans e10).none
  refine ⟨_, hI10.cell (i := 0) rfl, ?_⟩
  have same : confF (n, c) x y = (n, c) → Blk w10 I 4 [.bool (confF (n, c) x y).2] ∧ Blk w10 W 3 [.int .i64 (confF (n, c) x y).1] ∧ Ext (fun b => b = I ∨ b = W) w w10 := fun h => by
    rw [h]; exact ⟨hI10, hW10, x10⟩
  cases c with
  | true =>
    exact ⟨rfl, same (by simp [confF])⟩
  | false =>
    rw [Bool.not_false, cond_true]
    refine ⟨_, hX.cella (i := 1) rfl, _, hY.cella (i := 1) rfl, ?_⟩
    by_cases c1 : x.2.1 = y.2.1
    · rw [beq_iff_eq.2 c1, cond_true]
      refine ⟨_, hX.cella (i := 2) rfl, _, hY.cella (i := 2) rfl, ?_⟩
      by_cases c2 : x.2.2 = y.2.2
      · rw [show (x.2.2 != y.2.2) = false by simp [c2], cond_false]
        exact ⟨rfl, same (by simp [confF, c2])⟩
      · rw [show (x.2.2 != y.2.2) = true by simpa using c2, cond_true]
        have hres : confF (n, false) x y = (x.1, true) := by simp [confF, c1, c2]
        refine ⟨_, hX.cella (i := 0) rfl, by rw [add_zero]; exact hW10.can (i := 0) rfl, thenW_in fun w13 h13 => ?_⟩
        rw [add_zero] at h13
        have hW13 : Blk w13 W 3 [.int .i64 x.1] := by subst h13; exact hW10.set 0 _
        have x13' : Ext (fun b => b = W) w10 w13 := by subst h13; exact Ext.set1 _ _ _
        have hI13 := hI10.ext x13' hIW
        refine ⟨by rw [add_zero]; exact hI13.can (i := 0) rfl, thenW_in fun w14 h14 => ?_⟩
        rw [add_zero] at h14
        have hI14 : Blk w14 I 4 [.bool true] := by subst h14; exact hI13.set 0 _
        have x14' : Ext (fun b => b = I) w13 w14 := by subst h14; exact Ext.set1 _ _ _
        rw [hres]
        exact ⟨rfl, hI14, hW13.ext x14' (fun e => hIW e.symm), (x10.trans (x13'.mono fun b hb _ => Or.inr hb)).trans (x14'.mono fun b hb _ => Or.inl hb)⟩
    · rw [beq_eq_false_iff_ne.2 c1, cond_false]
      exact ⟨rfl, same (by simp [confF, c1])⟩
theorem Conflict_spec (ha : RowAt w aa (hsC a)) (hb : RowAt w ba (hsC b)) (hla : a.length < 1000000) (hlb : b.length < 1000000) :
    Calls Try.prog 31 #[.slice aa a.length ac, .slice ba b.length bc] w (GivesV (.tuple #[.int .i64 (confV a b).1, .bool (confV a b).2]) fun w' => Ext no w w') := by
  refine (vConflict.ok _ _ _ _ _ _ (R := fun v w' => v = .tuple #[.int .i64 (confV a b).1, .bool (confV a b).2] ∧ Ext no w w') ?_).mono fun e w' ⟨v, he, hv, hw⟩ => ⟨by rw [he, hv], hw⟩
  unfold vConflict.M
  refine thenW_in fun w3 h3 => thenW_in fun w4 h4 => ?_
  have e3 : Ext no w w3 := by subst h3; exact (Ext.refl _ _).alloc _
  have e4' : Ext no w3 w4 := by subst h4; exact (Ext.refl _ _).alloc _
  have e4 := e3.trans e4'
  have hA3 : Blk w3 w.heap.size 3 [.int .i64 0] := by subst h3; exact Blk.new _ _ _
  have hA4 := hA3.ext e4' id
  have hB4 : Blk w4 w3.heap.size 4 [.bool false] := by subst h4; exact Blk.new _ _ _
  have hAB : w.heap.size ≠ w3.heap.size := by have := hA3.lt; omega
  refine (each_spec confF (0, false) (fun _ s w1 => Blk w1 w.heap.size 3 [.int .i64 s.1] ∧ Blk w1 w3.heap.size 4 [.bool s.2] ∧ Ext no w w1) 42 #[] _ (by kernel_rfl) hla hlb
    (fun _ s w1 h => ⟨ha.no h.2.2, hb.no h.2.2⟩) (fun _ s w1 w2 h k => ⟨h.1.ext k id, h.2.1.ext k id, h.2.2.trans k⟩) ⟨hA4, hB4, e4⟩ (fun s i w1 hi h => ?_)).mono fun e w7 ⟨he, _, hA7, hB7, x7⟩ => ⟨_, he, ?_⟩
  · exact (conflict1_spec (getV a i) (getV b i) h.2.1 h.1 (fun e => hAB e.symm)).mono fun e w2 ⟨he, q1, q2, q3⟩ => ⟨he, q2, q1, h.2.2.then q3 fun b hb => .inr (by have := e3.size; omega)⟩
  have hc : (if bothV a b = true then foldV confF a b (0, false) 8 else (0, false)) = confV a b := rfl
  rw [hc] at hA7 hB7
  refine thenW_in fun w8 h8 => ?_
  have x8' : Ext no w7 w8 := by subst h8; exact (Ext.refl _ _).drew
  have hA8 := hA7.ext x8' id
  have hB8 := hB7.ext x8' id
  have x8 := x7.trans x8'
  refine ⟨_, hA8.cell (i := 0) rfl, _, hB8.cell (i := 0) rfl, by rw [add_zero]; exact hA8.can (i := 0) rfl, thenW_in fun w11 h11 => ?_⟩
  rw [add_zero] at h11
  have hA11 : Blk w11 w.heap.size 3 [.int .i64 (confV a b).1] := by subst h11; exact hA8.set 0 _
  have x11' : Ext (fun b => b = w.heap.size) w8 w11 := by subst h11; exact Ext.set1 _ _ _
  have hB11 := hB8.ext x11' (fun e => hAB e.symm)
  have x11 : Ext no w w11 := x8.then x11' fun b hb => .inr (by omega)
  refine ⟨hB11.cell (i := 0) rfl, by rw [add_zero]; exact hB11.can (i := 0) rfl, thenW_in fun w12 h12 => ?_⟩
  rw [add_zero] at h12
  have hB12 : Blk w12 w3.heap.size 4 [.bool (confV a b).2] := by subst h12; exact hB11.set 0 _
  have x12' : Ext (fun b => b = w3.heap.size) w11 w12 := by subst h12; exact Ext.set1 _ _ _
  exact ⟨_, (hA11.ext x12' hAB).cell (i := 0) rfl, _, hB12.cell (i := 0) rfl, rfl, x11.then x12' fun b hb => .inr (by have := e3.size; omega)⟩

/-! ### Merge -/
def mergeF (l : List Hd) (x y : Hd) : List Hd := if (if x.2.1 < y.2.1 then y else x).2.1 > 0 then l ++ [if x.2.1 < y.2.1 then y else x] else l
theorem merge_len (l : List Hd) (x y : Hd) : (mergeF l x y).length ≤ l.length + 1 := by
  unfold mergeF
  generalize (if x.2.1 < y.2.1 then y else x) = z
  by_cases h : z.2.1 > 0
  · rw [if_pos h]; simp
  · rw [if_neg h]; omega
def mergeV (a b : List Hd) : List Hd × Int := if (confV a b).2 then ([], 9) else if bothV a b then (foldV mergeF a b [] 8, 0) else ([], 1)
theorem merge1_spec (x y : Hd) {N A : Nat} {l : List Hd} (h : Grows N w A 34 l) (hl : l.length ≤ 1000000) (hN : N ≤ w.heap.size) :
    Calls Try.prog 32 #[hdV x, hdV y, .pointer (some (blk A))] w (fun e w' => e = .returned (.tuple #[]) ∧ Grows N w' A 34 (mergeF l x y) ∧ Ext (fun b => N ≤ b) w w') := by
  refine (vMerge1.ok _ _ _ _ _ _ _ (R := fun v w' => v = .tuple #[] ∧ Grows N w' A 34 (mergeF l x y) ∧ Ext (fun b => N ≤ b) w w') ?_).mono fun e w' ⟨v, he, hv, hw⟩ => ⟨by rw [he, hv], hw⟩
  unfold vMerge1.M
  refine thenW_in fun w9 h9 => thenW_in fun w10 h10 => ?_
  have e9 : Ext no w w9 := by subst h9; exact (Ext.refl _ _).alloc _
  have e10 : Ext no w9 w10 := by subst h10; exact (Ext.refl _ _).alloc _
  have hX9 : Blk w9 w.heap.size 44 (hdC x) := by subst h9; exact Blk.new _ _ _
  have hX := hX9.ext e10 id
  have hY : Blk w10 w9.heap.size 44 (hdC y) := by subst h10; exact Blk.new _ _ _
  have e := e9.trans e10
  refine ⟨_, hX.cella (i := 1) rfl, _, hY.cella (i := 1) rfl, ?_⟩
  -- once the head lies in x's block
  have push : ∀ (w1 : World) (z : Hd), Blk w1 w.heap.size 44 (hdC z) → Ext no w w1 → ∃ (ra : Option Addr) (n rc : Nat), w1.cell? (blk A) = some (.slice ra n rc) ∧ ∃ (p q r : Int), cellsAt w1 (blk w.heap.size) [.int .i64 p, .int .i64 q, .int .u64 r] 0 ∧
      thenW (w1.alloc (.cells #[.int .i64 p, .int .i64 q, .int .u64 r] 44)) fun w2 => ∃ (ra' : Option Addr) (n' rc' : Nat) (w3 : World), (Builtin.append_ #[34, 34] 34 #[.slice ra n rc, .slice (some (blk w1.heap.size)) 1 1]).run Try.prog w2 = .ok (.slice ra' n' rc') w3 ∧
        canStore w3 ((blk A).add 0) ∧ thenW (w3.setCell ((blk A).add 0) (.slice ra' n' rc')) fun w4 => Value.tuple #[] = .tuple #[] ∧ Grows N w4 A 34 (l ++ [z]) ∧ Ext (fun b => N ≤ b) w w4 := fun w1 z hz hx => by
    obtain ⟨ra, rc, hc, hp⟩ := grows_push (ty := 34) Try.underlying34 (h.ext hx fun b hb => hb.elim) hl (Nat.le_trans hN hx.size) z
    refine ⟨ra, l.length, rc, hc, _, _, _, ⟨hz.cella (i := 0) rfl, hz.cella (i := 1) rfl, hz.cella (i := 2) rfl, trivial⟩, thenW_in fun w16 h16 => ?_⟩
    obtain ⟨ra', rc', w18, hr, hcan, hfin⟩ := hp w16 h16
    refine ⟨ra', l.length + 1, rc', w18, hr, hcan, thenW_in fun w19 h19 => ?_⟩
    obtain ⟨g1, g2⟩ := hfin w19 h19
    exact ⟨rfl, g1, hx.none.trans g2⟩
  unfold mergeF
  by_cases c1 : x.2.1 < y.2.1
  · rw [decide_eq_true c1, cond_true, if_pos c1]
    refine ⟨_, _, _, ⟨hY.cella (i := 0) rfl, hY.cella (i := 1) rfl, hY.cella (i := 2) rfl, trivial⟩, hX.cana (i := 0) rfl, thenW_in fun w11 h11 => ?_⟩
    have hb11 := hX.seta 0 (.int .i64 y.1)
    rw [← h11] at hb11
    have x11 : Ext no w w11 := by subst h11; exact e.setCell (.inr (by rw [add_zero]; exact Nat.le_refl _)) _
    refine ⟨hb11.cana (i := 1) rfl, thenW_in fun w12 h12 => ?_⟩
    have hb12 := hb11.seta 1 (.int .i64 y.2.1)
    rw [← h12] at hb12
    have x12 : Ext no w w12 := by subst h12; exact x11.setCell (.inr (by rw [add_blk]; exact Nat.le_refl _)) _
    refine ⟨hb12.cana (i := 2) rfl, thenW_in fun w13 h13 => ?_⟩
    have hb13 := hb12.seta 2 (.int .u64 y.2.2)
    rw [← h13] at hb13
    have x13 : Ext no w w13 := by subst h13; exact x12.setCell (.inr (by rw [add_blk]; exact Nat.le_refl _)) _
    refine ⟨_, hb13.cella (i := 1) rfl, ?_⟩
    by_cases c2 : y.2.1 > 0
    · rw [decide_eq_true c2, cond_true, if_pos c2]
      exact push w13 y hb13 x13
    · rw [decide_eq_false c2, cond_false, if_neg c2]
      exact ⟨rfl, h.ext x13 fun b hb => hb.elim, x13.none⟩
  · rw [decide_eq_false c1, cond_false, if_neg c1]
    refine ⟨_, hX.cella (i := 1) rfl, ?_⟩
    by_cases c2 : x.2.1 > 0
    · rw [decide_eq_true c2, cond_true, if_pos c2]
      exact push w10 x hX e
    · rw [decide_eq_false c2, cond_false, if_neg c2]
      exact ⟨rfl, h.ext e fun b hb => hb.elim, e.none⟩
theorem Merge_spec (ha : RowAt w aa (hsC a)) (hb : RowAt w ba (hsC b)) (hla : a.length < 1000000) (hlb : b.length < 1000000) :
    Calls Try.prog 17 #[.slice aa a.length ac, .slice ba b.length bc] w (fun e w' => ∃ ra rc, e = .returned (.tuple #[.slice ra (mergeV a b).1.length rc, .int .i64 (mergeV a b).2]) ∧ RowAt w' ra (hsC (mergeV a b).1) ∧ Ext no w w') := by
  refine (vMerge.ok _ _ _ _ _ _ (R := fun v w' => ∃ ra rc, v = .tuple #[.slice ra (mergeV a b).1.length rc, .int .i64 (mergeV a b).2] ∧ RowAt w' ra (hsC (mergeV a b).1) ∧ Ext no w w') ?_).mono fun e w' ⟨v, he, ra, rc, hv, hw⟩ => ⟨ra, rc, by rw [he, hv], hw⟩
  unfold vMerge.M
  refine thenW_in fun w3 h3 => ?_
  have e3 : Ext no w w3 := by subst h3; exact (Ext.refl _ _).alloc _
  have hA3 : Blk w3 w.heap.size 34 [.slice none 0 0] := by subst h3; exact Blk.new _ _ _
  have hG3 : Grows w.heap.size w3 w.heap.size 34 [] := ⟨none, 0, hA3, owns_nil _ _ _, (fun ad (ha : none = some ad) => by cases ha), Nat.le_refl _⟩
  refine (Conflict_spec (ha.no e3) (hb.no e3) hla hlb).mono fun e w7 ⟨he, x7'⟩ => ⟨_, _, he, ?_⟩
  have x7 := e3.trans x7'
  have hG7 := hG3.ext x7' fun b hb => hb.elim
  unfold mergeV
  by_cases c1 : (confV a b).2 = true
  · rw [c1, cond_true, if_pos rfl]
    obtain ⟨ra, rc, q1, q2, q3, q4⟩ := hG7
    refine ⟨q1.cana (i := 0) rfl, thenW_in fun w8 h8 => ?_⟩
    rw [add_zero] at h8
    have hA8 : Blk w8 w.heap.size 34 [.slice none 0 0] := by subst h8; exact q1.set 0 _
    have x8' : Ext (fun b => b = w.heap.size) w7 w8 := by subst h8; exact Ext.set1 _ _ _
    exact ⟨none, 0, 0, hA8.cell (i := 0) rfl, none, 0, rfl, RowAt.nil _ _, x7.then x8' fun b hb => .inr (by omega)⟩
  rw [show (confV a b).2 = false by simpa using c1, cond_false, if_neg (by decide)]
  refine (each_spec mergeF [] (fun n l w1 => Grows w.heap.size w1 w.heap.size 34 l ∧ Ext no w w1 ∧ l.length ≤ n) 32 #[] _ (by kernel_rfl) hla hlb
    (fun _ s w1 h => ⟨ha.no h.2.1, hb.no h.2.1⟩) (fun _ s w1 w2 h k => ⟨h.1.ext k fun b hb => hb.elim, h.2.1.trans k, h.2.2⟩) ⟨hG7, x7, Nat.le_refl _⟩ (fun l i w1 hi h => ?_)).mono fun e w12 ⟨he, _, hG12, x12, _⟩ => ⟨_, he, ?_⟩
  · refine (merge1_spec (getV a i) (getV b i) h.1 (by omega) h.2.1.size).mono fun e w2 ⟨he, q1, q2⟩ => ⟨he, q1, h.2.1.then q2 fun b hb => .inr hb, ?_⟩
    have := merge_len l (getV a i) (getV b i)
    omega
  obtain ⟨ra, rc, q1, q2, q3, q4⟩ := hG12
  by_cases c2 : bothV a b = true
  · rw [c2, Bool.not_true, cond_false, if_pos rfl]
    rw [if_pos c2] at q1 q2
    refine ⟨ra, _, rc, q1.cell (i := 0) rfl, q1.cana (i := 0) rfl, thenW_in fun w8 h8 => ?_⟩
    rw [add_zero] at h8
    have hA8 : Blk w8 w.heap.size 34 [.slice ra (foldV mergeF a b [] 8).length rc] := by subst h8; exact q1.set 0 _
    have x8' : Ext (fun b => b = w.heap.size) w12 w8 := by subst h8; exact Ext.set1 _ _ _
    obtain ⟨_, _, hv, hrow⟩ := RowAt.of_owns q2
    cases hv
    exact ⟨ra, _, rc, hA8.cell (i := 0) rfl, ra, rc, rfl, hrow.ext x8' (fun ad ha hq => (q3 ad ha).2 hq), x12.then x8' fun b hb => .inr (by omega)⟩
  · rw [show bothV a b = false by simpa using c2, Bool.not_false, cond_true, if_neg (by decide)]
    refine ⟨q1.cana (i := 0) rfl, thenW_in fun w8 h8 => ?_⟩
    rw [add_zero] at h8
    have hA8 : Blk w8 w.heap.size 34 [.slice none 0 0] := by subst h8; exact q1.set 0 _
    have x8' : Ext (fun b => b = w.heap.size) w12 w8 := by subst h8; exact Ext.set1 _ _ _
    exact ⟨none, 0, 0, hA8.cell (i := 0) rfl, none, 0, rfl, RowAt.nil _ _, x12.then x8' fun b hb => .inr (by omega)⟩

/-! ### the chapter's example -/
theorem alive5_spec (w : World) : Calls Try.prog 7 #[] w (GivesV (.bool true) fun w' => Ext no w w') := by
  refine (alive5.ok (R := fun v w' => v = .bool true ∧ Ext no w w') ?_).mono fun e w' ⟨v, he, hv, hw⟩ => ⟨by rw [he, hv], hw⟩
  unfold alive5.M
  refine thenW_in fun w1 h1 => thenW_in fun w2 h2 => ?_
  have x1 : Ext no w w1 := by subst h1; exact (Ext.refl _ _).alloc _
  have x2' : Ext no w1 w2 := by subst h2; exact (Ext.refl _ _).alloc _
  have x2 := x1.trans x2'
  have ra : RowAt w1 (some (blk w.heap.size)) (hsC [(0, 2, 5)]) := by subst h1; exact RowAt.of_blk (Blk.new w 44 _)
  have rb : RowAt w2 (some (blk w1.heap.size)) (hsC [(1, 1, 6)]) := by subst h2; exact RowAt.of_blk (Blk.new w1 44 _)
  have hm : mergeV [(0, 2, 5)] [(1, 1, 6)] = ([(0, 2, 5), (1, 1, 6)], 0) := by decide
  have hmg := Merge_spec (ac := 1) (bc := 1) (ra.no x2') rb (by decide) (by decide)
  rw [hm] at hmg
  refine hmg.mono fun e w6 ⟨ma, mc, he, hrm, x6'⟩ => ⟨ma, _, mc, _, he, ?_⟩
  have hcp := Compare_spec (ac := 1) (bc := 1) ((ra.no x2').no x6') (rb.no x6') (by decide) (by decide)
  rw [show cmpV [(0, 2, 5)] [(1, 1, 6)] = 2 by decide] at hcp
  refine hcp.mono fun e w9 ⟨he, x9'⟩ => ⟨_, he, ?_⟩
  have hr9 := hrm.no x9'
  obtain ⟨ad, rfl⟩ := hr9.addr (by simp [hsC, hdC])
  refine ⟨by decide, by decide, 6, hs_cell hr9 (i := 1) (h := (1, 1, 6)) rfl (j := 2) rfl, ?_⟩
  have hri := Right_spec (c := mc) hr9 (by decide)
  rw [show rightV [(0, 2, 5), (1, 1, 6)] = true by decide] at hri
  exact hri.mono fun e w14 ⟨he, x14⟩ => ⟨_, he, rfl, ((x2.trans x6').trans x9').trans x14⟩
/-- a list of slices: none is longer than 30. -/
theorem light_spec {la : Option Addr} {lc : Nat} {l : List (Option Addr × Nat × Nat)} (hr : RowAt w la (l.map fun p => Value.slice p.1 p.2.1 p.2.2)) (hl : l.length < 1000) :
    Calls Try.prog 6 #[.slice la l.length lc] w (GivesV (.bool (l.all fun p => decide (p.2.1 ≤ 30))) fun w' => w' = w) := by
  refine (light5.ok _ _ _ (R := fun v w' => v = .bool (l.all fun p => decide (p.2.1 ≤ 30)) ∧ w' = w) ?_).mono fun e w' ⟨v, he, hv, hw⟩ => ⟨by rw [he, hv], hw⟩
  unfold light5.M
  refine ⟨fun k vs w1 => ∃ t : Nat, vs = [.int .i64 t] ∧ k + t = l.length ∧ ((l.drop t).all fun p => decide (p.2.1 ≤ 30)) = (l.all fun p => decide (p.2.1 ≤ 30)) ∧ w1 = w, l.length, ⟨0, rfl, rfl, rfl, rfl⟩, ?_⟩
  rintro k w1 i ⟨t, hi, hk, hf, rfl⟩
  simp only [List.cons.injEq, Value.int.injEq, true_and, and_true] at hi
  subst hi
  cases k with
  | zero =>
    obtain rfl : t = l.length := by omega
    rw [show decide ((l.length : Int) < (l.length : Int)) = false by simp, cond_false]
    rw [List.drop_length] at hf
    exact ⟨by rw [← hf]; rfl, rfl⟩
  | succ k =>
    have ht : t < l.length := by omega
    rw [show decide ((t : Int) < (l.length : Int)) = true by simp; omega, cond_true]
    obtain ⟨ad, rfl⟩ := hr.addr (by intro e; rw [List.map_eq_nil_iff] at e; subst e; simp at ht)
    rw [List.drop_eq_getElem_cons ht, List.all_cons] at hf
    refine ⟨by omega, by omega, _, _, _, by rw [Int.toNat_natCast, Nat.mul_one]; exact hr.at_ (v := .slice l[t].1 l[t].2.1 l[t].2.2) (by simp [ht]), ?_⟩
    by_cases c1 : (l[t].2.1 : Int) > 30
    · rw [decide_eq_true c1, cond_true]
      rw [decide_eq_false (by omega), Bool.false_and] at hf
      exact ⟨by rw [← hf], rfl⟩
    · rw [decide_eq_false c1, cond_false]
      rw [decide_eq_true (by omega), Bool.true_and] at hf
      exact ⟨k, by omega, t + 1, by rw [w64 (by omega) (by omega)]; rfl, by omega, hf, rfl⟩
end
end Go.Proofs.Ytifplncikohlpaa
