/- Vectors: where two are at odds, both together, the chapter's example. -/
import Derived.Test.YtnhnhojaninojaaZA
import Derived.ArgAppend
import Derived.Lib.Overlaps
import Derived.Lib.AppendZerosOnto
import Derived.Laws.IdiomCopy
import Derived.Laws.Externs
import Derived.Test.YtnhnhojaninojaaProg
import Derived.KernelRfl
import Derived.Laws.StructEq
set_option linter.unusedVariables false
set_option linter.unusedSimpArgs false
set_option maxRecDepth 20000
namespace Go.Proofs.Ytnhnhojaninojaa
open Go Go.Mx Go.Proofs
/-- cachettelaw05.light -/
def light5.M (l1a : Option Addr) (l1n : Nat) (l1c : Nat) (R : Value → World → Prop) (w : World) : Prop :=
  ∃ (I0 : Nat → List Value → World → Prop) (m3 : Nat), I0 m3 [.int .i64 0] w ∧ ∀ (m4 : Nat) (ww5 : World) (i2 : Int), I0 m4 [.int .i64 i2] ww5 →
  bif decide (i2 < (l1n : Int)) then (
  l1a.elim False fun a6 =>
  0 ≤ (i2 : Int) ∧ (i2 : Int) < (l1n : Int) ∧
  ∃ (x7a : Option Addr) (x7n : Nat) (x7c : Nat), ww5.cell? (a6.add (Int.toNat i2 * 1)) = some (.slice x7a x7n x7c) ∧
  bif decide ((x7n : Int) > 30) then (
  R (.bool false) ww5) else (
  ∃ m8, m8 < m4 ∧ I0 m8 [.int .i64 (IntKind.i64.wrap (i2 + 1))] ww5)) else (
  R (.bool true) ww5)

theorem light5.eq (l1a : Option Addr) (l1n : Nat) (l1c : Nat) (R : Value → World → Prop) (w : World) : mfunc Try.prog [(0, [0], [(3, (.one (.int .i64)))])] 4 [.slice l1a l1n l1c] R w = light5.M l1a l1n l1c R w := by kernel_rfl
theorem light5.ok (l1a : Option Addr) (l1n : Nat) (l1c : Nat) {R : Value → World → Prop} {w : World} (h : light5.M l1a l1n l1c R w) : Calls Try.prog 4 #[.slice l1a l1n l1c] w fun e w' => ∃ v, e = .returned v ∧ R v w' :=
  mfunc_ok follows (H := [(0, [0], [(3, (.one (.int .i64)))])]) (args := [.slice l1a l1n l1c]) (by rw [light5.eq]; exact h)

/-- cachettelaw05.alive -/
def alive5.M  (R : Value → World → Prop) (w : World) : Prop :=
  thenW (w.alloc (.cells #[.int .i64 0, .int .i64 2, .int .u64 5] 25)) fun ww1 =>
  thenW (ww1.alloc (.cells #[.int .i64 1, .int .i64 1, .int .u64 6] 25)) fun ww2 =>
  Calls Try.prog 13 #[.slice (some (blk w.heap.size)) 1 1, .slice (some (blk ww1.heap.size)) 1 1] ww2 fun ee5 ww6 => ∃ (merge3a : Option Addr) (merge3n : Nat) (merge3c : Nat) (merge4 : Int), ee5 = .returned (.tuple #[.slice merge3a merge3n merge3c, .int .i64 merge4]) ∧
  Calls Try.prog 14 #[.slice (some (blk w.heap.size)) 1 1, .slice (some (blk ww1.heap.size)) 1 1] ww6 fun ee8 ww9 => ∃ (compare7 : Int), ee8 = .returned (.int .i64 compare7) ∧
  bif compare7 == 2 then (
  bif merge4 == 0 then (
  bif (merge3n : Int) == 2 then (
  merge3a.elim False fun a10 =>
  0 ≤ (1 : Int) ∧ (1 : Int) < (merge3n : Int) ∧
  ∃ (Sum11 : Int), ww9.cell? ((a10.add (Int.toNat 1 * 3)).add 2) = some (.int .u64 Sum11) ∧
  bif Sum11 == 6 then (
  Calls Try.prog 8 #[.slice merge3a merge3n merge3c] ww9 fun ee13 ww14 => ∃ (right12 : Bool), ee13 = .returned (.bool right12) ∧
  R (.bool right12) ww14) else (
  R (.bool false) ww9)) else (
  R (.bool false) ww9)) else (
  R (.bool false) ww9)) else (
  R (.bool false) ww9)

theorem alive5.eq  (R : Value → World → Prop) (w : World) : mfunc Try.prog [] 5 [] R w = alive5.M  R w := by kernel_rfl
theorem alive5.ok  {R : Value → World → Prop} {w : World} (h : alive5.M  R w) : Calls Try.prog 5 #[] w fun e w' => ∃ v, e = .returned v ∧ R v w' :=
  mfunc_ok follows (H := []) (args := []) (by rw [alive5.eq]; exact h)


section
variable {w w' : World} {aa ba : Option Addr} {ac bc : Nat} {a b : List Hd}
/-! ### Conflict -/
def confF (s : Int × Bool) (x y : Hd) : Int × Bool := if (!s.2 && (x.2.1 == y.2.1 && x.2.2 != y.2.2)) = true then (x.1, true) else s
def confV (a b : List Hd) : Int × Bool := if bothV a b then foldV confF a b (0, false) 8 else (0, false)
theorem conflict1_spec (x y : Hd) {I W : Nat} {n : Int} {c : Bool} (hI : Blk w I 4 [.bool c]) (hW : Blk w W 3 [.int .i64 n]) (hIW : I ≠ W) :
    Calls Try.prog 29 #[hdV x, hdV y, .pointer (some (blk I)), .pointer (some (blk W))] w (fun e w' => e = .returned (.tuple #[]) ∧ Blk w' I 4 [.bool (confF (n, c) x y).2] ∧ Blk w' W 3 [.int .i64 (confF (n, c) x y).1] ∧ Ext (fun b => b = I ∨ b = W) w w') := by
  refine (vConflict1.ok _ _ _ _ _ _ _ _ (R := fun v w' => v = .tuple #[] ∧ Blk w' I 4 [.bool (confF (n, c) x y).2] ∧ Blk w' W 3 [.int .i64 (confF (n, c) x y).1] ∧ Ext (fun b => b = I ∨ b = W) w w') ?_).mono fun e w' ⟨v, he, hv, hw⟩ => ⟨by rw [he, hv], hw⟩
  unfold vConflict1.M
  refine thenW_in fun w9 h9 => thenW_in fun w10 h10 => ?_
  have e9 : Ext no w w9 := by subst h9; exact (Ext.refl _ _).alloc _
  have e10 : Ext no w9 w10 := by subst h10; exact (Ext.refl _ _).alloc _
  have hX9 : Blk w9 w.heap.size 25 (hdC x) := by subst h9; exact Blk.new _ _ _
  have hX := hX9.ext e10 id
  have hY : Blk w10 w9.heap.size 25 (hdC y) := by subst h10; exact Blk.new _ _ _
  have hI10 := (hI.ext e9 id).ext e10 id
  have hW10 := (hW.ext e9 id).ext e10 id
  have x10 : Ext (fun b => b = I ∨ b = W) w w10 := (e9.trans e10).none
  refine ⟨_, hI10.cell (i := 0) rfl, ?_⟩
  have same : confF (n, c) x y = (n, c) → Blk w10 I 4 [.bool (confF (n, c) x y).2] ∧ Blk w10 W 3 [.int .i64 (confF (n, c) x y).1] ∧ Ext (fun b => b = I ∨ b = W) w w10 := fun h => by
    rw [h]; exact ⟨hI10, hW10, x10⟩
  cases c with
  | true =>
    exact ⟨rfl, same (by simp [confF])⟩
  | false =>
    rw [Bool.not_false, cond_true]
    refine ⟨_, hX.cella (i := 1) rfl, _, hY.cella (i := 1) rfl, ?_⟩
    by_cases c1 : x.2.1 = y.2.1
    · rw [beq_iff_eq.2 c1, cond_true]
      refine ⟨_, hX.cella (i := 2) rfl, _, hY.cella (i := 2) rfl, ?_⟩
      by_cases c2 : x.2.2 = y.2.2
      · rw [show (x.2.2 != y.2.2) = false by simp [c2], cond_false]
        exact ⟨rfl, same (by simp [confF, c2])⟩
      · rw [show (x.2.2 != y.2.2) = true by simpa using c2, cond_true]
        have hres : confF (n, false) x y = (x.1, true) := by simp [confF, c1, c2]
        refine ⟨_, hX.cella (i := 0) rfl, by rw [add_zero]; exact hW10.can (i := 0) rfl, thenW_in fun w13 h13 => ?_⟩
        rw [add_zero] at h13
        have hW13 : Blk w13 W 3 [.int .i64 x.1] := by subst h13; exact hW10.set 0 _
        have x13' : Ext (fun b => b = W) w10 w13 := by subst h13; exact Ext.set1 _ _ _
        have hI13 := hI10.ext x13' hIW
        refine ⟨by rw [add_zero]; exact hI13.can (i := 0) rfl, thenW_in fun w14 h14 => ?_⟩
        rw [add_zero] at h14
        have hI14 : Blk w14 I 4 [.bool true] := by subst h14; exact hI13.set 0 _
        have x14' : Ext (fun b => b = I) w13 w14 := by subst h14; exact Ext.set1 _ _ _
        rw [hres]
        exact ⟨rfl, hI14, hW13.ext x14' (fun e => hIW e.symm), (x10.trans (x13'.mono fun b hb _ => Or.inr hb)).trans (x14'.mono fun b hb _ => Or.inl hb)⟩
    · rw [beq_eq_false_iff_ne.2 c1, cond_false]
      exact ⟨rfl, same (by simp [confF, c1])⟩
theorem Conflict_spec (ha : RowAt w aa (hsC a)) (hb : RowAt w ba (hsC b)) (hla : a.length < 1000000) (hlb : b.length < 1000000) :
    Calls Try.prog 20 #[.slice aa a.length ac, .slice ba b.length bc] w (GivesV (.tuple #[.int .i64 (confV a b).1, .bool (confV a b).2]) fun w' => Ext no w w') := by
  refine (vConflict.ok _ _ _ _ _ _ (R := fun v w' => v = .tuple #[.int .i64 (confV a b).1, .bool (confV a b).2] ∧ Ext no w w') ?_).mono fun e w' ⟨v, he, hv, hw⟩ => ⟨by rw [he, hv], hw⟩
  unfold vConflict.M
  refine thenW_in fun w3 h3 => thenW_in fun w4 h4 => ?_
  have e3 : Ext no w w3 := by subst h3; exact (Ext.refl _ _).alloc _
  have e4' : Ext no w3 w4 := by subst h4; exact (Ext.refl _ _).alloc _
  have e4 := e3.trans e4'
  have hA3 : Blk w3 w.heap.size 3 [.int .i64 0] := by subst h3; exact Blk.new _ _ _
  have hA4 := hA3.ext e4' id
  have hB4 : Blk w4 w3.heap.size 4 [.bool false] := by subst h4; exact Blk.new _ _ _
  have hAB : w.heap.size ≠ w3.heap.size := by have := hA3.lt; omega
  refine (each_spec confF (0, false) (fun _ s w1 => Blk w1 w.heap.size 3 [.int .i64 s.1] ∧ Blk w1 w3.heap.size 4 [.bool s.2] ∧ Ext no w w1) 29 #[] _ (by kernel_rfl) hla hlb
    (fun _ s w1 h => ⟨ha.no h.2.2, hb.no h.2.2⟩) (fun _ s w1 w2 h k => ⟨h.1.ext k id, h.2.1.ext k id, h.2.2.trans k⟩) ⟨hA4, hB4, e4⟩ (fun s i w1 hi h => ?_)).mono fun e w7 ⟨he, _, hA7, hB7, x7⟩ => ⟨_, he, ?_⟩
  · exact (conflict1_spec (getV a i) (getV b i) h.2.1 h.1 (fun e => hAB e.symm)).mono fun e w2 ⟨he, q1, q2, q3⟩ => ⟨he, q2, q1, h.2.2.then q3 fun b hb => .inr (by have := e3.size; omega)⟩
  have hc : (if bothV a b = true then foldV confF a b (0, false) 8 else (0, false)) = confV a b := rfl
  rw [hc] at hA7 hB7
  refine thenW_in fun w8 h8 => ?_
  have x8' : Ext no w7 w8 := by subst h8; exact (Ext.refl _ _).drew
  have hA8 := hA7.ext x8' id
  have hB8 := hB7.ext x8' id
  have x8 := x7.trans x8'
  refine ⟨_, hA8.cell (i := 0) rfl, _, hB8.cell (i := 0) rfl, by rw [add_zero]; exact hA8.can (i := 0) rfl, thenW_in fun w11 h11 => ?_⟩
  rw [add_zero] at h11
  have hA11 : Blk w11 w.heap.size 3 [.int .i64 (confV a b).1] := by subst h11; exact hA8.set 0 _
  have x11' : Ext (fun b => b = w.heap.size) w8 w11 := by subst h11; exact Ext.set1 _ _ _
  have hB11 := hB8.ext x11' (fun e => hAB e.symm)
  have x11 : Ext no w w11 := x8.then x11' fun b hb => .inr (by omega)
  refine ⟨hB11.cell (i := 0) rfl, by rw [add_zero]; exact hB11.can (i := 0) rfl, thenW_in fun w12 h12 => ?_⟩
  rw [add_zero] at h12
  have hB12 : Blk w12 w3.heap.size 4 [.bool (confV a b).2] := by subst h12; exact hB11.set 0 _
  have x12' : Ext (fun b => b = w3.heap.size) w11 w12 := by subst h12; exact Ext.set1 _ _ _
  exact ⟨_, (hA11.ext x12' hAB).cell (i := 0) rfl, _, hB12.cell (i := 0) rfl, rfl, x11.then x12' fun b hb => .inr (by have := e3.size; omega)⟩

/-! ### Merge -/
def mergeF (l : List Hd) (x y : Hd) : List Hd := if (if x.2.1 < y.2.1 then y else x).2.1 > 0 then l ++ [if x.2.1 < y.2.1 then y else x] else l
theorem merge_len (l : List Hd) (x y : Hd) : (mergeF l x y).length ≤ l.length + 1 := by
  unfold mergeF
  generalize (if x.2.1 < y.2.1 then y else x) = z
  by_cases h : z.2.1 > 0
  · rw [if_pos h]; simp
  · rw [if_neg h]; omega
def mergeV (a b : List Hd) : List Hd × Int := if (confV a b).2 then ([], 9) else if bothV a b then (foldV mergeF a b [] 8, 0) else ([], 1)
theorem merge1_spec (x y : Hd) {N A : Nat} {l : List Hd} (h : Grows N w A 28 l) (hl : l.length ≤ 1000000) (hN : N ≤ w.heap.size) :
    Calls Try.prog 22 #[hdV x, hdV y, .pointer (some (blk A))] w (fun e w' => e = .returned (.tuple #[]) ∧ Grows N w' A 28 (mergeF l x y) ∧ Ext (fun b => N ≤ b) w w') := by
  refine (vMerge1.ok _ _ _ _ _ _ _ (R := fun v w' => v = .tuple #[] ∧ Grows N w' A 28 (mergeF l x y) ∧ Ext (fun b => N ≤ b) w w') ?_).mono fun e w' ⟨v, he, hv, hw⟩ => ⟨by rw [he, hv], hw⟩
  unfold vMerge1.M
  refine thenW_in fun w9 h9 => thenW_in fun w10 h10 => ?_
  have e9 : Ext no w w9 := by subst h9; exact (Ext.refl _ _).alloc _
  have e10 : Ext no w9 w10 := by subst h10; exact (Ext.refl _ _).alloc _
  have hX9 : Blk w9 w.heap.size 25 (hdC x) := by subst h9; exact Blk.new _ _ _
  have hX := hX9.ext e10 id
  have hY : Blk w10 w9.heap.size 25 (hdC y) := by subst h10; exact Blk.new _ _ _
  have e := e9.trans e10
  refine ⟨_, hX.cella (i := 1) rfl, _, hY.cella (i := 1) rfl, ?_⟩
  -- once the head lies in x's block
  have push : ∀ (w1 : World) (z : Hd), Blk w1 w.heap.size 25 (hdC z) → Ext no w w1 → ∃ (ra : Option Addr) (n rc : Nat), w1.cell? (blk A) = some (.slice ra n rc) ∧ ∃ (p q r : Int), cellsAt w1 (blk w.heap.size) [.int .i64 p, .int .i64 q, .int .u64 r] 0 ∧
      thenW (w1.alloc (.cells #[.int .i64 p, .int .i64 q, .int .u64 r] 25)) fun w2 => ∃ (ra' : Option Addr) (n' rc' : Nat) (w3 : World), (Builtin.append_ #[28, 28] 28 #[.slice ra n rc, .slice (some (blk w1.heap.size)) 1 1]).run Try.prog w2 = .ok (.slice ra' n' rc') w3 ∧
        canStore w3 ((blk A).add 0) ∧ thenW (w3.setCell ((blk A).add 0) (.slice ra' n' rc')) fun w4 => Value.tuple #[] = .tuple #[] ∧ Grows N w4 A 28 (l ++ [z]) ∧ Ext (fun b => N ≤ b) w w4 := fun w1 z hz hx => by
    obtain ⟨ra, rc, hc, hp⟩ := grows_push (ty := 28) Try.underlying28 (h.ext hx fun b hb => hb.elim) hl (Nat.le_trans hN hx.size) z
    refine ⟨ra, l.length, rc, hc, _, _, _, ⟨hz.cella (i := 0) rfl, hz.cella (i := 1) rfl, hz.cella (i := 2) rfl, trivial⟩, thenW_in fun w16 h16 => ?_⟩
    obtain ⟨ra', rc', w18, hr, hcan, hfin⟩ := hp w16 h16
    refine ⟨ra', l.length + 1, rc', w18, hr, hcan, thenW_in fun w19 h19 => ?_⟩
    obtain ⟨g1, g2⟩ := hfin w19 h19
    exact ⟨rfl, g1, hx.none.trans g2⟩
  unfold mergeF
  by_cases c1 : x.2.1 < y.2.1
  · rw [decide_eq_true c1, cond_true, if_pos c1]
    refine ⟨_, _, _, ⟨hY.cella (i := 0) rfl, hY.cella (i := 1) rfl, hY.cella (i := 2) rfl, trivial⟩, hX.cana (i := 0) rfl, thenW_in fun w11 h11 => ?_⟩
    have hb11 := hX.seta 0 (.int .i64 y.1)
    rw [← h11] at hb11
    have x11 : Ext no w w11 := by subst h11; exact e.setCell (.inr (by rw [add_zero]; exact Nat.le_refl _)) _
    refine ⟨hb11.cana (i := 1) rfl, thenW_in fun w12 h12 => ?_⟩
    have hb12 := hb11.seta 1 (.int .i64 y.2.1)
    rw [← h12] at hb12
    have x12 : Ext no w w12 := by subst h12; exact x11.setCell (.inr (by rw [add_blk]; exact Nat.le_refl _)) _
    refine ⟨hb12.cana (i := 2) rfl, thenW_in fun w13 h13 => ?_⟩
    have hb13 := hb12.seta 2 (.int .u64 y.2.2)
    rw [← h13] at hb13
    have x13 : Ext no w w13 := by subst h13; exact x12.setCell (.inr (by rw [add_blk]; exact Nat.le_refl _)) _
    refine ⟨_, hb13.cella (i := 1) rfl, ?_⟩
    by_cases c2 : y.2.1 > 0
    · rw [decide_eq_true c2, cond_true, if_pos c2]
      exact push w13 y hb13 x13
    · rw [decide_eq_false c2, cond_false, if_neg c2]
      exact ⟨rfl, h.ext x13 fun b hb => hb.elim, x13.none⟩
  · rw [decide_eq_false c1, cond_false, if_neg c1]
    refine ⟨_, hX.cella (i := 1) rfl, ?_⟩
    by_cases c2 : x.2.1 > 0
    · rw [decide_eq_true c2, cond_true, if_pos c2]
      exact push w10 x hX e
    · rw [decide_eq_false c2, cond_false, if_neg c2]
      exact ⟨rfl, h.ext e fun b hb => hb.elim, e.none⟩
theorem Merge_spec (ha : RowAt w aa (hsC a)) (hb : RowAt w ba (hsC b)) (hla : a.length < 1000000) (hlb : b.length < 1000000) :
    Calls Try.prog 13 #[.slice aa a.length ac, .slice ba b.length bc] w (fun e w' => ∃ ra rc, e = .returned (.tuple #[.slice ra (mergeV a b).1.length rc, .int .i64 (mergeV a b).2]) ∧ RowAt w' ra (hsC (mergeV a b).1) ∧ Ext no w w') := by
  refine (vMerge.ok _ _ _ _ _ _ (R := fun v w' => ∃ ra rc, v = .tuple #[.slice ra (mergeV a b).1.length rc, .int .i64 (mergeV a b).2] ∧ RowAt w' ra (hsC (mergeV a b).1) ∧ Ext no w w') ?_).mono fun e w' ⟨v, he, ra, rc, hv, hw⟩ => ⟨ra, rc, by rw [he, hv], hw⟩
  unfold vMerge.M
  refine thenW_in fun w3 h3 => ?_
  have e3 : Ext no w w3 := by subst h3; exact (Ext.refl _ _).alloc _
  have hA3 : Blk w3 w.heap.size 28 [.slice none 0 0] := by subst h3; exact Blk.new _ _ _
  have hG3 : Grows w.heap.size w3 w.heap.size 28 [] := ⟨none, 0, hA3, owns_nil _ _ _, (fun ad (ha : none = some ad) => by cases ha), Nat.le_refl _⟩
  refine (Conflict_spec (ha.no e3) (hb.no e3) hla hlb).mono fun e w7 ⟨he, x7'⟩ => ⟨_, _, he, ?_⟩
  have x7 := e3.trans x7'
  have hG7 := hG3.ext x7' fun b hb => hb.elim
  unfold mergeV
  by_cases c1 : (confV a b).2 = true
  · rw [c1, cond_true, if_pos rfl]
    obtain ⟨ra, rc, q1, q2, q3, q4⟩ := hG7
    refine ⟨q1.cana (i := 0) rfl, thenW_in fun w8 h8 => ?_⟩
    rw [add_zero] at h8
    have hA8 : Blk w8 w.heap.size 28 [.slice none 0 0] := by subst h8; exact q1.set 0 _
    have x8' : Ext (fun b => b = w.heap.size) w7 w8 := by subst h8; exact Ext.set1 _ _ _
    exact ⟨none, 0, 0, hA8.cell (i := 0) rfl, none, 0, rfl, RowAt.nil _ _, x7.then x8' fun b hb => .inr (by omega)⟩
  rw [show (confV a b).2 = false by simpa using c1, cond_false, if_neg (by decide)]
  refine (each_spec mergeF [] (fun n l w1 => Grows w.heap.size w1 w.heap.size 28 l ∧ Ext no w w1 ∧ l.length ≤ n) 22 #[] _ (by kernel_rfl) hla hlb
    (fun _ s w1 h => ⟨ha.no h.2.1, hb.no h.2.1⟩) (fun _ s w1 w2 h k => ⟨h.1.ext k fun b hb => hb.elim, h.2.1.trans k, h.2.2⟩) ⟨hG7, x7, Nat.le_refl _⟩ (fun l i w1 hi h => ?_)).mono fun e w12 ⟨he, _, hG12, x12, _⟩ => ⟨_, he, ?_⟩
  · refine (merge1_spec (getV a i) (getV b i) h.1 (by omega) h.2.1.size).mono fun e w2 ⟨he, q1, q2⟩ => ⟨he, q1, h.2.1.then q2 fun b hb => .inr hb, ?_⟩
    have := merge_len l (getV a i) (getV b i)
    omega
  obtain ⟨ra, rc, q1, q2, q3, q4⟩ := hG12
  by_cases c2 : bothV a b = true
  · rw [c2, Bool.not_true, cond_false, if_pos rfl]
    rw [if_pos c2] at q1 q2
    refine ⟨ra, _, rc, q1.cell (i := 0) rfl, q1.cana (i := 0) rfl, thenW_in fun w8 h8 => ?_⟩
    rw [add_zero] at h8
    have hA8 : Blk w8 w.heap.size 28 [.slice ra (foldV mergeF a b [] 8).length rc] := by subst h8; exact q1.set 0 _
    have x8' : Ext (fun b => b = w.heap.size) w12 w8 := by subst h8; exact Ext.set1 _ _ _
    obtain ⟨_, _, hv, hrow⟩ := RowAt.of_owns q2
    cases hv
    exact ⟨ra, _, rc, hA8.cell (i := 0) rfl, ra, rc, rfl, hrow.ext x8' (fun ad ha hq => (q3 ad ha).2 hq), x12.then x8' fun b hb => .inr (by omega)⟩
  · rw [show bothV a b = false by simpa using c2, Bool.not_false, cond_true, if_neg (by decide)]
    refine ⟨q1.cana (i := 0) rfl, thenW_in fun w8 h8 => ?_⟩
    rw [add_zero] at h8
    have hA8 : Blk w8 w.heap.size 28 [.slice none 0 0] := by subst h8; exact q1.set 0 _
    have x8' : Ext (fun b => b = w.heap.size) w12 w8 := by subst h8; exact Ext.set1 _ _ _
    exact ⟨none, 0, 0, hA8.cell (i := 0) rfl, none, 0, rfl, RowAt.nil _ _, x12.then x8' fun b hb => .inr (by omega)⟩

/-! ### the chapter's example -/
theorem alive5_spec (w : World) : Calls Try.prog 5 #[] w (GivesV (.bool true) fun w' => Ext no w w') := by
  refine (alive5.ok (R := fun v w' => v = .bool true ∧ Ext no w w') ?_).mono fun e w' ⟨v, he, hv, hw⟩ => ⟨by rw [he, hv], hw⟩
  unfold alive5.M
  refine thenW_in fun w1 h1 => thenW_in fun w2 h2 => ?_
  have x1 : Ext no w w1 := by subst h1; exact (Ext.refl _ _).alloc _
  have x2' : Ext no w1 w2 := by subst h2; exact (Ext.refl _ _).alloc _
  have x2 := x1.trans x2'
  have ra : RowAt w1 (some (blk w.heap.size)) (hsC [(0, 2, 5)]) := by subst h1; exact RowAt.of_blk (Blk.new w 25 _)
  have rb : RowAt w2 (some (blk w1.heap.size)) (hsC [(1, 1, 6)]) := by subst h2; exact RowAt.of_blk (Blk.new w1 25 _)
  have hm : mergeV [(0, 2, 5)] [(1, 1, 6)] = ([(0, 2, 5), (1, 1, 6)], 0) := by decide
  have hmg := Merge_spec (ac := 1) (bc := 1) (ra.no x2') rb (by decide) (by decide)
  rw [hm] at hmg
  refine hmg.mono fun e w6 ⟨ma, mc, he, hrm, x6'⟩ => ⟨ma, _, mc, _, he, ?_⟩
  have hcp := Compare_spec (ac := 1) (bc := 1) ((ra.no x2').no x6') (rb.no x6') (by decide) (by decide)
  rw [show cmpV [(0, 2, 5)] [(1, 1, 6)] = 2 by decide] at hcp
  refine hcp.mono fun e w9 ⟨he, x9'⟩ => ⟨_, he, ?_⟩
  have hr9 := hrm.no x9'
  obtain ⟨ad, rfl⟩ := hr9.addr (by simp [hsC, hdC])
  refine ⟨by decide, by decide, 6, hs_cell hr9 (i := 1) (h := (1, 1, 6)) rfl (j := 2) rfl, ?_⟩
  have hri := Right_spec (c := mc) hr9 (by decide)
  rw [show rightV [(0, 2, 5), (1, 1, 6)] = true by decide] at hri
  exact hri.mono fun e w14 ⟨he, x14⟩ => ⟨_, he, rfl, ((x2.trans x6').trans x9').trans x14⟩
/-- a list of slices: none is longer than 30. -/
theorem light_spec {la : Option Addr} {lc : Nat} {l : List (Option Addr × Nat × Nat)} (hr : RowAt w la (l.map fun p => Value.slice p.1 p.2.1 p.2.2)) (hl : l.length < 1000) :
    Calls Try.prog 4 #[.slice la l.length lc] w (GivesV (.bool (l.all fun p => decide (p.2.1 ≤ 30))) fun w' => w' = w) := by
  refine (light5.ok _ _ _ (R := fun v w' => v = .bool (l.all fun p => decide (p.2.1 ≤ 30)) ∧ w' = w) ?_).mono fun e w' ⟨v, he, hv, hw⟩ => ⟨by rw [he, hv], hw⟩
  unfold light5.M
  refine ⟨fun k vs w1 => ∃ t : Nat, vs = [.int .i64 t] ∧ k + t = l.length ∧ ((l.drop t).all fun p => decide (p.2.1 ≤ 30)) = (l.all fun p => decide (p.2.1 ≤ 30)) ∧ w1 = w, l.length, ⟨0, rfl, rfl, rfl, rfl⟩, ?_⟩
  rintro k w1 i ⟨t, hi, hk, hf, rfl⟩
  simp only [List.cons.injEq, Value.int.injEq, true_and, and_true] at hi
  subst hi
  cases k with
  | zero =>
    obtain rfl : t = l.length := by omega
    rw [show decide ((l.length : Int) < (l.length : Int)) = false by simp, cond_false]
    rw [List.drop_length] at hf
    exact ⟨by rw [← hf]; rfl, rfl⟩
  | succ k =>
    have ht : t < l.length := by omega
    rw [show decide ((t : Int) < (l.length : Int)) = true by simp; omega, cond_true]
    obtain ⟨ad, rfl⟩ := hr.addr (by intro e; rw [List.map_eq_nil_iff] at e; subst e; simp at ht)
    rw [List.drop_eq_getElem_cons ht, List.all_cons] at hf
    refine ⟨by omega, by omega, _, _, _, by rw [Int.toNat_natCast, Nat.mul_one]; exact hr.at_ (v := .slice l[t].1 l[t].2.1 l[t].2.2) (by simp [ht]), ?_⟩
    by_cases c1 : (l[t].2.1 : Int) > 30
    · rw [decide_eq_true c1, cond_true]
      rw [decide_eq_false (by omega), Bool.false_and] at hf
      exact ⟨by rw [← hf], rfl⟩
    · rw [decide_eq_false c1, cond_false]
      rw [decide_eq_true (by omega), Bool.true_and] at hf
      exact ⟨k, by omega, t + 1, by rw [w64 (by omega) (by omega)]; rfl, by omega, hf, rfl⟩
end
end Go.Proofs.Ytnhnhojaninojaa

/- A function's own blocks, each its own owner. -/
set_option linter.unusedSimpArgs false
set_option linter.unusedVariables false
set_option linter.unusedSectionVars false
namespace Go.Mx
section
variable {K K1 : Nat → Prop} {w w1 w' : World} {o o1 o' : Own} {p q j : Nat}
def Mine (L : List Nat) (w : World) (o : Own) : Prop := ∀ p ∈ L, p < w.heap.size ∧ o p = some p
theorem Mine.nil : Mine [] w o := fun p hp => by simp at hp
theorem Mine.step {L : List Nat} (h : Mine L w o) (s : Step K w o w' o') : Mine L w' o' := fun p hp => ⟨Nat.lt_of_lt_of_le (h p hp).1 s.size, by rw [s.own (h p hp).1]; exact (h p hp).2⟩
theorem Mine.keep {L : List Nat} (h : Mine L w o) (s : Step K w o w' o') (hk : ∀ p ∈ L, ¬ K p) : Keep L w w' := s.keep fun p hp _ k hk' => by
  rw [(h p hp).2] at hk'; cases hk'; exact hk p hp
theorem Mine.sub {L M : List Nat} (h : Mine L w o) (k : ∀ p ∈ M, p ∈ L) : Mine M w o := fun p hp => h p (k p hp)
theorem Mine.lt {L : List Nat} (h : Mine L w o) {p : Nat} (hp : p ∈ L) : p < w.heap.size := (h p hp).1
def tags (w : World) (o : Own) (L : List Nat) : Own := fun b => if b < w.heap.size then o b else if b ∈ L then some b else none
theorem Step.priv {L : List Nat} (h : Ext no w w') (hp : Priv w w' L) (ok : Tags w o) : Step no w o w' (tags w o L) ∧ Mine L w' (tags w o L) := by
  refine ⟨⟨h.mono fun _ h _ => h.elim, fun b hb => if_pos hb, ok, fun b j hb hj => ?_⟩, fun p hq => ⟨(hp p hq).2, ?_⟩⟩
  · unfold tags at hj
    split at hj
    · rename_i hl; exact Nat.lt_of_lt_of_le (ok b j hl hj) h.size
    · split at hj
      · cases hj; exact hb
      · cases hj
  · unfold tags
    rw [if_neg (by have := (hp p hq).1; omega), if_pos hq]
/-- stores into blocks of one's own. -/
theorem Step.stores {L : List Nat} {m : Nat → Prop} (h : Ext m w w') (ok : Tags w o) (hL : Mine L w o) (hm : ∀ b, m b → b ∈ L) : Step (fun j => j ∈ L) w o w' (grow w o) :=
  Step.of_exts h ok fun b hb _ => ⟨b, (hL b (hm b hb)).2, hm b hb⟩
/-- values one behind the other, from a place on. -/
def setAll : List Value → Nat → List Value → List Value
  | cs, _, [] => cs
  | cs, k, v :: r => setAll (cs.set k v) (k + 1) r
theorem setAll_shift : ∀ {vs u cs : List Value} {k : Nat}, setAll (u ++ cs) (u.length + k) vs = u ++ setAll cs k vs
  | [], _, _, _ => rfl
  | v :: r, u, cs, k => by
    simp only [setAll]
    rw [show (u ++ cs).set (u.length + k) v = u ++ cs.set k v by rw [List.set_append_right _ _ (by omega)]; congr 2; omega, Nat.add_assoc, setAll_shift]
theorem setAll_head : ∀ {vs u cs : List Value}, vs.length = u.length → setAll (u ++ cs) 0 vs = vs ++ cs
  | [], [], _, _ => rfl
  | v :: r, x :: u, cs, h => by
    have := setAll_shift (vs := r) (u := [v]) (cs := u ++ cs) (k := 0)
    simp only [setAll, List.cons_append, List.set_cons_zero]
    simp only [List.length_cons, List.length_nil, List.cons_append, List.nil_append, Nat.add_zero] at this
    rw [this, setAll_head (by simpa using h)]
  | [], _ :: _, _, h => by simp at h
  | _ :: _, [], _, h => by simp at h
theorem setAll_flat {α : Type} {f : α → List Value} {n : Nat} (hf : ∀ x, (f x).length = n) (x : α) : ∀ {l : List α} {i : Nat}, i < l.length → setAll (l.flatMap f) (i * n) (f x) = (l.set i x).flatMap f
  | [], i, h => by simp at h
  | a :: l, 0, _ => by
    simp only [List.flatMap_cons, Nat.zero_mul, List.set_cons_zero]
    exact setAll_head (by rw [hf, hf])
  | a :: l, i + 1, h => by
    simp only [List.flatMap_cons, List.set_cons_succ]
    rw [show (i + 1) * n = (f a).length + i * n by rw [hf, Nat.add_mul, Nat.one_mul, Nat.add_comm], setAll_shift, setAll_flat hf x (by simpa using h)]
end
end Go.Mx

/- Structs, and rows of structs, that are handed in; cells of a row of structs. -/
set_option linter.unusedSimpArgs false
set_option linter.unusedVariables false
set_option linter.unusedSectionVars false
namespace Go.Mx
section
variable {α : Type} {f : α → List Value} {n : Nat} {w : World} {a : Option Addr} {l : List α}
theorem flat_length (hf : ∀ x, (f x).length = n) (l : List α) : (l.flatMap f).length = l.length * n := by
  induction l with
  | nil => simp
  | cons x r ih => rw [List.flatMap_cons, List.length_append, ih, hf, List.length_cons, Nat.succ_mul]; omega
end
end Go.Mx

/- Rows that grow: of an owner, also cut off; and of a function's own. -/
set_option linter.unusedSimpArgs false
set_option linter.unusedVariables false
set_option linter.unusedSectionVars false
namespace Go.Mx
section
variable {K K1 : Nat → Prop} {w w1 w' w0 : World} {o o1 o' o0 : Own} {p q j k N : Nat} {e : TypeId} {size n c : Nat} {a : Option Addr} {cs : List Value}
/-- a row of a function's own: nothing yet, or in a block that came behind N. -/
def LRow (e size N : Nat) (w : World) (o : Own) (a : Option Addr) (n c : Nat) (cs : List Value) : Prop :=
  (a = none ∧ n = 0 ∧ c = 0 ∧ cs = []) ∨ ∃ k, N ≤ k ∧ k < w.heap.size ∧ Grows e size w o k a n c cs
theorem LRow.nil (e size N : Nat) (w : World) (o : Own) : LRow e size N w o none 0 0 [] := .inl ⟨rfl, rfl, rfl, rfl⟩
theorem LRow.row (h : LRow e size N w o a n c cs) : RowAt w a cs := by
  rcases h with ⟨rfl, rfl, rfl, rfl⟩ | ⟨k, _, _, h⟩
  · exact RowAt.nil _ _
  · exact h.row
theorem LRow.len (h : LRow e size N w o a n c cs) : cs.length = n * size := by
  rcases h with ⟨rfl, rfl, rfl, rfl⟩ | ⟨k, _, _, h⟩
  · simp
  · exact h.own.1
theorem LRow.le (h : LRow e size N w o a n c cs) : n ≤ c := by
  rcases h with ⟨rfl, rfl, rfl, rfl⟩ | ⟨k, _, _, h⟩
  · exact Nat.le_refl _
  · exact (own_fresh h.own).1
theorem LRow.step (h : LRow e size N w o a n c cs) (s : Step K w o w' o') (hk : ∀ k, K k → k < N ∨ w.heap.size ≤ k) : LRow e size N w' o' a n c cs := by
  rcases h with h | ⟨k, h1, h2, h⟩
  · exact .inl h
  · exact .inr ⟨k, h1, Nat.lt_of_lt_of_le h2 s.size, h.step s fun hK => by rcases hk k hK with h | h <;> omega⟩
theorem LRow.push {P : Program} {t ty : TypeId} {i : TypeInfo} {z : Value} {bytes : Nat} (ht : P.underlying t = some (.slice e)) (hi : P.info? e = some i) (hz : i.zero = some z)
    (hsize : i.size = size) (hby : i.bytes = bytes) (hzs : z.cells.size = size) (hsz : 0 < size) (h : LRow e size N w o a n c cs) (ok : Tags w o) (hp : N ≤ p) (hp' : p < w.heap.size)
    {xa : Option Addr} {m xc : Nat} {news : List Value} (hl : news.length = m * size) (hnews : RowAt w xa news) (h1 : ∀ u ∈ news, u.oneCell' = true) (hb : (n + m) * bytes ≤ 140737488355328) (h63 : n + m ≤ 9223372036854775807) :
    ∃ a' c' w' o', (Builtin.append_ #[t, t] ty #[.slice a n c, .slice xa m xc]).run P w = .ok (.slice a' (n + m) c') w' ∧ Step (fun j => N ≤ j) w o w' o' ∧ LRow e size N w' o' a' (n + m) c' (cs ++ news) ∧ Ext (fun b => ∃ ad, a = some ad ∧ b = ad.block) w w' := by
  have key : ∀ k, N ≤ k → k < w.heap.size → Grows e size w o k a n c cs → _ := fun k hk hk' hg => hg.push (ty := ty) ht hi hz hsize hby hzs hsz ok hk' (xc := xc) hl hnews h1 hb h63
  have fin : ∀ k, N ≤ k → k < w.heap.size → Grows e size w o k a n c cs → ∃ a' c' w' o', (Builtin.append_ #[t, t] ty #[.slice a n c, .slice xa m xc]).run P w = .ok (.slice a' (n + m) c') w' ∧ Step (fun j => N ≤ j) w o w' o' ∧ LRow e size N w' o' a' (n + m) c' (cs ++ news) ∧ Ext (fun b => ∃ ad, a = some ad ∧ b = ad.block) w w' := fun k hk hk' hg => by
    obtain ⟨a', c', w', o', r1, r2, r3, r4, _⟩ := key k hk hk' hg
    refine ⟨a', c', w', o', r1, r2.mono fun j hj _ => by omega, .inr ⟨k, hk, Nat.lt_of_lt_of_le hk' r2.size, r3⟩, ⟨r2.ext.os, r2.ext.tape, r2.ext.output, r2.ext.size, fun b hb hn => r4 b hb fun ad ha hb' => hn ⟨ad, ha, hb'⟩⟩⟩
  rcases h with ⟨rfl, rfl, rfl, rfl⟩ | ⟨k, h1, h2, h⟩
  · exact fin p hp hp' (Grows.nil _ _ _ _ _)
  · exact fin k h1 h2 h
/-- at the end: nobody's. -/
theorem LRow.give (h : LRow e size N w1 o1 a n c cs) (s : Step K w0 o0 w1 o1) (hN : w0.heap.size ≤ N) : Row w1 (grow w0 o0) a cs := ⟨h.row, fun h0 ad ha => by
  rcases h with ⟨rfl, _⟩ | ⟨k, h1, h2, h⟩
  · cases ha
  · refine grow_ge ?_
    have ht := h.tg ad ha
    by_cases hb : ad.block < w0.heap.size
    · rw [s.same _ hb] at ht
      have := s.ok0 _ _ hb ht.1
      omega
    · omega⟩
end
end Go.Mx

/- copy onto a row of one's own; append(x, make(..)...) onto a row without room; slices.overlaps of two blocks. -/
set_option linter.unusedSimpArgs false
set_option linter.unusedVariables false
set_option linter.unusedSectionVars false
namespace Go.Mx
open Go
section
variable {P : Program} {w w' : World} {b o sz : Nat} {t e : TypeId} {cur cs : List Value}
theorem setCells_setAll : ∀ {cs cur : List Value} {o : Nat} {w : World}, Blk w b t cur → o + cs.length ≤ cur.length → Blk (w.setCells b o cs) b t (setAll cur o cs) ∧ Ext (fun x => x = b) w (w.setCells b o cs)
  | [], cur, o, w, hb, _ => ⟨hb, Ext.refl _ _⟩
  | v :: r, cur, o, w, hb, hl => by
    simp only [List.length_cons] at hl
    have hb2 := hb.set o v
    have X := (Ext.refl (fun x => x = b) w).setCell (a := ⟨b, o, none⟩) (.inl rfl) v
    obtain ⟨h1, h2⟩ := setCells_setAll (cs := r) (o := o + 1) hb2 (by rw [List.length_set]; omega)
    exact ⟨h1, X.trans h2⟩
theorem run_copy_gen {dT sT ty elem : TypeId} {dLen dCap sLen sCap n : Nat} {a : Addr} {i : TypeInfo} (hu : P.underlying dT = some (.slice elem)) (hi : P.info? elem = some i) (hs : i.size = sz) (hm : Nat.min sLen dLen = n) (hn : cs.length = n * sz)
    (hsrc : ∀ j v, cs[j]? = some v → w.cell? (a.add j) = some v) (hb : Blk w b t cur) (hl : o + cs.length ≤ cur.length) (h1 : ∀ v ∈ cs, v.oneCell' = true) :
    (Builtin.copy_ #[dT, sT] ty #[.slice (some ⟨b, o, none⟩) dLen dCap, .slice (some a) sLen sCap]).run P w = .ok (goInt n) (w.setCells b o cs) := by
  have hfc := run_firstCells_some (P := P) w sz n a sLen sCap cs hn hsrc
  have hcan : ∀ j, j < cs.length → canStore w ⟨b, o + j, none⟩ := fun j hj => hb.can (v := cur[o + j]'(by omega)) (List.getElem?_eq_getElem (by omega))
  have hst := run_storeCells_cells (P := P) b o cs 0 w (fun j hj => by obtain ⟨⟨u, hu⟩, _⟩ := hcan j hj; simp [hu]) (fun j hj => by simpa using (hcan j hj).2) h1
  simp only [Nat.add_zero] at hst
  simp [Builtin.copy_, run_underlying hu, Builtin.lenOf, sizeOf, typeInfo, hi, hs, hm, hfc, hst]
theorem setAll_mid {u x y v : List Value} (h : v.length = x.length) : setAll (u ++ x ++ y) u.length v = u ++ v ++ y := by
  have := setAll_shift (vs := v) (u := u) (cs := x ++ y) (k := 0)
  rw [Nat.add_zero] at this
  rw [List.append_assoc, this, setAll_head h, List.append_assoc]
/-- append(x[:n], make([]T, k)...) where there is no room. -/
theorem run_grow_zeros {t tn ty : TypeId} {i : TypeInfo} {z : Value} {kq kn : IntKind} {bytes : Nat} (ht : P.underlying t = some (.slice e)) (htn : P.underlying tn = some (.int kn)) (hi : P.info? e = some i) (hz : i.zero = some z) (hsize : i.size = sz) (hby : i.bytes = bytes) (hzs : z.cells.size = sz) (hsz : 0 < sz)
    {a : Option Addr} {n c k : Nat} (hr : RowAt w a cs) (hl : cs.length = n * sz) (ha : a ≠ none) (hk : 0 < k) (hg : c < n + k) (hb : (n + k) * bytes ≤ 140737488355328) (h63 : n + k ≤ 1000000000) :
    ∃ c' w', (Builtin.append_ #[t, tn] ty #[.slice a n c, .int kq k]).run P w = .ok (.slice (some ⟨w.heap.size, 0, none⟩) (n + k) c') w' ∧ Ext no w w' ∧ w.heap.size < w'.heap.size ∧ n + k ≤ c' ∧ c' ≤ maxLen ∧ ∃ zs : List Value, Blk w' w.heap.size e (cs ++ zs) ∧ (cs ++ zs).length = c' * sz := by
  obtain ⟨ad, rfl⟩ := Option.ne_none_iff_exists'.1 ha
  subst hsize
  subst hby
  have hold := run_firstCells_some (P := P) w.drew i.size n ad n c cs hl fun j v hj => hr.at_ hj
  have hfit := growslice_fits hg hb
  have hgc := grownCap_ge w (n + k) c e
  have hrun := Lib.run_append_grow_zeros (P := P) w t tn ty e i z kq kn ht htn hi hz (some ad) n c cs (by
    have := run_firstCells_some (P := P) w.drew i.size n ad n c cs hl fun j v hj => hr.at_ hj
    simpa [Builtin.firstCells] using this) k hk hsz hg (by omega) (by
      have : k * i.bytes ≤ (n + k) * i.bytes := Nat.mul_le_mul_right _ (by omega)
      omega) hfit
  refine ⟨_, _, hrun, ?_, ?_, hgc, grownCap_le_maxLen w (n + k) c e (by unfold maxLen; omega), (Builtin.zeroCells z.cells k).toList ++ (Builtin.zeroCells z.cells (grownCap w (n + k) c e - (n + k))).toList, ?_, ?_⟩
  · exact (Ext.refl no w).drew.alloc _
  · simp
  · have : Blk (w.drew.alloc (.cells (cs.toArray ++ Builtin.zeroCells z.cells k ++ Builtin.zeroCells z.cells (grownCap w (n + k) c e - (n + k))) e)) w.heap.size e (cs ++ ((Builtin.zeroCells z.cells k).toList ++ (Builtin.zeroCells z.cells (grownCap w (n + k) c e - (n + k))).toList)) := by
      unfold Blk
      have := heap_alloc_new w.drew (.cells (cs.toArray ++ Builtin.zeroCells z.cells k ++ Builtin.zeroCells z.cells (grownCap w (n + k) c e - (n + k))) e)
      refine this.trans ?_
      congr 2
      apply Array.ext'
      simp [List.append_assoc]
    exact this
  · simp only [List.length_append, Array.length_toList, size_zeroCells, hzs, hl]
    rw [← Nat.add_mul, ← Nat.add_mul]
    congr 1
    omega
/-- a store into a row of a function's own. -/
theorem LRow.set {e : TypeId} {N n c j : Nat} {w : World} {o : Own} {a : Option Addr} {cs : List Value} (h : LRow e sz N w o a n c cs) (ok : Tags w o) (hj : j < cs.length) (v : Value) :
    ∃ ad, a = some ad ∧ canStore w (ad.add j) ∧ (∀ k, o ad.block = some k → N ≤ k) ∧ (o ad.block).isSome = true ∧ ∀ w', w' = w.setCell (ad.add j) v → Step (fun i => N ≤ i) w o w' (grow w o) ∧ LRow e sz N w' (grow w o) a n c (cs.set j v) ∧ Ext (fun b => b = ad.block) w w' := by
  rcases h with ⟨rfl, rfl, rfl, rfl⟩ | ⟨k, h1, h2, h⟩
  · simp at hj
  have hl := h.own.1
  rcases h.own.2 with ⟨hv, h0⟩ | ⟨g, cap, cur, hv, _, hgb, hnc, hcm, hcs, htk⟩
  · rw [h0] at hl; omega
  cases hv
  have tg := h.tg ⟨g, 0, none⟩ rfl
  have hblk : Blk w g e cur.toList := by unfold Blk; simpa using hgb
  have hcl : cur.toList.length = c * sz := by simpa using hcs
  have hjc : j < cur.toList.length := by
    have := congrArg List.length htk
    rw [List.length_take] at this
    omega
  have hadd : (⟨g, 0, none⟩ : Addr).add j = ⟨g, j, none⟩ := by simp [Addr.add_lit]
  refine ⟨_, rfl, by rw [hadd]; exact hblk.can (v := cur.toList[j]) (List.getElem?_eq_getElem hjc), fun k' hk' => ?_, by rw [tg.1]; rfl, fun w' hw' => ?_⟩
  · have : some k = some k' := tg.1.symm.trans hk'
    cases this; exact h1
  have X : Ext (fun b => b = g) w w' := by subst hw'; rw [hadd]; exact (Ext.refl (fun b => b = g) w).setCell (a := ⟨g, j, none⟩) (.inl rfl) v
  have s : Step (fun i => i = k) w o w' (grow w o) := Step.of_ext X ok fun b hb _ => by subst hb; exact tg.1
  have hb2 : Blk w' g e (cur.toList.set j v) := by subst hw'; rw [hadd]; exact hblk.set j v
  refine ⟨s.mono fun i hi _ => by omega, .inr ⟨k, h1, Nat.lt_of_lt_of_le h2 s.size, ⟨by rw [List.length_set]; exact hl, .inr ⟨g, c, _, rfl, Nat.zero_le _, hb2, hnc, hcm, by simpa using hcs, ?_⟩⟩, fun ad ha => ?_⟩, X⟩
  · show (cur.toList.set j v).take (n * sz) = cs.set j v
    rw [← htk, List.take_set]
  · cases ha; exact ⟨(s.own tg.2).trans tg.1, Nat.lt_of_lt_of_le tg.2 s.size⟩
/-- two blocks do not overlap. -/
theorem run_apart {tS tR : TypeId} (ht : P.underlying tS = some (.slice e)) {i : TypeInfo} (hi : P.info? e = some i) {qa qb la ca lb cb oa ob : Nat} {ca' cb' : List Value} (ha : Blk w qa e ca') (hb : Blk w qb e cb') (hne : qa ≠ qb) (hcb : cb' ≠ [])
    {k : FuncId} {fn : Func} (hf : P.funcs[k]? = some fn) (hname : (fn.name == "runtime.NumGoroutine") = false) (hbd : fn.body.isNone = true) (hn : Extern.findNext fn = none) (he : Extern.find fn = some (Extern.SlicesOverlaps.overlaps #[tS, tS] #[tR])) :
    (externCall k #[.slice (some ⟨qa, oa, none⟩) la ca, .slice (some ⟨qb, ob, none⟩) lb cb]).run P w = .ok (.bool false) w := by
  unfold Blk at ha hb
  have h := Lib.run_overlaps_apart (P := P) w tS tR e ht i.size (fun w => by simp [sizeOf, typeInfo, hi]) ⟨qa, oa, none⟩ ⟨qb, ob, none⟩ la ca lb cb hne e e ca'.length cb'.length (by simp [World.shape?, ha]) (by simp [World.shape?, hb]) (by intro h; exact hcb (List.eq_nil_of_length_eq_zero h))
    (by simp [World.frozen?, ha]) (by simp [World.frozen?, ha])
  unfold externCall
  simp only [Sem.run_bind, run_callFunc_extern hf hname hbd hn he, h, Result.andThen_ok]
  rfl
end
end Go.Mx

/- Wire: numbers that are written and read, what a reader has left. -/
set_option linter.unusedVariables false
set_option linter.unusedSimpArgs false
set_option maxRecDepth 20000
namespace Go.Proofs.Ytnhnhojaninojaa.W
open Go Go.Mx Go.Proofs
theorem follows : Try.prog.follows .mixedOrders = true := by kernel_rfl
section
variable {w w' : World} {a : Option Addr} {c N : Nat} {bs : List UInt8}
/-! ### a reader -/
variable {p : Nat} {k : Int}
end
end Go.Proofs.Ytnhnhojaninojaa.W

/- Wire: the numbers of a reader. -/
set_option linter.unusedVariables false
set_option linter.unusedSimpArgs false
set_option maxRecDepth 20000
namespace Go.Proofs.Ytnhnhojaninojaa.W
open Go Go.Mx Go.Proofs
section
variable {w w' : World} {p : Nat} {bs : List UInt8} {k : Int}
end
end Go.Proofs.Ytnhnhojaninojaa.W

/- Wire: whole numbers with a sign, bytes with their length. -/
set_option linter.unusedVariables false
set_option linter.unusedSimpArgs false
set_option maxRecDepth 20000
namespace Go.Proofs.Ytnhnhojaninojaa.W
open Go Go.Mx Go.Proofs
section
variable {w w' : World} {a : Option Addr} {c N p : Nat} {bs : List UInt8} {k : Int}
end
end Go.Proofs.Ytnhnhojaninojaa.W

/- The reference's numbers, bytes and reader; bytes held beside each other. -/
set_option linter.unusedVariables false
set_option linter.unusedSimpArgs false
set_option maxRecDepth 20000
namespace Go.Proofs.Ytnhnhojaninojaa.W
open Go Go.Mx Go.Proofs
section
variable {w w' : World} {a : Option Addr} {c : Nat}
end
section
variable {w w' : World} {a : Option Addr} {c : Nat} {bs : List UInt8} {p N : Nat} {k : Int}
/-! ### where the number ends -/
end
end Go.Proofs.Ytnhnhojaninojaa.W

/- A struct of numbers: when two are the same. -/
set_option linter.unusedVariables false
set_option linter.unusedSimpArgs false
set_option maxRecDepth 20000
namespace Go.Proofs.Ytnhnhojaninojaa
open Go Go.Mx Go.Proofs
theorem W.eqf_step {P : Program} {w : World} {d : Nat} {xs ys : Array Value} {f : Field} {fs : List Field} {a b : Value} {r : Bool} (n : f.name ≠ "_") (qa : (part f.type xs f.offset).run P w = .ok a w) (qb : (part f.type ys f.offset).run P w = .ok b w) (he : (Op.equalIn d f.type a b).run P w = .ok r w) :
    (Op.eqFields d xs ys (f :: fs)).run P w = if r then (Op.eqFields d xs ys fs).run P w else .ok false w := by
  simp only [Op.eqFields, n, ne_eq, not_false_eq_true, if_true, Sem.run_bind, qa, qb, he, Result.andThen_ok]
  cases r <;> simp
end Go.Proofs.Ytnhnhojaninojaa

/- VectorHolds: predicates. -/
set_option linter.unusedVariables false
set_option linter.unusedSimpArgs false
set_option maxRecDepth 20000
set_option maxHeartbeats 2000000
namespace Go.Proofs.Ytnhnhojaninojaa
open Go Go.Mx Go.Proofs
theorem eqT25 (x0 : Int) (x1 : Int) (x2 : Int) (y0 : Int) (y1 : Int) (y2 : Int) (w : World) : (Op.equalIn 10000 25 (.agg #[.int .i64 x0, .int .i64 x1, .int .u64 x2]) (.agg #[.int .i64 y0, .int .i64 y1, .int .u64 y2])).run Try.prog w = .ok (decide (x0 = y0 ∧ x1 = y1 ∧ x2 = y2)) w := by
  obtain ⟨f0, f1, f2, ht, n0, o0, p0, u0, n1, o1, p1, u1, n2, o2, p2, u2, hp⟩ : ∃ f0 f1 f2, Try.prog.underlying 25 = some (.struct #[f0, f1, f2]) ∧ f0.name ≠ "_" ∧ f0.offset = 0 ∧ Try.prog.plainKey f0.type = true ∧ Try.prog.underlying f0.type = some (.int .i64) ∧ f1.name ≠ "_" ∧ f1.offset = 1 ∧ Try.prog.plainKey f1.type = true ∧ Try.prog.underlying f1.type = some (.int .i64) ∧ f2.name ≠ "_" ∧ f2.offset = 2 ∧ Try.prog.plainKey f2.type = true ∧ Try.prog.underlying f2.type = some (.int .u64) ∧ Try.prog.stoodInHeld 25 = false :=
    ⟨_, _, _, Try.underlying25, by decide, rfl, by kernel_rfl, by kernel_rfl, by decide, rfl, by kernel_rfl, by kernel_rfl, by decide, rfl, by kernel_rfl, by kernel_rfl, by kernel_rfl⟩
  have hf : Try.prog.fieldsOf 25 = #[f0, f1, f2] := by simp [Program.fieldsOf, ht]
  rw [show (10000 : Nat) = 9998 + 1 + 1 from rfl, run_equalIn_struct w (9998 + 1) _ _ _ (by rw [hf]; exact ht) hp, hf]
  show (Op.eqFields (9998 + 1) _ _ [f0, f1, f2]).run Try.prog w = _
  rw [W.eqf_step n0 (run_part_plain w p0 (by rw [o0]; rfl)) (run_part_plain w p0 (by rw [o0]; rfl)) (run_equalIn_int w _ _ _ _ _ _ u0), W.eqf_step n1 (run_part_plain w p1 (by rw [o1]; rfl)) (run_part_plain w p1 (by rw [o1]; rfl)) (run_equalIn_int w _ _ _ _ _ _ u1), W.eqf_step n2 (run_part_plain w p2 (by rw [o2]; rfl)) (run_part_plain w p2 (by rw [o2]; rfl)) (run_equalIn_int w _ _ _ _ _ _ u2)]
  by_cases e0 : x0 = y0 <;> by_cases e1 : x1 = y1 <;> by_cases e2 : x2 = y2 <;> simp [e0, e1, e2, Op.eqFields]
theorem eqT25_eq (x0 : Int) (x1 : Int) (x2 : Int) (y0 : Int) (y1 : Int) (y2 : Int) (w : World) : (binOp .eql 25 (.agg #[.int .i64 x0, .int .i64 x1, .int .u64 x2]) (.agg #[.int .i64 y0, .int .i64 y1, .int .u64 y2])).run Try.prog w = .ok (.bool (decide (x0 = y0 ∧ x1 = y1 ∧ x2 = y2))) w := by rw [run_eql_struct, eqT25]; rfl
theorem eqT25_ne (x0 : Int) (x1 : Int) (x2 : Int) (y0 : Int) (y1 : Int) (y2 : Int) (w : World) : (binOp .neq 25 (.agg #[.int .i64 x0, .int .i64 x1, .int .u64 x2]) (.agg #[.int .i64 y0, .int .i64 y1, .int .u64 y2])).run Try.prog w = .ok (.bool (!decide (x0 = y0 ∧ x1 = y1 ∧ x2 = y2))) w := by rw [run_neq_struct, eqT25]; rfl

/-- vector.Put -/
def vector_Put.M (v1a : Option Addr) (v1n : Nat) (v1c : Nat) (hWriter2 : Int) (hLen3 : Int) (hSum4 : Int) (R : Value → World → Prop) (w : World) : Prop :=
  thenW (w.alloc (.cells #[.int .i64 hWriter2, .int .i64 hLen3, .int .u64 hSum4] 25)) fun ww5 =>
  Calls Try.prog 8 #[.slice v1a v1n v1c] ww5 fun ee7 ww8 => ∃ (right6 : Bool), ee7 = .returned (.bool right6) ∧
  bif !right6 then (
  R (.tuple #[.slice none 0 0, .int .i64 1]) ww8) else (
  ∃ (xWriter9 : Int) (xLen10 : Int) (xSum11 : Int), cellsAt ww8 (blk w.heap.size) [.int .i64 xWriter9, .int .i64 xLen10, .int .u64 xSum11] 0 ∧
  Calls Try.prog 15 #[.agg #[.int .i64 xWriter9, .int .i64 xLen10, .int .u64 xSum11]] ww8 fun ee13 ww14 => ∃ (righthea12 : Bool), ee13 = .returned (.bool righthea12) ∧
  bif !righthea12 then (
  R (.tuple #[.slice none 0 0, .int .i64 1]) ww14) else (
  ∃ (Writer15 : Int), ww14.cell? ((blk w.heap.size).add 0) = some (.int .i64 Writer15) ∧
  Calls Try.prog 16 #[.slice v1a v1n v1c, .int .i64 Writer15] ww14 fun ee18 ww19 => ∃ (find16 : Int) (find17 : Bool), ee18 = .returned (.tuple #[.int .i64 find16, .bool find17]) ∧
  Calls Try.prog 17 #[.slice v1a v1n v1c] ww19 fun ee21 ww22 => ∃ (clone20a : Option Addr) (clone20n : Nat) (clone20c : Nat), ee21 = .returned (.slice clone20a clone20n clone20c) ∧
  bif find17 then (
  ∃ (xWriter23 : Int) (xLen24 : Int) (xSum25 : Int), cellsAt ww22 (blk w.heap.size) [.int .i64 xWriter23, .int .i64 xLen24, .int .u64 xSum25] 0 ∧
  clone20a.elim False fun a26 =>
  0 ≤ (find16 : Int) ∧ (find16 : Int) < (clone20n : Int) ∧
  canStore ww22 ((a26.add (Int.toNat find16 * 3)).add 0) ∧
  thenW (ww22.setCell ((a26.add (Int.toNat find16 * 3)).add 0) (.int .i64 xWriter23)) fun ww27 =>
  canStore ww27 ((a26.add (Int.toNat find16 * 3)).add 1) ∧
  thenW (ww27.setCell ((a26.add (Int.toNat find16 * 3)).add 1) (.int .i64 xLen24)) fun ww28 =>
  canStore ww28 ((a26.add (Int.toNat find16 * 3)).add 2) ∧
  thenW (ww28.setCell ((a26.add (Int.toNat find16 * 3)).add 2) (.int .u64 xSum25)) fun ww29 =>
  R (.tuple #[.slice clone20a clone20n clone20c, .int .i64 0]) ww29) else (
  ∃ (xWriter30 : Int) (xLen31 : Int) (xSum32 : Int), cellsAt ww22 (blk w.heap.size) [.int .i64 xWriter30, .int .i64 xLen31, .int .u64 xSum32] 0 ∧
  thenW (ww22.alloc (.cells #[.int .i64 xWriter30, .int .i64 xLen31, .int .u64 xSum32] 25)) fun ww33 =>
  Calls Try.prog 18 #[.slice clone20a clone20n clone20c, .int .i64 find16, .slice (some (blk ww22.heap.size)) 1 1] ww33 fun ee35 ww36 => ∃ (insert34a : Option Addr) (insert34n : Nat) (insert34c : Nat), ee35 = .returned (.slice insert34a insert34n insert34c) ∧
  R (.tuple #[.slice insert34a insert34n insert34c, .int .i64 0]) ww36)))

theorem vector_Put.eq (v1a : Option Addr) (v1n : Nat) (v1c : Nat) (hWriter2 : Int) (hLen3 : Int) (hSum4 : Int) (R : Value → World → Prop) (w : World) : mfunc Try.prog [] 6 [.slice v1a v1n v1c, .agg #[.int .i64 hWriter2, .int .i64 hLen3, .int .u64 hSum4]] R w = vector_Put.M v1a v1n v1c hWriter2 hLen3 hSum4 R w := by kernel_rfl
theorem vector_Put.ok (v1a : Option Addr) (v1n : Nat) (v1c : Nat) (hWriter2 : Int) (hLen3 : Int) (hSum4 : Int) {R : Value → World → Prop} {w : World} (h : vector_Put.M v1a v1n v1c hWriter2 hLen3 hSum4 R w) : Calls Try.prog 6 #[.slice v1a v1n v1c, .agg #[.int .i64 hWriter2, .int .i64 hLen3, .int .u64 hSum4]] w fun e w' => ∃ v, e = .returned v ∧ R v w' :=
  mfunc_ok follows (H := []) (args := [.slice v1a v1n v1c, .agg #[.int .i64 hWriter2, .int .i64 hLen3, .int .u64 hSum4]]) (by rw [vector_Put.eq]; exact h)

def vector_Put.N (v1a : Option Addr) (v1n : Nat) (v1c : Nat) (hWriter2 : Int) (hLen3 : Int) (hSum4 : Int) (R : Value → World → Prop) (w : World) : Prop :=
  ∀ (ww5 : World) (p6 : Nat), Ext no w ww5 → Priv w ww5 [p6] →
  Calls Try.prog 8 #[.slice v1a v1n v1c] ww5 fun ee8 ww9 => ∃ (right7 : Bool), ee8 = .returned (.bool right7) ∧
  Keep [p6] ww5 ww9 ∧
  (right7 = false →
    R (.tuple #[.slice none 0 0, .int .i64 1]) ww9) ∧
  (right7 = true →
    Calls Try.prog 15 #[.agg #[.int .i64 hWriter2, .int .i64 hLen3, .int .u64 hSum4]] ww9 fun ee12 ww13 => ∃ (righthea11 : Bool), ee12 = .returned (.bool righthea11) ∧
    Keep [p6] ww9 ww13 ∧
    (righthea11 = false →
      R (.tuple #[.slice none 0 0, .int .i64 1]) ww13) ∧
    (righthea11 = true →
      Calls Try.prog 16 #[.slice v1a v1n v1c, .int .i64 hWriter2] ww13 fun ee17 ww18 => ∃ (find15 : Int) (find16 : Bool), ee17 = .returned (.tuple #[.int .i64 find15, .bool find16]) ∧
      Keep [p6] ww13 ww18 ∧
      Calls Try.prog 17 #[.slice v1a v1n v1c] ww18 fun ee20 ww21 => ∃ (clone19a : Option Addr) (clone19n : Nat) (clone19c : Nat), ee20 = .returned (.slice clone19a clone19n clone19c) ∧
      Keep [p6] ww18 ww21 ∧
      (find16 = true →
        ∃ a23 : Addr, clone19a = some a23 ∧
        0 ≤ (find15 : Int) ∧ (find15 : Int) < (clone19n : Int) ∧
        canStore ww21 ((a23.add (Int.toNat find15 * 3)).add 0) ∧
        thenW (ww21.setCell ((a23.add (Int.toNat find15 * 3)).add 0) (.int .i64 hWriter2)) fun ww24 =>
        canStore ww24 ((a23.add (Int.toNat find15 * 3)).add 1) ∧
        thenW (ww24.setCell ((a23.add (Int.toNat find15 * 3)).add 1) (.int .i64 hLen3)) fun ww25 =>
        canStore ww25 ((a23.add (Int.toNat find15 * 3)).add 2) ∧
        thenW (ww25.setCell ((a23.add (Int.toNat find15 * 3)).add 2) (.int .u64 hSum4)) fun ww26 =>
        R (.tuple #[.slice clone19a clone19n clone19c, .int .i64 0]) ww26) ∧
      (find16 = false →
        ∀ (ww27 : World) (q28 : Nat), Ext no ww21 ww27 → Blk ww27 q28 25 [.int .i64 hWriter2, .int .i64 hLen3, .int .u64 hSum4] → ww21.heap.size ≤ q28 → q28 < ww27.heap.size →
        Calls Try.prog 18 #[.slice clone19a clone19n clone19c, .int .i64 find15, .slice (some (blk q28)) 1 1] ww27 fun ee30 ww31 => ∃ (insert29a : Option Addr) (insert29n : Nat) (insert29c : Nat), ee30 = .returned (.slice insert29a insert29n insert29c) ∧
        R (.tuple #[.slice insert29a insert29n insert29c, .int .i64 0]) ww31)))

theorem vector_Put.up (v1a : Option Addr) (v1n : Nat) (v1c : Nat) (hWriter2 : Int) (hLen3 : Int) (hSum4 : Int) {R : Value → World → Prop} {w : World} (h : vector_Put.N v1a v1n v1c hWriter2 hLen3 hSum4 R w) : vector_Put.M v1a v1n v1c hWriter2 hLen3 hSum4 R w := by
  unfold vector_Put.M
  unfold vector_Put.N at h
  refine thenW_in fun ww5 e5 => ?_
  have hb1 := Blk.of_new e5
  have hg1 := ((Ext.refl no w)).size
  have hx5 := (Ext.refl no w).x_alloc e5
  have h := h ww5 (w.heap.size) hx5 (Priv.cons hg1 hb1.lt Priv.nil)
  refine h.mono fun ee8 ww9 h => ?_
  obtain ⟨right7, he, hk, h⟩ := h
  refine ⟨right7, he, ?_⟩
  have hb1 := hk.blk hb1 (by simp)
  refine bif_of (fun c10 => ?_) (fun c10 => ?_)
  · have h := h.1 (not_t c10)
    exact h
  · have h := h.2 (not_f c10)
    refine ⟨hWriter2, hLen3, hSum4, ⟨hb1.celli 0 rfl rfl, hb1.celli 1 rfl rfl, hb1.celli 2 rfl rfl, trivial⟩, ?_⟩
    refine h.mono fun ee12 ww13 h => ?_
    obtain ⟨righthea11, he, hk, h⟩ := h
    refine ⟨righthea11, he, ?_⟩
    have hb1 := hk.blk hb1 (by simp)
    refine bif_of (fun c14 => ?_) (fun c14 => ?_)
    · have h := h.1 (not_t c14)
      exact h
    · have h := h.2 (not_f c14)
      refine ⟨hWriter2, hb1.celli 0 rfl rfl, ?_⟩
      refine h.mono fun ee17 ww18 h => ?_
      obtain ⟨find15, find16, he, hk, h⟩ := h
      refine ⟨find15, find16, he, ?_⟩
      have hb1 := hk.blk hb1 (by simp)
      refine h.mono fun ee20 ww21 h => ?_
      obtain ⟨clone19a, clone19n, clone19c, he, hk, h⟩ := h
      refine ⟨clone19a, clone19n, clone19c, he, ?_⟩
      have hb1 := hk.blk hb1 (by simp)
      refine bif_of (fun c22 => ?_) (fun c22 => ?_)
      · have h := h.1 c22
        refine ⟨hWriter2, hLen3, hSum4, ⟨hb1.celli 0 rfl rfl, hb1.celli 1 rfl rfl, hb1.celli 2 rfl rfl, trivial⟩, ?_⟩
        obtain ⟨a23, ha23, h⟩ := h
        refine elim_some ha23 ?_
        obtain ⟨hq1, hq2, h⟩ := h
        refine ⟨hq1, hq2, ?_⟩
        obtain ⟨hcs, h⟩ := h
        refine ⟨hcs, thenW_in fun ww24 e24 => ?_⟩
        replace h := thenW_out h e24
        obtain ⟨hcs, h⟩ := h
        refine ⟨hcs, thenW_in fun ww25 e25 => ?_⟩
        replace h := thenW_out h e25
        obtain ⟨hcs, h⟩ := h
        refine ⟨hcs, thenW_in fun ww26 e26 => ?_⟩
        replace h := thenW_out h e26
        exact h
      · have h := h.2 c22
        refine ⟨hWriter2, hLen3, hSum4, ⟨hb1.celli 0 rfl rfl, hb1.celli 1 rfl rfl, hb1.celli 2 rfl rfl, trivial⟩, ?_⟩
        refine thenW_in fun ww27 e27 => ?_
        have h := h ww27 ww21.heap.size ((Ext.refl no ww21).x_alloc e27) (Blk.of_new e27) ((Ext.refl no ww21)).size (size_lt_alloc e27)
        refine h.mono fun ee30 ww31 h => ?_
        obtain ⟨insert29a, insert29n, insert29c, he, h⟩ := h
        refine ⟨insert29a, insert29n, insert29c, he, ?_⟩
        exact h

theorem vector_Put.go (v1a : Option Addr) (v1n : Nat) (v1c : Nat) (hWriter2 : Int) (hLen3 : Int) (hSum4 : Int) {R : Value → World → Prop} {w : World} (h : vector_Put.N v1a v1n v1c hWriter2 hLen3 hSum4 R w) : Calls Try.prog 6 #[.slice v1a v1n v1c, .agg #[.int .i64 hWriter2, .int .i64 hLen3, .int .u64 hSum4]] w fun e w' => ∃ v, e = .returned v ∧ R v w' := vector_Put.ok v1a v1n v1c hWriter2 hLen3 hSum4 (vector_Put.up v1a v1n v1c hWriter2 hLen3 hSum4 h)
theorem vector_Put.run (v1a : Option Addr) (v1n : Nat) (v1c : Nat) (hWriter2 : Int) (hLen3 : Int) (hSum4 : Int) {V : Value} {Q : World → Prop} {w : World} (h : vector_Put.N v1a v1n v1c hWriter2 hLen3 hSum4 (fun v w' => v = V ∧ Q w') w) : Calls Try.prog 6 #[.slice v1a v1n v1c, .agg #[.int .i64 hWriter2, .int .i64 hLen3, .int .u64 hSum4]] w (Ret V Q) := (vector_Put.go v1a v1n v1c hWriter2 hLen3 hSum4 h).mono fun e w' ⟨v, he, hv, hq⟩ => ⟨by rw [he, hv], hq⟩

/-- slices.Clone[vector.Vector,api.Head] -/
def slices_Clone_vector_Vector_api_Head.M (s1a : Option Addr) (s1n : Nat) (s1c : Nat) (R : Value → World → Prop) (w : World) : Prop :=
  bif Option.isNone s1a then (
  R (.slice none 0 0) w) else (
  thenW (w.alloc (.cells #[] 25)) fun ww2 =>
  ∃ (a3a : Option Addr) (a3n : Nat) (a3c : Nat) (ww4 : World), (Builtin.append_ #[28, 28] 28 #[.slice (some (blk w.heap.size)) 0 0, .slice s1a s1n s1c]).run Try.prog ww2 = .ok (.slice a3a a3n a3c) ww4 ∧
  R (.slice a3a a3n a3c) ww4)

theorem slices_Clone_vector_Vector_api_Head.eq (s1a : Option Addr) (s1n : Nat) (s1c : Nat) (R : Value → World → Prop) (w : World) : mfunc Try.prog [] 17 [.slice s1a s1n s1c] R w = slices_Clone_vector_Vector_api_Head.M s1a s1n s1c R w := by kernel_rfl
theorem slices_Clone_vector_Vector_api_Head.ok (s1a : Option Addr) (s1n : Nat) (s1c : Nat) {R : Value → World → Prop} {w : World} (h : slices_Clone_vector_Vector_api_Head.M s1a s1n s1c R w) : Calls Try.prog 17 #[.slice s1a s1n s1c] w fun e w' => ∃ v, e = .returned v ∧ R v w' :=
  mfunc_ok follows (H := []) (args := [.slice s1a s1n s1c]) (by rw [slices_Clone_vector_Vector_api_Head.eq]; exact h)

def slices_Clone_vector_Vector_api_Head.N (s1a : Option Addr) (s1n : Nat) (s1c : Nat) (R : Value → World → Prop) (w : World) : Prop :=
  (s1a = none →
    R (.slice none 0 0) w) ∧
  (s1a ≠ none →
    ∀ (ww3 : World) (q4 : Nat), Ext no w ww3 → Blk ww3 q4 25 [] → w.heap.size ≤ q4 → q4 < ww3.heap.size →
    ∃ (a5a : Option Addr) (a5n : Nat) (a5c : Nat) (ww6 : World), (Builtin.append_ #[28, 28] 28 #[.slice (some (blk q4)) 0 0, .slice s1a s1n s1c]).run Try.prog ww3 = .ok (.slice a5a a5n a5c) ww6 ∧
    R (.slice a5a a5n a5c) ww6)

theorem slices_Clone_vector_Vector_api_Head.up (s1a : Option Addr) (s1n : Nat) (s1c : Nat) {R : Value → World → Prop} {w : World} (h : slices_Clone_vector_Vector_api_Head.N s1a s1n s1c R w) : slices_Clone_vector_Vector_api_Head.M s1a s1n s1c R w := by
  unfold slices_Clone_vector_Vector_api_Head.M
  unfold slices_Clone_vector_Vector_api_Head.N at h
  refine bif_of (fun c2 => ?_) (fun c2 => ?_)
  · have h := h.1 (isNone_t c2)
    exact h
  · have h := h.2 (isNone_f c2)
    refine thenW_in fun ww3 e3 => ?_
    have h := h ww3 w.heap.size ((Ext.refl no w).x_alloc e3) (Blk.of_new e3) ((Ext.refl no w)).size (size_lt_alloc e3)
    obtain ⟨a5a, a5n, a5c, ww6, hr, h⟩ := h
    refine ⟨a5a, a5n, a5c, ww6, hr, ?_⟩
    exact h

theorem slices_Clone_vector_Vector_api_Head.go (s1a : Option Addr) (s1n : Nat) (s1c : Nat) {R : Value → World → Prop} {w : World} (h : slices_Clone_vector_Vector_api_Head.N s1a s1n s1c R w) : Calls Try.prog 17 #[.slice s1a s1n s1c] w fun e w' => ∃ v, e = .returned v ∧ R v w' := slices_Clone_vector_Vector_api_Head.ok s1a s1n s1c (slices_Clone_vector_Vector_api_Head.up s1a s1n s1c h)
theorem slices_Clone_vector_Vector_api_Head.run (s1a : Option Addr) (s1n : Nat) (s1c : Nat) {V : Value} {Q : World → Prop} {w : World} (h : slices_Clone_vector_Vector_api_Head.N s1a s1n s1c (fun v w' => v = V ∧ Q w') w) : Calls Try.prog 17 #[.slice s1a s1n s1c] w (Ret V Q) := (slices_Clone_vector_Vector_api_Head.go s1a s1n s1c h).mono fun e w' ⟨v, he, hv, hq⟩ => ⟨by rw [he, hv], hq⟩

/-- slices.Insert[vector.Vector,api.Head] -/
def slices_Insert_vector_Vector_api_Head.M (s1a : Option Addr) (s1n : Nat) (s1c : Nat) (i2 : Int) (v3a : Option Addr) (v3n : Nat) (v3c : Nat) (R : Value → World → Prop) (w : World) : Prop :=
  (0 : Int) ≤ (i2 : Int) ∧ (i2 : Int) ≤ (s1n : Int) ∧
  bif (v3n : Int) == 0 then (
  R (.slice s1a s1n s1c) w) else (
  bif i2 == (s1n : Int) then (
  ∃ (a4a : Option Addr) (a4n : Nat) (a4c : Nat) (ww5 : World), (Builtin.append_ #[28, 22] 28 #[.slice s1a s1n s1c, .slice v3a v3n v3c]).run Try.prog w = .ok (.slice a4a a4n a4c) ww5 ∧
  R (.slice a4a a4n a4c) ww5) else (
  bif decide ((IntKind.i64.wrap ((s1n : Int) + (v3n : Int))) > (s1c : Int)) then (
  (0 : Int) ≤ (i2 : Int) ∧ (i2 : Int) ≤ (s1c : Int) ∧
  ∃ (a6a : Option Addr) (a6n : Nat) (a6c : Nat) (ww7 : World), (Builtin.append_ #[28, 3] 28 #[.slice (if s1c = 0 then s1a else Option.map (fun z : Addr => z.add (0 * 3)) s1a) ((Int.toNat i2) - 0) (s1c - 0), .int .i64 (IntKind.i64.wrap ((IntKind.i64.wrap ((s1n : Int) + (v3n : Int))) - i2))]).run Try.prog w = .ok (.slice a6a a6n a6c) ww7 ∧
  (0 : Int) ≤ (i2 : Int) ∧ (i2 : Int) ≤ (a6n : Int) ∧
  ∃ (c8 : Int) (ww9 : World), (Builtin.copy_ #[28, 22] 3 #[.slice (if a6c = Int.toNat i2 then a6a else Option.map (fun z : Addr => z.add ((Int.toNat i2) * 3)) a6a) (a6n - (Int.toNat i2)) (a6c - (Int.toNat i2)), .slice v3a v3n v3c]).run Try.prog ww7 = .ok (.int .i64 c8) ww9 ∧
  thenW (ww9.drew) fun ww10 =>
  (0 : Int) ≤ ((IntKind.i64.wrap (i2 + (v3n : Int))) : Int) ∧ ((IntKind.i64.wrap (i2 + (v3n : Int))) : Int) ≤ (a6n : Int) ∧
  (0 : Int) ≤ (i2 : Int) ∧ (i2 : Int) ≤ (s1n : Int) ∧
  ∃ (c11 : Int) (ww12 : World), (Builtin.copy_ #[28, 28] 3 #[.slice (if a6c = Int.toNat (IntKind.i64.wrap (i2 + (v3n : Int))) then a6a else Option.map (fun z : Addr => z.add ((Int.toNat (IntKind.i64.wrap (i2 + (v3n : Int)))) * 3)) a6a) (a6n - (Int.toNat (IntKind.i64.wrap (i2 + (v3n : Int))))) (a6c - (Int.toNat (IntKind.i64.wrap (i2 + (v3n : Int))))), .slice (if s1c = Int.toNat i2 then s1a else Option.map (fun z : Addr => z.add ((Int.toNat i2) * 3)) s1a) (s1n - (Int.toNat i2)) (s1c - (Int.toNat i2))]).run Try.prog ww10 = .ok (.int .i64 c11) ww12 ∧
  R (.slice a6a a6n a6c) ww12) else (
  (0 : Int) ≤ ((IntKind.i64.wrap ((s1n : Int) + (v3n : Int))) : Int) ∧ ((IntKind.i64.wrap ((s1n : Int) + (v3n : Int))) : Int) ≤ (s1c : Int) ∧
  (0 : Int) ≤ ((IntKind.i64.wrap (i2 + (v3n : Int))) : Int) ∧ ((IntKind.i64.wrap (i2 + (v3n : Int))) : Int) ≤ (((Int.toNat (IntKind.i64.wrap ((s1n : Int) + (v3n : Int)))) - 0) : Int) ∧
  ∃ (overlaps13 : Bool) (ww16 : World), (externCall 27 #[.slice v3a v3n v3c, .slice (if s1c - 0 = Int.toNat (IntKind.i64.wrap (i2 + (v3n : Int))) then if s1c = 0 then s1a else Option.map (fun z : Addr => z.add (0 * 3)) s1a else Option.map (fun z : Addr => z.add ((Int.toNat (IntKind.i64.wrap (i2 + (v3n : Int)))) * 3)) (if s1c = 0 then s1a else Option.map (fun z : Addr => z.add (0 * 3)) s1a)) (((Int.toNat (IntKind.i64.wrap ((s1n : Int) + (v3n : Int)))) - 0) - (Int.toNat (IntKind.i64.wrap (i2 + (v3n : Int))))) ((s1c - 0) - (Int.toNat (IntKind.i64.wrap (i2 + (v3n : Int)))))]).run Try.prog w = .ok (.bool overlaps13) ww16 ∧
  bif !overlaps13 then (
  thenW (ww16.drew) fun ww17 =>
  (0 : Int) ≤ ((IntKind.i64.wrap (i2 + (v3n : Int))) : Int) ∧ ((IntKind.i64.wrap (i2 + (v3n : Int))) : Int) ≤ (((Int.toNat (IntKind.i64.wrap ((s1n : Int) + (v3n : Int)))) - 0) : Int) ∧
  (0 : Int) ≤ (i2 : Int) ∧ (i2 : Int) ≤ (((Int.toNat (IntKind.i64.wrap ((s1n : Int) + (v3n : Int)))) - 0) : Int) ∧
  ∃ (c18 : Int) (ww19 : World), (Builtin.copy_ #[28, 28] 3 #[.slice (if s1c - 0 = Int.toNat (IntKind.i64.wrap (i2 + (v3n : Int))) then if s1c = 0 then s1a else Option.map (fun z : Addr => z.add (0 * 3)) s1a else Option.map (fun z : Addr => z.add ((Int.toNat (IntKind.i64.wrap (i2 + (v3n : Int)))) * 3)) (if s1c = 0 then s1a else Option.map (fun z : Addr => z.add (0 * 3)) s1a)) (((Int.toNat (IntKind.i64.wrap ((s1n : Int) + (v3n : Int)))) - 0) - (Int.toNat (IntKind.i64.wrap (i2 + (v3n : Int))))) ((s1c - 0) - (Int.toNat (IntKind.i64.wrap (i2 + (v3n : Int))))), .slice (if s1c - 0 = Int.toNat i2 then if s1c = 0 then s1a else Option.map (fun z : Addr => z.add (0 * 3)) s1a else Option.map (fun z : Addr => z.add ((Int.toNat i2) * 3)) (if s1c = 0 then s1a else Option.map (fun z : Addr => z.add (0 * 3)) s1a)) (((Int.toNat (IntKind.i64.wrap ((s1n : Int) + (v3n : Int)))) - 0) - (Int.toNat i2)) ((s1c - 0) - (Int.toNat i2))]).run Try.prog ww17 = .ok (.int .i64 c18) ww19 ∧
  (0 : Int) ≤ (i2 : Int) ∧ (i2 : Int) ≤ (((Int.toNat (IntKind.i64.wrap ((s1n : Int) + (v3n : Int)))) - 0) : Int) ∧
  ∃ (c20 : Int) (ww21 : World), (Builtin.copy_ #[28, 22] 3 #[.slice (if s1c - 0 = Int.toNat i2 then if s1c = 0 then s1a else Option.map (fun z : Addr => z.add (0 * 3)) s1a else Option.map (fun z : Addr => z.add ((Int.toNat i2) * 3)) (if s1c = 0 then s1a else Option.map (fun z : Addr => z.add (0 * 3)) s1a)) (((Int.toNat (IntKind.i64.wrap ((s1n : Int) + (v3n : Int)))) - 0) - (Int.toNat i2)) ((s1c - 0) - (Int.toNat i2)), .slice v3a v3n v3c]).run Try.prog ww19 = .ok (.int .i64 c20) ww21 ∧
  R (.slice (if s1c = 0 then s1a else Option.map (fun z : Addr => z.add (0 * 3)) s1a) ((Int.toNat (IntKind.i64.wrap ((s1n : Int) + (v3n : Int)))) - 0) (s1c - 0)) ww21) else (
  (0 : Int) ≤ ((s1n : Int) : Int) ∧ ((s1n : Int) : Int) ≤ (((Int.toNat (IntKind.i64.wrap ((s1n : Int) + (v3n : Int)))) - 0) : Int) ∧
  ∃ (c22 : Int) (ww23 : World), (Builtin.copy_ #[28, 22] 3 #[.slice (if s1c - 0 = Int.toNat (s1n : Int) then if s1c = 0 then s1a else Option.map (fun z : Addr => z.add (0 * 3)) s1a else Option.map (fun z : Addr => z.add ((Int.toNat (s1n : Int)) * 3)) (if s1c = 0 then s1a else Option.map (fun z : Addr => z.add (0 * 3)) s1a)) (((Int.toNat (IntKind.i64.wrap ((s1n : Int) + (v3n : Int)))) - 0) - (Int.toNat (s1n : Int))) ((s1c - 0) - (Int.toNat (s1n : Int))), .slice v3a v3n v3c]).run Try.prog ww16 = .ok (.int .i64 c22) ww23 ∧
  (0 : Int) ≤ (i2 : Int) ∧ (i2 : Int) ≤ (((Int.toNat (IntKind.i64.wrap ((s1n : Int) + (v3n : Int)))) - 0) : Int) ∧
  Calls Try.prog 28 #[.slice (if s1c - 0 = Int.toNat i2 then if s1c = 0 then s1a else Option.map (fun z : Addr => z.add (0 * 3)) s1a else Option.map (fun z : Addr => z.add ((Int.toNat i2) * 3)) (if s1c = 0 then s1a else Option.map (fun z : Addr => z.add (0 * 3)) s1a)) (((Int.toNat (IntKind.i64.wrap ((s1n : Int) + (v3n : Int)))) - 0) - (Int.toNat i2)) ((s1c - 0) - (Int.toNat i2)), .int .i64 (v3n : Int)] ww23 fun ee24 ww25 => ee24 = .returned (.tuple #[]) ∧
  R (.slice (if s1c = 0 then s1a else Option.map (fun z : Addr => z.add (0 * 3)) s1a) ((Int.toNat (IntKind.i64.wrap ((s1n : Int) + (v3n : Int)))) - 0) (s1c - 0)) ww25))))

theorem slices_Insert_vector_Vector_api_Head.eq (s1a : Option Addr) (s1n : Nat) (s1c : Nat) (i2 : Int) (v3a : Option Addr) (v3n : Nat) (v3c : Nat) (R : Value → World → Prop) (w : World) : mfunc Try.prog [] 18 [.slice s1a s1n s1c, .int .i64 i2, .slice v3a v3n v3c] R w = slices_Insert_vector_Vector_api_Head.M s1a s1n s1c i2 v3a v3n v3c R w := by kernel_rfl
theorem slices_Insert_vector_Vector_api_Head.ok (s1a : Option Addr) (s1n : Nat) (s1c : Nat) (i2 : Int) (v3a : Option Addr) (v3n : Nat) (v3c : Nat) {R : Value → World → Prop} {w : World} (h : slices_Insert_vector_Vector_api_Head.M s1a s1n s1c i2 v3a v3n v3c R w) : Calls Try.prog 18 #[.slice s1a s1n s1c, .int .i64 i2, .slice v3a v3n v3c] w fun e w' => ∃ v, e = .returned v ∧ R v w' :=
  mfunc_ok follows (H := []) (args := [.slice s1a s1n s1c, .int .i64 i2, .slice v3a v3n v3c]) (by rw [slices_Insert_vector_Vector_api_Head.eq]; exact h)

def slices_Insert_vector_Vector_api_Head.N (s1a : Option Addr) (s1n : Nat) (s1c : Nat) (i2 : Int) (v3a : Option Addr) (v3n : Nat) (v3c : Nat) (R : Value → World → Prop) (w : World) : Prop :=
  (0 : Int) ≤ (i2 : Int) ∧ (i2 : Int) ≤ (s1n : Int) ∧ 
  ((v3n : Int) = 0 →
    R (.slice s1a s1n s1c) w) ∧
  ((v3n : Int) ≠ 0 →
    (i2 = (s1n : Int) →
      ∃ (a6a : Option Addr) (a6n : Nat) (a6c : Nat) (ww7 : World), (Builtin.append_ #[28, 22] 28 #[.slice s1a s1n s1c, .slice v3a v3n v3c]).run Try.prog w = .ok (.slice a6a a6n a6c) ww7 ∧
      R (.slice a6a a6n a6c) ww7) ∧
    (i2 ≠ (s1n : Int) →
      (-9223372036854775808 : Int) ≤ ((s1n : Int) + (v3n : Int)) ∧ ((s1n : Int) + (v3n : Int)) < 9223372036854775808 ∧
      (((s1n : Int) + (v3n : Int)) > (s1c : Int) →
        (0 : Int) ≤ (i2 : Int) ∧ (i2 : Int) ≤ (s1c : Int) ∧ 
        (-9223372036854775808 : Int) ≤ ((s1n : Int) + (v3n : Int)) ∧ ((s1n : Int) + (v3n : Int)) < 9223372036854775808 ∧
        (-9223372036854775808 : Int) ≤ (((s1n : Int) + (v3n : Int)) - i2) ∧ (((s1n : Int) + (v3n : Int)) - i2) < 9223372036854775808 ∧
        ∃ (a9a : Option Addr) (a9n : Nat) (a9c : Nat) (ww10 : World), (Builtin.append_ #[28, 3] 28 #[.slice s1a (Int.toNat i2) s1c, .int .i64 (((s1n : Int) + (v3n : Int)) - i2)]).run Try.prog w = .ok (.slice a9a a9n a9c) ww10 ∧
        (0 : Int) ≤ (i2 : Int) ∧ (i2 : Int) ≤ (a9n : Int) ∧ 
        ∃ (c11 : Int) (ww12 : World), (Builtin.copy_ #[28, 22] 3 #[.slice (cutA a9a a9c (Int.toNat i2) 3) (a9n - (Int.toNat i2)) (a9c - (Int.toNat i2)), .slice v3a v3n v3c]).run Try.prog ww10 = .ok (.int .i64 c11) ww12 ∧
        (-9223372036854775808 : Int) ≤ (i2 + (v3n : Int)) ∧ (i2 + (v3n : Int)) < 9223372036854775808 ∧
        (0 : Int) ≤ ((i2 + (v3n : Int)) : Int) ∧ ((i2 + (v3n : Int)) : Int) ≤ (a9n : Int) ∧ 
        (0 : Int) ≤ (i2 : Int) ∧ (i2 : Int) ≤ (s1n : Int) ∧ 
        ∀ (ww13 : World), Ext no ww12 ww13 →
        ∃ (c14 : Int) (ww15 : World), (Builtin.copy_ #[28, 28] 3 #[.slice (cutA a9a a9c (Int.toNat (i2 + (v3n : Int))) 3) (a9n - (Int.toNat (i2 + (v3n : Int)))) (a9c - (Int.toNat (i2 + (v3n : Int)))), .slice (cutA s1a s1c (Int.toNat i2) 3) (s1n - (Int.toNat i2)) (s1c - (Int.toNat i2))]).run Try.prog ww13 = .ok (.int .i64 c14) ww15 ∧
        R (.slice a9a a9n a9c) ww15) ∧
      (((s1n : Int) + (v3n : Int)) ≤ (s1c : Int) →
        (-9223372036854775808 : Int) ≤ ((s1n : Int) + (v3n : Int)) ∧ ((s1n : Int) + (v3n : Int)) < 9223372036854775808 ∧
        (0 : Int) ≤ (((s1n : Int) + (v3n : Int)) : Int) ∧ (((s1n : Int) + (v3n : Int)) : Int) ≤ (s1c : Int) ∧ 
        (-9223372036854775808 : Int) ≤ (i2 + (v3n : Int)) ∧ (i2 + (v3n : Int)) < 9223372036854775808 ∧
        (0 : Int) ≤ ((i2 + (v3n : Int)) : Int) ∧ ((i2 + (v3n : Int)) : Int) ≤ ((Int.toNat ((s1n : Int) + (v3n : Int))) : Int) ∧ 
        ∃ (x16 : Bool) (ww17 : World), (externCall 27 #[.slice v3a v3n v3c, .slice (cutA s1a s1c (Int.toNat (i2 + (v3n : Int))) 3) ((Int.toNat ((s1n : Int) + (v3n : Int))) - (Int.toNat (i2 + (v3n : Int)))) (s1c - (Int.toNat (i2 + (v3n : Int))))]).run Try.prog w = .ok (.bool x16) ww17 ∧
        (x16 = false →
          (-9223372036854775808 : Int) ≤ (i2 + (v3n : Int)) ∧ (i2 + (v3n : Int)) < 9223372036854775808 ∧
          (0 : Int) ≤ ((i2 + (v3n : Int)) : Int) ∧ ((i2 + (v3n : Int)) : Int) ≤ ((Int.toNat ((s1n : Int) + (v3n : Int))) : Int) ∧ 
          (0 : Int) ≤ (i2 : Int) ∧ (i2 : Int) ≤ ((Int.toNat ((s1n : Int) + (v3n : Int))) : Int) ∧ 
          ∀ (ww19 : World), Ext no ww17 ww19 →
          ∃ (c20 : Int) (ww21 : World), (Builtin.copy_ #[28, 28] 3 #[.slice (cutA s1a s1c (Int.toNat (i2 + (v3n : Int))) 3) ((Int.toNat ((s1n : Int) + (v3n : Int))) - (Int.toNat (i2 + (v3n : Int)))) (s1c - (Int.toNat (i2 + (v3n : Int)))), .slice (cutA s1a s1c (Int.toNat i2) 3) ((Int.toNat ((s1n : Int) + (v3n : Int))) - (Int.toNat i2)) (s1c - (Int.toNat i2))]).run Try.prog ww19 = .ok (.int .i64 c20) ww21 ∧
          (0 : Int) ≤ (i2 : Int) ∧ (i2 : Int) ≤ ((Int.toNat ((s1n : Int) + (v3n : Int))) : Int) ∧ 
          ∃ (c22 : Int) (ww23 : World), (Builtin.copy_ #[28, 22] 3 #[.slice (cutA s1a s1c (Int.toNat i2) 3) ((Int.toNat ((s1n : Int) + (v3n : Int))) - (Int.toNat i2)) (s1c - (Int.toNat i2)), .slice v3a v3n v3c]).run Try.prog ww21 = .ok (.int .i64 c22) ww23 ∧
          R (.slice s1a (Int.toNat ((s1n : Int) + (v3n : Int))) s1c) ww23) ∧
        (x16 = true →
          (0 : Int) ≤ ((s1n : Int) : Int) ∧ ((s1n : Int) : Int) ≤ ((Int.toNat ((s1n : Int) + (v3n : Int))) : Int) ∧ 
          ∃ (c24 : Int) (ww25 : World), (Builtin.copy_ #[28, 22] 3 #[.slice (cutA s1a s1c (Int.toNat (s1n : Int)) 3) ((Int.toNat ((s1n : Int) + (v3n : Int))) - (Int.toNat (s1n : Int))) (s1c - (Int.toNat (s1n : Int))), .slice v3a v3n v3c]).run Try.prog ww17 = .ok (.int .i64 c24) ww25 ∧
          (0 : Int) ≤ (i2 : Int) ∧ (i2 : Int) ≤ ((Int.toNat ((s1n : Int) + (v3n : Int))) : Int) ∧ 
          Calls Try.prog 28 #[.slice (cutA s1a s1c (Int.toNat i2) 3) ((Int.toNat ((s1n : Int) + (v3n : Int))) - (Int.toNat i2)) (s1c - (Int.toNat i2)), .int .i64 (v3n : Int)] ww25 fun ee26 ww27 => ee26 = .returned (.tuple #[]) ∧
          R (.slice s1a (Int.toNat ((s1n : Int) + (v3n : Int))) s1c) ww27))))

theorem slices_Insert_vector_Vector_api_Head.up (s1a : Option Addr) (s1n : Nat) (s1c : Nat) (i2 : Int) (v3a : Option Addr) (v3n : Nat) (v3c : Nat) {R : Value → World → Prop} {w : World} (h : slices_Insert_vector_Vector_api_Head.N s1a s1n s1c i2 v3a v3n v3c R w) : slices_Insert_vector_Vector_api_Head.M s1a s1n s1c i2 v3a v3n v3c R w := by
  unfold slices_Insert_vector_Vector_api_Head.M
  unfold slices_Insert_vector_Vector_api_Head.N at h
  obtain ⟨hq0, hq1, h⟩ := h
  refine ⟨hq0, hq1, ?_⟩
  refine bif_of (fun c4 => ?_) (fun c4 => ?_)
  · have h := h.1 (beq_t c4)
    exact h
  · have h := h.2 (beq_f c4)
    refine bif_of (fun c5 => ?_) (fun c5 => ?_)
    · have h := h.1 (beq_t c5)
      obtain ⟨a6a, a6n, a6c, ww7, hr, h⟩ := h
      refine ⟨a6a, a6n, a6c, ww7, hr, ?_⟩
      exact h
    · have h := h.2 (beq_f c5)
      obtain ⟨hw1, hw2, h⟩ := h
      try rw [w64 hw1 hw2]
      refine bif_of (fun c8 => ?_) (fun c8 => ?_)
      · have h := h.1 (of_decide_eq_true c8)
        obtain ⟨hq0, hq1, h⟩ := h
        refine ⟨hq0, hq1, ?_⟩
        try rw [cut_zero]
        obtain ⟨hw1, hw2, h⟩ := h
        try rw [w64 hw1 hw2]
        obtain ⟨hw1, hw2, h⟩ := h
        try rw [w64 hw1 hw2]
        obtain ⟨a9a, a9n, a9c, ww10, hr, h⟩ := h
        refine ⟨a9a, a9n, a9c, ww10, hr, ?_⟩
        obtain ⟨hq0, hq1, h⟩ := h
        refine ⟨hq0, hq1, ?_⟩
        obtain ⟨c11, ww12, hr, h⟩ := h
        refine ⟨c11, ww12, hr, ?_⟩
        refine thenW_in fun ww13 e13 => ?_
        have hx13 := (Ext.refl no ww12).x_drew e13
        obtain ⟨hw1, hw2, h⟩ := h
        try rw [w64 hw1 hw2]
        obtain ⟨hq0, hq1, h⟩ := h
        refine ⟨hq0, hq1, ?_⟩
        obtain ⟨hq0, hq1, h⟩ := h
        refine ⟨hq0, hq1, ?_⟩
        have h := h ww13 hx13
        obtain ⟨c14, ww15, hr, h⟩ := h
        refine ⟨c14, ww15, hr, ?_⟩
        exact h
      · have h := h.2 (Int.not_lt.1 (of_decide_eq_false c8))
        obtain ⟨hw1, hw2, h⟩ := h
        try rw [w64 hw1 hw2]
        obtain ⟨hq0, hq1, h⟩ := h
        refine ⟨hq0, hq1, ?_⟩
        try rw [cut_zero]
        obtain ⟨hw1, hw2, h⟩ := h
        try rw [w64 hw1 hw2]
        obtain ⟨hq0, hq1, h⟩ := h
        refine ⟨hq0, hq1, ?_⟩
        obtain ⟨x16, ww17, hr, h⟩ := h
        refine ⟨x16, ww17, hr, ?_⟩
        refine bif_of (fun c18 => ?_) (fun c18 => ?_)
        · have h := h.1 (not_t c18)
          refine thenW_in fun ww19 e19 => ?_
          have hx19 := (Ext.refl no ww17).x_drew e19
          obtain ⟨hw1, hw2, h⟩ := h
          try rw [w64 hw1 hw2]
          obtain ⟨hq0, hq1, h⟩ := h
          refine ⟨hq0, hq1, ?_⟩
          obtain ⟨hq0, hq1, h⟩ := h
          refine ⟨hq0, hq1, ?_⟩
          have h := h ww19 hx19
          obtain ⟨c20, ww21, hr, h⟩ := h
          refine ⟨c20, ww21, hr, ?_⟩
          obtain ⟨hq0, hq1, h⟩ := h
          refine ⟨hq0, hq1, ?_⟩
          obtain ⟨c22, ww23, hr, h⟩ := h
          refine ⟨c22, ww23, hr, ?_⟩
          exact h
        · have h := h.2 (not_f c18)
          obtain ⟨hq0, hq1, h⟩ := h
          refine ⟨hq0, hq1, ?_⟩
          obtain ⟨c24, ww25, hr, h⟩ := h
          refine ⟨c24, ww25, hr, ?_⟩
          obtain ⟨hq0, hq1, h⟩ := h
          refine ⟨hq0, hq1, ?_⟩
          refine h.mono fun ee26 ww27 h => ?_
          obtain ⟨he, h⟩ := h
          refine ⟨he, ?_⟩
          exact h

theorem slices_Insert_vector_Vector_api_Head.go (s1a : Option Addr) (s1n : Nat) (s1c : Nat) (i2 : Int) (v3a : Option Addr) (v3n : Nat) (v3c : Nat) {R : Value → World → Prop} {w : World} (h : slices_Insert_vector_Vector_api_Head.N s1a s1n s1c i2 v3a v3n v3c R w) : Calls Try.prog 18 #[.slice s1a s1n s1c, .int .i64 i2, .slice v3a v3n v3c] w fun e w' => ∃ v, e = .returned v ∧ R v w' := slices_Insert_vector_Vector_api_Head.ok s1a s1n s1c i2 v3a v3n v3c (slices_Insert_vector_Vector_api_Head.up s1a s1n s1c i2 v3a v3n v3c h)
theorem slices_Insert_vector_Vector_api_Head.run (s1a : Option Addr) (s1n : Nat) (s1c : Nat) (i2 : Int) (v3a : Option Addr) (v3n : Nat) (v3c : Nat) {V : Value} {Q : World → Prop} {w : World} (h : slices_Insert_vector_Vector_api_Head.N s1a s1n s1c i2 v3a v3n v3c (fun v w' => v = V ∧ Q w') w) : Calls Try.prog 18 #[.slice s1a s1n s1c, .int .i64 i2, .slice v3a v3n v3c] w (Ret V Q) := (slices_Insert_vector_Vector_api_Head.go s1a s1n s1c i2 v3a v3n v3c h).mono fun e w' ⟨v, he, hv, hq⟩ => ⟨by rw [he, hv], hq⟩

/-- cachetteref05.RightHead -/
def cachetteref05_RightHead.M (hWriter1 : Int) (hLen2 : Int) (hSum3 : Int) (R : Value → World → Prop) (w : World) : Prop :=
  thenW (w.alloc (.cells #[.int .i64 hWriter1, .int .i64 hLen2, .int .u64 hSum3] 25)) fun ww4 =>
  ∃ (Writer5 : Int), ww4.cell? ((blk w.heap.size).add 0) = some (.int .i64 Writer5) ∧
  bif decide (Writer5 ≥ 0) then (
  ∃ (Writer6 : Int), ww4.cell? ((blk w.heap.size).add 0) = some (.int .i64 Writer6) ∧
  bif decide (Writer6 < 8) then (
  ∃ (Len7 : Int), ww4.cell? ((blk w.heap.size).add 1) = some (.int .i64 Len7) ∧
  bif decide (Len7 ≥ 1) then (
  ∃ (Len8 : Int), ww4.cell? ((blk w.heap.size).add 1) = some (.int .i64 Len8) ∧
  bif decide (Len8 ≤ 200) then (
  ∃ (Sum9 : Int), ww4.cell? ((blk w.heap.size).add 2) = some (.int .u64 Sum9) ∧
  R (.bool (Sum9 != 0)) ww4) else (
  R (.bool false) ww4)) else (
  R (.bool false) ww4)) else (
  R (.bool false) ww4)) else (
  R (.bool false) ww4)

theorem cachetteref05_RightHead.eq (hWriter1 : Int) (hLen2 : Int) (hSum3 : Int) (R : Value → World → Prop) (w : World) : mfunc Try.prog [] 19 [.agg #[.int .i64 hWriter1, .int .i64 hLen2, .int .u64 hSum3]] R w = cachetteref05_RightHead.M hWriter1 hLen2 hSum3 R w := by kernel_rfl
theorem cachetteref05_RightHead.ok (hWriter1 : Int) (hLen2 : Int) (hSum3 : Int) {R : Value → World → Prop} {w : World} (h : cachetteref05_RightHead.M hWriter1 hLen2 hSum3 R w) : Calls Try.prog 19 #[.agg #[.int .i64 hWriter1, .int .i64 hLen2, .int .u64 hSum3]] w fun e w' => ∃ v, e = .returned v ∧ R v w' :=
  mfunc_ok follows (H := []) (args := [.agg #[.int .i64 hWriter1, .int .i64 hLen2, .int .u64 hSum3]]) (by rw [cachetteref05_RightHead.eq]; exact h)

def cachetteref05_RightHead.N (hWriter1 : Int) (hLen2 : Int) (hSum3 : Int) (R : Value → World → Prop) (w : World) : Prop :=
  (hWriter1 ≥ 0 →
    (hWriter1 < 8 →
      (hLen2 ≥ 1 →
        (hLen2 ≤ 200 →
          ∀ (ww4 : World), Ext no w ww4 →
          R (.bool (hSum3 != 0)) ww4) ∧
        ((200 : Int) < hLen2 →
          ∀ (ww4 : World), Ext no w ww4 →
          R (.bool false) ww4)) ∧
      (hLen2 < 1 →
        ∀ (ww4 : World), Ext no w ww4 →
        R (.bool false) ww4)) ∧
    ((8 : Int) ≤ hWriter1 →
      ∀ (ww4 : World), Ext no w ww4 →
      R (.bool false) ww4)) ∧
  (hWriter1 < 0 →
    ∀ (ww4 : World), Ext no w ww4 →
    R (.bool false) ww4)

theorem cachetteref05_RightHead.up (hWriter1 : Int) (hLen2 : Int) (hSum3 : Int) {R : Value → World → Prop} {w : World} (h : cachetteref05_RightHead.N hWriter1 hLen2 hSum3 R w) : cachetteref05_RightHead.M hWriter1 hLen2 hSum3 R w := by
  unfold cachetteref05_RightHead.M
  unfold cachetteref05_RightHead.N at h
  refine thenW_in fun ww4 e4 => ?_
  have hb1 := Blk.of_new e4
  have hg1 := ((Ext.refl no w)).size
  have hx4 := (Ext.refl no w).x_alloc e4
  refine ⟨hWriter1, hb1.celli 0 rfl rfl, ?_⟩
  refine bif_of (fun c5 => ?_) (fun c5 => ?_)
  · have h := h.1 (of_decide_eq_true c5)
    refine ⟨hWriter1, hb1.celli 0 rfl rfl, ?_⟩
    refine bif_of (fun c6 => ?_) (fun c6 => ?_)
    · have h := h.1 (of_decide_eq_true c6)
      refine ⟨hLen2, hb1.celli 1 rfl rfl, ?_⟩
      refine bif_of (fun c7 => ?_) (fun c7 => ?_)
      · have h := h.1 (of_decide_eq_true c7)
        refine ⟨hLen2, hb1.celli 1 rfl rfl, ?_⟩
        refine bif_of (fun c8 => ?_) (fun c8 => ?_)
        · have h := h.1 (of_decide_eq_true c8)
          refine ⟨hSum3, hb1.celli 2 rfl rfl, ?_⟩
          have h := h ww4 hx4
          exact h
        · have h := h.2 (Int.not_le.1 (of_decide_eq_false c8))
          have h := h ww4 hx4
          exact h
      · have h := h.2 (Int.not_le.1 (of_decide_eq_false c7))
        have h := h ww4 hx4
        exact h
    · have h := h.2 (Int.not_lt.1 (of_decide_eq_false c6))
      have h := h ww4 hx4
      exact h
  · have h := h.2 (Int.not_le.1 (of_decide_eq_false c5))
    have h := h ww4 hx4
    exact h

theorem cachetteref05_RightHead.go (hWriter1 : Int) (hLen2 : Int) (hSum3 : Int) {R : Value → World → Prop} {w : World} (h : cachetteref05_RightHead.N hWriter1 hLen2 hSum3 R w) : Calls Try.prog 19 #[.agg #[.int .i64 hWriter1, .int .i64 hLen2, .int .u64 hSum3]] w fun e w' => ∃ v, e = .returned v ∧ R v w' := cachetteref05_RightHead.ok hWriter1 hLen2 hSum3 (cachetteref05_RightHead.up hWriter1 hLen2 hSum3 h)
theorem cachetteref05_RightHead.run (hWriter1 : Int) (hLen2 : Int) (hSum3 : Int) {V : Value} {Q : World → Prop} {w : World} (h : cachetteref05_RightHead.N hWriter1 hLen2 hSum3 (fun v w' => v = V ∧ Q w') w) : Calls Try.prog 19 #[.agg #[.int .i64 hWriter1, .int .i64 hLen2, .int .u64 hSum3]] w (Ret V Q) := (cachetteref05_RightHead.go hWriter1 hLen2 hSum3 h).mono fun e w' ⟨v, he, hv, hq⟩ => ⟨by rw [he, hv], hq⟩

def cachetteref05_RightHead.F (hWriter1 : Int) (hLen2 : Int) (hSum3 : Int) : Bool :=
  if hWriter1 ≥ 0 then
    if hWriter1 < 8 then
      if hLen2 ≥ 1 then
        if hLen2 ≤ 200 then
          (hSum3 != 0)
        else
          false
      else
        false
    else
      false
  else
    false
theorem cachetteref05_RightHead.pure (hWriter1 : Int) (hLen2 : Int) (hSum3 : Int) {w : World} : Calls Try.prog 19 #[.agg #[.int .i64 hWriter1, .int .i64 hLen2, .int .u64 hSum3]] w (Ret (.bool (cachetteref05_RightHead.F hWriter1 hLen2 hSum3)) fun w' => Ext no w w') := by
  refine cachetteref05_RightHead.run hWriter1 hLen2 hSum3 ?_
  unfold cachetteref05_RightHead.N
  refine ⟨fun c0 => ?_, fun c0 => ?_⟩
  · refine ⟨fun c1 => ?_, fun c1 => ?_⟩
    · refine ⟨fun c2 => ?_, fun c2 => ?_⟩
      · refine ⟨fun c3 => ?_, fun c3 => ?_⟩
        · intro w' hx; exact ⟨by unfold cachetteref05_RightHead.F; rw [if_pos c0, if_pos c1, if_pos c2, if_pos c3], hx⟩
        · intro w' hx; exact ⟨by unfold cachetteref05_RightHead.F; rw [if_pos c0, if_pos c1, if_pos c2, if_neg (by omega)], hx⟩
      · intro w' hx; exact ⟨by unfold cachetteref05_RightHead.F; rw [if_pos c0, if_pos c1, if_neg (by omega)], hx⟩
    · intro w' hx; exact ⟨by unfold cachetteref05_RightHead.F; rw [if_pos c0, if_neg (by omega)], hx⟩
  · intro w' hx; exact ⟨by unfold cachetteref05_RightHead.F; rw [if_neg (by omega)], hx⟩

/-- cachetteref05.Right -/
def cachetteref05_Right.M (v1a : Option Addr) (v1n : Nat) (v1c : Nat) (R : Value → World → Prop) (w : World) : Prop :=
  ∃ (I0 : Nat → List Value → World → Prop) (m3 : Nat), I0 m3 [.int .i64 0] w ∧ ∀ (m4 : Nat) (ww5 : World) (i2 : Int), I0 m4 [.int .i64 i2] ww5 →
  bif decide (i2 < (v1n : Int)) then (
  thenW (ww5.drew) fun ww6 =>
  v1a.elim False fun a7 =>
  0 ≤ (i2 : Int) ∧ (i2 : Int) < (v1n : Int) ∧
  ∃ (xWriter8 : Int) (xLen9 : Int) (xSum10 : Int), cellsAt ww6 (a7.add (Int.toNat i2 * 3)) [.int .i64 xWriter8, .int .i64 xLen9, .int .u64 xSum10] 0 ∧
  Calls Try.prog 19 #[.agg #[.int .i64 xWriter8, .int .i64 xLen9, .int .u64 xSum10]] ww6 fun ee12 ww13 => ∃ (righthea11 : Bool), ee12 = .returned (.bool righthea11) ∧
  bif !righthea11 then (
  R (.bool false) ww13) else (
  bif decide (i2 > 0) then (
  v1a.elim False fun a14 =>
  0 ≤ ((IntKind.i64.wrap (i2 - 1)) : Int) ∧ ((IntKind.i64.wrap (i2 - 1)) : Int) < (v1n : Int) ∧
  ∃ (Writer15 : Int), ww13.cell? ((a14.add (Int.toNat (IntKind.i64.wrap (i2 - 1)) * 3)).add 0) = some (.int .i64 Writer15) ∧
  v1a.elim False fun a16 =>
  0 ≤ (i2 : Int) ∧ (i2 : Int) < (v1n : Int) ∧
  ∃ (Writer17 : Int), ww13.cell? ((a16.add (Int.toNat i2 * 3)).add 0) = some (.int .i64 Writer17) ∧
  bif decide (Writer15 ≥ Writer17) then (
  R (.bool false) ww13) else (
  ∃ m18, m18 < m4 ∧ I0 m18 [.int .i64 (IntKind.i64.wrap (i2 + 1))] ww13)) else (
  ∃ m19, m19 < m4 ∧ I0 m19 [.int .i64 (IntKind.i64.wrap (i2 + 1))] ww13))) else (
  R (.bool true) ww5)

theorem cachetteref05_Right.eq (v1a : Option Addr) (v1n : Nat) (v1c : Nat) (R : Value → World → Prop) (w : World) : mfunc Try.prog [(0, [0], [(3, (.one (.int .i64)))])] 9 [.slice v1a v1n v1c] R w = cachetteref05_Right.M v1a v1n v1c R w := by kernel_rfl
theorem cachetteref05_Right.ok (v1a : Option Addr) (v1n : Nat) (v1c : Nat) {R : Value → World → Prop} {w : World} (h : cachetteref05_Right.M v1a v1n v1c R w) : Calls Try.prog 9 #[.slice v1a v1n v1c] w fun e w' => ∃ v, e = .returned v ∧ R v w' :=
  mfunc_ok follows (H := [(0, [0], [(3, (.one (.int .i64)))])]) (args := [.slice v1a v1n v1c]) (by rw [cachetteref05_Right.eq]; exact h)

def cachetteref05_Right.N (v1a : Option Addr) (v1n : Nat) (v1c : Nat) (R : Value → World → Prop) (w : World) : Prop :=
  ∃ (I0 : Nat → List Value → World → Prop) (m3 : Nat), I0 m3 [.int .i64 0] w ∧ ∀ (m4 : Nat) (ww5 : World) (i2 : Int), I0 m4 [.int .i64 i2] ww5 →
  (i2 < (v1n : Int) →
    ∃ a8 : Addr, v1a = some a8 ∧
    0 ≤ (i2 : Int) ∧ (i2 : Int) < (v1n : Int) ∧
    ∃ (xWriter10 : Int) (xLen11 : Int) (xSum12 : Int), cellsAt ww5 (a8.add (Int.toNat i2 * 3)) [.int .i64 xWriter10, .int .i64 xLen11, .int .u64 xSum12] 0 ∧
    ((cachetteref05_RightHead.F xWriter10 xLen11 xSum12) = false →
      ∀ (ww13 : World), Ext no ww5 ww13 →
      R (.bool false) ww13) ∧
    ((cachetteref05_RightHead.F xWriter10 xLen11 xSum12) = true →
      (i2 > 0 →
        (-9223372036854775808 : Int) ≤ (i2 - 1) ∧ (i2 - 1) < 9223372036854775808 ∧
        0 ≤ ((i2 - 1) : Int) ∧ ((i2 - 1) : Int) < (v1n : Int) ∧
        ∃ (Writer17 : Int), ww5.cell? ((a8.add (Int.toNat (i2 - 1) * 3)).add 0) = some (.int .i64 Writer17) ∧
        0 ≤ (i2 : Int) ∧ (i2 : Int) < (v1n : Int) ∧
        ∃ (Writer19 : Int), ww5.cell? ((a8.add (Int.toNat i2 * 3)).add 0) = some (.int .i64 Writer19) ∧
        (Writer17 ≥ Writer19 →
          ∀ (ww13 : World), Ext no ww5 ww13 →
          R (.bool false) ww13) ∧
        (Writer17 < Writer19 →
          (-9223372036854775808 : Int) ≤ (i2 + 1) ∧ (i2 + 1) < 9223372036854775808 ∧
          ∀ (ww13 : World), Ext no ww5 ww13 →
          ∃ m21, m21 < m4 ∧ I0 m21 [.int .i64 (i2 + 1)] ww13)) ∧
      (i2 ≤ 0 →
        (-9223372036854775808 : Int) ≤ (i2 + 1) ∧ (i2 + 1) < 9223372036854775808 ∧
        ∀ (ww13 : World), Ext no ww5 ww13 →
        ∃ m22, m22 < m4 ∧ I0 m22 [.int .i64 (i2 + 1)] ww13))) ∧
  ((v1n : Int) ≤ i2 →
    R (.bool true) ww5)

theorem cachetteref05_Right.up (v1a : Option Addr) (v1n : Nat) (v1c : Nat) {R : Value → World → Prop} {w : World} (h : cachetteref05_Right.N v1a v1n v1c R w) : cachetteref05_Right.M v1a v1n v1c R w := by
  unfold cachetteref05_Right.M
  unfold cachetteref05_Right.N at h
  obtain ⟨I0, m3, h0, h⟩ := h
  refine ⟨I0, m3, h0, fun m4 ww5 i2 hI => ?_⟩
  have h := h m4 ww5 i2 hI
  refine bif_of (fun c6 => ?_) (fun c6 => ?_)
  · have h := h.1 (of_decide_eq_true c6)
    refine thenW_in fun ww7 e7 => ?_
    have hx7 := (Ext.refl no ww5).x_drew e7
    obtain ⟨a8, ha8, h⟩ := h
    refine elim_some ha8 ?_
    obtain ⟨hq1, hq2, h⟩ := h
    refine ⟨hq1, hq2, ?_⟩
    obtain ⟨xWriter10, xLen11, xSum12, hc9, h⟩ := h
    refine ⟨xWriter10, xLen11, xSum12, cellsAt_no (hx7) hc9, ?_⟩
    refine (cachetteref05_RightHead.pure xWriter10 xLen11 xSum12).mono fun ee ww13 ⟨he, hxx⟩ => ⟨(cachetteref05_RightHead.F xWriter10 xLen11 xSum12), he, ?_⟩
    have hx13 := hx7.trans hxx
    refine bif_of (fun c14 => ?_) (fun c14 => ?_)
    · have h := h.1 (not_t c14)
      have h := h ww13 hx13
      exact h
    · have h := h.2 (not_f c14)
      refine bif_of (fun c15 => ?_) (fun c15 => ?_)
      · have h := h.1 (of_decide_eq_true c15)
        obtain ⟨hw1, hw2, h⟩ := h
        try rw [w64 hw1 hw2]
        refine elim_some ha8 ?_
        obtain ⟨hq1, hq2, h⟩ := h
        refine ⟨hq1, hq2, ?_⟩
        obtain ⟨Writer17, hc16, h⟩ := h
        refine ⟨Writer17, (hx13).cell hc16 id, ?_⟩
        refine elim_some ha8 ?_
        obtain ⟨hq1, hq2, h⟩ := h
        refine ⟨hq1, hq2, ?_⟩
        obtain ⟨Writer19, hc18, h⟩ := h
        refine ⟨Writer19, (hx13).cell hc18 id, ?_⟩
        refine bif_of (fun c20 => ?_) (fun c20 => ?_)
        · have h := h.1 (of_decide_eq_true c20)
          have h := h ww13 hx13
          exact h
        · have h := h.2 (Int.not_le.1 (of_decide_eq_false c20))
          obtain ⟨hw1, hw2, h⟩ := h
          try rw [w64 hw1 hw2]
          have h := h ww13 hx13
          obtain ⟨m21, hk, h⟩ := h
          exact ⟨m21, hk, h⟩
      · have h := h.2 (Int.not_lt.1 (of_decide_eq_false c15))
        obtain ⟨hw1, hw2, h⟩ := h
        try rw [w64 hw1 hw2]
        have h := h ww13 hx13
        obtain ⟨m22, hk, h⟩ := h
        exact ⟨m22, hk, h⟩
  · have h := h.2 (Int.not_lt.1 (of_decide_eq_false c6))
    exact h

theorem cachetteref05_Right.go (v1a : Option Addr) (v1n : Nat) (v1c : Nat) {R : Value → World → Prop} {w : World} (h : cachetteref05_Right.N v1a v1n v1c R w) : Calls Try.prog 9 #[.slice v1a v1n v1c] w fun e w' => ∃ v, e = .returned v ∧ R v w' := cachetteref05_Right.ok v1a v1n v1c (cachetteref05_Right.up v1a v1n v1c h)
theorem cachetteref05_Right.run (v1a : Option Addr) (v1n : Nat) (v1c : Nat) {V : Value} {Q : World → Prop} {w : World} (h : cachetteref05_Right.N v1a v1n v1c (fun v w' => v = V ∧ Q w') w) : Calls Try.prog 9 #[.slice v1a v1n v1c] w (Ret V Q) := (cachetteref05_Right.go v1a v1n v1c h).mono fun e w' ⟨v, he, hv, hq⟩ => ⟨by rw [he, hv], hq⟩

/-- cachetteref05.Get -/
def cachetteref05_Get.M (v1a : Option Addr) (v1n : Nat) (v1c : Nat) (wv2 : Int) (R : Value → World → Prop) (w : World) : Prop :=
  thenW (w.alloc (.cells #[.int .i64 0, .int .i64 0, .int .u64 0] 25)) fun ww3 =>
  ∃ (I0 : Nat → List Value → World → Prop) (m5 : Nat), I0 m5 [.int .i64 0] ww3 ∧ ∀ (m6 : Nat) (ww7 : World) (i4 : Int), I0 m6 [.int .i64 i4] ww7 →
  bif decide (i4 < (v1n : Int)) then (
  Calls Try.prog 9 #[.slice v1a v1n v1c] ww7 fun ee9 ww10 => ∃ (right8 : Bool), ee9 = .returned (.bool right8) ∧
  bif right8 then (
  v1a.elim False fun a11 =>
  0 ≤ (i4 : Int) ∧ (i4 : Int) < (v1n : Int) ∧
  ∃ (Writer12 : Int), ww10.cell? ((a11.add (Int.toNat i4 * 3)).add 0) = some (.int .i64 Writer12) ∧
  bif Writer12 == wv2 then (
  v1a.elim False fun a13 =>
  0 ≤ (i4 : Int) ∧ (i4 : Int) < (v1n : Int) ∧
  ∃ (xWriter14 : Int) (xLen15 : Int) (xSum16 : Int), cellsAt ww10 (a13.add (Int.toNat i4 * 3)) [.int .i64 xWriter14, .int .i64 xLen15, .int .u64 xSum16] 0 ∧
  canStore ww10 ((blk w.heap.size).add 0) ∧
  thenW (ww10.setCell ((blk w.heap.size).add 0) (.int .i64 xWriter14)) fun ww17 =>
  canStore ww17 ((blk w.heap.size).add 1) ∧
  thenW (ww17.setCell ((blk w.heap.size).add 1) (.int .i64 xLen15)) fun ww18 =>
  canStore ww18 ((blk w.heap.size).add 2) ∧
  thenW (ww18.setCell ((blk w.heap.size).add 2) (.int .u64 xSum16)) fun ww19 =>
  ∃ (resWriter20 : Int) (resLen21 : Int) (resSum22 : Int), cellsAt ww19 (blk w.heap.size) [.int .i64 resWriter20, .int .i64 resLen21, .int .u64 resSum22] 0 ∧
  R (.agg #[.int .i64 resWriter20, .int .i64 resLen21, .int .u64 resSum22]) ww19) else (
  ∃ m23, m23 < m6 ∧ I0 m23 [.int .i64 (IntKind.i64.wrap (i4 + 1))] ww10)) else (
  canStore ww10 ((blk w.heap.size).add 0) ∧
  thenW (ww10.setCell ((blk w.heap.size).add 0) (.int .i64 wv2)) fun ww24 =>
  canStore ww24 ((blk w.heap.size).add 1) ∧
  thenW (ww24.setCell ((blk w.heap.size).add 1) (.int .i64 0)) fun ww25 =>
  canStore ww25 ((blk w.heap.size).add 2) ∧
  thenW (ww25.setCell ((blk w.heap.size).add 2) (.int .u64 0)) fun ww26 =>
  ∃ (resWriter27 : Int) (resLen28 : Int) (resSum29 : Int), cellsAt ww26 (blk w.heap.size) [.int .i64 resWriter27, .int .i64 resLen28, .int .u64 resSum29] 0 ∧
  R (.agg #[.int .i64 resWriter27, .int .i64 resLen28, .int .u64 resSum29]) ww26)) else (
  canStore ww7 ((blk w.heap.size).add 0) ∧
  thenW (ww7.setCell ((blk w.heap.size).add 0) (.int .i64 wv2)) fun ww30 =>
  canStore ww30 ((blk w.heap.size).add 1) ∧
  thenW (ww30.setCell ((blk w.heap.size).add 1) (.int .i64 0)) fun ww31 =>
  canStore ww31 ((blk w.heap.size).add 2) ∧
  thenW (ww31.setCell ((blk w.heap.size).add 2) (.int .u64 0)) fun ww32 =>
  ∃ (resWriter33 : Int) (resLen34 : Int) (resSum35 : Int), cellsAt ww32 (blk w.heap.size) [.int .i64 resWriter33, .int .i64 resLen34, .int .u64 resSum35] 0 ∧
  R (.agg #[.int .i64 resWriter33, .int .i64 resLen34, .int .u64 resSum35]) ww32)

theorem cachetteref05_Get.eq (v1a : Option Addr) (v1n : Nat) (v1c : Nat) (wv2 : Int) (R : Value → World → Prop) (w : World) : mfunc Try.prog [(0, [0, 1, 4], [(5, (.one (.int .i64)))])] 11 [.slice v1a v1n v1c, .int .i64 wv2] R w = cachetteref05_Get.M v1a v1n v1c wv2 R w := by kernel_rfl
theorem cachetteref05_Get.ok (v1a : Option Addr) (v1n : Nat) (v1c : Nat) (wv2 : Int) {R : Value → World → Prop} {w : World} (h : cachetteref05_Get.M v1a v1n v1c wv2 R w) : Calls Try.prog 11 #[.slice v1a v1n v1c, .int .i64 wv2] w fun e w' => ∃ v, e = .returned v ∧ R v w' :=
  mfunc_ok follows (H := [(0, [0, 1, 4], [(5, (.one (.int .i64)))])]) (args := [.slice v1a v1n v1c, .int .i64 wv2]) (by rw [cachetteref05_Get.eq]; exact h)

def cachetteref05_Get.N (v1a : Option Addr) (v1n : Nat) (v1c : Nat) (wv2 : Int) (R : Value → World → Prop) (w : World) : Prop :=
  ∀ (ww3 : World) (p4 : Nat), Ext no w ww3 → Priv w ww3 [p4] →
  ∃ (I0 : Nat → List Value → World → Prop) (m9 : Nat), I0 m9 [.int .i64 0, .int .i64 0, .int .i64 0, .int .u64 0] ww3 ∧ ∀ (m10 : Nat) (ww11 : World) (i5 : Int) (Writer6 : Int) (Len7 : Int) (Sum8 : Int), I0 m10 [.int .i64 i5, .int .i64 Writer6, .int .i64 Len7, .int .u64 Sum8] ww11 →
  (i5 < (v1n : Int) →
    Calls Try.prog 9 #[.slice v1a v1n v1c] ww11 fun ee14 ww15 => ∃ (right13 : Bool), ee14 = .returned (.bool right13) ∧
    Keep [p4] ww11 ww15 ∧
    (right13 = true →
      ∃ a17 : Addr, v1a = some a17 ∧
      0 ≤ (i5 : Int) ∧ (i5 : Int) < (v1n : Int) ∧
      ∃ (Writer19 : Int), ww15.cell? ((a17.add (Int.toNat i5 * 3)).add 0) = some (.int .i64 Writer19) ∧
      (Writer19 = wv2 →
        0 ≤ (i5 : Int) ∧ (i5 : Int) < (v1n : Int) ∧
        ∃ (xWriter22 : Int) (xLen23 : Int) (xSum24 : Int), cellsAt ww15 (a17.add (Int.toNat i5 * 3)) [.int .i64 xWriter22, .int .i64 xLen23, .int .u64 xSum24] 0 ∧
        ∀ (ww27 : World), Ext (fun b => b = p4) ww15 ww27 →
        R (.agg #[.int .i64 xWriter22, .int .i64 xLen23, .int .u64 xSum24]) ww27) ∧
      (Writer19 ≠ wv2 →
        (-9223372036854775808 : Int) ≤ (i5 + 1) ∧ (i5 + 1) < 9223372036854775808 ∧
        ∃ m28, m28 < m10 ∧ I0 m28 [.int .i64 (i5 + 1), .int .i64 Writer6, .int .i64 Len7, .int .u64 Sum8] ww15)) ∧
    (right13 = false →
      ∀ (ww31 : World), Ext (fun b => b = p4) ww15 ww31 →
      R (.agg #[.int .i64 wv2, .int .i64 0, .int .u64 0]) ww31)) ∧
  ((v1n : Int) ≤ i5 →
    ∀ (ww34 : World), Ext (fun b => b = p4) ww11 ww34 →
    R (.agg #[.int .i64 wv2, .int .i64 0, .int .u64 0]) ww34)

theorem cachetteref05_Get.up (v1a : Option Addr) (v1n : Nat) (v1c : Nat) (wv2 : Int) {R : Value → World → Prop} {w : World} (h : cachetteref05_Get.N v1a v1n v1c wv2 R w) : cachetteref05_Get.M v1a v1n v1c wv2 R w := by
  unfold cachetteref05_Get.M
  unfold cachetteref05_Get.N at h
  refine thenW_in fun ww3 e3 => ?_
  have hb1 := Blk.of_new e3
  have hg1 := ((Ext.refl no w)).size
  have hx3 := (Ext.refl no w).x_alloc e3
  have h := h ww3 (w.heap.size) hx3 (Priv.cons hg1 hb1.lt Priv.nil)
  obtain ⟨I0, m9, h0, h⟩ := h
  refine ⟨fun k vs ww => ∃ (Writer6 : Int) (Len7 : Int) (Sum8 : Int), Blk ww w.heap.size 25 [.int .i64 Writer6, .int .i64 Len7, .int .u64 Sum8] ∧ I0 k (vs ++ [.int .i64 Writer6, .int .i64 Len7, .int .u64 Sum8]) ww, m9, ⟨0, 0, 0, hb1, h0⟩, fun m10 ww11 i5 hI => ?_⟩
  obtain ⟨Writer6, Len7, Sum8, hb1, hI⟩ := hI
  have h := h m10 ww11 i5 Writer6 Len7 Sum8 hI
  refine bif_of (fun c12 => ?_) (fun c12 => ?_)
  · have h := h.1 (of_decide_eq_true c12)
    refine h.mono fun ee14 ww15 h => ?_
    obtain ⟨right13, he, hk, h⟩ := h
    refine ⟨right13, he, ?_⟩
    have hb1 := hk.blk hb1 (by simp)
    refine bif_of (fun c16 => ?_) (fun c16 => ?_)
    · have h := h.1 c16
      obtain ⟨a17, ha17, h⟩ := h
      refine elim_some ha17 ?_
      obtain ⟨hq1, hq2, h⟩ := h
      refine ⟨hq1, hq2, ?_⟩
      obtain ⟨Writer19, hc18, h⟩ := h
      refine ⟨Writer19, hc18, ?_⟩
      refine bif_of (fun c20 => ?_) (fun c20 => ?_)
      · have h := h.1 (beq_t c20)
        refine elim_some ha17 ?_
        obtain ⟨hq1, hq2, h⟩ := h
        refine ⟨hq1, hq2, ?_⟩
        obtain ⟨xWriter22, xLen23, xSum24, hc21, h⟩ := h
        refine ⟨xWriter22, xLen23, xSum24, hc21, ?_⟩
        have hm27 : Ext (fun b => b = w.heap.size) ww15 ww15 := ((Ext.refl no ww15)).none
        refine ⟨hb1.cani 0 rfl rfl, thenW_in fun ww25 e25 => ?_⟩
        have hx25 := hm27.x_set (q := w.heap.size) (i := 0) rfl (.inl rfl) e25
        have hb1 := hb1.seti 0 rfl e25
        refine ⟨hb1.cani 1 rfl rfl, thenW_in fun ww26 e26 => ?_⟩
        have hx26 := hx25.x_set (q := w.heap.size) (i := 1) rfl (.inl rfl) e26
        have hb1 := hb1.seti 1 rfl e26
        refine ⟨hb1.cani 2 rfl rfl, thenW_in fun ww27 e27 => ?_⟩
        have hx27 := hx26.x_set (q := w.heap.size) (i := 2) rfl (.inl rfl) e27
        have hb1 := hb1.seti 2 rfl e27
        refine ⟨xWriter22, xLen23, xSum24, ⟨hb1.celli 0 rfl rfl, hb1.celli 1 rfl rfl, hb1.celli 2 rfl rfl, trivial⟩, ?_⟩
        have h := h ww27 hx27
        exact h
      · have h := h.2 (beq_f c20)
        obtain ⟨hw1, hw2, h⟩ := h
        try rw [w64 hw1 hw2]
        obtain ⟨m28, hk, h⟩ := h
        exact ⟨m28, hk, Writer6, Len7, Sum8, hb1, h⟩
    · have h := h.2 c16
      have hm31 : Ext (fun b => b = w.heap.size) ww15 ww15 := ((Ext.refl no ww15)).none
      refine ⟨hb1.cani 0 rfl rfl, thenW_in fun ww29 e29 => ?_⟩
      have hx29 := hm31.x_set (q := w.heap.size) (i := 0) rfl (.inl rfl) e29
      have hb1 := hb1.seti 0 rfl e29
      refine ⟨hb1.cani 1 rfl rfl, thenW_in fun ww30 e30 => ?_⟩
      have hx30 := hx29.x_set (q := w.heap.size) (i := 1) rfl (.inl rfl) e30
      have hb1 := hb1.seti 1 rfl e30
      refine ⟨hb1.cani 2 rfl rfl, thenW_in fun ww31 e31 => ?_⟩
      have hx31 := hx30.x_set (q := w.heap.size) (i := 2) rfl (.inl rfl) e31
      have hb1 := hb1.seti 2 rfl e31
      refine ⟨wv2, 0, 0, ⟨hb1.celli 0 rfl rfl, hb1.celli 1 rfl rfl, hb1.celli 2 rfl rfl, trivial⟩, ?_⟩
      have h := h ww31 hx31
      exact h
  · have h := h.2 (Int.not_lt.1 (of_decide_eq_false c12))
    have hm34 : Ext (fun b => b = w.heap.size) ww11 ww11 := ((Ext.refl no ww11)).none
    refine ⟨hb1.cani 0 rfl rfl, thenW_in fun ww32 e32 => ?_⟩
    have hx32 := hm34.x_set (q := w.heap.size) (i := 0) rfl (.inl rfl) e32
    have hb1 := hb1.seti 0 rfl e32
    refine ⟨hb1.cani 1 rfl rfl, thenW_in fun ww33 e33 => ?_⟩
    have hx33 := hx32.x_set (q := w.heap.size) (i := 1) rfl (.inl rfl) e33
    have hb1 := hb1.seti 1 rfl e33
    refine ⟨hb1.cani 2 rfl rfl, thenW_in fun ww34 e34 => ?_⟩
    have hx34 := hx33.x_set (q := w.heap.size) (i := 2) rfl (.inl rfl) e34
    have hb1 := hb1.seti 2 rfl e34
    refine ⟨wv2, 0, 0, ⟨hb1.celli 0 rfl rfl, hb1.celli 1 rfl rfl, hb1.celli 2 rfl rfl, trivial⟩, ?_⟩
    have h := h ww34 hx34
    exact h

theorem cachetteref05_Get.go (v1a : Option Addr) (v1n : Nat) (v1c : Nat) (wv2 : Int) {R : Value → World → Prop} {w : World} (h : cachetteref05_Get.N v1a v1n v1c wv2 R w) : Calls Try.prog 11 #[.slice v1a v1n v1c, .int .i64 wv2] w fun e w' => ∃ v, e = .returned v ∧ R v w' := cachetteref05_Get.ok v1a v1n v1c wv2 (cachetteref05_Get.up v1a v1n v1c wv2 h)
theorem cachetteref05_Get.run (v1a : Option Addr) (v1n : Nat) (v1c : Nat) (wv2 : Int) {V : Value} {Q : World → Prop} {w : World} (h : cachetteref05_Get.N v1a v1n v1c wv2 (fun v w' => v = V ∧ Q w') w) : Calls Try.prog 11 #[.slice v1a v1n v1c, .int .i64 wv2] w (Ret V Q) := (cachetteref05_Get.go v1a v1n v1c wv2 h).mono fun e w' ⟨v, he, hv, hq⟩ => ⟨by rw [he, hv], hq⟩

/-- cachetteref05.Put -/
def cachetteref05_Put.M (v1a : Option Addr) (v1n : Nat) (v1c : Nat) (hWriter2 : Int) (hLen3 : Int) (hSum4 : Int) (R : Value → World → Prop) (w : World) : Prop :=
  thenW (w.alloc (.cells #[.int .i64 hWriter2, .int .i64 hLen3, .int .u64 hSum4] 25)) fun ww5 =>
  Calls Try.prog 9 #[.slice v1a v1n v1c] ww5 fun ee7 ww8 => ∃ (right6 : Bool), ee7 = .returned (.bool right6) ∧
  bif !right6 then (
  R (.tuple #[.slice none 0 0, .int .i64 1]) ww8) else (
  ∃ (xWriter9 : Int) (xLen10 : Int) (xSum11 : Int), cellsAt ww8 (blk w.heap.size) [.int .i64 xWriter9, .int .i64 xLen10, .int .u64 xSum11] 0 ∧
  Calls Try.prog 19 #[.agg #[.int .i64 xWriter9, .int .i64 xLen10, .int .u64 xSum11]] ww8 fun ee13 ww14 => ∃ (righthea12 : Bool), ee13 = .returned (.bool righthea12) ∧
  bif !righthea12 then (
  R (.tuple #[.slice none 0 0, .int .i64 1]) ww14) else (
  ∃ (I0 : Nat → List Value → World → Prop) (m17 : Nat), I0 m17 [.slice none 0 0, .int .i64 0] ww14 ∧ ∀ (m18 : Nat) (ww19 : World) (outv15a : Option Addr) (outv15n : Nat) (outv15c : Nat) (wv16 : Int), I0 m18 [.slice outv15a outv15n outv15c, .int .i64 wv16] ww19 →
  bif decide (wv16 < 8) then (
  Calls Try.prog 11 #[.slice v1a v1n v1c, .int .i64 wv16] ww19 fun ee23 ww24 => ∃ (Writer20 : Int) (Len21 : Int) (Sum22 : Int), ee23 = .returned (.agg #[.int .i64 Writer20, .int .i64 Len21, .int .u64 Sum22]) ∧
  thenW (ww24.alloc (.cells #[.int .i64 0, .int .i64 0, .int .u64 0] 25)) fun ww25 =>
  canStore ww25 ((blk ww24.heap.size).add 0) ∧
  thenW (ww25.setCell ((blk ww24.heap.size).add 0) (.int .i64 Writer20)) fun ww26 =>
  canStore ww26 ((blk ww24.heap.size).add 1) ∧
  thenW (ww26.setCell ((blk ww24.heap.size).add 1) (.int .i64 Len21)) fun ww27 =>
  canStore ww27 ((blk ww24.heap.size).add 2) ∧
  thenW (ww27.setCell ((blk ww24.heap.size).add 2) (.int .u64 Sum22)) fun ww28 =>
  ∃ (Writer29 : Int), ww28.cell? ((blk w.heap.size).add 0) = some (.int .i64 Writer29) ∧
  bif wv16 == Writer29 then (
  ∃ (xWriter30 : Int) (xLen31 : Int) (xSum32 : Int), cellsAt ww28 (blk w.heap.size) [.int .i64 xWriter30, .int .i64 xLen31, .int .u64 xSum32] 0 ∧
  canStore ww28 ((blk ww24.heap.size).add 0) ∧
  thenW (ww28.setCell ((blk ww24.heap.size).add 0) (.int .i64 xWriter30)) fun ww33 =>
  canStore ww33 ((blk ww24.heap.size).add 1) ∧
  thenW (ww33.setCell ((blk ww24.heap.size).add 1) (.int .i64 xLen31)) fun ww34 =>
  canStore ww34 ((blk ww24.heap.size).add 2) ∧
  thenW (ww34.setCell ((blk ww24.heap.size).add 2) (.int .u64 xSum32)) fun ww35 =>
  ∃ (Len36 : Int), ww35.cell? ((blk ww24.heap.size).add 1) = some (.int .i64 Len36) ∧
  bif decide (Len36 > 0) then (
  ∃ (xWriter37 : Int) (xLen38 : Int) (xSum39 : Int), cellsAt ww35 (blk ww24.heap.size) [.int .i64 xWriter37, .int .i64 xLen38, .int .u64 xSum39] 0 ∧
  thenW (ww35.alloc (.cells #[.int .i64 xWriter37, .int .i64 xLen38, .int .u64 xSum39] 25)) fun ww40 =>
  ∃ (a41a : Option Addr) (a41n : Nat) (a41c : Nat) (ww42 : World), (Builtin.append_ #[22, 22] 22 #[.slice outv15a outv15n outv15c, .slice (some (blk ww35.heap.size)) 1 1]).run Try.prog ww40 = .ok (.slice a41a a41n a41c) ww42 ∧
  ∃ m43, m43 < m18 ∧ I0 m43 [.slice a41a a41n a41c, .int .i64 (IntKind.i64.wrap (wv16 + 1))] ww42) else (
  ∃ m44, m44 < m18 ∧ I0 m44 [.slice outv15a outv15n outv15c, .int .i64 (IntKind.i64.wrap (wv16 + 1))] ww35)) else (
  ∃ (Len45 : Int), ww28.cell? ((blk ww24.heap.size).add 1) = some (.int .i64 Len45) ∧
  bif decide (Len45 > 0) then (
  ∃ (xWriter46 : Int) (xLen47 : Int) (xSum48 : Int), cellsAt ww28 (blk ww24.heap.size) [.int .i64 xWriter46, .int .i64 xLen47, .int .u64 xSum48] 0 ∧
  thenW (ww28.alloc (.cells #[.int .i64 xWriter46, .int .i64 xLen47, .int .u64 xSum48] 25)) fun ww49 =>
  ∃ (a50a : Option Addr) (a50n : Nat) (a50c : Nat) (ww51 : World), (Builtin.append_ #[22, 22] 22 #[.slice outv15a outv15n outv15c, .slice (some (blk ww28.heap.size)) 1 1]).run Try.prog ww49 = .ok (.slice a50a a50n a50c) ww51 ∧
  ∃ m52, m52 < m18 ∧ I0 m52 [.slice a50a a50n a50c, .int .i64 (IntKind.i64.wrap (wv16 + 1))] ww51) else (
  ∃ m53, m53 < m18 ∧ I0 m53 [.slice outv15a outv15n outv15c, .int .i64 (IntKind.i64.wrap (wv16 + 1))] ww28))) else (
  R (.tuple #[.slice outv15a outv15n outv15c, .int .i64 0]) ww19)))

theorem cachetteref05_Put.eq (v1a : Option Addr) (v1n : Nat) (v1c : Nat) (hWriter2 : Int) (hLen3 : Int) (hSum4 : Int) (R : Value → World → Prop) (w : World) : mfunc Try.prog [(0, [0, 3], [(6, (.one .slice)), (7, (.one (.int .i64)))])] 7 [.slice v1a v1n v1c, .agg #[.int .i64 hWriter2, .int .i64 hLen3, .int .u64 hSum4]] R w = cachetteref05_Put.M v1a v1n v1c hWriter2 hLen3 hSum4 R w := by kernel_rfl
theorem cachetteref05_Put.ok (v1a : Option Addr) (v1n : Nat) (v1c : Nat) (hWriter2 : Int) (hLen3 : Int) (hSum4 : Int) {R : Value → World → Prop} {w : World} (h : cachetteref05_Put.M v1a v1n v1c hWriter2 hLen3 hSum4 R w) : Calls Try.prog 7 #[.slice v1a v1n v1c, .agg #[.int .i64 hWriter2, .int .i64 hLen3, .int .u64 hSum4]] w fun e w' => ∃ v, e = .returned v ∧ R v w' :=
  mfunc_ok follows (H := [(0, [0, 3], [(6, (.one .slice)), (7, (.one (.int .i64)))])]) (args := [.slice v1a v1n v1c, .agg #[.int .i64 hWriter2, .int .i64 hLen3, .int .u64 hSum4]]) (by rw [cachetteref05_Put.eq]; exact h)

def cachetteref05_Put.N (v1a : Option Addr) (v1n : Nat) (v1c : Nat) (hWriter2 : Int) (hLen3 : Int) (hSum4 : Int) (R : Value → World → Prop) (w : World) : Prop :=
  ∀ (ww5 : World) (p6 : Nat), Ext no w ww5 → Priv w ww5 [p6] →
  Calls Try.prog 9 #[.slice v1a v1n v1c] ww5 fun ee8 ww9 => ∃ (right7 : Bool), ee8 = .returned (.bool right7) ∧
  Keep [p6] ww5 ww9 ∧
  (right7 = false →
    R (.tuple #[.slice none 0 0, .int .i64 1]) ww9) ∧
  (right7 = true →
    ((cachetteref05_RightHead.F hWriter2 hLen3 hSum4) = false →
      ∀ (ww11 : World), Ext no ww9 ww11 →
      R (.tuple #[.slice none 0 0, .int .i64 1]) ww11) ∧
    ((cachetteref05_RightHead.F hWriter2 hLen3 hSum4) = true →
      ∀ (ww11 : World), Ext no ww9 ww11 →
      ∃ (I0 : Nat → List Value → World → Prop) (m15 : Nat), I0 m15 [.slice none 0 0, .int .i64 0] ww11 ∧ ∀ (m16 : Nat) (ww17 : World) (outv13a : Option Addr) (outv13n : Nat) (outv13c : Nat) (wv14 : Int), I0 m16 [.slice outv13a outv13n outv13c, .int .i64 wv14] ww17 →
      (wv14 < 8 →
        Calls Try.prog 11 #[.slice v1a v1n v1c, .int .i64 wv14] ww17 fun ee22 ww23 => ∃ (Writer19 : Int) (Len20 : Int) (Sum21 : Int), ee22 = .returned (.agg #[.int .i64 Writer19, .int .i64 Len20, .int .u64 Sum21]) ∧
        Keep [p6] ww17 ww23 ∧
        (wv14 = hWriter2 →
          (hLen3 > 0 →
            ∀ (ww33 : World) (q34 : Nat), Ext no ww23 ww33 → Blk ww33 q34 25 [.int .i64 hWriter2, .int .i64 hLen3, .int .u64 hSum4] → ww23.heap.size ≤ q34 → q34 < ww33.heap.size →
            ∃ (a36a : Option Addr) (a36n : Nat) (a36c : Nat) (ww37 : World), (Builtin.append_ #[22, 22] 22 #[.slice outv13a outv13n outv13c, .slice (some (blk q34)) 1 1]).run Try.prog ww33 = .ok (.slice a36a a36n a36c) ww37 ∧
            Keep [p6] ww33 ww37 ∧
            (-9223372036854775808 : Int) ≤ (wv14 + 1) ∧ (wv14 + 1) < 9223372036854775808 ∧
            ∃ m38, m38 < m16 ∧ I0 m38 [.slice a36a a36n a36c, .int .i64 (wv14 + 1)] ww37) ∧
          (hLen3 ≤ 0 →
            (-9223372036854775808 : Int) ≤ (wv14 + 1) ∧ (wv14 + 1) < 9223372036854775808 ∧
            ∀ (ww31 : World), Ext no ww23 ww31 →
            ∃ m40, m40 < m16 ∧ I0 m40 [.slice outv13a outv13n outv13c, .int .i64 (wv14 + 1)] ww31)) ∧
        (wv14 ≠ hWriter2 →
          (Len20 > 0 →
            ∀ (ww42 : World) (q43 : Nat), Ext no ww23 ww42 → Blk ww42 q43 25 [.int .i64 Writer19, .int .i64 Len20, .int .u64 Sum21] → ww23.heap.size ≤ q43 → q43 < ww42.heap.size →
            ∃ (a45a : Option Addr) (a45n : Nat) (a45c : Nat) (ww46 : World), (Builtin.append_ #[22, 22] 22 #[.slice outv13a outv13n outv13c, .slice (some (blk q43)) 1 1]).run Try.prog ww42 = .ok (.slice a45a a45n a45c) ww46 ∧
            Keep [p6] ww42 ww46 ∧
            (-9223372036854775808 : Int) ≤ (wv14 + 1) ∧ (wv14 + 1) < 9223372036854775808 ∧
            ∃ m47, m47 < m16 ∧ I0 m47 [.slice a45a a45n a45c, .int .i64 (wv14 + 1)] ww46) ∧
          (Len20 ≤ 0 →
            (-9223372036854775808 : Int) ≤ (wv14 + 1) ∧ (wv14 + 1) < 9223372036854775808 ∧
            ∀ (ww27 : World), Ext no ww23 ww27 →
            ∃ m49, m49 < m16 ∧ I0 m49 [.slice outv13a outv13n outv13c, .int .i64 (wv14 + 1)] ww27))) ∧
      ((8 : Int) ≤ wv14 →
        R (.tuple #[.slice outv13a outv13n outv13c, .int .i64 0]) ww17)))

theorem cachetteref05_Put.up (v1a : Option Addr) (v1n : Nat) (v1c : Nat) (hWriter2 : Int) (hLen3 : Int) (hSum4 : Int) {R : Value → World → Prop} {w : World} (h : cachetteref05_Put.N v1a v1n v1c hWriter2 hLen3 hSum4 R w) : cachetteref05_Put.M v1a v1n v1c hWriter2 hLen3 hSum4 R w := by
  unfold cachetteref05_Put.M
  unfold cachetteref05_Put.N at h
  refine thenW_in fun ww5 e5 => ?_
  have hb1 := Blk.of_new e5
  have hg1 := ((Ext.refl no w)).size
  have hx5 := (Ext.refl no w).x_alloc e5
  have h := h ww5 (w.heap.size) hx5 (Priv.cons hg1 hb1.lt Priv.nil)
  refine h.mono fun ee8 ww9 h => ?_
  obtain ⟨right7, he, hk, h⟩ := h
  refine ⟨right7, he, ?_⟩
  have hb1 := hk.blk hb1 (by simp)
  refine bif_of (fun c10 => ?_) (fun c10 => ?_)
  · have h := h.1 (not_t c10)
    exact h
  · have h := h.2 (not_f c10)
    refine ⟨hWriter2, hLen3, hSum4, ⟨hb1.celli 0 rfl rfl, hb1.celli 1 rfl rfl, hb1.celli 2 rfl rfl, trivial⟩, ?_⟩
    refine (cachetteref05_RightHead.pure hWriter2 hLen3 hSum4).mono fun ee ww11 ⟨he, hxx⟩ => ⟨(cachetteref05_RightHead.F hWriter2 hLen3 hSum4), he, ?_⟩
    have hx11 := (Ext.refl no ww9).trans hxx
    have hb1 := hb1.ext hxx id
    refine bif_of (fun c12 => ?_) (fun c12 => ?_)
    · have h := h.1 (not_t c12)
      have h := h ww11 hx11
      exact h
    · have h := h.2 (not_f c12)
      have h := h ww11 hx11
      obtain ⟨I0, m15, h0, h⟩ := h
      refine ⟨fun k vs ww => Blk ww w.heap.size 25 [.int .i64 hWriter2, .int .i64 hLen3, .int .u64 hSum4] ∧ I0 k vs ww, m15, ⟨hb1, h0⟩, fun m16 ww17 outv13a outv13n outv13c wv14 hI => ?_⟩
      obtain ⟨hb1, hI⟩ := hI
      have h := h m16 ww17 outv13a outv13n outv13c wv14 hI
      refine bif_of (fun c18 => ?_) (fun c18 => ?_)
      · have h := h.1 (of_decide_eq_true c18)
        refine h.mono fun ee22 ww23 h => ?_
        obtain ⟨Writer19, Len20, Sum21, he, hk, h⟩ := h
        refine ⟨Writer19, Len20, Sum21, he, ?_⟩
        have hb1 := hk.blk hb1 (by simp)
        refine thenW_in fun ww24 e24 => ?_
        have hb2 := Blk.of_new e24
        have hg2 := ((Ext.refl no ww23)).size
        have hb1_2 := Nat.ne_of_lt hb1.lt
        have hb1 := hb1.x_alloc e24
        have hx24 := (Ext.refl no ww23).x_alloc e24
        refine ⟨hb2.cani 0 rfl rfl, thenW_in fun ww25 e25 => ?_⟩
        have hx25 := hx24.x_set (q := ww23.heap.size) (i := 0) rfl (.inr hg2) e25
        have hb1 := hb1.oth (q := ww23.heap.size) (i := 0) rfl hb1_2 e25
        have hb2 := hb2.seti 0 rfl e25
        refine ⟨hb2.cani 1 rfl rfl, thenW_in fun ww26 e26 => ?_⟩
        have hx26 := hx25.x_set (q := ww23.heap.size) (i := 1) rfl (.inr hg2) e26
        have hb1 := hb1.oth (q := ww23.heap.size) (i := 1) rfl hb1_2 e26
        have hb2 := hb2.seti 1 rfl e26
        refine ⟨hb2.cani 2 rfl rfl, thenW_in fun ww27 e27 => ?_⟩
        have hx27 := hx26.x_set (q := ww23.heap.size) (i := 2) rfl (.inr hg2) e27
        have hb1 := hb1.oth (q := ww23.heap.size) (i := 2) rfl hb1_2 e27
        have hb2 := hb2.seti 2 rfl e27
        refine ⟨hWriter2, hb1.celli 0 rfl rfl, ?_⟩
        refine bif_of (fun c28 => ?_) (fun c28 => ?_)
        · have h := h.1 (beq_t c28)
          refine ⟨hWriter2, hLen3, hSum4, ⟨hb1.celli 0 rfl rfl, hb1.celli 1 rfl rfl, hb1.celli 2 rfl rfl, trivial⟩, ?_⟩
          refine ⟨hb2.cani 0 rfl rfl, thenW_in fun ww29 e29 => ?_⟩
          have hx29 := hx27.x_set (q := ww23.heap.size) (i := 0) rfl (.inr hg2) e29
          have hb1 := hb1.oth (q := ww23.heap.size) (i := 0) rfl hb1_2 e29
          have hb2 := hb2.seti 0 rfl e29
          refine ⟨hb2.cani 1 rfl rfl, thenW_in fun ww30 e30 => ?_⟩
          have hx30 := hx29.x_set (q := ww23.heap.size) (i := 1) rfl (.inr hg2) e30
          have hb1 := hb1.oth (q := ww23.heap.size) (i := 1) rfl hb1_2 e30
          have hb2 := hb2.seti 1 rfl e30
          refine ⟨hb2.cani 2 rfl rfl, thenW_in fun ww31 e31 => ?_⟩
          have hx31 := hx30.x_set (q := ww23.heap.size) (i := 2) rfl (.inr hg2) e31
          have hb1 := hb1.oth (q := ww23.heap.size) (i := 2) rfl hb1_2 e31
          have hb2 := hb2.seti 2 rfl e31
          refine ⟨hLen3, hb2.celli 1 rfl rfl, ?_⟩
          refine bif_of (fun c32 => ?_) (fun c32 => ?_)
          · have h := h.1 (of_decide_eq_true c32)
            refine ⟨hWriter2, hLen3, hSum4, ⟨hb2.celli 0 rfl rfl, hb2.celli 1 rfl rfl, hb2.celli 2 rfl rfl, trivial⟩, ?_⟩
            refine thenW_in fun ww33 e33 => ?_
            have hb1 := hb1.x_alloc e33
            have h := h ww33 ww31.heap.size (hx31.x_alloc e33) (Blk.of_new e33) (hx31).size (size_lt_alloc e33)
            obtain ⟨a36a, a36n, a36c, ww37, hr, hk, h⟩ := h
            refine ⟨a36a, a36n, a36c, ww37, hr, ?_⟩
            have hb1 := hk.blk hb1 (by simp)
            obtain ⟨hw1, hw2, h⟩ := h
            try rw [w64 hw1 hw2]
            obtain ⟨m38, hk, h⟩ := h
            exact ⟨m38, hk, hb1, h⟩
          · have h := h.2 (Int.not_lt.1 (of_decide_eq_false c32))
            obtain ⟨hw1, hw2, h⟩ := h
            try rw [w64 hw1 hw2]
            have h := h ww31 hx31
            obtain ⟨m40, hk, h⟩ := h
            exact ⟨m40, hk, hb1, h⟩
        · have h := h.2 (beq_f c28)
          refine ⟨Len20, hb2.celli 1 rfl rfl, ?_⟩
          refine bif_of (fun c41 => ?_) (fun c41 => ?_)
          · have h := h.1 (of_decide_eq_true c41)
            refine ⟨Writer19, Len20, Sum21, ⟨hb2.celli 0 rfl rfl, hb2.celli 1 rfl rfl, hb2.celli 2 rfl rfl, trivial⟩, ?_⟩
            refine thenW_in fun ww42 e42 => ?_
            have hb1 := hb1.x_alloc e42
            have h := h ww42 ww27.heap.size (hx27.x_alloc e42) (Blk.of_new e42) (hx27).size (size_lt_alloc e42)
            obtain ⟨a45a, a45n, a45c, ww46, hr, hk, h⟩ := h
            refine ⟨a45a, a45n, a45c, ww46, hr, ?_⟩
            have hb1 := hk.blk hb1 (by simp)
            obtain ⟨hw1, hw2, h⟩ := h
            try rw [w64 hw1 hw2]
            obtain ⟨m47, hk, h⟩ := h
            exact ⟨m47, hk, hb1, h⟩
          · have h := h.2 (Int.not_lt.1 (of_decide_eq_false c41))
            obtain ⟨hw1, hw2, h⟩ := h
            try rw [w64 hw1 hw2]
            have h := h ww27 hx27
            obtain ⟨m49, hk, h⟩ := h
            exact ⟨m49, hk, hb1, h⟩
      · have h := h.2 (Int.not_lt.1 (of_decide_eq_false c18))
        exact h

theorem cachetteref05_Put.go (v1a : Option Addr) (v1n : Nat) (v1c : Nat) (hWriter2 : Int) (hLen3 : Int) (hSum4 : Int) {R : Value → World → Prop} {w : World} (h : cachetteref05_Put.N v1a v1n v1c hWriter2 hLen3 hSum4 R w) : Calls Try.prog 7 #[.slice v1a v1n v1c, .agg #[.int .i64 hWriter2, .int .i64 hLen3, .int .u64 hSum4]] w fun e w' => ∃ v, e = .returned v ∧ R v w' := cachetteref05_Put.ok v1a v1n v1c hWriter2 hLen3 hSum4 (cachetteref05_Put.up v1a v1n v1c hWriter2 hLen3 hSum4 h)
theorem cachetteref05_Put.run (v1a : Option Addr) (v1n : Nat) (v1c : Nat) (hWriter2 : Int) (hLen3 : Int) (hSum4 : Int) {V : Value} {Q : World → Prop} {w : World} (h : cachetteref05_Put.N v1a v1n v1c hWriter2 hLen3 hSum4 (fun v w' => v = V ∧ Q w') w) : Calls Try.prog 7 #[.slice v1a v1n v1c, .agg #[.int .i64 hWriter2, .int .i64 hLen3, .int .u64 hSum4]] w (Ret V Q) := (cachetteref05_Put.go v1a v1n v1c hWriter2 hLen3 hSum4 h).mono fun e w' ⟨v, he, hv, hq⟩ => ⟨by rw [he, hv], hq⟩

/-- cachetteref05.Same -/
def cachetteref05_Same.M (a1a : Option Addr) (a1n : Nat) (a1c : Nat) (b2a : Option Addr) (b2n : Nat) (b2c : Nat) (R : Value → World → Prop) (w : World) : Prop :=
  bif (a1n : Int) != (b2n : Int) then (
  R (.bool false) w) else (
  ∃ (I0 : Nat → List Value → World → Prop) (m4 : Nat), I0 m4 [.int .i64 0] w ∧ ∀ (m5 : Nat) (ww6 : World) (i3 : Int), I0 m5 [.int .i64 i3] ww6 →
  bif decide (i3 < (a1n : Int)) then (
  thenW (ww6.drew) fun ww7 =>
  a1a.elim False fun a8 =>
  0 ≤ (i3 : Int) ∧ (i3 : Int) < (a1n : Int) ∧
  ∃ (xWriter9 : Int) (xLen10 : Int) (xSum11 : Int), cellsAt ww7 (a8.add (Int.toNat i3 * 3)) [.int .i64 xWriter9, .int .i64 xLen10, .int .u64 xSum11] 0 ∧
  b2a.elim False fun a12 =>
  0 ≤ (i3 : Int) ∧ (i3 : Int) < (b2n : Int) ∧
  ∃ (xWriter13 : Int) (xLen14 : Int) (xSum15 : Int), cellsAt ww7 (a12.add (Int.toNat i3 * 3)) [.int .i64 xWriter13, .int .i64 xLen14, .int .u64 xSum15] 0 ∧
  ∃ (b16 : Bool), (binOp .neq 25 (.agg #[.int .i64 xWriter9, .int .i64 xLen10, .int .u64 xSum11]) (.agg #[.int .i64 xWriter13, .int .i64 xLen14, .int .u64 xSum15])).run Try.prog ww7 = .ok (.bool b16) ww7 ∧
  bif b16 then (
  R (.bool false) ww7) else (
  ∃ m17, m17 < m5 ∧ I0 m17 [.int .i64 (IntKind.i64.wrap (i3 + 1))] ww7)) else (
  R (.bool true) ww6))

theorem cachetteref05_Same.eq (a1a : Option Addr) (a1n : Nat) (a1c : Nat) (b2a : Option Addr) (b2n : Nat) (b2c : Nat) (R : Value → World → Prop) (w : World) : mfunc Try.prog [(0, [0, 1], [(5, (.one (.int .i64)))])] 12 [.slice a1a a1n a1c, .slice b2a b2n b2c] R w = cachetteref05_Same.M a1a a1n a1c b2a b2n b2c R w := by kernel_rfl
theorem cachetteref05_Same.ok (a1a : Option Addr) (a1n : Nat) (a1c : Nat) (b2a : Option Addr) (b2n : Nat) (b2c : Nat) {R : Value → World → Prop} {w : World} (h : cachetteref05_Same.M a1a a1n a1c b2a b2n b2c R w) : Calls Try.prog 12 #[.slice a1a a1n a1c, .slice b2a b2n b2c] w fun e w' => ∃ v, e = .returned v ∧ R v w' :=
  mfunc_ok follows (H := [(0, [0, 1], [(5, (.one (.int .i64)))])]) (args := [.slice a1a a1n a1c, .slice b2a b2n b2c]) (by rw [cachetteref05_Same.eq]; exact h)

def cachetteref05_Same.N (a1a : Option Addr) (a1n : Nat) (a1c : Nat) (b2a : Option Addr) (b2n : Nat) (b2c : Nat) (R : Value → World → Prop) (w : World) : Prop :=
  ((a1n : Int) ≠ (b2n : Int) →
    R (.bool false) w) ∧
  ((a1n : Int) = (b2n : Int) →
    ∃ (I0 : Nat → List Value → World → Prop) (m5 : Nat), I0 m5 [.int .i64 0] w ∧ ∀ (m6 : Nat) (ww7 : World) (i4 : Int), I0 m6 [.int .i64 i4] ww7 →
    (i4 < (a1n : Int) →
      ∃ a10 : Addr, a1a = some a10 ∧
      0 ≤ (i4 : Int) ∧ (i4 : Int) < (a1n : Int) ∧
      ∃ (xWriter12 : Int) (xLen13 : Int) (xSum14 : Int), cellsAt ww7 (a10.add (Int.toNat i4 * 3)) [.int .i64 xWriter12, .int .i64 xLen13, .int .u64 xSum14] 0 ∧
      ∃ a15 : Addr, b2a = some a15 ∧
      0 ≤ (i4 : Int) ∧ (i4 : Int) < (b2n : Int) ∧
      ∃ (xWriter17 : Int) (xLen18 : Int) (xSum19 : Int), cellsAt ww7 (a15.add (Int.toNat i4 * 3)) [.int .i64 xWriter17, .int .i64 xLen18, .int .u64 xSum19] 0 ∧
      (¬ (xWriter12 = xWriter17 ∧ xLen13 = xLen18 ∧ xSum14 = xSum19) →
        ∀ (ww9 : World), Ext no ww7 ww9 →
        R (.bool false) ww9) ∧
      (xWriter12 = xWriter17 ∧ xLen13 = xLen18 ∧ xSum14 = xSum19 →
        (-9223372036854775808 : Int) ≤ (i4 + 1) ∧ (i4 + 1) < 9223372036854775808 ∧
        ∀ (ww9 : World), Ext no ww7 ww9 →
        ∃ m21, m21 < m6 ∧ I0 m21 [.int .i64 (i4 + 1)] ww9)) ∧
    ((a1n : Int) ≤ i4 →
      R (.bool true) ww7))

theorem cachetteref05_Same.up (a1a : Option Addr) (a1n : Nat) (a1c : Nat) (b2a : Option Addr) (b2n : Nat) (b2c : Nat) {R : Value → World → Prop} {w : World} (h : cachetteref05_Same.N a1a a1n a1c b2a b2n b2c R w) : cachetteref05_Same.M a1a a1n a1c b2a b2n b2c R w := by
  unfold cachetteref05_Same.M
  unfold cachetteref05_Same.N at h
  refine bif_of (fun c3 => ?_) (fun c3 => ?_)
  · have h := h.1 (bne_t c3)
    exact h
  · have h := h.2 (bne_f c3)
    obtain ⟨I0, m5, h0, h⟩ := h
    refine ⟨I0, m5, h0, fun m6 ww7 i4 hI => ?_⟩
    have h := h m6 ww7 i4 hI
    refine bif_of (fun c8 => ?_) (fun c8 => ?_)
    · have h := h.1 (of_decide_eq_true c8)
      refine thenW_in fun ww9 e9 => ?_
      have hx9 := (Ext.refl no ww7).x_drew e9
      obtain ⟨a10, ha10, h⟩ := h
      refine elim_some ha10 ?_
      obtain ⟨hq1, hq2, h⟩ := h
      refine ⟨hq1, hq2, ?_⟩
      obtain ⟨xWriter12, xLen13, xSum14, hc11, h⟩ := h
      refine ⟨xWriter12, xLen13, xSum14, cellsAt_no (hx9) hc11, ?_⟩
      obtain ⟨a15, ha15, h⟩ := h
      refine elim_some ha15 ?_
      obtain ⟨hq1, hq2, h⟩ := h
      refine ⟨hq1, hq2, ?_⟩
      obtain ⟨xWriter17, xLen18, xSum19, hc16, h⟩ := h
      refine ⟨xWriter17, xLen18, xSum19, cellsAt_no (hx9) hc16, ?_⟩
      refine ⟨_, eqT25_ne xWriter12 xLen13 xSum14 xWriter17 xLen18 xSum19 _, ?_⟩
      refine bif_of (fun c20 => ?_) (fun c20 => ?_)
      · have h := h.1 (of_decide_eq_false (not_t c20))
        have h := h ww9 hx9
        exact h
      · have h := h.2 (of_decide_eq_true (not_f c20))
        obtain ⟨hw1, hw2, h⟩ := h
        try rw [w64 hw1 hw2]
        have h := h ww9 hx9
        obtain ⟨m21, hk, h⟩ := h
        exact ⟨m21, hk, h⟩
    · have h := h.2 (Int.not_lt.1 (of_decide_eq_false c8))
      exact h

theorem cachetteref05_Same.go (a1a : Option Addr) (a1n : Nat) (a1c : Nat) (b2a : Option Addr) (b2n : Nat) (b2c : Nat) {R : Value → World → Prop} {w : World} (h : cachetteref05_Same.N a1a a1n a1c b2a b2n b2c R w) : Calls Try.prog 12 #[.slice a1a a1n a1c, .slice b2a b2n b2c] w fun e w' => ∃ v, e = .returned v ∧ R v w' := cachetteref05_Same.ok a1a a1n a1c b2a b2n b2c (cachetteref05_Same.up a1a a1n a1c b2a b2n b2c h)
theorem cachetteref05_Same.run (a1a : Option Addr) (a1n : Nat) (a1c : Nat) (b2a : Option Addr) (b2n : Nat) (b2c : Nat) {V : Value} {Q : World → Prop} {w : World} (h : cachetteref05_Same.N a1a a1n a1c b2a b2n b2c (fun v w' => v = V ∧ Q w') w) : Calls Try.prog 12 #[.slice a1a a1n a1c, .slice b2a b2n b2c] w (Ret V Q) := (cachetteref05_Same.go a1a a1n a1c b2a b2n b2c h).mono fun e w' ⟨v, he, hv, hq⟩ => ⟨by rw [he, hv], hq⟩

/-- cachettelaw05.VectorHolds -/
def cachettelaw05_VectorHolds.M (v1a : Option Addr) (v1n : Nat) (v1c : Nat) (wv2 : Int) (hWriter3 : Int) (hLen4 : Int) (hSum5 : Int) (R : Value → World → Prop) (w : World) : Prop :=
  thenW (w.alloc (.cells #[.int .i64 hWriter3, .int .i64 hLen4, .int .u64 hSum5] 25)) fun ww6 =>
  thenW (ww6.alloc (.cells #[.slice v1a v1n v1c] 22)) fun ww7 =>
  Calls Try.prog 4 #[.slice (some (blk ww6.heap.size)) 1 1] ww7 fun ee9 ww10 => ∃ (light8 : Bool), ee9 = .returned (.bool light8) ∧
  bif !light8 then (
  Calls Try.prog 5 #[] ww10 fun ee12 ww13 => ∃ (alive11 : Bool), ee12 = .returned (.bool alive11) ∧
  R (.bool alive11) ww13) else (
  ∃ (xWriter14 : Int) (xLen15 : Int) (xSum16 : Int), cellsAt ww10 (blk w.heap.size) [.int .i64 xWriter14, .int .i64 xLen15, .int .u64 xSum16] 0 ∧
  Calls Try.prog 6 #[.slice v1a v1n v1c, .agg #[.int .i64 xWriter14, .int .i64 xLen15, .int .u64 xSum16]] ww10 fun ee19 ww20 => ∃ (put17a : Option Addr) (put17n : Nat) (put17c : Nat) (put18 : Int), ee19 = .returned (.tuple #[.slice put17a put17n put17c, .int .i64 put18]) ∧
  ∃ (xWriter21 : Int) (xLen22 : Int) (xSum23 : Int), cellsAt ww20 (blk w.heap.size) [.int .i64 xWriter21, .int .i64 xLen22, .int .u64 xSum23] 0 ∧
  Calls Try.prog 7 #[.slice v1a v1n v1c, .agg #[.int .i64 xWriter21, .int .i64 xLen22, .int .u64 xSum23]] ww20 fun ee26 ww27 => ∃ (put24a : Option Addr) (put24n : Nat) (put24c : Nat) (put25 : Int), ee26 = .returned (.tuple #[.slice put24a put24n put24c, .int .i64 put25]) ∧
  Calls Try.prog 8 #[.slice v1a v1n v1c] ww27 fun ee29 ww30 => ∃ (right28 : Bool), ee29 = .returned (.bool right28) ∧
  Calls Try.prog 9 #[.slice v1a v1n v1c] ww30 fun ee32 ww33 => ∃ (right31 : Bool), ee32 = .returned (.bool right31) ∧
  bif right28 == right31 then (
  Calls Try.prog 10 #[.slice v1a v1n v1c, .int .i64 wv2] ww33 fun ee37 ww38 => ∃ (Writer34 : Int) (Len35 : Int) (Sum36 : Int), ee37 = .returned (.agg #[.int .i64 Writer34, .int .i64 Len35, .int .u64 Sum36]) ∧
  Calls Try.prog 11 #[.slice v1a v1n v1c, .int .i64 wv2] ww38 fun ee42 ww43 => ∃ (Writer39 : Int) (Len40 : Int) (Sum41 : Int), ee42 = .returned (.agg #[.int .i64 Writer39, .int .i64 Len40, .int .u64 Sum41]) ∧
  ∃ (b44 : Bool), (binOp .eql 25 (.agg #[.int .i64 Writer34, .int .i64 Len35, .int .u64 Sum36]) (.agg #[.int .i64 Writer39, .int .i64 Len40, .int .u64 Sum41])).run Try.prog ww43 = .ok (.bool b44) ww43 ∧
  bif b44 then (
  Calls Try.prog 12 #[.slice put17a put17n put17c, .slice put24a put24n put24c] ww43 fun ee46 ww47 => ∃ (same45 : Bool), ee46 = .returned (.bool same45) ∧
  bif same45 then (
  bif put18 == put25 then (
  Calls Try.prog 5 #[] ww47 fun ee49 ww50 => ∃ (alive48 : Bool), ee49 = .returned (.bool alive48) ∧
  R (.bool alive48) ww50) else (
  R (.bool false) ww47)) else (
  R (.bool false) ww47)) else (
  R (.bool false) ww43)) else (
  R (.bool false) ww33))

theorem cachettelaw05_VectorHolds.eq (v1a : Option Addr) (v1n : Nat) (v1c : Nat) (wv2 : Int) (hWriter3 : Int) (hLen4 : Int) (hSum5 : Int) (R : Value → World → Prop) (w : World) : mfunc Try.prog [] 3 [.slice v1a v1n v1c, .int .i64 wv2, .agg #[.int .i64 hWriter3, .int .i64 hLen4, .int .u64 hSum5]] R w = cachettelaw05_VectorHolds.M v1a v1n v1c wv2 hWriter3 hLen4 hSum5 R w := by kernel_rfl
theorem cachettelaw05_VectorHolds.ok (v1a : Option Addr) (v1n : Nat) (v1c : Nat) (wv2 : Int) (hWriter3 : Int) (hLen4 : Int) (hSum5 : Int) {R : Value → World → Prop} {w : World} (h : cachettelaw05_VectorHolds.M v1a v1n v1c wv2 hWriter3 hLen4 hSum5 R w) : Calls Try.prog 3 #[.slice v1a v1n v1c, .int .i64 wv2, .agg #[.int .i64 hWriter3, .int .i64 hLen4, .int .u64 hSum5]] w fun e w' => ∃ v, e = .returned v ∧ R v w' :=
  mfunc_ok follows (H := []) (args := [.slice v1a v1n v1c, .int .i64 wv2, .agg #[.int .i64 hWriter3, .int .i64 hLen4, .int .u64 hSum5]]) (by rw [cachettelaw05_VectorHolds.eq]; exact h)

def cachettelaw05_VectorHolds.N (v1a : Option Addr) (v1n : Nat) (v1c : Nat) (wv2 : Int) (hWriter3 : Int) (hLen4 : Int) (hSum5 : Int) (R : Value → World → Prop) (w : World) : Prop :=
  ∀ (ww7 : World) (q8 : Nat) (p9 : Nat), Ext no w ww7 → Blk ww7 q8 22 [.slice v1a v1n v1c] → w.heap.size ≤ q8 → q8 < ww7.heap.size → Privq w q8 [p9] →
  Calls Try.prog 4 #[.slice (some (blk q8)) 1 1] ww7 fun ee11 ww12 => ∃ (light10 : Bool), ee11 = .returned (.bool light10) ∧
  Keep [p9] ww7 ww12 ∧
  (light10 = false →
    Calls Try.prog 5 #[] ww12 fun ee15 ww16 => ∃ (alive14 : Bool), ee15 = .returned (.bool alive14) ∧
    R (.bool alive14) ww16) ∧
  (light10 = true →
    Calls Try.prog 6 #[.slice v1a v1n v1c, .agg #[.int .i64 hWriter3, .int .i64 hLen4, .int .u64 hSum5]] ww12 fun ee19 ww20 => ∃ (put17a : Option Addr) (put17n : Nat) (put17c : Nat) (put18 : Int), ee19 = .returned (.tuple #[.slice put17a put17n put17c, .int .i64 put18]) ∧
    Keep [p9] ww12 ww20 ∧
    Calls Try.prog 7 #[.slice v1a v1n v1c, .agg #[.int .i64 hWriter3, .int .i64 hLen4, .int .u64 hSum5]] ww20 fun ee23 ww24 => ∃ (put21a : Option Addr) (put21n : Nat) (put21c : Nat) (put22 : Int), ee23 = .returned (.tuple #[.slice put21a put21n put21c, .int .i64 put22]) ∧
    Calls Try.prog 8 #[.slice v1a v1n v1c] ww24 fun ee26 ww27 => ∃ (right25 : Bool), ee26 = .returned (.bool right25) ∧
    Calls Try.prog 9 #[.slice v1a v1n v1c] ww27 fun ee29 ww30 => ∃ (right28 : Bool), ee29 = .returned (.bool right28) ∧
    (right25 = right28 →
      Calls Try.prog 10 #[.slice v1a v1n v1c, .int .i64 wv2] ww30 fun ee35 ww36 => ∃ (Writer32 : Int) (Len33 : Int) (Sum34 : Int), ee35 = .returned (.agg #[.int .i64 Writer32, .int .i64 Len33, .int .u64 Sum34]) ∧
      Calls Try.prog 11 #[.slice v1a v1n v1c, .int .i64 wv2] ww36 fun ee40 ww41 => ∃ (Writer37 : Int) (Len38 : Int) (Sum39 : Int), ee40 = .returned (.agg #[.int .i64 Writer37, .int .i64 Len38, .int .u64 Sum39]) ∧
      (Writer32 = Writer37 ∧ Len33 = Len38 ∧ Sum34 = Sum39 →
        Calls Try.prog 12 #[.slice put17a put17n put17c, .slice put21a put21n put21c] ww41 fun ee44 ww45 => ∃ (same43 : Bool), ee44 = .returned (.bool same43) ∧
        (same43 = true →
          (put18 = put22 →
            Calls Try.prog 5 #[] ww45 fun ee49 ww50 => ∃ (alive48 : Bool), ee49 = .returned (.bool alive48) ∧
            R (.bool alive48) ww50) ∧
          (put18 ≠ put22 →
            R (.bool false) ww45)) ∧
        (same43 = false →
          R (.bool false) ww45)) ∧
      (¬ (Writer32 = Writer37 ∧ Len33 = Len38 ∧ Sum34 = Sum39) →
        R (.bool false) ww41)) ∧
    (right25 ≠ right28 →
      R (.bool false) ww30))

theorem cachettelaw05_VectorHolds.up (v1a : Option Addr) (v1n : Nat) (v1c : Nat) (wv2 : Int) (hWriter3 : Int) (hLen4 : Int) (hSum5 : Int) {R : Value → World → Prop} {w : World} (h : cachettelaw05_VectorHolds.N v1a v1n v1c wv2 hWriter3 hLen4 hSum5 R w) : cachettelaw05_VectorHolds.M v1a v1n v1c wv2 hWriter3 hLen4 hSum5 R w := by
  unfold cachettelaw05_VectorHolds.M
  unfold cachettelaw05_VectorHolds.N at h
  refine thenW_in fun ww6 e6 => ?_
  have hb1 := Blk.of_new e6
  have hg1 := ((Ext.refl no w)).size
  have hx6 := (Ext.refl no w).x_alloc e6
  refine thenW_in fun ww7 e7 => ?_
  have hl1 := hb1.lt
  have hb1 := hb1.x_alloc e7
  have h := h ww7 ww6.heap.size (w.heap.size) (hx6.x_alloc e7) (Blk.of_new e7) (hx6).size (size_lt_alloc e7) (Privq.cons hg1 hl1 Privq.nil)
  refine h.mono fun ee11 ww12 h => ?_
  obtain ⟨light10, he, hk, h⟩ := h
  refine ⟨light10, he, ?_⟩
  have hb1 := hk.blk hb1 (by simp)
  refine bif_of (fun c13 => ?_) (fun c13 => ?_)
  · have h := h.1 (not_t c13)
    refine h.mono fun ee15 ww16 h => ?_
    obtain ⟨alive14, he, h⟩ := h
    refine ⟨alive14, he, ?_⟩
    exact h
  · have h := h.2 (not_f c13)
    refine ⟨hWriter3, hLen4, hSum5, ⟨hb1.celli 0 rfl rfl, hb1.celli 1 rfl rfl, hb1.celli 2 rfl rfl, trivial⟩, ?_⟩
    refine h.mono fun ee19 ww20 h => ?_
    obtain ⟨put17a, put17n, put17c, put18, he, hk, h⟩ := h
    refine ⟨put17a, put17n, put17c, put18, he, ?_⟩
    have hb1 := hk.blk hb1 (by simp)
    refine ⟨hWriter3, hLen4, hSum5, ⟨hb1.celli 0 rfl rfl, hb1.celli 1 rfl rfl, hb1.celli 2 rfl rfl, trivial⟩, ?_⟩
    refine h.mono fun ee23 ww24 h => ?_
    obtain ⟨put21a, put21n, put21c, put22, he, h⟩ := h
    refine ⟨put21a, put21n, put21c, put22, he, ?_⟩
    refine h.mono fun ee26 ww27 h => ?_
    obtain ⟨right25, he, h⟩ := h
    refine ⟨right25, he, ?_⟩
    refine h.mono fun ee29 ww30 h => ?_
    obtain ⟨right28, he, h⟩ := h
    refine ⟨right28, he, ?_⟩
    refine bif_of (fun c31 => ?_) (fun c31 => ?_)
    · have h := h.1 (bbeq_t c31)
      refine h.mono fun ee35 ww36 h => ?_
      obtain ⟨Writer32, Len33, Sum34, he, h⟩ := h
      refine ⟨Writer32, Len33, Sum34, he, ?_⟩
      refine h.mono fun ee40 ww41 h => ?_
      obtain ⟨Writer37, Len38, Sum39, he, h⟩ := h
      refine ⟨Writer37, Len38, Sum39, he, ?_⟩
      refine ⟨_, eqT25_eq Writer32 Len33 Sum34 Writer37 Len38 Sum39 _, ?_⟩
      refine bif_of (fun c42 => ?_) (fun c42 => ?_)
      · have h := h.1 (of_decide_eq_true c42)
        refine h.mono fun ee44 ww45 h => ?_
        obtain ⟨same43, he, h⟩ := h
        refine ⟨same43, he, ?_⟩
        refine bif_of (fun c46 => ?_) (fun c46 => ?_)
        · have h := h.1 c46
          refine bif_of (fun c47 => ?_) (fun c47 => ?_)
          · have h := h.1 (beq_t c47)
            refine h.mono fun ee49 ww50 h => ?_
            obtain ⟨alive48, he, h⟩ := h
            refine ⟨alive48, he, ?_⟩
            exact h
          · have h := h.2 (beq_f c47)
            exact h
        · have h := h.2 c46
          exact h
      · have h := h.2 (of_decide_eq_false c42)
        exact h
    · have h := h.2 (bbeq_f c31)
      exact h

theorem cachettelaw05_VectorHolds.go (v1a : Option Addr) (v1n : Nat) (v1c : Nat) (wv2 : Int) (hWriter3 : Int) (hLen4 : Int) (hSum5 : Int) {R : Value → World → Prop} {w : World} (h : cachettelaw05_VectorHolds.N v1a v1n v1c wv2 hWriter3 hLen4 hSum5 R w) : Calls Try.prog 3 #[.slice v1a v1n v1c, .int .i64 wv2, .agg #[.int .i64 hWriter3, .int .i64 hLen4, .int .u64 hSum5]] w fun e w' => ∃ v, e = .returned v ∧ R v w' := cachettelaw05_VectorHolds.ok v1a v1n v1c wv2 hWriter3 hLen4 hSum5 (cachettelaw05_VectorHolds.up v1a v1n v1c wv2 hWriter3 hLen4 hSum5 h)
theorem cachettelaw05_VectorHolds.run (v1a : Option Addr) (v1n : Nat) (v1c : Nat) (wv2 : Int) (hWriter3 : Int) (hLen4 : Int) (hSum5 : Int) {V : Value} {Q : World → Prop} {w : World} (h : cachettelaw05_VectorHolds.N v1a v1n v1c wv2 hWriter3 hLen4 hSum5 (fun v w' => v = V ∧ Q w') w) : Calls Try.prog 3 #[.slice v1a v1n v1c, .int .i64 wv2, .agg #[.int .i64 hWriter3, .int .i64 hLen4, .int .u64 hSum5]] w (Ret V Q) := (cachettelaw05_VectorHolds.go v1a v1n v1c wv2 hWriter3 hLen4 hSum5 h).mono fun e w' ⟨v, he, hv, hq⟩ => ⟨by rw [he, hv], hq⟩

end Go.Proofs.Ytnhnhojaninojaa

/- VectorHolds: Clone and Insert of heads. -/
set_option linter.unusedVariables false
set_option linter.unusedSimpArgs false
set_option maxRecDepth 20000
set_option maxHeartbeats 4000000
namespace Go.Proofs.Ytnhnhojaninojaa
open Go Go.Mx Go.Proofs
theorem inf25 : (Try.prog.info? 25).map (fun i => (i.zero, i.size, i.bytes)) = some (some (.agg #[.int .i64 0, .int .i64 0, .int .u64 0]), 3, 24) := by kernel_rfl
section
variable {w w' w1 : World} {o o' o1 : Own} {a : Option Addr} {c N : Nat} {ml : List Hd} {cs : List Value}
theorem hdC_len (h : Hd) : (hdC h).length = 3 := rfl
theorem hdC_one (m : Hd) : ∀ u ∈ hdC m, u.oneCell' = true := fun u hu => by
  simp only [hdC, List.mem_cons, List.not_mem_nil, or_false] at hu
  rcases hu with rfl | rfl | rfl <;> rfl
theorem hds_one {l : List Hd} : ∀ u ∈ l.flatMap hdC, u.oneCell' = true := fun u hu => by
  obtain ⟨m, _, hm⟩ := List.mem_flatMap.1 hu
  exact hdC_one m u hm
abbrev HRow (N : Nat) (w : World) (o : Own) (a : Option Addr) (c : Nat) (ml : List Hd) : Prop := LRow 25 3 N w o a ml.length c (ml.flatMap hdC)
/-- one more member behind a row of a function's own. -/
theorem HRow.push {t ty : TypeId} (ht : Try.prog.underlying t = some (.slice 25)) (h : HRow N w o a c ml) (ok : Tags w o) (hl : ml.length < 1000000) (m : Hd) {q : Nat} (hb : Blk w q 25 (hdC m)) (hq : N ≤ q) (hq' : q < w.heap.size) :
    ∃ a' c' w' o', (Builtin.append_ #[t, t] ty #[.slice a ml.length c, .slice (some (blk q)) 1 1]).run Try.prog w = .ok (.slice a' (ml ++ [m]).length c') w' ∧ Step (fun j => N ≤ j) w o w' o' ∧ HRow N w' o' a' c' (ml ++ [m]) := by
  obtain ⟨i, hi, hz, hsz, hby⟩ := (info_of inf25)
  obtain ⟨a', c', w', o', hrun, s2, hrow, _⟩ := LRow.push (ty := ty) ht hi hz hsz hby rfl (by decide) h ok hq hq' (xa := some (blk q)) (m := 1) (xc := 1) (news := hdC m) rfl (RowAt.of_blk hb) (hdC_one m) (by omega) (by omega)
  exact ⟨a', c', w', o', by rw [List.length_append]; exact hrun, s2, by unfold HRow; rw [List.length_append, List.flatMap_append]; simpa using hrow⟩
theorem append_types {P : Program} {w : World} {t t2 ty e e2 : TypeId} {i : TypeInfo} {a : Option Addr} {n c : Nat} {v : Value} (ht : P.underlying t = some (.slice e)) (ht2 : P.underlying t2 = some (.slice e2)) (hi : P.info? e = some i) : (Builtin.append_ #[t, t2] ty #[.slice a n c, v]).run P w = (Builtin.append_ #[t, t] ty #[.slice a n c, v]).run P w := by
  unfold Builtin.append_
  simp [run_underlying ht, run_underlying ht2, sizeOf, typeInfo, hi]
theorem Clone_spec (ok : Tags w o) (hr : RowAt w a (ml.flatMap hdC)) (hl : ml.length < 1000000) :
    Calls Try.prog 17 #[.slice a ml.length c] w (fun x w' => ∃ o' a' c', x = .returned (.slice a' ml.length c') ∧ Step no w o w' o' ∧ HRow w.heap.size w' o' a' c' ml) := by
  refine (slices_Clone_vector_Vector_api_Head.go _ _ _ (R := fun v w' => ∃ o' a' c', v = (.slice a' ml.length c') ∧ Step no w o w' o' ∧ HRow w.heap.size w' o' a' c' ml) ?_).mono fun x w' ⟨v, he, o', a', c', hv, hw⟩ => ⟨o', a', c', by rw [he, hv], hw⟩
  unfold slices_Clone_vector_Vector_api_Head.N
  refine ⟨fun hn => ?_, fun hn w3 q X hb hq hq' => ?_⟩
  · subst hn
    have h0 := hr.none_nil
    have : ml = [] := by
      have := flat_length (f := hdC) hdC_len ml
      rw [h0] at this
      exact List.eq_nil_of_length_eq_zero (by simp at this; omega)
    subst this
    exact ⟨o, none, 0, rfl, Step.refl _ ok, LRow.nil _ _ _ _ _⟩
  · obtain ⟨i, hi, hz, hsz, hby⟩ := (info_of inf25)
    have s3 := (Step.of_no X ok).tag hq hq'
    have g3 : Go.Mx.Grows 25 3 w3 (tag (grow w o) q q) q (some (blk q)) 0 0 [] := ⟨owns_of_blk hb rfl (Nat.zero_le _), fun ad ha => by cases ha; exact ⟨tag_self, hq'⟩⟩
    have L3 : LRow 25 3 w.heap.size w3 (tag (grow w o) q q) (some (blk q)) 0 0 [] := .inr ⟨q, hq, hq', g3⟩
    obtain ⟨a', c', w6, o6, hrun, s6, hrow, _⟩ := L3.push (ty := 28) Try.underlying28 hi hz hsz hby rfl (by decide) s3.ok hq hq' (xa := a) (m := ml.length) (xc := c) (news := ml.flatMap hdC) (flat_length hdC_len ml) (hr.no X) hds_one (by omega) (by omega)
    rw [Nat.zero_add, List.nil_append] at hrow
    rw [Nat.zero_add] at hrun
    exact ⟨a', _, c', w6, hrun, o6, a', c', rfl, s3.trans' s6 fun j hj => .inr hj, hrow⟩
theorem flat_split (ml : List Hd) (i : Nat) : (ml.flatMap hdC).take (i * 3) = (ml.take i).flatMap hdC ∧ (ml.flatMap hdC).drop (i * 3) = (ml.drop i).flatMap hdC := by
  induction ml generalizing i with
  | nil => simp
  | cons x r ih =>
    cases i with
    | zero => simp
    | succ i =>
      have := ih i
      have hx : (hdC x).length = 3 := rfl
      simp only [List.flatMap_cons, List.take_succ_cons, List.drop_succ_cons]
      rw [show (i + 1) * 3 = (hdC x).length + i * 3 by rw [hx]; omega, List.take_length_add_append, List.drop_length_add_append, this.1, this.2]
      simp
/-- one member is put in between. -/
theorem Insert_spec (h : HRow N w o a c ml) (ok : Tags w o) (hl : ml.length < 1000) {i : Nat} (hi : i ≤ ml.length) (m : Hd) {q : Nat} (hb : Blk w q 25 (hdC m)) (hq : N ≤ q) (hq' : q < w.heap.size) (hoq : o q = none) :
    Calls Try.prog 18 #[.slice a ml.length c, .int .i64 i, .slice (some (blk q)) 1 1] w (fun x w' => ∃ o' a' c', x = .returned (.slice a' (ml.length + 1) c') ∧ Step (fun j => N ≤ j) w o w' o' ∧ HRow N w' o' a' c' (ml.take i ++ m :: ml.drop i)) := by
  refine (slices_Insert_vector_Vector_api_Head.go _ _ _ _ _ _ _ (R := fun v w' => ∃ o' a' c', v = (.slice a' (ml.length + 1) c') ∧ Step (fun j => N ≤ j) w o w' o' ∧ HRow N w' o' a' c' (ml.take i ++ m :: ml.drop i)) ?_).mono fun x w' ⟨v, he, o', a', c', hv, hw⟩ => ⟨o', a', c', by rw [he, hv], hw⟩
  unfold slices_Insert_vector_Vector_api_Head.N
  obtain ⟨inf, hinf, hz, hsz, hby⟩ := (info_of inf25)
  have hnew : (ml.take i ++ m :: ml.drop i).length = ml.length + 1 := by simp; omega
  have hcells : (ml.take i ++ m :: ml.drop i).flatMap hdC = (ml.flatMap hdC).take (i * 3) ++ hdC m ++ (ml.flatMap hdC).drop (i * 3) := by
    rw [(flat_split ml i).1, (flat_split ml i).2]; simp
  have hfl := flat_length (f := hdC) hdC_len ml
  refine ⟨by omega, by omega, fun h0 => by omega, fun _ => ⟨fun he => ?_, fun hne => ⟨by omega, by omega, fun hg => ?_, fun hroom => ?_⟩⟩⟩
  · have hie : i = ml.length := by omega
    obtain ⟨a', c', w', o', hrun, s, hrow⟩ := h.push (ty := 28) Try.underlying28 ok (by omega) m hb hq hq'
    refine ⟨a', _, c', w', (append_types Try.underlying28 Try.underlying22 hinf).trans hrun, o', a', c', by simp, s, ?_⟩
    subst hie
    rw [List.take_length, List.drop_length]; exact hrow
  all_goals
    have hlt : i < ml.length := by omega
    rcases h with ⟨rfl, h0, _⟩ | ⟨k, hk1, hk2, hG⟩
    · omega
    have hkind := hG.own.2
    rcases hkind with ⟨hv, h0⟩ | ⟨g, cap, cur, hv, _, hgb, hnc, hcm, hcs, htk⟩
    · omega
    cases hv
    have tg := hG.tg ⟨g, 0, none⟩ rfl
    have hqg : q ≠ g := fun e => by subst e; rw [hoq] at tg; cases tg.1
    have hblk : Blk w g 25 cur.toList := by unfold Blk; simpa using hgb
    have hcl : cur.toList.length = c * 3 := by simpa using hcs
    have hmul : ml.length * 3 ≤ c * 3 := Nat.mul_le_mul_right 3 hnc
    have hrow := hG.row
    have hci : ∀ k, k ≤ i + 1 → k ≤ ml.length → c ≠ k ∨ k = c := fun k _ _ => by omega
  · -- a new row
    obtain ⟨c', w10, hrun, X10, hlt10, hc1, hc2, zs, hb10, hzl⟩ := run_grow_zeros (P := Try.prog) (w := w) (t := 28) (tn := 3) (ty := 28) (kq := .i64) (sz := 3) Try.underlying28 Try.underlying3 hinf hz hsz hby rfl (by decide)
      (a := some ⟨g, 0, none⟩) (n := i) (c := c) (k := ml.length + 1 - i) (cs := (ml.flatMap hdC).take (i * 3)) (hrow.take _) (by rw [List.length_take, hfl]; omega) (by simp) (by omega) (by omega) (by omega) (by omega)
    have e1 : (ml.length : Int) + ((1 : Nat) : Int) - (i : Int) = ((ml.length + 1 - i : Nat) : Int) := by omega
    have e2 : i + (ml.length + 1 - i) = ml.length + 1 := by omega
    rw [e2] at hrun hc1
    rw [e1, Int.toNat_natCast]
    refine ⟨by omega, by omega, by omega, by omega, by omega, by omega, _, _, c', w10, hrun, by omega, by omega, ?_⟩
    generalize hB : w.heap.size = B at *
    -- the new one
    have hcut : cutA (some ⟨B, 0, none⟩) c' i 3 = some ⟨B, i * 3, none⟩ := by unfold cutA; rw [if_neg (by omega)]; simp [Addr.add_lit]
    have hq10 : Blk w10 q 25 (hdC m) := hb.ext X10 id
    have hzs : ∃ z1 z2, zs = z1 ++ z2 ∧ z1.length = 3 ∧ True := ⟨zs.take 3, zs.drop 3, (List.take_append_drop _ _).symm, by
      have hl2 : ((ml.flatMap hdC).take (i * 3)).length = i * 3 := by rw [List.length_take, hfl]; omega
      rw [List.length_append, hl2] at hzl
      rw [List.length_take]; omega, trivial⟩
    obtain ⟨z1, z2, rfl, hz1, _⟩ := hzs
    have hl2 : ((ml.flatMap hdC).take (i * 3)).length = i * 3 := by rw [List.length_take, hfl]; omega
    have hrun2 := run_copy_gen (P := Try.prog) (w := w10) (dT := 28) (sT := 22) (ty := 3) (sz := 3) (dLen := ml.length + 1 - i) (dCap := c' - i) (sLen := 1) (sCap := 1) (n := 1) (a := blk q) (cs := hdC m) (b := B) (o := i * 3) Try.underlying28 hinf hsz (Nat.min_eq_left (by omega)) rfl (fun j v hj => hq10.cella (i := j) hj) hb10 (by
      simp only [List.length_append, hl2, hz1, hdC_len]; omega) (hdC_one m)
    obtain ⟨hb12, X12⟩ := setCells_setAll (cs := hdC m) (o := i * 3) hb10 (by simp only [List.length_append, hl2, hz1, hdC_len]; omega)
    have hset1 : setAll ((ml.flatMap hdC).take (i * 3) ++ (z1 ++ z2)) (i * 3) (hdC m) = (ml.flatMap hdC).take (i * 3) ++ hdC m ++ z2 := by
      rw [← List.append_assoc]
      have := setAll_mid (u := (ml.flatMap hdC).take (i * 3)) (x := z1) (y := z2) (v := hdC m) (by rw [hz1]; rfl)
      rwa [hl2] at this
    rw [hset1] at hb12
    rw [hcut]
    refine ⟨1, _, hrun2, by omega, by omega, by omega, by omega, by omega, by omega, fun w13 X13 => ?_⟩
    have hb13 := hb12.ext X13 id
    have e3 : ((i : Int) + ((1 : Nat) : Int)).toNat = i + 1 := by omega
    rw [e3]
    have hcut2 : cutA (some ⟨B, 0, none⟩) c' (i + 1) 3 = some ⟨B, (i + 1) * 3, none⟩ := by
      unfold cutA
      rw [if_neg (by omega)]; simp [Addr.add_lit]
    have hcut3 : cutA (some ⟨g, 0, none⟩) c i 3 = some ⟨g, i * 3, none⟩ := by unfold cutA; rw [if_neg (by omega)]; simp [Addr.add_lit]
    rw [hcut2, hcut3]
    have hgB0 : g < B := tg.2
    have hgB : g ≠ B := by omega
    have X013 : Ext no w w13 := (X10.then X12 fun b hb => .inr (by omega)).trans X13
    have hrow13 := hrow.no X013
    have hsrc : ∀ j v, ((ml.flatMap hdC).drop (i * 3))[j]? = some v → w13.cell? ((⟨g, i * 3, none⟩ : Addr).add j) = some v := fun j v hj => by
      rw [List.getElem?_drop] at hj
      have := hrow13.at_ hj
      rw [Addr.add_lit] at this ⊢
      simpa using this
    have hdl : ((ml.flatMap hdC).drop (i * 3)).length = (ml.length - i) * 3 := by rw [List.length_drop, hfl]; omega
    have hz2 : (ml.length - i) * 3 ≤ z2.length := by
      rw [List.length_append, List.length_append, hl2, hz1] at hzl; omega
    have hl3 : ((ml.flatMap hdC).take (i * 3) ++ hdC m).length = (i + 1) * 3 := by rw [List.length_append, hl2, hdC_len]; omega
    have hrun3 := run_copy_gen (P := Try.prog) (w := w13) (dT := 28) (sT := 28) (ty := 3) (sz := 3) (dLen := ml.length + 1 - (i + 1)) (dCap := c' - (i + 1)) (sLen := ml.length - i) (sCap := c - i) (n := ml.length - i) (a := ⟨g, i * 3, none⟩) (cs := (ml.flatMap hdC).drop (i * 3)) (b := B) (o := (i + 1) * 3) Try.underlying28 hinf hsz (Nat.min_eq_left (by omega)) hdl hsrc hb13 (by
      rw [List.length_append, hl3, hdl]; omega) (fun v hv => hds_one v (List.mem_of_mem_drop hv))
    obtain ⟨hb15, X15⟩ := setCells_setAll (cs := (ml.flatMap hdC).drop (i * 3)) (o := (i + 1) * 3) hb13 (by rw [List.length_append, hl3, hdl]; omega)
    have hset2 : setAll ((ml.flatMap hdC).take (i * 3) ++ hdC m ++ z2) ((i + 1) * 3) ((ml.flatMap hdC).drop (i * 3)) = (ml.flatMap hdC).take (i * 3) ++ hdC m ++ (ml.flatMap hdC).drop (i * 3) ++ z2.drop ((ml.length - i) * 3) := by
      have := setAll_mid (u := (ml.flatMap hdC).take (i * 3) ++ hdC m) (x := z2.take ((ml.length - i) * 3)) (y := z2.drop ((ml.length - i) * 3)) (v := (ml.flatMap hdC).drop (i * 3)) (by rw [hdl, List.length_take]; omega)
      rw [hl3, List.append_assoc _ (z2.take _), List.take_append_drop] at this
      exact this
    rw [hset2] at hb15
    refine ⟨_, _, hrun3, ?_⟩
    have X015 : Ext no w (w13.setCells B ((i + 1) * 3) ((ml.flatMap hdC).drop (i * 3))) := X013.then X15 fun b hb => .inr (by omega)
    have sz15 := X015.size
    have hB15 := hb15.lt
    have s := (Step.of_no X015 ok).tag (p := B) (j := k) (by omega) (by omega)
    refine ⟨_, some ⟨B, 0, none⟩, c', rfl, s.none, .inr ⟨k, hk1, by omega, ?_, fun ad ha => ?_⟩⟩
    · have hlen : (ml.take i ++ m :: ml.drop i).length * 3 = ((ml.flatMap hdC).take (i * 3) ++ hdC m ++ (ml.flatMap hdC).drop (i * 3)).length := by
        rw [← hcells, flat_length hdC_len]
      rw [hcells]
      refine ⟨by rw [← hlen], .inr ⟨B, c', _, rfl, Nat.zero_le _, hb15, by rw [hnew]; exact hc1, hc2, ?_, ?_⟩⟩
      · have hh := hzl
        simp only [List.length_append, hl2, hz1, hdC_len] at hh
        simp only [List.size_toArray, List.length_append, hl2, hdC_len, hdl, List.length_drop]
        omega
      · rw [hlen]; exact List.take_left
    · cases ha; exact ⟨tag_self, by omega⟩
  · -- in place
    have e0 : ((ml.length : Int) + ((1 : Nat) : Int)).toNat = ml.length + 1 := by omega
    have e3 : ((i : Int) + ((1 : Nat) : Int)).toNat = i + 1 := by omega
    rw [e0, e3]
    have hcut2 : cutA (some ⟨g, 0, none⟩) c (i + 1) 3 = some ⟨g, (i + 1) * 3, none⟩ := by unfold cutA; rw [if_neg (by omega)]; simp [Addr.add_lit]
    have hcut3 : cutA (some ⟨g, 0, none⟩) c i 3 = some ⟨g, i * 3, none⟩ := by unfold cutA; rw [if_neg (by omega)]; simp [Addr.add_lit]
    rw [Int.toNat_natCast, hcut2, hcut3]
    have hapart := run_apart (P := Try.prog) (w := w) (tS := 22) (tR := 4) (la := 1) (ca := 1) (lb := ml.length + 1 - (i + 1)) (cb := c - (i + 1)) (oa := 0) (ob := (i + 1) * 3) Try.underlying22 hinf hb hblk hqg (fun e => by rw [e] at hcl; simp at hcl; omega)
      (k := 27) Try.func27 (by kernel_rfl) (by kernel_rfl) (by kernel_rfl) (by kernel_rfl)
    refine ⟨by omega, by omega, by omega, by omega, by omega, by omega, by omega, by omega, false, w, hapart, fun _ => ⟨by omega, by omega, by omega, by omega, by omega, by omega, fun w19 X19 => ?_⟩, fun h => absurd h (by decide)⟩
    have hb19 := hblk.ext X19 id
    have hq19 := hb.ext X19 id
    have hrow19 := hrow.no X19
    have hcur : cur.toList = ml.flatMap hdC ++ cur.toList.drop (ml.length * 3) := by
      rw [← htk, List.take_append_drop]
    generalize hrest : cur.toList.drop (ml.length * 3) = rest at *
    have hrl : rest.length = c * 3 - ml.length * 3 := by rw [← hrest, List.length_drop, hcl]
    have hsplit : ml.flatMap hdC = (ml.flatMap hdC).take (i * 3) ++ (ml.flatMap hdC).drop (i * 3) := (List.take_append_drop _ _).symm
    have hl2 : ((ml.flatMap hdC).take (i * 3)).length = i * 3 := by rw [List.length_take, hfl]; omega
    have hdl : ((ml.flatMap hdC).drop (i * 3)).length = (ml.length - i) * 3 := by rw [List.length_drop, hfl]; omega
    have hsrc : ∀ j v, ((ml.flatMap hdC).drop (i * 3))[j]? = some v → w19.cell? ((⟨g, i * 3, none⟩ : Addr).add j) = some v := fun j v hj => by
      rw [List.getElem?_drop] at hj
      have := hrow19.at_ hj
      rw [Addr.add_lit] at this ⊢
      simpa using this
    have hrun1 := run_copy_gen (P := Try.prog) (w := w19) (dT := 28) (sT := 28) (ty := 3) (sz := 3) (dLen := ml.length + 1 - (i + 1)) (dCap := c - (i + 1)) (sLen := ml.length + 1 - i) (sCap := c - i) (n := ml.length - i) (a := ⟨g, i * 3, none⟩) (cs := (ml.flatMap hdC).drop (i * 3)) (b := g) (o := (i + 1) * 3) Try.underlying28 hinf hsz (by show min _ _ = _; omega) hdl hsrc hb19 (by rw [hdl, hcl]; omega) (fun v hv => hds_one v (List.mem_of_mem_drop hv))
    obtain ⟨hb21, X21⟩ := setCells_setAll (cs := (ml.flatMap hdC).drop (i * 3)) (o := (i + 1) * 3) hb19 (by rw [hdl, hcl]; omega)
    refine ⟨_, _, hrun1, by omega, by omega, ?_⟩
    have hq21 := hq19.ext X21 hqg
    -- what stands there now: the first i, one more, then the rest
    have h5 : ∃ y1 y2, (ml.flatMap hdC).drop (i * 3) ++ rest = y1 ++ y2 ∧ y1.length = 3 ∧ (ml.length - i) * 3 ≤ y2.length := ⟨((ml.flatMap hdC).drop (i * 3) ++ rest).take 3, ((ml.flatMap hdC).drop (i * 3) ++ rest).drop 3, (List.take_append_drop _ _).symm, by rw [List.length_take, List.length_append, hdl, hrl]; omega, by rw [List.length_drop, List.length_append, hdl, hrl]; omega⟩
    obtain ⟨y1, y2, hy, hy1, hy2⟩ := h5
    have hcur2 : cur.toList = (ml.flatMap hdC).take (i * 3) ++ y1 ++ y2 := by rw [hcur, List.append_assoc, ← hy, ← List.append_assoc, ← hsplit]
    have hl3 : ((ml.flatMap hdC).take (i * 3) ++ y1).length = (i + 1) * 3 := by rw [List.length_append, hl2, hy1]; omega
    have hset1 : setAll cur.toList ((i + 1) * 3) ((ml.flatMap hdC).drop (i * 3)) = (ml.flatMap hdC).take (i * 3) ++ y1 ++ (ml.flatMap hdC).drop (i * 3) ++ y2.drop ((ml.length - i) * 3) := by
      have := setAll_mid (u := (ml.flatMap hdC).take (i * 3) ++ y1) (x := y2.take ((ml.length - i) * 3)) (y := y2.drop ((ml.length - i) * 3)) (v := (ml.flatMap hdC).drop (i * 3)) (by rw [hdl, List.length_take]; omega)
      rw [hl3, List.append_assoc _ (y2.take _), List.take_append_drop, ← hcur2] at this
      exact this
    rw [hset1] at hb21
    have hrun2 := run_copy_gen (P := Try.prog) (dT := 28) (sT := 22) (ty := 3) (sz := 3) (dLen := ml.length + 1 - i) (dCap := c - i) (sLen := 1) (sCap := 1) (n := 1) (a := blk q) (cs := hdC m) (b := g) (o := i * 3) Try.underlying28 hinf hsz (Nat.min_eq_left (by omega)) rfl (fun j v hj => hq21.cella (i := j) hj) hb21 (by
      simp only [List.length_append, hl2, hy1, hdC_len]; omega) (hdC_one m)
    obtain ⟨hb23, X23⟩ := setCells_setAll (cs := hdC m) (o := i * 3) hb21 (by simp only [List.length_append, hl2, hy1, hdC_len]; omega)
    refine ⟨_, _, hrun2, ?_⟩
    have hset2 : setAll ((ml.flatMap hdC).take (i * 3) ++ y1 ++ (ml.flatMap hdC).drop (i * 3) ++ y2.drop ((ml.length - i) * 3)) (i * 3) (hdC m) = (ml.flatMap hdC).take (i * 3) ++ hdC m ++ (ml.flatMap hdC).drop (i * 3) ++ y2.drop ((ml.length - i) * 3) := by
      have := setAll_mid (u := (ml.flatMap hdC).take (i * 3)) (x := y1) (y := (ml.flatMap hdC).drop (i * 3) ++ y2.drop ((ml.length - i) * 3)) (v := hdC m) (by rw [hy1]; rfl)
      rw [hl2] at this
      simpa [List.append_assoc] using this
    rw [hset2] at hb23
    have XX : Ext (fun b => b = g) w _ := (X19.none.trans X21).trans X23
    have s : Step (fun j => j = k) w o _ (grow w o) := Step.of_ext XX ok fun b hb _ => by subst hb; exact tg.1
    refine ⟨_, some ⟨g, 0, none⟩, c, rfl, s.mono fun j hj _ => by omega, .inr ⟨k, hk1, Nat.lt_of_lt_of_le hk2 s.size, ?_, fun ad ha => ?_⟩⟩
    · have hlen : (ml.take i ++ m :: ml.drop i).length * 3 = ((ml.flatMap hdC).take (i * 3) ++ hdC m ++ (ml.flatMap hdC).drop (i * 3)).length := by
        rw [← hcells, flat_length hdC_len]
      rw [hcells]
      refine ⟨by rw [← hlen], .inr ⟨g, c, _, rfl, Nat.zero_le _, hb23, by rw [hnew]; omega, hcm, ?_, ?_⟩⟩
      · simp only [List.size_toArray, List.length_append, hl2, hdC_len, hdl, List.length_drop]
        have : y2.length = c * 3 - i * 3 - 3 := by
          have := congrArg List.length hcur2
          rw [List.length_append, hl3, hcl] at this
          omega
        omega
      · rw [hlen]; exact List.take_left
    · cases ha; exact ⟨(s.own tg.2).trans tg.1, Nat.lt_of_lt_of_le tg.2 s.size⟩
end
end Go.Proofs.Ytnhnhojaninojaa

/- VectorTurns: what the law's function answers. -/
set_option linter.unusedVariables false
set_option linter.unusedSimpArgs false
set_option maxRecDepth 20000
namespace Go.Proofs.Ytnhnhojaninojaa
open Go Go.Mx Go.Proofs
/-- heads, as they come in. -/
def fitH (h : Hd) : Prop := (Lit.int .i64 h.1).wf = true ∧ (Lit.int .i64 h.2.1).wf = true ∧ (Lit.int .u64 h.2.2).wf = true
def HeadsQ (W : World) (cs : List Value) : Prop := ∃ (a : Option Addr) (c : Nat) (hs : List Hd), cs = [.slice a hs.length c] ∧ hs.length ≤ c ∧ c ≤ maxLen ∧ RowAt W a (hsC hs) ∧ ∀ h ∈ hs, fitH h
def HeadQ (W : World) (cs : List Value) : Prop := ∃ h : Hd, cs = hdC h ∧ fitH h
theorem opens_head : Opens Try.prog 25 HeadQ :=
  (opens_struct (size := 3) Try.underlying25 (by kernel_rfl)).mono fun W cs ⟨hl, h⟩ => by
    match cs, hl with
    | [c0, c1, c2], _ =>
      obtain ⟨n0, e0, f0⟩ := h 0 _ rfl _ (opens_int Try.underlying3)
      obtain ⟨n1, e1, f1⟩ := h 1 _ rfl _ (opens_int Try.underlying3)
      obtain ⟨n2, e2, f2⟩ := h 2 _ rfl _ (opens_int Try.underlying23)
      have ci : Try.prog.cellsOf 3 = 1 := by kernel_rfl
      have cu : Try.prog.cellsOf 23 = 1 := by kernel_rfl
      change List.take (Try.prog.cellsOf 3) (List.drop 0 [c0, c1, c2]) = _ at e0
      change List.take (Try.prog.cellsOf 3) (List.drop 1 [c0, c1, c2]) = _ at e1
      change List.take (Try.prog.cellsOf 23) (List.drop 2 [c0, c1, c2]) = _ at e2
      rw [ci] at e0 e1
      rw [cu] at e2
      simp only [List.drop_zero, List.drop_succ_cons, List.take_succ_cons, List.take_zero, List.cons.injEq, and_true] at e0 e1 e2
      subst e0; subst e1; subst e2
      exact ⟨(n0, n1, n2), rfl, f0, f1, f2⟩
theorem opens_heads : Opens Try.prog 22 HeadsQ :=
  (opens_slice (size := 3) Try.underlying22 (by kernel_rfl) opens_head).mono fun W cs ⟨a, l, c, rows, h1, h2, h3, h4, h5, h6⟩ => by
    obtain ⟨xs, h7, h8⟩ := rows_of (rows := rows) hdC fitH fun r hr => by
      obtain ⟨h, q1, q2⟩ := (h6 r hr).2
      exact ⟨h, q1, q2⟩
    subst h7
    rw [List.length_map] at h4
    subst h4
    exact ⟨a, c, xs, h1, h2, h3, by rw [hsC, List.flatMap_def]; exact h5, h8⟩

end Go.Proofs.Ytnhnhojaninojaa

/- VectorHolds. -/
set_option linter.unusedVariables false
set_option linter.unusedSimpArgs false
set_option maxRecDepth 20000
set_option maxHeartbeats 4000000
namespace Go.Proofs.Ytnhnhojaninojaa
open Go Go.Mx Go.Proofs
/-! ### the plain law -/
theorem right_all : ∀ {v : List Hd} {p : Option Int}, rightF p v = true → ∀ x ∈ v, rhead x = true
  | [], _, _, x, hx => by cases hx
  | a :: r, p, h, x, hx => by
    simp only [rightF, Bool.and_eq_true] at h
    rcases List.mem_cons.1 hx with rfl | hx
    · exact h.1.1
    · exact right_all h.2 x hx
theorem rhead_facts {h : Hd} (hh : rhead h = true) : 0 ≤ h.1 ∧ h.1 < 8 ∧ 0 < h.2.1 := by
  unfold rhead at hh
  simp only [Bool.and_eq_true, decide_eq_true_eq] at hh
  obtain ⟨h1, h2, h3, _⟩ := hh
  exact ⟨h1, h2, h3⟩
theorem lookV_some : ∀ {v : List Hd} {x : Int} {h : Hd}, lookV v x = some h → h ∈ v ∧ h.1 = x
  | [], x, h, hh => by cases hh
  | a :: r, x, h, hh => by
    simp only [lookV] at hh
    split at hh
    · rename_i hx; cases hh; exact ⟨by simp, hx⟩
    · have := lookV_some hh; exact ⟨by simp [this.1], this.2⟩
theorem lookV_app (x : Int) : ∀ (a b : List Hd), lookV (a ++ b) x = match lookV a x with | some h => some h | none => lookV b x
  | [], b => rfl
  | h :: r, b => by
    simp only [List.cons_append, lookV]
    by_cases hx : h.1 = x
    · rw [if_pos hx, if_pos hx]
    · rw [if_neg hx, if_neg hx]; exact lookV_app x r b
theorem fm_congr {α β : Type} {f g : α → Option β} : ∀ {l : List α}, (∀ x ∈ l, f x = g x) → l.filterMap f = l.filterMap g
  | [], _ => rfl
  | a :: r, h => by rw [List.filterMap_cons, List.filterMap_cons, h a (by simp), fm_congr fun x hx => h x (by simp [hx])]
theorem scan_sorted : ∀ (n k : Nat) (l : List Hd), (l.map (·.1)).Pairwise (· < ·) → (∀ h ∈ l, (k : Int) ≤ h.1 ∧ h.1 < (k : Int) + n) → (List.range' k n).filterMap (fun w : Nat => lookV l (w : Int)) = l
  | 0, k, l, hp, hb => by
    cases l with
    | nil => rfl
    | cons h r => have := hb h (by simp); omega
  | n + 1, k, l, hp, hb => by
    rw [List.range'_succ]
    cases l with
    | nil =>
      have : ∀ (m : List Nat), m.filterMap (fun w : Nat => lookV [] (w : Int)) = [] := fun m => by
        rw [List.filterMap_eq_nil_iff]; intro x _; rfl
      exact this _
    | cons h r =>
      have h0 := hb h (by simp)
      simp only [List.map_cons, List.pairwise_cons] at hp
      have hr : ∀ x ∈ r, h.1 < x.1 := fun x hx => hp.1 x.1 (List.mem_map.2 ⟨x, hx, rfl⟩)
      by_cases hk : h.1 = (k : Int)
      · have e : lookV (h :: r) (k : Int) = some h := by simp [lookV, hk]
        rw [List.filterMap_cons, e]
        simp only
        congr 1
        have := scan_sorted n (k + 1) r hp.2 fun x hx => by have := hr x hx; have := hb x (by simp [hx]); omega
        refine Eq.trans (fm_congr fun w hw => ?_) this
        have hw' := List.mem_range'.1 hw
        obtain ⟨i, _, hi⟩ := hw'
        show lookV (h :: r) (w : Int) = lookV r (w : Int)
        simp only [lookV]
        rw [if_neg (by omega)]
      · have e : lookV (h :: r) (k : Int) = none := lookV_none fun x hx => by
          rcases List.mem_cons.1 hx with rfl | hx
          · exact hk
          · have := hr x hx; omega
        rw [List.filterMap_cons, e]
        exact scan_sorted n (k + 1) (h :: r) (by simpa using hp) fun x hx => by
          rcases List.mem_cons.1 hx with rfl | hx
          · omega
          · have := hr x hx; have := hb x (by simp [hx]); omega
def pickV (v : List Hd) (h : Hd) (w : Nat) : Option Hd := if (w : Int) = h.1 then some h else lookV v (w : Int)
def putV (v : List Hd) (h : Hd) : List Hd × Int := if rightV v && rhead h then ((List.range 8).filterMap (pickV v h), 0) else ([], 1)
/-- what is put in its place. -/
theorem put_law {v A M B : List Hd} {h : Hd} (hv : v = A ++ (M ++ B)) (hr : rightV v = true) (hh : rhead h = true) (hA : ∀ x ∈ A, x.1 < h.1) (hM : ∀ x ∈ M, x.1 = h.1) (hB : ∀ x ∈ B, h.1 < x.1) : (List.range 8).filterMap (pickV v h) = A ++ h :: B := by
  have hp := (rightF_lt hr).2
  have hall := right_all hr
  have hf := rhead_facts hh
  have hin : ∀ x, x ∈ A ∨ x ∈ B → x ∈ v := fun x hx => by rw [hv]; simp only [List.mem_append]; rcases hx with h | h <;> simp [h]
  have hp2 : ((A ++ h :: B).map (·.1)).Pairwise (· < ·) := by
    rw [hv] at hp
    simp only [List.map_append, List.map_cons, List.pairwise_append, List.pairwise_cons] at hp ⊢
    refine ⟨hp.1, ⟨fun y hy => ?_, hp.2.1.2.1⟩, fun x hx y hy => ?_⟩
    · obtain ⟨z, hz, rfl⟩ := List.mem_map.1 hy; exact hB z hz
    · obtain ⟨u, hu, rfl⟩ := List.mem_map.1 hx
      rcases List.mem_cons.1 hy with rfl | hy
      · exact hA u hu
      · obtain ⟨z, hz, rfl⟩ := List.mem_map.1 hy
        have := hA u hu; have := hB z hz; omega
  have hs := scan_sorted 8 0 (A ++ h :: B) hp2 fun x hx => by
    simp only [List.mem_append, List.mem_cons] at hx
    rcases hx with hx | rfl | hx
    · have := rhead_facts (hall x (hin x (.inl hx))); omega
    · omega
    · have := rhead_facts (hall x (hin x (.inr hx))); omega
  rw [← List.range_eq_range'] at hs
  refine Eq.trans (fm_congr fun w hw => ?_) hs
  unfold pickV
  by_cases hw : (w : Int) = h.1
  · rw [if_pos hw, lookV_app, lookV_none fun x hx => by have := hA x hx; omega]
    simp [lookV, hw]
  · rw [if_neg hw, hv, lookV_app, lookV_app, lookV_app]
    have hMn : lookV M (w : Int) = none := lookV_none fun x hx => by rw [hM x hx]; exact fun e => hw e.symm
    rw [hMn]
    simp only [lookV]
    rw [if_neg fun e => hw e.symm]
/-! ### the program's -/
section
variable {w w' w1 : World} {o o' o1 : Own} {a b : Option Addr} {c d N : Nat} {v u : List Hd} {h : Hd}
def PutG (w : World) (o : Own) (r : List Hd × Int) (e : Ending) (w' : World) : Prop := ∃ o' a' c', e = .returned (.tuple #[.slice a' r.1.length c', .int .i64 r.2]) ∧ Step no w o w' o' ∧ Row w' o' a' (hsC r.1) ∧ r.1.length ≤ c'
theorem vNoStep (h : Step no w o w1 o1) : Step no w o w1 (grow w o) := Step.of_no (h.ext.mono fun b ⟨_, _, h⟩ _ => h) h.ok0
theorem vPut_spec (hr : RowAt w a (hsC v)) (ok : Tags w o) (hl : v.length < 1000) (h : Hd) : Calls Try.prog 6 #[.slice a v.length c, .agg #[.int .i64 h.1, .int .i64 h.2.1, .int .u64 h.2.2]] w (PutG w o (putV v h)) := by
  refine (vector_Put.go a v.length c h.1 h.2.1 h.2.2 (R := fun y w' => ∃ o' a' c', y = (.tuple #[.slice a' (putV v h).1.length c', .int .i64 (putV v h).2]) ∧ Step no w o w' o' ∧ Row w' o' a' (hsC (putV v h).1) ∧ (putV v h).1.length ≤ c') ?_).mono fun x w' ⟨y, he, o', a', c', hv, hw⟩ => ⟨o', a', c', by rw [he, hv], hw⟩
  unfold vector_Put.N
  intro w5 p6 X5 hp
  obtain ⟨s5, M5⟩ := Step.priv X5 hp ok
  have g6 : w.heap.size ≤ p6 := (hp p6 (by simp)).1
  have hr5 := hr.no X5
  have bad : ∀ {w1 : World} {o1 : Own}, (rightV v && rhead h) = false → Step no w o w1 o1 → ∃ o' a' c', Value.tuple #[.slice none 0 0, .int .i64 1] = (.tuple #[.slice a' (putV v h).1.length c', .int .i64 (putV v h).2]) ∧ Step no w o w1 o' ∧ Row w1 o' a' (hsC (putV v h).1) ∧ (putV v h).1.length ≤ c' := fun hb s => by
    unfold putV; rw [if_neg (by rw [hb]; decide)]
    exact ⟨_, none, 0, rfl, s, Row.nil _ _ _, Nat.le_refl _⟩
  refine (Right_spec hr5 (by omega)).mono fun e w9 ⟨he, X9⟩ => ⟨_, he, X9.kept, fun hf => ?_, fun ht => ?_⟩
  · exact bad (by rw [hf]; rfl) (s5.trans (Step.of_no X9 s5.ok))
  have s9' := Step.of_no X9 s5.ok
  refine (rightHead_spec h).mono fun e w13 ⟨he, X13⟩ => ⟨_, he, X13.kept, fun hf => ?_, fun hh => ?_⟩
  · exact bad (by rw [hf, Bool.and_false]) ((s5.trans s9').trans (Step.of_no X13 s9'.ok))
  have s13' := Step.of_no X13 s9'.ok
  have hr13 := (hr5.no X9).no X13
  refine (find_spec hr13 (by omega) ht h.1).mono fun e w18 ⟨i, he, hpl, X18⟩ => ⟨_, _, he, X18.kept, ?_⟩
  have s18' := Step.of_no X18 s13'.ok
  have s18 := ((s5.trans s9').trans s13').trans s18'
  have M18 := ((M5.step s9').step s13').step s18'
  refine (Clone_spec s18.ok (hr13.no X18) (by omega)).mono fun e w21 ⟨o21, ca, cc, he, s21', r21⟩ => ⟨_, _, _, he, M18.keep s21' fun _ _ => id, ?_⟩
  have s21 := s18.trans s21'
  have hsz := s18.size
  have hP : putV v h = ((List.range 8).filterMap (pickV v h), 0) := by unfold putV; rw [if_pos (by rw [ht, hh]; rfl)]
  have hlt : ∀ x ∈ v.take i, x.1 < h.1 := fun x hx => by
    obtain ⟨k, hk⟩ := List.getElem?_of_mem hx
    rw [List.getElem?_take] at hk
    split at hk
    · rename_i hki; exact (hpl.2 k x hk).1 hki
    · cases hk
  refine ⟨fun hat => ?_, fun hat w27 q28 X27 hb27 hq hq' => ?_⟩
  · have hat := of_decide_eq_true hat
    obtain ⟨y, hy, hyx⟩ := Option.map_eq_some_iff.1 hat
    have hil := (List.getElem?_eq_some_iff.1 hy).1
    have hfl : (v.flatMap hdC).length = v.length * 3 := flat_length hdC_len v
    have hmul : (i + 1) * 3 ≤ v.length * 3 := Nat.mul_le_mul_right 3 hil
    obtain ⟨ad, rfl, hcs0, ho0, _, h0⟩ := r21.set s21.ok (j := i * 3) (by omega) (.int .i64 h.1)
    have e0 : ∀ j, (ad.add (Int.toNat (i : Int) * 3)).add j = ad.add (i * 3 + j) := fun j => by rw [add_add, Int.toNat_natCast]
    refine ⟨ad, rfl, by omega, by omega, ?_⟩
    rw [e0, e0, e0]
    refine ⟨hcs0, thenW_in fun w24 e24 => ?_⟩
    obtain ⟨s24, r24, _⟩ := h0 w24 e24
    obtain ⟨ad1, ha1, hcs1, _, _, h1⟩ := LRow.set r24 s24.ok (j := i * 3 + 1) (by rw [List.length_set]; omega) (.int .i64 h.2.1)
    cases ha1
    refine ⟨hcs1, thenW_in fun w25 e25 => ?_⟩
    obtain ⟨s25, r25, _⟩ := h1 w25 e25
    obtain ⟨ad2, ha2, hcs2, _, _, h2⟩ := LRow.set r25 s25.ok (j := i * 3 + 2) (by rw [List.length_set, List.length_set]; omega) (.int .u64 h.2.2)
    cases ha2
    refine ⟨hcs2, thenW_in fun w26 e26 => ?_⟩
    obtain ⟨s26, r26, _⟩ := h2 w26 e26
    have hset : (((v.flatMap hdC).set (i * 3) (.int .i64 h.1)).set (i * 3 + 1) (.int .i64 h.2.1)).set (i * 3 + 2) (.int .u64 h.2.2) = (v.set i h).flatMap hdC := setAll_flat hdC_len h hil
    rw [hset] at r26
    have sF : Step no w o w26 _ := ((s21.trans' s24 fun j hj => .inr (by omega)).trans' s25 fun j hj => .inr (by omega)).trans' s26 fun j hj => .inr (by omega)
    have hL : (List.range 8).filterMap (pickV v h) = v.set i h := by
      rw [List.set_eq_take_append_cons_drop, if_pos hil]
      refine put_law (M := [y]) (A := v.take i) (B := v.drop (i + 1)) ?_ ht hh hlt (fun x hx => by rw [List.mem_singleton.1 hx]; exact hyx) fun x hx => ?_
      · have : v.drop i = y :: v.drop (i + 1) := by rw [List.drop_eq_getElem_cons hil, (List.getElem?_eq_some_iff.1 hy).2]
        show v = v.take i ++ (y :: v.drop (i + 1))
        rw [← this, List.take_append_drop]
      · obtain ⟨k, hk⟩ := List.getElem?_of_mem hx
        rw [List.getElem?_drop] at hk
        have := sorted_at v ht (i := i) (j := i + 1 + k) (by omega) hy hk
        omega
    rw [hP, hL]
    refine ⟨_, some ad, cc, by rw [List.length_set], vNoStep sF, ?_, by rw [List.length_set]; exact r26.le⟩
    exact r26.give sF hsz
  · have hat := of_decide_eq_false hat
    have s27' := Step.of_no X27 s21.ok
    have s27 := s21.trans s27'
    have r27 : HRow w18.heap.size w27 (grow w21 o21) ca cc v := LRow.step r21 s27' fun k h => h.elim
    have hz21 := s21'.size
    refine (Insert_spec r27 s27.ok (by omega) hpl.1 h hb27 (by omega) hq' (grow_ge hq)).mono fun e w31 ⟨o31, ia, ic, he, s31, r31⟩ => ⟨_, _, _, he, ?_⟩
    have sF : Step no w o w31 o31 := s27.trans' s31 fun j hj => .inr (by omega)
    have hL : (List.range 8).filterMap (pickV v h) = v.take i ++ h :: v.drop i := by
      refine put_law (M := []) (A := v.take i) (B := v.drop i) (by show v = v.take i ++ ([] ++ v.drop i); rw [List.nil_append, List.take_append_drop]) ht hh hlt (fun x hx => by cases hx) fun x hx => ?_
      obtain ⟨k, hk⟩ := List.getElem?_of_mem hx
      rw [List.getElem?_drop] at hk
      have h1 := (hpl.2 (i + k) x hk).2 (by omega)
      have h2 : x.1 ≠ h.1 := fun e => by
        rcases Nat.eq_zero_or_pos k with rfl | hk0
        · exact hat (by rw [Nat.add_zero] at hk; rw [hk]; exact congrArg some e)
        · have hil : i < v.length := by have := (List.getElem?_eq_some_iff.1 hk).1; omega
          have hgi : v[i]? = some v[i] := List.getElem?_eq_getElem hil
          have := sorted_at v ht (i := i) (j := i + k) (by omega) hgi hk
          have := (hpl.2 i _ hgi).2 (Nat.le_refl _)
          omega
      omega
    rw [hP, hL]
    have hlen : (v.take i ++ h :: v.drop i).length = v.length + 1 := by have := hpl.1; simp; omega
    refine ⟨_, ia, ic, by rw [hlen], vNoStep sF, r31.give sF hsz, ?_⟩
    exact r31.le
/-! ### the reference's -/
theorem rhead_F (x : Hd) : cachetteref05_RightHead.F x.1 x.2.1 x.2.2 = rhead x := by
  unfold cachetteref05_RightHead.F rhead
  by_cases h1 : x.1 ≥ 0 <;> by_cases h2 : x.1 < 8 <;> by_cases h3 : x.2.1 ≥ 1 <;> by_cases h4 : x.2.1 ≤ 200 <;> simp [h1, h2, h3, h4] <;> omega
theorem rightF_drop {t : Nat} (ht : t < v.length) (p : Option Int) : rightF p (v.drop t) = (rhead v[t] && (match p with | none => true | some q => decide (q < v[t].1)) && rightF (some v[t].1) (v.drop (t + 1))) := by
  rw [List.drop_eq_getElem_cons ht]; rfl
theorem rRight_spec (hr : RowAt w a (hsC v)) (hl : v.length < 1000000) : Calls Try.prog 9 #[.slice a v.length c] w (Ret (.bool (rightV v)) fun w' => Ext no w w') := by
  refine cachetteref05_Right.run _ _ _ ?_
  unfold cachetteref05_Right.N
  refine ⟨fun m vs w1 => ∃ t : Nat, vs = [.int .i64 t] ∧ m + t = v.length ∧ Ext no w w1 ∧ rightV v = rightF (prevOf v t) (v.drop t), v.length, ⟨0, rfl, rfl, Ext.refl _ _, rfl⟩, ?_⟩
  rintro m w5 i ⟨t, hi, hm, X5, hv⟩
  simp only [List.cons.injEq, Value.int.injEq, true_and, and_true] at hi
  subst hi
  refine ⟨fun ht => ?_, fun ht => ⟨?_, X5⟩⟩
  · have htl : t < v.length := by omega
    have hg : v[t]? = some v[t] := List.getElem?_eq_getElem htl
    rw [rightF_drop htl] at hv
    have hr5 := hr.no X5
    obtain ⟨ad, rfl⟩ := hr5.addr (hsC_ne fun e => by rw [e] at htl; simp at htl)
    generalize hx : v[t] = x at *
    have hF := rhead_F x
    refine ⟨ad, rfl, by omega, by omega, x.1, x.2.1, x.2.2, by rw [Int.toNat_natCast]; exact hs_at hr5 hg, fun hf w13 X13 => ⟨?_, X5.trans X13⟩, fun hf => ⟨fun h0 => ?_, fun h0 => ?_⟩⟩
    · rw [hv, ← hF, hf]; rfl
    · obtain ⟨t', rfl⟩ : ∃ k, t = k + 1 := ⟨t - 1, by omega⟩
      have htl' : t' < v.length := by omega
      have hg' : v[t']? = some v[t'] := List.getElem?_eq_getElem htl'
      have hpv : prevOf v (t' + 1) = some v[t'].1 := by show (v[t']?).map (·.1) = _; rw [hg']; rfl
      rw [hpv] at hv
      generalize v[t'] = y at *
      refine ⟨by omega, by omega, by omega, by omega, y.1, by rw [show (((t' + 1 : Nat) : Int) - 1).toNat = t' by omega]; exact hs_cell hr5 hg' (j := 0) rfl, by omega, by omega, x.1, by rw [Int.toNat_natCast]; exact hs_cell hr5 hg (j := 0) rfl, fun hge w13 X13 => ⟨?_, X5.trans X13⟩, fun hlt => ⟨by omega, by omega, fun w13 X13 => ⟨m - 1, by omega, t' + 1 + 1, rfl, by omega, X5.trans X13, ?_⟩⟩⟩
      · rw [hv]; simp only; rw [decide_eq_false (by omega), Bool.and_false, Bool.false_and]
      · rw [hv, ← hF, hf]; simp only; rw [decide_eq_true hlt]
        show (true && true && _) = rightF ((v[t' + 1]?).map (·.1)) _
        rw [hg]; rfl
    · have : t = 0 := by omega
      subst this
      refine ⟨by omega, by omega, fun w13 X13 => ⟨m - 1, by omega, 1, rfl, by omega, X5.trans X13, ?_⟩⟩
      rw [hv, ← hF, hf]
      show (true && true && _) = rightF ((v[0]?).map (·.1)) _
      rw [hg]; rfl
  · have : t = v.length := by omega
    subst this
    rw [List.drop_length] at hv
    rw [hv]; rfl
theorem rGet_spec (hr : Row w o a (hsC v)) (ok : Tags w o) (hl : v.length < 1000000) (x : Int) : Calls Try.prog 11 #[.slice a v.length c, .int .i64 x] w (Ret (hdV (getV v x)) fun w' => ∃ o', Step no w o w' o') := by
  refine cachetteref05_Get.run _ _ _ _ ?_
  unfold cachetteref05_Get.N
  intro w3 p4 X3 hp
  obtain ⟨s3, M3⟩ := Step.priv X3 hp ok
  have g4 : w.heap.size ≤ p4 := (hp p4 (by simp)).1
  refine ⟨fun m vs w1 => ∃ (t : Nat) (o1 : Own), vs = [.int .i64 t, .int .i64 0, .int .i64 0, .int .u64 0] ∧ m + t = v.length ∧ Step no w o w1 o1 ∧ Mine [p4] w1 o1 ∧ ∀ y ∈ v.take t, y.1 ≠ x, v.length, ⟨0, _, rfl, rfl, s3, M3, by simp⟩, ?_⟩
  rintro m w11 i0 k1 k2 k3 ⟨t, o11, hi, hm, s11, M11, hno⟩
  simp only [List.cons.injEq, Value.int.injEq, true_and, and_true] at hi
  obtain ⟨rfl, rfl, rfl, rfl⟩ := hi
  refine ⟨fun ht => ?_, fun ht w34 X34 => ?_⟩
  · have htl : t < v.length := by omega
    have hg : v[t]? = some v[t] := List.getElem?_eq_getElem htl
    have htk : v.take (t + 1) = v.take t ++ [v[t]] := by rw [List.take_add_one, hg]; rfl
    have hr11 := hr.step s11
    refine (rRight_spec hr11.1 hl).mono fun e w15 ⟨he, X15⟩ => ⟨_, he, X15.kept, fun hR => ?_, fun hR w31 X31 => ?_⟩
    all_goals have s15' := Step.of_no X15 s11.ok
    all_goals have s15 := s11.trans s15'
    all_goals have M15 := M11.step s15'
    · obtain ⟨ad, rfl⟩ := hr11.1.addr (hsC_ne fun e => by rw [e] at htl; simp at htl)
      have hr15 := (hr.step s15).1
      generalize v[t] = y at *
      refine ⟨ad, rfl, by omega, by omega, y.1, by rw [Int.toNat_natCast]; exact hs_cell hr15 hg (j := 0) rfl, fun hy => ⟨by omega, by omega, y.1, y.2.1, y.2.2, by rw [Int.toNat_natCast]; exact hs_at hr15 hg, fun w27 X27 => ?_⟩, fun hy => ⟨by omega, by omega, m - 1, by omega, t + 1, _, rfl, by omega, s15, M15, fun z hz => ?_⟩⟩
      · have s27' := Step.stores X27 s15.ok M15 (by simp)
        have hlk : lookV v x = some y := lookV_at hg hy fun k q hk hq => hno q (List.mem_of_getElem? (i := k) (by rw [List.getElem?_take, if_pos hk]; exact hq))
        have e : getV v x = y := by unfold getV; rw [if_pos hR, hlk]; rfl
        rw [e]
        exact ⟨rfl, _, s15.trans' s27' fun j hj => .inr (by simp at hj; omega)⟩
      · rw [htk] at hz
        rcases List.mem_append.1 hz with hz | hz
        · exact hno z hz
        · simp at hz; subst hz; exact hy
    · have s31' := Step.stores X31 s15.ok M15 (by simp)
      have e : getV v x = (x, 0, 0) := by unfold getV; rw [if_neg (by rw [hR]; decide)]
      rw [e]
      exact ⟨rfl, _, s15.trans' s31' fun j hj => .inr (by simp at hj; omega)⟩
  · have : t = v.length := by omega
    subst this
    rw [List.take_length] at hno
    have s34' := Step.stores X34 s11.ok M11 (by simp)
    have e : getV v x = (x, 0, 0) := by unfold getV; rw [lookV_none hno]; split <;> rfl
    rw [e]
    exact ⟨rfl, _, s11.trans' s34' fun j hj => .inr (by simp at hj; omega)⟩
theorem rPut_spec (hr : Row w o a (hsC v)) (ok : Tags w o) (hl : v.length < 1000) (h : Hd) : Calls Try.prog 7 #[.slice a v.length c, .agg #[.int .i64 h.1, .int .i64 h.2.1, .int .u64 h.2.2]] w (PutG w o (putV v h)) := by
  refine (cachetteref05_Put.go a v.length c h.1 h.2.1 h.2.2 (R := fun y w' => ∃ o' a' c', y = (.tuple #[.slice a' (putV v h).1.length c', .int .i64 (putV v h).2]) ∧ Step no w o w' o' ∧ Row w' o' a' (hsC (putV v h).1) ∧ (putV v h).1.length ≤ c') ?_).mono fun x w' ⟨y, he, o', a', c', hv, hw⟩ => ⟨o', a', c', by rw [he, hv], hw⟩
  unfold cachetteref05_Put.N
  intro w5 p6 X5 hp
  obtain ⟨s5, M5⟩ := Step.priv X5 hp ok
  have g6 : w.heap.size ≤ p6 := (hp p6 (by simp)).1
  have m6 := M5.lt (p := p6) (by simp)
  have bad : ∀ {w1 : World} {o1 : Own}, (rightV v && rhead h) = false → Step no w o w1 o1 → ∃ o' a' c', Value.tuple #[.slice none 0 0, .int .i64 1] = (.tuple #[.slice a' (putV v h).1.length c', .int .i64 (putV v h).2]) ∧ Step no w o w1 o' ∧ Row w1 o' a' (hsC (putV v h).1) ∧ (putV v h).1.length ≤ c' := fun hb s => by
    unfold putV; rw [if_neg (by rw [hb]; decide)]
    exact ⟨_, none, 0, rfl, s, Row.nil _ _ _, Nat.le_refl _⟩
  refine (rRight_spec (hr.step s5).1 (by omega)).mono fun e w9 ⟨he, X9⟩ => ⟨_, he, X9.kept, fun hf => ?_, fun ht => ⟨fun hf w11 X11 => ?_, fun hh w11 X11 => ?_⟩⟩
  · exact bad (by rw [hf]; rfl) (s5.trans (Step.of_no X9 s5.ok))
  · exact bad (by rw [← rhead_F, hf, Bool.and_false]) (s5.trans (Step.of_no (X9.trans X11) s5.ok))
  rw [rhead_F] at hh
  have s11' := Step.of_no (X9.trans X11) s5.ok
  have s11 := s5.trans s11'
  have M11 := M5.step s11'
  have hP : putV v h = ((List.range 8).filterMap (pickV v h), 0) := by unfold putV; rw [if_pos (by rw [ht, hh]; rfl)]
  have hf := rhead_facts hh
  have hz11 := s11.size
  have h511 := s11'.size
  refine ⟨fun m vs w1 => ∃ (t : Nat) (a1 : Option Addr) (c1 : Nat) (o1 : Own), vs = [.slice a1 ((List.range t).filterMap (pickV v h)).length c1, .int .i64 t] ∧ m + t = 8 ∧ Step no w o w1 o1 ∧ Mine [p6] w1 o1 ∧ w11.heap.size ≤ w1.heap.size ∧ HRow w11.heap.size w1 o1 a1 c1 ((List.range t).filterMap (pickV v h)), 8, ⟨0, none, 0, _, rfl, rfl, s11, M11, Nat.le_refl _, LRow.nil _ _ _ _ _⟩, ?_⟩
  rintro m w17 ra rn rc i0 ⟨t, a1, c1, o17, hi, hm, s17, M17, hsz, r17⟩
  simp only [List.cons.injEq, Value.slice.injEq, Value.int.injEq, true_and, and_true] at hi
  obtain ⟨⟨rfl, rfl, rfl⟩, rfl⟩ := hi
  have hlen : ((List.range t).filterMap (pickV v h)).length ≤ t := by
    have := List.length_filterMap_le (pickV v h) (List.range t); rwa [List.length_range] at this
  have hsucc : ∀ r, pickV v h t = r → (List.range (t + 1)).filterMap (pickV v h) = (List.range t).filterMap (pickV v h) ++ r.toList := fun r hr => by
    rw [List.range_succ, List.filterMap_append]
    congr 1
    rw [List.filterMap_cons, hr]
    cases r <;> rfl
  refine ⟨fun ht8 => ?_, fun ht8 => ?_⟩
  · refine (rGet_spec (hr.step s17) s17.ok (by omega) (t : Int)).mono fun e w23 ⟨he, o23, s23'⟩ => ⟨_, _, _, he, M17.keep s23' fun _ _ => id, ?_⟩
    have s23 := s17.trans s23'
    have M23 := M17.step s23'
    have h1723 := s23'.size
    have r23 : HRow w11.heap.size w23 o23 ra rc _ := LRow.step r17 s23' fun k h => h.elim
    have psh : ∀ (x : Hd), pickV v h t = some x → ∀ (w33 : World) (q34 : Nat), Ext no w23 w33 → Blk w33 q34 25 [.int .i64 x.1, .int .i64 x.2.1, .int .u64 x.2.2] → w23.heap.size ≤ q34 → q34 < w33.heap.size →
        ∃ (a36a : Option Addr) (a36n : Nat) (a36c : Nat) (w37 : World), (Builtin.append_ #[22, 22] 22 #[.slice ra ((List.range t).filterMap (pickV v h)).length rc, .slice (some (blk q34)) 1 1]).run Try.prog w33 = .ok (.slice a36a a36n a36c) w37 ∧ Keep [p6] w33 w37 ∧ (-9223372036854775808 : Int) ≤ ((t : Int) + 1) ∧ ((t : Int) + 1) < 9223372036854775808 ∧
          ∃ m38, m38 < m ∧ ∃ (t' : Nat) (a1 : Option Addr) (c1 : Nat) (o1 : Own), [Value.slice a36a a36n a36c, .int .i64 ((t : Int) + 1)] = [.slice a1 ((List.range t').filterMap (pickV v h)).length c1, .int .i64 t'] ∧ m38 + t' = 8 ∧ Step no w o w37 o1 ∧ Mine [p6] w37 o1 ∧ w11.heap.size ≤ w37.heap.size ∧ HRow w11.heap.size w37 o1 a1 c1 ((List.range t').filterMap (pickV v h)) := by
      intro x hx w33 q34 X33 hb hq hq'
      have s33' := Step.of_no X33 s23.ok
      have s33 := s23.trans s33'
      have r33 : HRow w11.heap.size w33 (grow w23 o23) ra rc _ := LRow.step r23 s33' fun k h => h.elim
      obtain ⟨a', c', w37, o37, hrun, s37, hrow⟩ := r33.push (ty := 22) Try.underlying22 s33.ok (by omega) x hb (by omega) hq'
      have h37 := s37.size
      have h33 := s33'.size
      refine ⟨a', _, c', w37, hrun, (M23.step s33').keep s37 (fun p hp' => by simp at hp'; omega), by omega, by omega, m - 1, by omega, t + 1, a', c', o37, by rw [hsucc _ hx]; rfl, by omega, s33.trans' s37 fun j hj => .inr (by omega), (M23.step s33').step s37, by omega, by rw [hsucc _ hx]; exact hrow⟩
    have hgv : getV v (t : Int) = (lookV v (t : Int)).getD ((t : Int), 0, 0) := by unfold getV; rw [if_pos ht]
    refine ⟨fun hw => ⟨fun h0 => psh h (by unfold pickV; rw [if_pos hw]), fun h0 => by omega⟩, fun hw => ?_⟩
    have hpk : pickV v h t = lookV v (t : Int) := by unfold pickV; rw [if_neg hw]
    rw [hgv]
    cases hlk : lookV v (t : Int) with
    | some y =>
      have hy := rhead_facts (right_all ht y (lookV_some hlk).1)
      exact ⟨fun h0 => psh y (by rw [hpk, hlk]), fun h0 => by have : y.2.1 ≤ 0 := h0; omega⟩
    | none =>
      refine ⟨fun h0 => by have : (0 : Int) > 0 := h0; omega, fun h0 => ⟨by omega, by omega, fun w27 X27 => ?_⟩⟩
      have s27' := Step.of_no X27 s23.ok
      have h27 := s27'.size
      have e := hsucc _ (hpk.trans hlk)
      simp only [Option.toList_none, List.append_nil] at e
      exact ⟨m - 1, by omega, t + 1, ra, rc, _, by rw [e]; rfl, by omega, s23.trans s27', M23.step s27', by omega, by rw [e]; exact LRow.step r23 s27' fun k h => h.elim⟩
  · have : t = 8 := by omega
    subst this
    rw [hP]
    exact ⟨_, ra, rc, rfl, vNoStep s17, r17.give s17 (by omega), r17.le⟩
theorem rSame_spec (ha : RowAt w a (hsC v)) (hb : RowAt w b (hsC u)) (hl : v.length < 1000000) : Calls Try.prog 12 #[.slice a v.length c, .slice b u.length d] w (Ret (.bool (decide (v = u))) fun w' => Ext no w w') := by
  refine cachetteref05_Same.run _ _ _ _ _ _ ?_
  unfold cachetteref05_Same.N
  refine ⟨fun hne => ⟨?_, Ext.refl _ _⟩, fun heq => ?_⟩
  · congr 1; rw [eq_comm, decide_eq_false_iff_not]; intro h; rw [h] at hne; exact hne rfl
  refine ⟨fun q vs w1 => ∃ t : Nat, vs = [.int .i64 t] ∧ q + t = v.length ∧ Ext no w w1 ∧ v.take t = u.take t, v.length, ⟨0, rfl, rfl, Ext.refl _ _, rfl⟩, ?_⟩
  rintro q w1 i ⟨t, hi, hq, X1, hn⟩
  simp only [List.cons.injEq, Value.int.injEq, true_and, and_true] at hi
  subst hi
  refine ⟨fun ht => ?_, fun ht => ⟨?_, X1⟩⟩
  · have h1 : t < v.length := by omega
    have h2 : t < u.length := by omega
    have hg : v[t]? = some v[t] := List.getElem?_eq_getElem h1
    have hgm : u[t]? = some u[t] := List.getElem?_eq_getElem h2
    have ha1 := ha.no X1
    have hb1 := hb.no X1
    obtain ⟨ad, rfl⟩ := ha1.addr (hsC_ne fun e => by rw [e] at h1; simp at h1)
    obtain ⟨bd, rfl⟩ := hb1.addr (hsC_ne fun e => by rw [e] at h2; simp at h2)
    generalize v[t] = x at *
    generalize u[t] = y at *
    refine ⟨ad, rfl, by omega, by omega, x.1, x.2.1, x.2.2, by rw [Int.toNat_natCast]; exact hs_at ha1 hg, bd, rfl, by omega, by omega, y.1, y.2.1, y.2.2, by rw [Int.toNat_natCast]; exact hs_at hb1 hgm, fun hne w9 X9 => ⟨?_, X1.trans X9⟩, fun hxy => ⟨by omega, by omega, fun w9 X9 => ⟨q - 1, by omega, t + 1, rfl, by omega, X1.trans X9, ?_⟩⟩⟩
    · congr 1; rw [eq_comm, decide_eq_false_iff_not]; intro h
      have h3 := congrArg (fun l => l[t]?) h
      simp only [hg, hgm, Option.some.injEq] at h3
      subst h3
      exact hne ⟨rfl, rfl, rfl⟩
    · have : x = y := by
        obtain ⟨x1, x2, x3⟩ := x
        obtain ⟨y1, y2, y3⟩ := y
        obtain ⟨e1, e2, e3⟩ := hxy
        simp only at e1 e2 e3
        subst e1; subst e2; subst e3; rfl
      rw [List.take_add_one, List.take_add_one, hn, hg, hgm, this]
  · have : t = v.length := by omega
    subst this
    rw [List.take_length, List.take_of_length_le (by omega)] at hn
    rw [decide_eq_true hn]
theorem VectorHolds_spec (W : World) (hr : RowAt W a (hsC v)) (x : Int) (h : Hd) :
    Calls Try.prog 3 #[.slice a v.length c, .int .i64 x, .agg #[.int .i64 h.1, .int .i64 h.2.1, .int .u64 h.2.2]] W (Ret (.bool true) fun w' => Ext no W w') := by
  refine cachettelaw05_VectorHolds.run _ _ _ _ _ _ _ ?_
  unfold cachettelaw05_VectorHolds.N
  intro w7 q8 p9 X7 hb7 hq hq' hp9
  have ok0 : Tags W (fun _ => none) := fun b j _ h => by cases h
  have s7 := (Step.of_no X7 ok0).tag (p := p9) (j := p9) (hp9 p9 (by simp)).1 (by have := (hp9 p9 (by simp)).2; omega)
  have M7 : Mine [p9] w7 (tag (grow W fun _ => none) p9 p9) := fun p hp => by rw [show p = p9 by simpa using hp]; exact ⟨by have := (hp9 p9 (by simp)).2; omega, tag_self⟩
  have hlr : RowAt w7 (some (blk q8)) (([(a, v.length, c)] : List (Option Addr × Nat × Nat)).map fun p => Value.slice p.1 p.2.1 p.2.2) := RowAt.of_blk hb7
  have fin : ∀ {w1 w' : World} {o1 : Own}, Step no W (fun _ => none) w1 o1 → Ext no w1 w' → Ext no W w' := fun s X => (s.ext.mono fun b ⟨_, _, h⟩ _ => h).trans X
  refine (light_spec (lc := 1) hlr (by simp)).mono fun e w12 ⟨he, hw⟩ => ⟨_, he, by subst hw; exact fun _ _ _ => rfl, fun hf => ?_, fun hL => ?_⟩
  · subst hw
    exact (alive5_spec _).mono fun e w16 ⟨he, X⟩ => ⟨_, he, rfl, X7.trans X⟩
  subst hw
  have hvl : v.length ≤ 30 := by simpa using hL
  have hrow : Row W (fun _ => none) a (hsC v) := ⟨hr, fun _ _ _ => rfl⟩
  have hr7 := hrow.step s7
  refine (vPut_spec hr7.1 s7.ok (by omega) h).mono fun e w20 ⟨o20, pa, pc, he, s20', rp, _⟩ => ⟨_, _, _, _, he, M7.keep s20' fun _ _ => id, ?_⟩
  have s20 := s7.trans s20'
  refine (rPut_spec (hrow.step s20) s20.ok (by omega) h).mono fun e w24 ⟨o24, qa, qc, he, s24', rq, _⟩ => ⟨_, _, _, _, he, ?_⟩
  have s24 := s20.trans s24'
  refine (Right_spec (hrow.step s24).1 (by omega)).mono fun e w27 ⟨he, X27⟩ => ⟨_, he, ?_⟩
  have s27' := Step.of_no X27 s24.ok
  have s27 := s24.trans s27'
  refine (rRight_spec (hrow.step s27).1 (by omega)).mono fun e w30 ⟨he, X30⟩ => ⟨_, he, fun _ => ?_, fun h => absurd rfl h⟩
  have s30' := Step.of_no X30 s27.ok
  have s30 := s27.trans s30'
  refine (Get_spec (hrow.step s30).1 (by omega) x).mono fun e w36 ⟨he, X36⟩ => ⟨_, _, _, he, ?_⟩
  have s36' := Step.of_no X36 s30.ok
  have s36 := s30.trans s36'
  refine (rGet_spec (hrow.step s36) s36.ok (by omega) x).mono fun e w41 ⟨he, o41, s41'⟩ => ⟨_, _, _, he, fun _ => ?_, fun h => absurd ⟨rfl, rfl, rfl⟩ h⟩
  have s2441 := ((s27'.trans s30').trans s36').trans s41'
  have hpl : (putV v h).1.length < 1000000 := by
    unfold putV
    split
    · have := List.length_filterMap_le (pickV v h) (List.range 8)
      rw [List.length_range] at this
      show ((List.range 8).filterMap (pickV v h)).length < _
      omega
    · decide
  refine (rSame_spec ((rp.step s24').step s2441).1 (rq.step s2441).1 hpl).mono fun e w45 ⟨he, X45⟩ => ⟨_, he, fun _ => ⟨fun _ => ?_, fun h => absurd rfl h⟩, fun h => absurd h (by simp)⟩
  exact (alive5_spec _).mono fun e w50 ⟨he, X⟩ => ⟨_, he, rfl, fin (s24.trans s2441) (X45.trans X)⟩
theorem VectorHolds_walk (W : World) (a0 : Option Addr) (len0 cap0 : Nat) (n1 : Int) (cs2 : Array Value) (o0 : HeadsQ W [.slice a0 len0 cap0]) (w1 : (Lit.int .i64 n1).wf = true) (o2 : HeadQ W cs2.toList) :
    Calls Try.prog 3 #[.slice a0 len0 cap0, .int .i64 n1, .agg cs2] W (Ret (.bool true) fun w' => Ext no W w') := by
  obtain ⟨_, c0, v, e0, p1, p2, r0, f0⟩ := o0
  obtain ⟨h, e2, f2⟩ := o2
  cases e0
  have : cs2 = #[.int .i64 h.1, .int .i64 h.2.1, .int .u64 h.2.2] := Array.ext' e2
  subst this
  exact VectorHolds_spec W r0 n1 h
end
end Go.Proofs.Ytnhnhojaninojaa
