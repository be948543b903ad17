/- The reference's vectors: what is right, their bytes. -/
import Derived.Test.YtifplncikohlpaaVecF
set_option linter.unusedVariables false
set_option linter.unusedSimpArgs false
set_option maxRecDepth 20000
namespace Go.Proofs.Ytifplncikohlpaa
open Go Go.Mx Go.Proofs
open W (OwnB Rd GivesW numR countR doneR)
/-- cachetteref05.Bytes -/
def rBytes5.M (v1a : Option Addr) (v1n : Nat) (v1c : Nat) (R : Value → World → Prop) (w : World) : Prop :=
  Calls Try.prog 23 #[.slice v1a v1n v1c] w fun ee3 ww4 => ∃ (right2 : Bool), ee3 = .returned (.bool right2) ∧
  bif !right2 then (
  R (.tuple #[.slice none 0 0, .int .i64 1]) ww4) else (
  Calls Try.prog 24 #[.int .u64 (IntKind.u64.wrap (v1n : Int))] ww4 fun ee6 ww7 => ∃ (num5a : Option Addr) (num5n : Nat) (num5c : Nat), ee6 = .returned (.slice num5a num5n num5c) ∧
  ∃ (I0 : Nat → List Value → World → Prop) (m10 : Nat), I0 m10 [.slice num5a num5n num5c, .int .i64 0] ww7 ∧ ∀ (m11 : Nat) (ww12 : World) (b8a : Option Addr) (b8n : Nat) (b8c : Nat) (i9 : Int), I0 m11 [.slice b8a b8n b8c, .int .i64 i9] ww12 →
  bif decide (i9 < (v1n : Int)) then (
  v1a.elim False fun a13 =>
  0 ≤ (i9 : Int) ∧ (i9 : Int) < (v1n : Int) ∧
  ∃ (Writer14 : Int), ww12.cell? ((a13.add (Int.toNat i9 * 3)).add 0) = some (.int .i64 Writer14) ∧
  Calls Try.prog 24 #[.int .u64 (IntKind.u64.wrap Writer14)] ww12 fun ee16 ww17 => ∃ (num15a : Option Addr) (num15n : Nat) (num15c : Nat), ee16 = .returned (.slice num15a num15n num15c) ∧
  ∃ (a18a : Option Addr) (a18n : Nat) (a18c : Nat) (ww19 : World), (Builtin.append_ #[29, 29] 29 #[.slice b8a b8n b8c, .slice num15a num15n num15c]).run Try.prog ww17 = .ok (.slice a18a a18n a18c) ww19 ∧
  v1a.elim False fun a20 =>
  0 ≤ (i9 : Int) ∧ (i9 : Int) < (v1n : Int) ∧
  ∃ (Len21 : Int), ww19.cell? ((a20.add (Int.toNat i9 * 3)).add 1) = some (.int .i64 Len21) ∧
  Calls Try.prog 24 #[.int .u64 (IntKind.u64.wrap Len21)] ww19 fun ee23 ww24 => ∃ (num22a : Option Addr) (num22n : Nat) (num22c : Nat), ee23 = .returned (.slice num22a num22n num22c) ∧
  ∃ (a25a : Option Addr) (a25n : Nat) (a25c : Nat) (ww26 : World), (Builtin.append_ #[29, 29] 29 #[.slice a18a a18n a18c, .slice num22a num22n num22c]).run Try.prog ww24 = .ok (.slice a25a a25n a25c) ww26 ∧
  v1a.elim False fun a27 =>
  0 ≤ (i9 : Int) ∧ (i9 : Int) < (v1n : Int) ∧
  ∃ (Sum28 : Int), ww26.cell? ((a27.add (Int.toNat i9 * 3)).add 2) = some (.int .u64 Sum28) ∧
  Calls Try.prog 24 #[.int .u64 Sum28] ww26 fun ee30 ww31 => ∃ (num29a : Option Addr) (num29n : Nat) (num29c : Nat), ee30 = .returned (.slice num29a num29n num29c) ∧
  ∃ (a32a : Option Addr) (a32n : Nat) (a32c : Nat) (ww33 : World), (Builtin.append_ #[29, 29] 29 #[.slice a25a a25n a25c, .slice num29a num29n num29c]).run Try.prog ww31 = .ok (.slice a32a a32n a32c) ww33 ∧
  ∃ m34, m34 < m11 ∧ I0 m34 [.slice a32a a32n a32c, .int .i64 (IntKind.i64.wrap (i9 + 1))] ww33) else (
  R (.tuple #[.slice b8a b8n b8c, .int .i64 0]) ww12))

theorem rBytes5.eq (v1a : Option Addr) (v1n : Nat) (v1c : Nat) (R : Value → World → Prop) (w : World) : mfunc Try.prog [(0, [0], [(4, (.one .slice)), (5, (.one (.int .i64)))])] 12 [.slice v1a v1n v1c] R w = rBytes5.M v1a v1n v1c R w := by kernel_rfl
theorem rBytes5.ok (v1a : Option Addr) (v1n : Nat) (v1c : Nat) {R : Value → World → Prop} {w : World} (h : rBytes5.M v1a v1n v1c R w) : Calls Try.prog 12 #[.slice v1a v1n v1c] w fun e w' => ∃ v, e = .returned v ∧ R v w' :=
  mfunc_ok follows (H := [(0, [0], [(4, (.one .slice)), (5, (.one (.int .i64)))])]) (args := [.slice v1a v1n v1c]) (by rw [rBytes5.eq]; exact h)

/-- cachetteref05.Right -/
def rRight5.M (v1a : Option Addr) (v1n : Nat) (v1c : Nat) (R : Value → World → Prop) (w : World) : Prop :=
  ∃ (I0 : Nat → List Value → World → Prop) (m3 : Nat), I0 m3 [.int .i64 0] w ∧ ∀ (m4 : Nat) (ww5 : World) (i2 : Int), I0 m4 [.int .i64 i2] ww5 →
  bif decide (i2 < (v1n : Int)) then (
  thenW (ww5.drew) fun ww6 =>
  v1a.elim False fun a7 =>
  0 ≤ (i2 : Int) ∧ (i2 : Int) < (v1n : Int) ∧
  ∃ (xWriter8 : Int) (xLen9 : Int) (xSum10 : Int), cellsAt ww6 (a7.add (Int.toNat i2 * 3)) [.int .i64 xWriter8, .int .i64 xLen9, .int .u64 xSum10] 0 ∧
  Calls Try.prog 35 #[.agg #[.int .i64 xWriter8, .int .i64 xLen9, .int .u64 xSum10]] ww6 fun ee12 ww13 => ∃ (righthea11 : Bool), ee12 = .returned (.bool righthea11) ∧
  bif !righthea11 then (
  R (.bool false) ww13) else (
  bif decide (i2 > 0) then (
  v1a.elim False fun a14 =>
  0 ≤ ((IntKind.i64.wrap (i2 - 1)) : Int) ∧ ((IntKind.i64.wrap (i2 - 1)) : Int) < (v1n : Int) ∧
  ∃ (Writer15 : Int), ww13.cell? ((a14.add (Int.toNat (IntKind.i64.wrap (i2 - 1)) * 3)).add 0) = some (.int .i64 Writer15) ∧
  v1a.elim False fun a16 =>
  0 ≤ (i2 : Int) ∧ (i2 : Int) < (v1n : Int) ∧
  ∃ (Writer17 : Int), ww13.cell? ((a16.add (Int.toNat i2 * 3)).add 0) = some (.int .i64 Writer17) ∧
  bif decide (Writer15 ≥ Writer17) then (
  R (.bool false) ww13) else (
  ∃ m18, m18 < m4 ∧ I0 m18 [.int .i64 (IntKind.i64.wrap (i2 + 1))] ww13)) else (
  ∃ m19, m19 < m4 ∧ I0 m19 [.int .i64 (IntKind.i64.wrap (i2 + 1))] ww13))) else (
  R (.bool true) ww5)

theorem rRight5.eq (v1a : Option Addr) (v1n : Nat) (v1c : Nat) (R : Value → World → Prop) (w : World) : mfunc Try.prog [(0, [0], [(3, (.one (.int .i64)))])] 23 [.slice v1a v1n v1c] R w = rRight5.M v1a v1n v1c R w := by kernel_rfl
theorem rRight5.ok (v1a : Option Addr) (v1n : Nat) (v1c : Nat) {R : Value → World → Prop} {w : World} (h : rRight5.M v1a v1n v1c R w) : Calls Try.prog 23 #[.slice v1a v1n v1c] w fun e w' => ∃ v, e = .returned v ∧ R v w' :=
  mfunc_ok follows (H := [(0, [0], [(3, (.one (.int .i64)))])]) (args := [.slice v1a v1n v1c]) (by rw [rRight5.eq]; exact h)

/-- cachetteref05.RightHead -/
def rRH5.M (hWriter1 : Int) (hLen2 : Int) (hSum3 : Int) (R : Value → World → Prop) (w : World) : Prop :=
  thenW (w.alloc (.cells #[.int .i64 hWriter1, .int .i64 hLen2, .int .u64 hSum3] 44)) fun ww4 =>
  ∃ (Writer5 : Int), ww4.cell? ((blk w.heap.size).add 0) = some (.int .i64 Writer5) ∧
  bif decide (Writer5 ≥ 0) then (
  ∃ (Writer6 : Int), ww4.cell? ((blk w.heap.size).add 0) = some (.int .i64 Writer6) ∧
  bif decide (Writer6 < 8) then (
  ∃ (Len7 : Int), ww4.cell? ((blk w.heap.size).add 1) = some (.int .i64 Len7) ∧
  bif decide (Len7 ≥ 1) then (
  ∃ (Len8 : Int), ww4.cell? ((blk w.heap.size).add 1) = some (.int .i64 Len8) ∧
  bif decide (Len8 ≤ 200) then (
  ∃ (Sum9 : Int), ww4.cell? ((blk w.heap.size).add 2) = some (.int .u64 Sum9) ∧
  R (.bool (Sum9 != 0)) ww4) else (
  R (.bool false) ww4)) else (
  R (.bool false) ww4)) else (
  R (.bool false) ww4)) else (
  R (.bool false) ww4)

theorem rRH5.eq (hWriter1 : Int) (hLen2 : Int) (hSum3 : Int) (R : Value → World → Prop) (w : World) : mfunc Try.prog [] 35 [.agg #[.int .i64 hWriter1, .int .i64 hLen2, .int .u64 hSum3]] R w = rRH5.M hWriter1 hLen2 hSum3 R w := by kernel_rfl
theorem rRH5.ok (hWriter1 : Int) (hLen2 : Int) (hSum3 : Int) {R : Value → World → Prop} {w : World} (h : rRH5.M hWriter1 hLen2 hSum3 R w) : Calls Try.prog 35 #[.agg #[.int .i64 hWriter1, .int .i64 hLen2, .int .u64 hSum3]] w fun e w' => ∃ v, e = .returned v ∧ R v w' :=
  mfunc_ok follows (H := []) (args := [.agg #[.int .i64 hWriter1, .int .i64 hLen2, .int .u64 hSum3]]) (by rw [rRH5.eq]; exact h)

/-- cachetteref01.Num -/
def rNum.M (n1 : Int) (R : Value → World → Prop) (w : World) : Prop :=
  bif decide (n1 < 128) then (
  thenW (w.alloc (.cells #[.int .u8 (IntKind.u8.wrap n1)] 5)) fun ww2 =>
  R (.slice (some (blk w.heap.size)) 1 1) ww2) else (
  128 ≠ (0 : Int) ∧ thenW (w.alloc (.cells #[.int .u8 (IntKind.u8.wrap ((IntKind.u8.wrap (Int.tmod n1 128)) + 128))] 5)) fun ww3 =>
  128 ≠ (0 : Int) ∧ Calls Try.prog 24 #[.int .u64 (IntKind.u64.wrap (Int.tdiv n1 128))] ww3 fun ee5 ww6 => ∃ (num4a : Option Addr) (num4n : Nat) (num4c : Nat), ee5 = .returned (.slice num4a num4n num4c) ∧
  ∃ (a7a : Option Addr) (a7n : Nat) (a7c : Nat) (ww8 : World), (Builtin.append_ #[29, 29] 29 #[.slice (some (blk w.heap.size)) 1 1, .slice num4a num4n num4c]).run Try.prog ww6 = .ok (.slice a7a a7n a7c) ww8 ∧
  R (.slice a7a a7n a7c) ww8)

theorem rNum.eq (n1 : Int) (R : Value → World → Prop) (w : World) : mfunc Try.prog [] 24 [.int .u64 n1] R w = rNum.M n1 R w := by kernel_rfl
theorem rNum.ok (n1 : Int) {R : Value → World → Prop} {w : World} (h : rNum.M n1 R w) : Calls Try.prog 24 #[.int .u64 n1] w fun e w' => ∃ v, e = .returned v ∧ R v w' :=
  mfunc_ok follows (H := []) (args := [.int .u64 n1]) (by rw [rNum.eq]; exact h)

theorem numF_more : ∀ (k m : Nat), m < 128 ^ k → 0 < k → numF (k + 1) m = numF k m
  | k + 1, m, h, _ => by
    by_cases h1 : m < 128
    · rw [numF, if_pos h1, numF, if_pos h1]
    · rw [numF, if_neg h1]
      conv => rhs; rw [numF, if_neg h1]
      have hk : 0 < k := Nat.pos_of_ne_zero fun e => by subst e; simp at h; omega
      rw [numF_more k (m / 128) (by rw [Nat.pow_succ] at h; omega) hk]
theorem numL_step {n : Nat} (h : n < 18446744073709551616) (h1 : ¬ n < 128) : numL n = UInt8.ofNat (n % 128 + 128) :: numL (n / 128) := by
  unfold numL
  rw [numF, if_neg h1, numF_more 9 (n / 128) (by omega) (by decide)]
section
variable {w w' : World} {a : Option Addr} {c : Nat} {hs : List Hd}
theorem rRH_spec (h : Hd) : Calls Try.prog 35 #[hdV h] w (GivesV (.bool (rhead h)) fun w' => Ext no w w') := by
  refine (rRH5.ok _ _ _ (R := fun v w' => v = .bool (rhead h) ∧ Ext no w w') ?_).mono fun e w' ⟨v, he, hv, hw⟩ => ⟨by rw [he, hv], hw⟩
  unfold rRH5.M
  refine thenW_in fun w4 h4 => ?_
  have hb : Blk w4 w.heap.size 44 (hdC h) := by subst h4; exact Blk.new _ _ _
  have hx : Ext no w w4 := by subst h4; exact (Ext.refl _ _).alloc _
  refine ⟨_, hb.cella (i := 0) rfl, ?_⟩
  unfold rhead
  by_cases c1 : h.1 ≥ 0
  · rw [decide_eq_true c1, cond_true, Bool.true_and]
    refine ⟨_, hb.cella (i := 0) rfl, ?_⟩
    by_cases c2 : h.1 < 8
    · rw [decide_eq_true c2, cond_true, Bool.true_and]
      refine ⟨_, hb.cella (i := 1) rfl, ?_⟩
      by_cases c3 : h.2.1 > 0
      · rw [decide_eq_true c3, decide_eq_true (by omega : h.2.1 ≥ 1), cond_true, Bool.true_and]
        refine ⟨_, hb.cella (i := 1) rfl, ?_⟩
        by_cases c4 : h.2.1 ≤ 200
        · rw [decide_eq_true c4, cond_true, Bool.true_and]
          exact ⟨_, hb.cella (i := 2) rfl, rfl, hx⟩
        · rw [decide_eq_false c4]; exact ⟨rfl, hx⟩
      · rw [decide_eq_false c3, decide_eq_false (by omega : ¬ h.2.1 ≥ 1)]; exact ⟨rfl, hx⟩
    · rw [decide_eq_false c2]; exact ⟨rfl, hx⟩
  · rw [decide_eq_false c1]; exact ⟨rfl, hx⟩
theorem rRight_spec (hr : RowAt w a (hsC hs)) (hl : hs.length < 1000000) : Calls Try.prog 23 #[.slice a hs.length c] w (GivesV (.bool (rightV hs)) fun w' => Ext no w w') := by
  refine (rRight5.ok _ _ _ (R := fun v w' => v = .bool (rightV hs) ∧ Ext no w w') ?_).mono fun e w' ⟨v, he, hv, hw⟩ => ⟨by rw [he, hv], hw⟩
  unfold rRight5.M
  refine ⟨fun k vs w1 => ∃ t : Nat, vs = [.int .i64 t] ∧ k + t = hs.length ∧ rightF (prevOf hs t) (hs.drop t) = rightV hs ∧ Ext no w w1, hs.length, ⟨0, rfl, rfl, rfl, Ext.refl _ _⟩, ?_⟩
  rintro k w1 i ⟨t, hi, hk, hf, hx⟩
  simp only [List.cons.injEq, Value.int.injEq, true_and, and_true] at hi
  subst hi
  cases k with
  | zero =>
    obtain rfl : t = hs.length := by omega
    rw [show decide ((hs.length : Int) < (hs.length : Int)) = false by simp, cond_false]
    rw [List.drop_length] at hf
    exact ⟨by rw [← hf]; cases prevOf hs hs.length <;> rfl, hx⟩
  | succ k =>
    have ht : t < hs.length := by omega
    rw [show decide ((t : Int) < (hs.length : Int)) = true by simp; omega, cond_true]
    refine thenW_in fun w6 h6 => ?_
    have x6 : Ext no w w6 := hx.trans (by subst h6; exact (Ext.refl _ _).drew)
    have hr1 := hr.no x6
    obtain ⟨ad, rfl⟩ := hr1.addr (hsC_ne (by intro e; subst e; simp at ht))
    have hgi : hs[t]? = some hs[t] := List.getElem?_eq_getElem ht
    refine ⟨by omega, by omega, _, _, _, by rw [Int.toNat_natCast]; exact hs_at hr1 hgi, ?_⟩
    refine (rRH_spec hs[t]).mono fun e w20 ⟨he, x20'⟩ => ⟨_, he, ?_⟩
    have x20 := x6.trans x20'
    have hd : hs.drop t = hs[t] :: hs.drop (t + 1) := List.drop_eq_getElem_cons ht
    rw [hd] at hf
    simp only [rightF] at hf
    by_cases c1 : rhead hs[t] = true
    · rw [c1, Bool.not_true, cond_false]
      rw [c1, Bool.true_and] at hf
      have hw1 : IntKind.i64.wrap ((t : Int) + 1) = ((t + 1 : Nat) : Int) := by rw [w64 (by omega) (by omega)]; rfl
      cases t with
      | zero =>
        rw [show decide (((0 : Nat) : Int) > 0) = false from rfl, cond_false]
        exact ⟨k, by omega, 1, by rw [hw1], by omega, by rw [← hf]; simp [prevOf, ht], x20⟩
      | succ t =>
        rw [show decide (((t + 1 : Nat) : Int) > 0) = true by simp <;> omega, cond_true]
        have htl : t < hs.length := by omega
        have hgp : hs[t]? = some hs[t] := List.getElem?_eq_getElem htl
        have hw2 : IntKind.i64.wrap (((t + 1 : Nat) : Int) - 1) = (t : Int) := by rw [w64 (by omega) (by omega)] <;> omega
        rw [hw2]
        refine ⟨by omega, by omega, _, by rw [Int.toNat_natCast]; exact hs_cell (hr.no x20) hgp (j := 0) rfl, by omega, by omega, _, by rw [Int.toNat_natCast]; exact hs_cell (hr.no x20) hgi (j := 0) rfl, ?_⟩
        simp only [prevOf, hgp, Option.map_some] at hf
        by_cases c2 : hs[t].1 ≥ hs[t + 1].1
        · rw [decide_eq_true c2, cond_true]
          rw [decide_eq_false (by omega), Bool.false_and] at hf
          exact ⟨by rw [← hf], x20⟩
        · rw [decide_eq_false c2, cond_false]
          rw [decide_eq_true (by omega), Bool.true_and] at hf
          exact ⟨k, by omega, t + 2, by rw [hw1], by omega, by rw [← hf]; simp [prevOf, ht], x20⟩
    · have c1' : rhead hs[t] = false := by simpa using c1
      rw [c1', Bool.not_false, cond_true]
      rw [c1', Bool.false_and, Bool.false_and] at hf
      exact ⟨by rw [← hf], x20⟩
theorem rNum_spec : ∀ (n : Nat) (w : World), n < 18446744073709551616 → Calls Try.prog 24 #[.int .u64 n] w (fun e w' => ∃ a' c', e = .returned (.slice a' (numL n).length c') ∧ OwnB w.heap.size w' a' c' (numL n) ∧ Ext no w w') := by
  intro n
  induction n using Nat.strongRecOn with
  | _ n ih =>
    intro w hn
    refine (rNum.ok _ (R := fun v w' => ∃ a' c', v = (.slice a' (numL n).length c') ∧ OwnB w.heap.size w' a' c' (numL n) ∧ Ext no w w') ?_).mono fun e w' ⟨v, he, a', c', hv, hw⟩ => ⟨a', c', by rw [he, hv], hw⟩
    unfold rNum.M
    have one : ∀ (w2 : World) (x : UInt8), w2 = w.alloc (.cells #[.int .u8 (x.toNat : Int)] 5) → OwnB w.heap.size w2 (some (blk w.heap.size)) 1 [x] ∧ Ext no w w2 := fun w2 x h2 => by
      have hb : Blk w2 w.heap.size 5 (bytesV [x]) := by subst h2; exact Blk.new _ _ _
      exact ⟨⟨owns_of_blk hb rfl (by simp [maxLen]), fun ad ha => by cases ha; exact ⟨Nat.le_refl _, hb.lt⟩⟩, by subst h2; exact (Ext.refl _ _).alloc _⟩
    by_cases h1 : n < 128
    · rw [show decide ((n : Int) < 128) = true by simp; omega, cond_true]
      have hv : IntKind.u8.wrap (n : Int) = ((UInt8.ofNat n).toNat : Int) := by rw [wu8 (by omega) (by omega), ofNat_lt (by omega)]
      have hL : numL n = [UInt8.ofNat n] := by unfold numL; rw [numF, if_pos h1]
      rw [hv, hL]
      refine thenW_in fun w2 h2 => ?_
      obtain ⟨q1, q2⟩ := one w2 _ h2
      exact ⟨_, 1, rfl, q1, q2⟩
    · rw [show decide ((n : Int) < 128) = false by simp; omega, cond_false]
      have hm : Int.tmod (n : Int) 128 = ((n % 128 : Nat) : Int) := by rw [Int.tmod_eq_emod_of_nonneg (by omega)]; omega
      have hd : Int.tdiv (n : Int) 128 = ((n / 128 : Nat) : Int) := by rw [Int.tdiv_eq_ediv_of_nonneg (by omega)]; omega
      have hv : IntKind.u8.wrap ((IntKind.u8.wrap (Int.tmod (n : Int) 128)) + 128) = ((UInt8.ofNat (n % 128 + 128)).toNat : Int) := by
        rw [hm, wu8 (n := ((n % 128 : Nat) : Int)) (by omega) (by omega), wu8 (by omega) (by omega), ofNat_lt (by omega)]; omega
      rw [hv, hd, wu64 (by omega) (by omega), numL_step hn h1]
      refine ⟨by decide, thenW_in fun w3 h3 => ⟨by decide, ?_⟩⟩
      obtain ⟨q1, q2⟩ := one w3 _ h3
      refine (ih (n / 128) (by omega) w3 (by omega)).mono fun e w6 ⟨a6, c6, he, ho6, x6⟩ => ⟨a6, _, c6, he, ?_⟩
      obtain ⟨a', c', w8, hr, ho8, x8⟩ := (W.OwnB.no q1 x6).append (t := 29) (ty := 29) Try.underlying29 (Nat.le_trans q2.size x6.size) (xc := c6) (W.OwnB.row ho6) (by have := numL_le (n / 128); simp; omega)
      exact ⟨a', _, c', w8, hr, a', c', rfl, ho8, (q2.trans x6).then x8 fun b hb => .inr hb⟩

theorem rBytes5_spec (hr : RowAt w a (hsC hs)) (hl : hs.length ≤ 1000) (hn : rightV hs = true → ∀ h ∈ hs, natH h) :
    Calls Try.prog 12 #[.slice a hs.length c] w (fun e w' => Ext no w w' ∧ ((rightV hs = false ∧ e = .returned (.tuple #[.slice none 0 0, .int .i64 1])) ∨ (rightV hs = true ∧ ∃ a' c', e = .returned (.tuple #[.slice a' (vecL hs).length c', .int .i64 0]) ∧ OwnB w.heap.size w' a' c' (vecL hs)))) := by
  refine (rBytes5.ok _ _ _ (R := fun v w' => Ext no w w' ∧ ((rightV hs = false ∧ v = .tuple #[.slice none 0 0, .int .i64 1]) ∨ (rightV hs = true ∧ ∃ a' c', v = .tuple #[.slice a' (vecL hs).length c', .int .i64 0] ∧ OwnB w.heap.size w' a' c' (vecL hs)))) ?_).mono fun e w' ⟨v, he, hx, hv⟩ => ⟨hx, hv.imp (fun ⟨h1, h2⟩ => ⟨h1, by rw [he, h2]⟩) (fun ⟨h1, a', c', h2, h3⟩ => ⟨h1, a', c', by rw [he, h2], h3⟩)⟩
  unfold rBytes5.M
  refine (rRight_spec hr (by omega)).mono fun e w4 ⟨he, x4⟩ => ⟨_, he, ?_⟩
  by_cases hright : rightV hs = true
  · rw [hright, Bool.not_true, cond_false]
    have hnat := hn hright
    rw [wu64 (n := (hs.length : Int)) (by omega) (by omega)]
    refine (rNum_spec hs.length w4 (by omega)).mono fun e w7 ⟨a7, c7, he, ho7, x7'⟩ => ⟨a7, _, c7, he, ?_⟩
    have x7 := x4.trans x7'
    refine ⟨fun k vs w1 => ∃ (t : Nat) (a1 : Option Addr) (c1 : Nat), vs = [.slice a1 (numL hs.length ++ (hs.take t).flatMap hdL).length c1, .int .i64 t] ∧ k + t = hs.length ∧ OwnB w.heap.size w1 a1 c1 (numL hs.length ++ (hs.take t).flatMap hdL) ∧ Ext no w w1, hs.length,
      ⟨0, a7, c7, by simp, rfl, by simpa using OwnB.mono ho7 x4.size, x7⟩, ?_⟩
    rintro k w12 b0 n0 c0 i ⟨t, a1, c1, hvs, hk, ho, hx⟩
    simp only [List.cons.injEq, Value.int.injEq, Value.slice.injEq, true_and, and_true] at hvs
    obtain ⟨⟨rfl, rfl, rfl⟩, rfl⟩ := hvs
    cases k with
    | zero =>
      obtain rfl : t = hs.length := by omega
      rw [show decide ((hs.length : Int) < (hs.length : Int)) = false by simp, cond_false]
      rw [List.take_length] at ho ⊢
      exact ⟨hx, .inr ⟨rfl, _, _, rfl, ho⟩⟩
    | succ k =>
      have ht : t < hs.length := by omega
      rw [show decide ((t : Int) < (hs.length : Int)) = true by simp; omega, cond_true]
      have hr1 := hr.no hx
      obtain ⟨ad, rfl⟩ := hr1.addr (hsC_ne (by intro e; subst e; simp at ht))
      have hgi : hs[t]? = some hs[t] := List.getElem?_eq_getElem ht
      obtain ⟨m1, m2, m3, m4, m5, m6⟩ := hnat hs[t] (List.getElem_mem ht)
      have hlen : (numL hs.length ++ (hs.take t).flatMap hdL).length ≤ 10 + 30 * 1000 := by
        have h1 := numL_le hs.length
        have h2 := hdsL_le (hs.take t)
        rw [List.length_take] at h2
        rw [List.length_append]; omega
      have n1 := numL_le hs[t].1.toNat; have n2 := numL_le hs[t].2.1.toNat; have n3 := numL_le hs[t].2.2.toNat
      -- one number more
      have step : ∀ (w1 : World) (n : Nat) (l : List UInt8) (b1 : Option Addr) (c1 : Nat), n < 18446744073709551616 → l.length ≤ 40000 → OwnB w.heap.size w1 b1 c1 l → Ext no w w1 → ∀ (x : Int), x = (n : Int) → ∀ (K : Option Addr → Nat → Nat → World → Prop),
          (∀ a2 c2 w2, OwnB w.heap.size w2 a2 c2 (l ++ numL n) → Ext no w w2 → K a2 (l ++ numL n).length c2 w2) →
          Calls Try.prog 24 #[.int .u64 x] w1 fun ee ww => ∃ (na : Option Addr) (nn : Nat) (nc : Nat), ee = .returned (.slice na nn nc) ∧ ∃ (ra : Option Addr) (rn : Nat) (rc : Nat) (w3 : World), (Builtin.append_ #[29, 29] 29 #[.slice b1 l.length c1, .slice na nn nc]).run Try.prog ww = .ok (.slice ra rn rc) w3 ∧ K ra rn rc w3 := fun w1 n l b1 c1 hn64 hll ho1 hx1 x hxn K hK => by
        subst hxn
        refine (rNum_spec n w1 hn64).mono fun e w2 ⟨a2, c2, he, ho2, x2⟩ => ⟨a2, _, c2, he, ?_⟩
        have := numL_le n
        obtain ⟨a', c', w3, hr3, ho3, x3⟩ := (W.OwnB.no ho1 x2).append (t := 29) (ty := 29) Try.underlying29 (Nat.le_trans hx1.size x2.size) (xc := c2) (W.OwnB.row ho2) (by omega)
        exact ⟨a', _, c', w3, hr3, hK a' c' w3 ho3 ((hx1.trans x2).then x3 fun b hb => .inr hb)⟩
      refine ⟨by omega, by omega, _, by rw [Int.toNat_natCast]; exact hs_cell hr1 hgi (j := 0) rfl, ?_⟩
      rw [wu64 m1 m2]
      generalize hbase : numL hs.length ++ (hs.take t).flatMap hdL = base at *
      refine step w12 hs[t].1.toNat base b0 c0 (by omega) (by omega) ho hx hs[t].1 (by omega) _ fun a2 c2 w2 ho2 x2 => ?_
      refine ⟨by omega, by omega, _, by rw [Int.toNat_natCast]; exact hs_cell (hr.no x2) hgi (j := 1) rfl, ?_⟩
      rw [wu64 m3 m4]
      refine step w2 hs[t].2.1.toNat _ a2 c2 (by omega) (by rw [List.length_append]; omega) ho2 x2 hs[t].2.1 (by omega) _ fun a3 c3 w3 ho3 x3 => ?_
      refine ⟨by omega, by omega, _, by rw [Int.toNat_natCast]; exact hs_cell (hr.no x3) hgi (j := 2) rfl, ?_⟩
      refine step w3 hs[t].2.2.toNat _ a3 c3 (by omega) (by rw [List.length_append, List.length_append]; omega) ho3 x3 hs[t].2.2 (by omega) _ fun a4 c4 w4' ho4 x4' => ?_
      have hnx : base ++ numL hs[t].1.toNat ++ numL hs[t].2.1.toNat ++ numL hs[t].2.2.toNat = numL hs.length ++ (hs.take (t + 1)).flatMap hdL := by
        rw [← hbase, List.take_add_one (l := hs) (i := t), hgi, Option.toList_some, List.flatMap_append]
        show _ = numL hs.length ++ ((hs.take t).flatMap hdL ++ (hdL hs[t] ++ []))
        simp only [hdL, List.append_nil, List.append_assoc]
      rw [hnx] at ho4 ⊢
      exact ⟨k, by omega, t + 1, _, _, by rw [w64 (by omega) (by omega)]; rfl, by omega, ho4, x4'⟩
  · rw [show rightV hs = false by simpa using hright, Bool.not_false, cond_true]
    exact ⟨x4, .inl ⟨rfl, rfl⟩⟩
end
end Go.Proofs.Ytifplncikohlpaa
