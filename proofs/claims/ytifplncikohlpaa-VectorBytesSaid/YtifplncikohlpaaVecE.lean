/- A vector's bytes, and the vector of bytes. -/
import Derived.Test.YtifplncikohlpaaVecD
import Derived.Test.YtifplncikohlpaaWirB
set_option linter.unusedVariables false
set_option linter.unusedSimpArgs false
set_option maxRecDepth 20000
namespace Go.Proofs.Ytifplncikohlpaa
open Go Go.Mx Go.Proofs
open W (OwnB Rd GivesW numR countR doneR)
/-- vector.Bytes -/
def vBytes.M (v1a : Option Addr) (v1n : Nat) (v1c : Nat) (R : Value → World → Prop) (w : World) : Prop :=
  Calls Try.prog 9 #[.slice v1a v1n v1c] w fun ee3 ww4 => ∃ (right2 : Bool), ee3 = .returned (.bool right2) ∧
  bif !right2 then (
  R (.tuple #[.slice none 0 0, .int .i64 1]) ww4) else (
  Calls Try.prog 22 #[.slice none 0 0, .int .u64 (IntKind.u64.wrap (v1n : Int))] ww4 fun ee6 ww7 => ∃ (num5a : Option Addr) (num5n : Nat) (num5c : Nat), ee6 = .returned (.slice num5a num5n num5c) ∧
  ∃ (I0 : Nat → List Value → World → Prop) (m10 : Nat), I0 m10 [.slice num5a num5n num5c, .int .i64 0] ww7 ∧ ∀ (m11 : Nat) (ww12 : World) (b8a : Option Addr) (b8n : Nat) (b8c : Nat) (t9 : Int), I0 m11 [.slice b8a b8n b8c, .int .i64 t9] ww12 →
  bif decide (t9 < (v1n : Int)) then (
  v1a.elim False fun a13 =>
  0 ≤ (t9 : Int) ∧ (t9 : Int) < (v1n : Int) ∧
  ∃ (xWriter14 : Int) (xLen15 : Int) (xSum16 : Int), cellsAt ww12 (a13.add (Int.toNat t9 * 3)) [.int .i64 xWriter14, .int .i64 xLen15, .int .u64 xSum16] 0 ∧
  thenW (ww12.alloc (.cells #[.int .i64 0, .int .i64 0, .int .u64 0] 44)) fun ww17 =>
  canStore ww17 ((blk ww12.heap.size).add 0) ∧
  thenW (ww17.setCell ((blk ww12.heap.size).add 0) (.int .i64 xWriter14)) fun ww18 =>
  canStore ww18 ((blk ww12.heap.size).add 1) ∧
  thenW (ww18.setCell ((blk ww12.heap.size).add 1) (.int .i64 xLen15)) fun ww19 =>
  canStore ww19 ((blk ww12.heap.size).add 2) ∧
  thenW (ww19.setCell ((blk ww12.heap.size).add 2) (.int .u64 xSum16)) fun ww20 =>
  ∃ (Writer21 : Int), ww20.cell? ((blk ww12.heap.size).add 0) = some (.int .i64 Writer21) ∧
  ∃ (Len22 : Int), ww20.cell? ((blk ww12.heap.size).add 1) = some (.int .i64 Len22) ∧
  ∃ (Sum23 : Int), ww20.cell? ((blk ww12.heap.size).add 2) = some (.int .u64 Sum23) ∧
  ∃ (I2 : Nat → List Value → World → Prop) (m26 : Nat), I2 m26 [.slice b8a b8n b8c, .int .i64 0] ww20 ∧ ∀ (m27 : Nat) (ww28 : World) (b24a : Option Addr) (b24n : Nat) (b24c : Nat) (t25 : Int), I2 m27 [.slice b24a b24n b24c, .int .i64 t25] ww28 →
  bif decide (t25 < 3) then (
  0 ≤ (t25 : Int) ∧ (t25 : Int) < (3 : Int) ∧
  match #[.int .u64 (IntKind.u64.wrap Writer21), .int .u64 (IntKind.u64.wrap Len22), .int .u64 Sum23][Int.toNat t25 * 1]? with
  | some el29 =>
  Calls Try.prog 22 #[.slice b24a b24n b24c, el29] ww28 fun ee31 ww32 => ∃ (num30a : Option Addr) (num30n : Nat) (num30c : Nat), ee31 = .returned (.slice num30a num30n num30c) ∧
  ∃ m33, m33 < m27 ∧ I2 m33 [.slice num30a num30n num30c, .int .i64 (IntKind.i64.wrap (t25 + 1))] ww32
  | none => False) else (
  ∃ m34, m34 < m11 ∧ I0 m34 [.slice b24a b24n b24c, .int .i64 (IntKind.i64.wrap (t9 + 1))] ww28)) else (
  R (.tuple #[.slice b8a b8n b8c, .int .i64 0]) ww12))

theorem vBytes.eq (v1a : Option Addr) (v1n : Nat) (v1c : Nat) (R : Value → World → Prop) (w : World) : mfunc Try.prog [(0, [16, 17], [(4, (.one .slice)), (18, (.one (.int .i64)))]), (2, [16, 17, 18, 30], [(4, (.one .slice)), (31, (.one (.int .i64)))])] 11 [.slice v1a v1n v1c] R w = vBytes.M v1a v1n v1c R w := by kernel_rfl
theorem vBytes.ok (v1a : Option Addr) (v1n : Nat) (v1c : Nat) {R : Value → World → Prop} {w : World} (h : vBytes.M v1a v1n v1c R w) : Calls Try.prog 11 #[.slice v1a v1n v1c] w fun e w' => ∃ v, e = .returned v ∧ R v w' :=
  mfunc_ok follows (H := [(0, [16, 17], [(4, (.one .slice)), (18, (.one (.int .i64)))]), (2, [16, 17, 18, 30], [(4, (.one .slice)), (31, (.one (.int .i64)))])]) (args := [.slice v1a v1n v1c]) (by rw [vBytes.eq]; exact h)

/-- vector.Read -/
def vRead.M (b1a : Option Addr) (b1n : Nat) (b1c : Nat) (R : Value → World → Prop) (w : World) : Prop :=
  Calls Try.prog 25 #[.slice b1a b1n b1c] w fun ee3 ww4 => ∃ (read2 : Option Addr), ee3 = .returned (.pointer read2) ∧
  Calls Try.prog 26 #[.pointer read2, .int .i64 8] ww4 fun ee6 ww7 => ∃ (count5 : Int), ee6 = .returned (.int .i64 count5) ∧
  ∃ (I0 : Nat → List Value → World → Prop) (m10 : Nat), I0 m10 [.slice none 0 0, .int .i64 0] ww7 ∧ ∀ (m11 : Nat) (ww12 : World) (v8a : Option Addr) (v8n : Nat) (v8c : Nat) (t9 : Int), I0 m11 [.slice v8a v8n v8c, .int .i64 t9] ww12 →
  bif decide (t9 < count5) then (
  thenW (ww12.alloc (.cells #[.int .i64 0, .int .i64 0, .int .u64 0] 44)) fun ww13 =>
  Calls Try.prog 26 #[.pointer read2, .int .i64 7] ww13 fun ee15 ww16 => ∃ (count14 : Int), ee15 = .returned (.int .i64 count14) ∧
  canStore ww16 (((blk ww12.heap.size).add 0).add 0) ∧
  thenW (ww16.setCell (((blk ww12.heap.size).add 0).add 0) (.int .i64 count14)) fun ww17 =>
  Calls Try.prog 26 #[.pointer read2, .int .i64 200] ww17 fun ee19 ww20 => ∃ (count18 : Int), ee19 = .returned (.int .i64 count18) ∧
  canStore ww20 (((blk ww12.heap.size).add 1).add 0) ∧
  thenW (ww20.setCell (((blk ww12.heap.size).add 1).add 0) (.int .i64 count18)) fun ww21 =>
  Calls Try.prog 27 #[.pointer read2] ww21 fun ee23 ww24 => ∃ (num22 : Int), ee23 = .returned (.int .u64 num22) ∧
  canStore ww24 (((blk ww12.heap.size).add 2).add 0) ∧
  thenW (ww24.setCell (((blk ww12.heap.size).add 2).add 0) (.int .u64 num22)) fun ww25 =>
  ∃ (xWriter26 : Int) (xLen27 : Int) (xSum28 : Int), cellsAt ww25 (blk ww12.heap.size) [.int .i64 xWriter26, .int .i64 xLen27, .int .u64 xSum28] 0 ∧
  thenW (ww25.alloc (.cells #[.int .i64 xWriter26, .int .i64 xLen27, .int .u64 xSum28] 44)) fun ww29 =>
  ∃ (a30a : Option Addr) (a30n : Nat) (a30c : Nat) (ww31 : World), (Builtin.append_ #[34, 34] 34 #[.slice v8a v8n v8c, .slice (some (blk ww25.heap.size)) 1 1]).run Try.prog ww29 = .ok (.slice a30a a30n a30c) ww31 ∧
  ∃ m32, m32 < m11 ∧ I0 m32 [.slice a30a a30n a30c, .int .i64 (IntKind.i64.wrap (t9 + 1))] ww31) else (
  Calls Try.prog 28 #[.pointer read2] ww12 fun ee34 ww35 => ∃ (done33 : Int), ee34 = .returned (.int .i64 done33) ∧
  bif done33 != 0 then (
  R (.tuple #[.slice none 0 0, .int .i64 done33]) ww35) else (
  Calls Try.prog 9 #[.slice v8a v8n v8c] ww35 fun ee37 ww38 => ∃ (right36 : Bool), ee37 = .returned (.bool right36) ∧
  bif !right36 then (
  R (.tuple #[.slice none 0 0, .int .i64 4]) ww38) else (
  R (.tuple #[.slice v8a v8n v8c, .int .i64 0]) ww38)))

theorem vRead.eq (b1a : Option Addr) (b1n : Nat) (b1c : Nat) (R : Value → World → Prop) (w : World) : mfunc Try.prog [(0, [4, 10], [(2, (.one .slice)), (11, (.one (.int .i64)))])] 13 [.slice b1a b1n b1c] R w = vRead.M b1a b1n b1c R w := by kernel_rfl
theorem vRead.ok (b1a : Option Addr) (b1n : Nat) (b1c : Nat) {R : Value → World → Prop} {w : World} (h : vRead.M b1a b1n b1c R w) : Calls Try.prog 13 #[.slice b1a b1n b1c] w fun e w' => ∃ v, e = .returned v ∧ R v w' :=
  mfunc_ok follows (H := [(0, [4, 10], [(2, (.one .slice)), (11, (.one (.int .i64)))])]) (args := [.slice b1a b1n b1c]) (by rw [vRead.eq]; exact h)

/-- cachetteref05.Same -/
def rSame5.M (a1a : Option Addr) (a1n : Nat) (a1c : Nat) (b2a : Option Addr) (b2n : Nat) (b2c : Nat) (R : Value → World → Prop) (w : World) : Prop :=
  bif (a1n : Int) != (b2n : Int) then (
  R (.bool false) w) else (
  ∃ (I0 : Nat → List Value → World → Prop) (m4 : Nat), I0 m4 [.int .i64 0] w ∧ ∀ (m5 : Nat) (ww6 : World) (i3 : Int), I0 m5 [.int .i64 i3] ww6 →
  bif decide (i3 < (a1n : Int)) then (
  thenW (ww6.drew) fun ww7 =>
  a1a.elim False fun a8 =>
  0 ≤ (i3 : Int) ∧ (i3 : Int) < (a1n : Int) ∧
  ∃ (xWriter9 : Int) (xLen10 : Int) (xSum11 : Int), cellsAt ww7 (a8.add (Int.toNat i3 * 3)) [.int .i64 xWriter9, .int .i64 xLen10, .int .u64 xSum11] 0 ∧
  b2a.elim False fun a12 =>
  0 ≤ (i3 : Int) ∧ (i3 : Int) < (b2n : Int) ∧
  ∃ (xWriter13 : Int) (xLen14 : Int) (xSum15 : Int), cellsAt ww7 (a12.add (Int.toNat i3 * 3)) [.int .i64 xWriter13, .int .i64 xLen14, .int .u64 xSum15] 0 ∧
  ∃ (b16 : Bool), (binOp .neq 44 (.agg #[.int .i64 xWriter9, .int .i64 xLen10, .int .u64 xSum11]) (.agg #[.int .i64 xWriter13, .int .i64 xLen14, .int .u64 xSum15])).run Try.prog ww7 = .ok (.bool b16) ww7 ∧
  bif b16 then (
  R (.bool false) ww7) else (
  ∃ m17, m17 < m5 ∧ I0 m17 [.int .i64 (IntKind.i64.wrap (i3 + 1))] ww7)) else (
  R (.bool true) ww6))

theorem rSame5.eq (a1a : Option Addr) (a1n : Nat) (a1c : Nat) (b2a : Option Addr) (b2n : Nat) (b2c : Nat) (R : Value → World → Prop) (w : World) : mfunc Try.prog [(0, [0, 1], [(5, (.one (.int .i64)))])] 16 [.slice a1a a1n a1c, .slice b2a b2n b2c] R w = rSame5.M a1a a1n a1c b2a b2n b2c R w := by kernel_rfl
theorem rSame5.ok (a1a : Option Addr) (a1n : Nat) (a1c : Nat) (b2a : Option Addr) (b2n : Nat) (b2c : Nat) {R : Value → World → Prop} {w : World} (h : rSame5.M a1a a1n a1c b2a b2n b2c R w) : Calls Try.prog 16 #[.slice a1a a1n a1c, .slice b2a b2n b2c] w fun e w' => ∃ v, e = .returned v ∧ R v w' :=
  mfunc_ok follows (H := [(0, [0, 1], [(5, (.one (.int .i64)))])]) (args := [.slice a1a a1n a1c, .slice b2a b2n b2c]) (by rw [rSame5.eq]; exact h)

/-- cachetteref01.Same -/
def wSame.M (a1a : Option Addr) (a1n : Nat) (a1c : Nat) (b2a : Option Addr) (b2n : Nat) (b2c : Nat) (R : Value → World → Prop) (w : World) : Prop :=
  bif (a1n : Int) != (b2n : Int) then (
  R (.bool false) w) else (
  ∃ (I0 : Nat → List Value → World → Prop) (m4 : Nat), I0 m4 [.int .i64 0] w ∧ ∀ (m5 : Nat) (ww6 : World) (i3 : Int), I0 m5 [.int .i64 i3] ww6 →
  bif decide (i3 < (a1n : Int)) then (
  thenW (ww6.drew) fun ww7 =>
  a1a.elim False fun a8 =>
  0 ≤ (i3 : Int) ∧ (i3 : Int) < (a1n : Int) ∧
  ∃ (x9 : Int), ww7.cell? (a8.add (Int.toNat i3 * 1)) = some (.int .u8 x9) ∧
  b2a.elim False fun a10 =>
  0 ≤ (i3 : Int) ∧ (i3 : Int) < (b2n : Int) ∧
  ∃ (x11 : Int), ww7.cell? (a10.add (Int.toNat i3 * 1)) = some (.int .u8 x11) ∧
  bif x9 != x11 then (
  R (.bool false) ww7) else (
  ∃ m12, m12 < m5 ∧ I0 m12 [.int .i64 (IntKind.i64.wrap (i3 + 1))] ww7)) else (
  R (.bool true) ww6))

theorem wSame.eq (a1a : Option Addr) (a1n : Nat) (a1c : Nat) (b2a : Option Addr) (b2n : Nat) (b2c : Nat) (R : Value → World → Prop) (w : World) : mfunc Try.prog [(0, [0, 1], [(5, (.one (.int .i64)))])] 15 [.slice a1a a1n a1c, .slice b2a b2n b2c] R w = wSame.M a1a a1n a1c b2a b2n b2c R w := by kernel_rfl
theorem wSame.ok (a1a : Option Addr) (a1n : Nat) (a1c : Nat) (b2a : Option Addr) (b2n : Nat) (b2c : Nat) {R : Value → World → Prop} {w : World} (h : wSame.M a1a a1n a1c b2a b2n b2c R w) : Calls Try.prog 15 #[.slice a1a a1n a1c, .slice b2a b2n b2c] w fun e w' => ∃ v, e = .returned v ∧ R v w' :=
  mfunc_ok follows (H := [(0, [0, 1], [(5, (.one (.int .i64)))])]) (args := [.slice a1a a1n a1c, .slice b2a b2n b2c]) (by rw [wSame.eq]; exact h)


def hdL (h : Hd) : List UInt8 := numL h.1.toNat ++ (numL h.2.1.toNat ++ numL h.2.2.toNat)
def vecL (hs : List Hd) : List UInt8 := numL hs.length ++ hs.flatMap hdL
theorem numL_le (n : Nat) : (numL n).length ≤ 10 := numF_le 10 n
theorem hdL_le (h : Hd) : (hdL h).length ≤ 30 := by
  have := numL_le h.1.toNat; have := numL_le h.2.1.toNat; have := numL_le h.2.2.toNat
  simp only [hdL, List.length_append]; omega
theorem hdsL_le : ∀ hs : List Hd, (hs.flatMap hdL).length ≤ 30 * hs.length
  | [] => Nat.le_refl _
  | h :: r => by
    have := hdsL_le r; have := hdL_le h
    simp only [List.flatMap_cons, List.length_append, List.length_cons]; omega
/-- numbers that can be written. -/
def natH (h : Hd) : Prop := 0 ≤ h.1 ∧ h.1 < 18446744073709551616 ∧ 0 ≤ h.2.1 ∧ h.2.1 < 18446744073709551616 ∧ 0 ≤ h.2.2 ∧ h.2.2 < 18446744073709551616
theorem rhead_nat {h : Hd} (hr : rhead h = true) (hf : 0 ≤ h.2.2 ∧ h.2.2 < 18446744073709551616) : natH h := by
  simp only [rhead, Bool.and_eq_true, decide_eq_true_eq] at hr
  obtain ⟨a, b, c, d, _⟩ := hr
  exact ⟨a, by omega, by omega, by omega, hf.1, hf.2⟩
theorem rightF_head : ∀ {hs : List Hd} {p : Option Int}, rightF p hs = true → ∀ h ∈ hs, rhead h = true
  | [], _, _, h, hh => by simp at hh
  | a :: r, p, hr, h, hh => by
    simp only [rightF, Bool.and_eq_true] at hr
    rcases List.mem_cons.1 hh with rfl | hh
    · exact hr.1.1
    · exact rightF_head hr.2 h hh
theorem OwnB.mono {N M : Nat} {w : World} {a : Option Addr} {c : Nat} {bs : List UInt8} (h : OwnB N w a c bs) (hM : M ≤ N) : OwnB M w a c bs := ⟨h.own, fun ad ha => ⟨Nat.le_trans hM (h.fr ad ha).1, (h.fr ad ha).2⟩⟩

section
variable {w w' : World} {a : Option Addr} {c : Nat} {hs : List Hd}
theorem vBytes_spec (hr : RowAt w a (hsC hs)) (hl : hs.length ≤ 1000) (hn : rightV hs = true → ∀ h ∈ hs, natH h) :
    Calls Try.prog 11 #[.slice a hs.length c] w (fun e w' => Ext no w w' ∧ ((rightV hs = false ∧ e = .returned (.tuple #[.slice none 0 0, .int .i64 1])) ∨ (rightV hs = true ∧ ∃ a' c', e = .returned (.tuple #[.slice a' (vecL hs).length c', .int .i64 0]) ∧ OwnB w.heap.size w' a' c' (vecL hs)))) := by
  refine (vBytes.ok _ _ _ (R := fun v w' => Ext no w w' ∧ ((rightV hs = false ∧ v = .tuple #[.slice none 0 0, .int .i64 1]) ∨ (rightV hs = true ∧ ∃ a' c', v = .tuple #[.slice a' (vecL hs).length c', .int .i64 0] ∧ OwnB w.heap.size w' a' c' (vecL hs)))) ?_).mono fun e w' ⟨v, he, hx, hv⟩ => ⟨hx, hv.imp (fun ⟨h1, h2⟩ => ⟨h1, by rw [he, h2]⟩) (fun ⟨h1, a', c', h2, h3⟩ => ⟨h1, a', c', by rw [he, h2], h3⟩)⟩
  unfold vBytes.M
  refine (Right_spec hr (by omega)).mono fun e w4 ⟨he, x4⟩ => ⟨_, he, ?_⟩
  by_cases hright : rightV hs = true
  · rw [hright, Bool.not_true, cond_false]
    have hnat := hn hright
    rw [wu64 (n := (hs.length : Int)) (by omega) (by omega)]
    refine (W.Num_spec (bs := []) (n := hs.length) (RowAt.nil _ none) (by decide) (by omega)).mono fun e w7 ⟨a7, c7, he, ho7, x7'⟩ => ⟨a7, _, c7, he, ?_⟩
    rw [List.nil_append] at ho7 ⊢
    have x7 := x4.trans x7'
    refine ⟨fun k vs w1 => ∃ (t : Nat) (a1 : Option Addr) (c1 : Nat), vs = [.slice a1 (numL hs.length ++ (hs.take t).flatMap hdL).length c1, .int .i64 t] ∧ k + t = hs.length ∧ OwnB w.heap.size w1 a1 c1 (numL hs.length ++ (hs.take t).flatMap hdL) ∧ Ext no w w1, hs.length,
      ⟨0, a7, c7, by simp, rfl, by simpa using OwnB.mono ho7 x4.size, x7⟩, ?_⟩
    rintro k w12 b0 n0 c0 i ⟨t, a1, c1, hvs, hk, ho, hx⟩
    simp only [List.cons.injEq, Value.int.injEq, Value.slice.injEq, true_and, and_true] at hvs
    obtain ⟨⟨rfl, rfl, rfl⟩, rfl⟩ := hvs
    cases k with
    | zero =>
      obtain rfl : t = hs.length := by omega
      rw [show decide ((hs.length : Int) < (hs.length : Int)) = false by simp, cond_false]
      rw [List.take_length] at ho ⊢
      exact ⟨hx, .inr ⟨rfl, _, _, rfl, ho⟩⟩
    | succ k =>
      have ht : t < hs.length := by omega
      rw [show decide ((t : Int) < (hs.length : Int)) = true by simp; omega, cond_true]
      have hr1 := hr.no hx
      obtain ⟨ad, rfl⟩ := hr1.addr (hsC_ne (by intro e; subst e; simp at ht))
      have hgi : hs[t]? = some hs[t] := List.getElem?_eq_getElem ht
      obtain ⟨m1, m2, m3, m4, m5, m6⟩ := hnat hs[t] (List.getElem_mem ht)
      refine ⟨by omega, by omega, _, _, _, by rw [Int.toNat_natCast]; exact hs_at hr1 hgi, thenW_in fun w17 h17 => ?_⟩
      have hb17 : Blk w17 w12.heap.size 44 [.int .i64 0, .int .i64 0, .int .u64 0] := by subst h17; exact Blk.new _ _ _
      have x17 : Ext no w12 w17 := by subst h17; exact (Ext.refl _ _).alloc _
      refine ⟨hb17.cana (i := 0) rfl, thenW_in fun w18 h18 => ?_⟩
      have hb18 := hb17.seta 0 (.int .i64 hs[t].1)
      rw [← h18] at hb18
      have x18 : Ext no w12 w18 := by subst h18; exact x17.setCell (.inr (by rw [add_zero]; exact Nat.le_refl _)) _
      refine ⟨hb18.cana (i := 1) rfl, thenW_in fun w19 h19 => ?_⟩
      have hb19 := hb18.seta 1 (.int .i64 hs[t].2.1)
      rw [← h19] at hb19
      have x19 : Ext no w12 w19 := by subst h19; exact x18.setCell (.inr (by rw [add_blk]; exact Nat.le_refl _)) _
      refine ⟨hb19.cana (i := 2) rfl, thenW_in fun w20 h20 => ?_⟩
      have hb20 := hb19.seta 2 (.int .u64 hs[t].2.2)
      rw [← h20] at hb20
      have x20 : Ext no w12 w20 := by subst h20; exact x19.setCell (.inr (by rw [add_blk]; exact Nat.le_refl _)) _
      refine ⟨_, hb20.cella (i := 0) rfl, _, hb20.cella (i := 1) rfl, _, hb20.cella (i := 2) rfl, ?_⟩
      -- the three numbers
      have hlen : (numL hs.length ++ (hs.take t).flatMap hdL).length ≤ 10 + 30 * 1000 := by
        have h1 := numL_le hs.length
        have h2 := hdsL_le (hs.take t)
        rw [List.length_take] at h2
        rw [List.length_append]; omega
      have n1 := numL_le hs[t].1.toNat; have n2 := numL_le hs[t].2.1.toNat; have n3 := numL_le hs[t].2.2.toNat
      rw [wu64 m1 m2, wu64 m3 m4]
      generalize hbase : numL hs.length ++ (hs.take t).flatMap hdL = base at *
      have part : ∀ j : Nat, j ≤ 3 → ((([numL hs[t].1.toNat, numL hs[t].2.1.toNat, numL hs[t].2.2.toNat] : List (List UInt8)).take j).flatten).length ≤ 30 := fun j hj => by
        match j, hj with
        | 0, _ => simp
        | 1, _ => simp; omega
        | 2, _ => simp; omega
        | 3, _ => simp; omega
      refine ⟨fun k2 vs w1 => ∃ (j : Nat) (a2 : Option Addr) (c2 : Nat), vs = [.slice a2 (base ++ (([numL hs[t].1.toNat, numL hs[t].2.1.toNat, numL hs[t].2.2.toNat] : List (List UInt8)).take j).flatten).length c2, .int .i64 j] ∧ k2 + j = 3 ∧ OwnB w.heap.size w1 a2 c2 (base ++ (([numL hs[t].1.toNat, numL hs[t].2.1.toNat, numL hs[t].2.2.toNat] : List (List UInt8)).take j).flatten) ∧ Ext no w w1, 3,
        ⟨0, b0, c0, by simp, rfl, by simpa using ho.no x20, hx.trans x20⟩, ?_⟩
      rintro k2 w28 b2 l2 c2 i2 ⟨j, a2', c2', hvs, hk2, ho2, hx2⟩
      simp only [List.cons.injEq, Value.int.injEq, Value.slice.injEq, true_and, and_true] at hvs
      obtain ⟨⟨rfl, rfl, rfl⟩, rfl⟩ := hvs
      cases k2 with
      | zero =>
        obtain rfl : j = 3 := by omega
        rw [show decide (((3 : Nat) : Int) < 3) = false from rfl, cond_false]
        have hnx : base ++ (([numL hs[t].1.toNat, numL hs[t].2.1.toNat, numL hs[t].2.2.toNat] : List (List UInt8)).take 3).flatten = numL hs.length ++ (hs.take (t + 1)).flatMap hdL := by
          rw [← hbase, List.take_add_one (l := hs) (i := t), hgi, Option.toList_some, List.flatMap_append]
          show (numL hs.length ++ (hs.take t).flatMap hdL) ++ (numL hs[t].1.toNat ++ (numL hs[t].2.1.toNat ++ (numL hs[t].2.2.toNat ++ []))) = numL hs.length ++ ((hs.take t).flatMap hdL ++ (hdL hs[t] ++ []))
          simp only [hdL, List.append_nil, List.append_assoc]
        rw [hnx] at ho2 ⊢
        exact ⟨k, by omega, t + 1, _, _, by rw [w64 (by omega) (by omega)]; rfl, by omega, ho2, hx2⟩
      | succ k2 =>
        have hj : j < 3 := by omega
        rw [show decide ((j : Int) < 3) = true by simp; omega, cond_true]
        refine ⟨by omega, by omega, ?_⟩
        rw [Int.toNat_natCast, Nat.mul_one]
        have hp := part j (by omega)
        -- one number more
        have step : ∀ (n : Nat), n < 18446744073709551616 → (([numL hs[t].1.toNat, numL hs[t].2.1.toNat, numL hs[t].2.2.toNat] : List (List UInt8))[j]? = some (numL n)) → ∀ x : Int, x = (n : Int) →
            Calls Try.prog 22 #[.slice b2 (base ++ (([numL hs[t].1.toNat, numL hs[t].2.1.toNat, numL hs[t].2.2.toNat] : List (List UInt8)).take j).flatten).length c2, .int .u64 x] w28 (fun ee31 ww32 => ∃ (num30a : Option Addr) (num30n : Nat) (num30c : Nat), ee31 = .returned (.slice num30a num30n num30c) ∧
              ∃ m33, m33 < k2 + 1 ∧ ∃ (j' : Nat) (a2 : Option Addr) (c2 : Nat), [Value.slice num30a num30n num30c, .int .i64 (IntKind.i64.wrap ((j : Int) + 1))] = [.slice a2 (base ++ (([numL hs[t].1.toNat, numL hs[t].2.1.toNat, numL hs[t].2.2.toNat] : List (List UInt8)).take j').flatten).length c2, .int .i64 j'] ∧ m33 + j' = 3 ∧ OwnB w.heap.size ww32 a2 c2 (base ++ (([numL hs[t].1.toNat, numL hs[t].2.1.toNat, numL hs[t].2.2.toNat] : List (List UInt8)).take j').flatten) ∧ Ext no w ww32) := fun n hn64 hj2 x hx' => by
          subst hx'
          refine (W.Num_spec (c := c2) ho2.row (by rw [List.length_append]; omega) hn64).mono fun e w32 ⟨a3, c3, he, ho3, x3⟩ => ⟨a3, _, c3, he, k2, by omega, j + 1, a3, c3, ?_, by omega, ?_, hx2.trans x3⟩
          · rw [w64 (by omega) (by omega), List.take_add_one, hj2]
            simp [List.append_assoc]
          · rw [List.take_add_one, hj2]
            have := OwnB.mono ho3 hx2.size
            simpa [List.append_assoc] using this
        rcases (by omega : j = 0 ∨ j = 1 ∨ j = 2) with rfl | rfl | rfl
        · exact step hs[t].1.toNat (by omega) rfl hs[t].1 (by omega)
        · exact step hs[t].2.1.toNat (by omega) rfl hs[t].2.1 (by omega)
        · exact step hs[t].2.2.toNat (by omega) rfl hs[t].2.2 (by omega)
  · rw [show rightV hs = false by simpa using hright, Bool.not_false, cond_true]
    exact ⟨x4, .inl ⟨rfl, rfl⟩⟩

/-! ### reading -/
def readF : Nat → List Hd → List UInt8 × Int → List Hd × (List UInt8 × Int)
  | 0, hs, s => (hs, s)
  | n + 1, hs, s =>
    readF n (hs ++ [(((countR 7 s).1 : Int), (((countR 200 (countR 7 s).2).1 : Int), ((numR (countR 200 (countR 7 s).2).2).1 : Int)))]) (numR (countR 200 (countR 7 s).2).2).2
def readAll (b : List UInt8) : List Hd × (List UInt8 × Int) := readF (countR 8 (b, 0)).1 [] (countR 8 (b, 0)).2
def readV (b : List UInt8) : List Hd × Int :=
  if doneR (readAll b).2 ≠ 0 then ([], doneR (readAll b).2) else if rightV (readAll b).1 then ((readAll b).1, 0) else ([], 4)

/-- heads in a row of one's own. -/
structure OwnH (N : Nat) (w : World) (a : Option Addr) (c : Nat) (hs : List Hd) : Prop where
  own : w.ownsRow 0 44 3 (.slice a hs.length c) hs.length (hsC hs)
  fr : ∀ ad, a = some ad → N ≤ ad.block ∧ ad.block < w.heap.size
theorem OwnH.row {N : Nat} (h : OwnH N w a c hs) : RowAt w a (hsC hs) := by
  obtain ⟨_, _, hv, hr⟩ := RowAt.of_owns h.own
  cases hv; exact hr
theorem OwnH.ext {N : Nat} {m : Nat → Prop} (h : OwnH N w a c hs) (k : Ext m w w') (hm : ∀ ad, a = some ad → ¬ m ad.block) : OwnH N w' a c hs :=
  ⟨owns_ext h.own k fun q hq => by
    cases a with
    | none => simp [Value.ownBlock] at hq
    | some ad => simp only [Value.ownBlock, Option.some.injEq] at hq; subst hq; exact hm ad rfl, fun ad ha => ⟨(h.fr ad ha).1, Nat.lt_of_lt_of_le (h.fr ad ha).2 k.size⟩⟩
theorem OwnH.push {N : Nat} {ty : TypeId} (hty : Try.prog.underlying ty = some (.slice 44)) (h : OwnH N w a c hs) (hN : N ≤ w.heap.size) (hl : hs.length ≤ 1000000) {xa : Option Addr} {x : Hd} (hx : RowAt w xa (hdC x)) :
    ∃ a' c' w', (Builtin.append_ #[ty, ty] ty #[.slice a hs.length c, .slice xa 1 1]).run Try.prog w = .ok (.slice a' (hs.length + 1) c') w' ∧ OwnH N w' a' c' (hs ++ [x]) ∧ Ext (fun b => N ≤ b ∧ ∀ ad, a = some ad → b = ad.block ∨ w.heap.size ≤ b) w w' ∧ (∀ ad, a' = some ad → (∃ b, a = some b ∧ ad.block = b.block) ∨ w.heap.size ≤ ad.block) := by
  obtain ⟨i, hi, hz, hs', hby⟩ := info_of infHead
  obtain ⟨a', c', w2, hr, ho, hg, hb⟩ := run_append (ty := ty) hty hi hz hs' hby rfl (by decide) h.own (xa := xa) (m := 1) (c := 1) rfl hx (fun u hu => by
    simp only [hdC, List.mem_cons, List.not_mem_nil, or_false] at hu
    rcases hu with rfl | rfl | rfl <;> rfl) (by omega) (by omega)
  have hrow : ∀ q, (Value.slice a hs.length c).ownBlock = some q → N ≤ q ∧ ∀ ad, a = some ad → q = ad.block := fun q hq => by
    cases a with
    | none => simp [Value.ownBlock] at hq
    | some ad => simp only [Value.ownBlock, Option.some.injEq] at hq; subst hq; exact ⟨(h.fr ad rfl).1, fun ad' ha' => by cases ha'; rfl⟩
  refine ⟨a', c', w2, hr, ⟨?_, fun ad ha => ⟨?_, (own_fresh ho).2 ad ha⟩⟩, Ext.of_grown hg fun q hq => .inl ⟨(hrow q hq).1, fun ad ha => .inl ((hrow q hq).2 ad ha)⟩, fun ad ha => ?_⟩
  · rw [List.length_append, show hsC (hs ++ [x]) = hsC hs ++ hdC x by simp [hsC]]; exact ho
  · subst ha
    rcases hb with hq | hq
    · exact (hrow _ hq.symm).1
    · simp only [Value.ownBlock, Option.some.injEq] at hq; omega
  · subst ha
    rcases hb with hq | hq
    · cases a with
      | none => simp [Value.ownBlock] at hq
      | some b => exact .inl ⟨b, rfl, by simpa [Value.ownBlock] using hq⟩
    · simp only [Value.ownBlock, Option.some.injEq] at hq; exact .inr (by omega)
end
end Go.Proofs.Ytifplncikohlpaa
