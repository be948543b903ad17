/- The reference's oracle: what is sealed, and wrapped. -/
import Derived.Test.YtgagmbmkpfjbbaaRefC
import Derived.Test.YtgagmbmkpfjbbaaOraG
import Derived.Test.YtgagmbmkpfjbbaaMxU
set_option linter.unusedVariables false
set_option linter.unusedSimpArgs false
set_option maxRecDepth 20000
set_option maxHeartbeats 2000000
namespace Go.Proofs.Ytgagmbmkpfjbbaa
open Go Go.Mx Go.Proofs
open W (OwnB)
/-- cachetteref03.eight -/
def cachetteref03_eight.M (n1 : Int) (R : Value → World → Prop) (w : World) : Prop :=
  ∃ (I0 : Nat → List Value → World → Prop) (m5 : Nat), I0 m5 [.int .u64 n1, .slice none 0 0, .int .i64 0] w ∧ ∀ (m6 : Nat) (ww7 : World) (n2 : Int) (b3a : Option Addr) (b3n : Nat) (b3c : Nat) (i4 : Int), I0 m6 [.int .u64 n2, .slice b3a b3n b3c, .int .i64 i4] ww7 →
  bif decide (i4 < 8) then (
  256 ≠ (0 : Int) ∧ thenW (ww7.alloc (.cells #[.int .u8 (IntKind.u8.wrap (Int.tmod n2 256))] 5)) fun ww8 =>
  ∃ (a9a : Option Addr) (a9n : Nat) (a9c : Nat) (ww10 : World), (Builtin.append_ #[23, 23] 23 #[.slice (some (blk ww7.heap.size)) 1 1, .slice b3a b3n b3c]).run Try.prog ww8 = .ok (.slice a9a a9n a9c) ww10 ∧
  256 ≠ (0 : Int) ∧ ∃ m11, m11 < m6 ∧ I0 m11 [.int .u64 (IntKind.u64.wrap (Int.tdiv n2 256)), .slice a9a a9n a9c, .int .i64 (IntKind.i64.wrap (i4 + 1))] ww10) else (
  R (.slice b3a b3n b3c) ww7)

theorem cachetteref03_eight.eq (n1 : Int) (R : Value → World → Prop) (w : World) : mfunc Try.prog [(0, [], [(0, (.one (.int .u64))), (3, (.one .slice)), (4, (.one (.int .i64)))])] 43 [.int .u64 n1] R w = cachetteref03_eight.M n1 R w := by kernel_rfl
theorem cachetteref03_eight.ok (n1 : Int) {R : Value → World → Prop} {w : World} (h : cachetteref03_eight.M n1 R w) : Calls Try.prog 43 #[.int .u64 n1] w fun e w' => ∃ v, e = .returned v ∧ R v w' :=
  mfunc_ok follows (H := [(0, [], [(0, (.one (.int .u64))), (3, (.one .slice)), (4, (.one (.int .i64)))])]) (args := [.int .u64 n1]) (by rw [cachetteref03_eight.eq]; exact h)

def cachetteref03_eight.N (n1 : Int) (R : Value → World → Prop) (w : World) : Prop :=
  ∃ (I0 : Nat → List Value → World → Prop) (m5 : Nat), I0 m5 [.int .u64 n1, .slice none 0 0, .int .i64 0] w ∧ ∀ (m6 : Nat) (ww7 : World) (n2 : Int) (b3a : Option Addr) (b3n : Nat) (b3c : Nat) (i4 : Int), I0 m6 [.int .u64 n2, .slice b3a b3n b3c, .int .i64 i4] ww7 →
  (i4 < 8 →
    ∀ (ww9 : World) (q10 : Nat), Ext no ww7 ww9 → Blk ww9 q10 5 [.int .u8 (IntKind.u8.wrap (Int.tmod n2 256))] → ww7.heap.size ≤ q10 → q10 < ww9.heap.size →
    ∃ (a11a : Option Addr) (a11n : Nat) (a11c : Nat) (ww12 : World), (Builtin.append_ #[23, 23] 23 #[.slice (some (blk q10)) 1 1, .slice b3a b3n b3c]).run Try.prog ww9 = .ok (.slice a11a a11n a11c) ww12 ∧
    (-9223372036854775808 : Int) ≤ (i4 + 1) ∧ (i4 + 1) < 9223372036854775808 ∧
    ∃ m13, m13 < m6 ∧ I0 m13 [.int .u64 (IntKind.u64.wrap (Int.tdiv n2 256)), .slice a11a a11n a11c, .int .i64 (i4 + 1)] ww12) ∧
  ((8 : Int) ≤ i4 →
    R (.slice b3a b3n b3c) ww7)

theorem cachetteref03_eight.up (n1 : Int) {R : Value → World → Prop} {w : World} (h : cachetteref03_eight.N n1 R w) : cachetteref03_eight.M n1 R w := by
  unfold cachetteref03_eight.M
  unfold cachetteref03_eight.N at h
  obtain ⟨I0, m5, h0, h⟩ := h
  refine ⟨I0, m5, h0, fun m6 ww7 n2 b3a b3n b3c i4 hI => ?_⟩
  have h := h m6 ww7 n2 b3a b3n b3c i4 hI
  refine bif_of (fun c8 => ?_) (fun c8 => ?_)
  · have h := h.1 (of_decide_eq_true c8)
    refine ⟨by decide, ?_⟩
    refine thenW_in fun ww9 e9 => ?_
    have h := h ww9 ww7.heap.size ((Ext.refl no ww7).x_alloc e9) (Blk.of_new e9) ((Ext.refl no ww7)).size (size_lt_alloc e9)
    obtain ⟨a11a, a11n, a11c, ww12, hr, h⟩ := h
    refine ⟨a11a, a11n, a11c, ww12, hr, ?_⟩
    refine ⟨by decide, ?_⟩
    obtain ⟨hw1, hw2, h⟩ := h
    try rw [w64 hw1 hw2]
    obtain ⟨m13, hk, h⟩ := h
    exact ⟨m13, hk, h⟩
  · have h := h.2 (Int.not_lt.1 (of_decide_eq_false c8))
    exact h

theorem cachetteref03_eight.go (n1 : Int) {R : Value → World → Prop} {w : World} (h : cachetteref03_eight.N n1 R w) : Calls Try.prog 43 #[.int .u64 n1] w fun e w' => ∃ v, e = .returned v ∧ R v w' := cachetteref03_eight.ok n1 (cachetteref03_eight.up n1 h)
theorem cachetteref03_eight.run (n1 : Int) {V : Value} {Q : World → Prop} {w : World} (h : cachetteref03_eight.N n1 (fun v w' => v = V ∧ Q w') w) : Calls Try.prog 43 #[.int .u64 n1] w (Ret V Q) := (cachetteref03_eight.go n1 h).mono fun e w' ⟨v, he, hv, hq⟩ => ⟨by rw [he, hv], hq⟩

/-- cachetteref03.handle -/
def cachetteref03_handle.M (b1a : Option Addr) (b1n : Nat) (b1c : Nat) (R : Value → World → Prop) (w : World) : Prop :=
  bif decide ((b1n : Int) < 8) then (
  R (.int .u64 0) w) else (
  ∃ (I0 : Nat → List Value → World → Prop) (m4 : Nat), I0 m4 [.int .u64 0, .int .i64 0] w ∧ ∀ (m5 : Nat) (ww6 : World) (n2 : Int) (i3 : Int), I0 m5 [.int .u64 n2, .int .i64 i3] ww6 →
  bif decide (i3 < 8) then (
  b1a.elim False fun a7 =>
  0 ≤ (i3 : Int) ∧ (i3 : Int) < (b1n : Int) ∧
  ∃ (x8 : Int), ww6.cell? (a7.add (Int.toNat i3 * 1)) = some (.int .u8 x8) ∧
  ∃ m9, m9 < m5 ∧ I0 m9 [.int .u64 (IntKind.u64.wrap ((IntKind.u64.wrap (n2 * 256)) + (IntKind.u64.wrap x8))), .int .i64 (IntKind.i64.wrap (i3 + 1))] ww6) else (
  ∃ (I2 : Nat → List Value → World → Prop) (m11 : Nat), I2 m11 [.int .i64 8] ww6 ∧ ∀ (m12 : Nat) (ww13 : World) (i10 : Int), I2 m12 [.int .i64 i10] ww13 →
  bif decide (i10 < (b1n : Int)) then (
  b1a.elim False fun a14 =>
  0 ≤ (i10 : Int) ∧ (i10 : Int) < (b1n : Int) ∧
  ∃ (x15 : Int), ww13.cell? (a14.add (Int.toNat i10 * 1)) = some (.int .u8 x15) ∧
  bif x15 != 0 then (
  R (.int .u64 0) ww13) else (
  ∃ m16, m16 < m12 ∧ I2 m16 [.int .i64 (IntKind.i64.wrap (i10 + 1))] ww13)) else (
  R (.int .u64 n2) ww13)))

theorem cachetteref03_handle.eq (b1a : Option Addr) (b1n : Nat) (b1c : Nat) (R : Value → World → Prop) (w : World) : mfunc Try.prog [(0, [0], [(3, (.one (.int .u64))), (4, (.one (.int .i64)))]), (2, [0, 3], [(5, (.one (.int .i64)))])] 47 [.slice b1a b1n b1c] R w = cachetteref03_handle.M b1a b1n b1c R w := by kernel_rfl
theorem cachetteref03_handle.ok (b1a : Option Addr) (b1n : Nat) (b1c : Nat) {R : Value → World → Prop} {w : World} (h : cachetteref03_handle.M b1a b1n b1c R w) : Calls Try.prog 47 #[.slice b1a b1n b1c] w fun e w' => ∃ v, e = .returned v ∧ R v w' :=
  mfunc_ok follows (H := [(0, [0], [(3, (.one (.int .u64))), (4, (.one (.int .i64)))]), (2, [0, 3], [(5, (.one (.int .i64)))])]) (args := [.slice b1a b1n b1c]) (by rw [cachetteref03_handle.eq]; exact h)

def cachetteref03_handle.N (b1a : Option Addr) (b1n : Nat) (b1c : Nat) (R : Value → World → Prop) (w : World) : Prop :=
  ((b1n : Int) < 8 →
    R (.int .u64 0) w) ∧
  ((8 : Int) ≤ (b1n : Int) →
    ∃ (I0 : Nat → List Value → World → Prop) (m5 : Nat), I0 m5 [.int .u64 0, .int .i64 0] w ∧ ∀ (m6 : Nat) (ww7 : World) (n3 : Int) (i4 : Int), I0 m6 [.int .u64 n3, .int .i64 i4] ww7 →
    (i4 < 8 →
      ∃ a9 : Addr, b1a = some a9 ∧
      0 ≤ (i4 : Int) ∧ (i4 : Int) < (b1n : Int) ∧
      ∃ (x11 : Int), ww7.cell? (a9.add (Int.toNat i4 * 1)) = some (.int .u8 x11) ∧
      (-9223372036854775808 : Int) ≤ (i4 + 1) ∧ (i4 + 1) < 9223372036854775808 ∧
      ∃ m12, m12 < m6 ∧ I0 m12 [.int .u64 (IntKind.u64.wrap ((IntKind.u64.wrap (n3 * 256)) + (IntKind.u64.wrap x11))), .int .i64 (i4 + 1)] ww7) ∧
    ((8 : Int) ≤ i4 →
      ∃ (I2 : Nat → List Value → World → Prop) (m14 : Nat), I2 m14 [.int .i64 8] ww7 ∧ ∀ (m15 : Nat) (ww16 : World) (i13 : Int), I2 m15 [.int .i64 i13] ww16 →
      (i13 < (b1n : Int) →
        ∃ a18 : Addr, b1a = some a18 ∧
        0 ≤ (i13 : Int) ∧ (i13 : Int) < (b1n : Int) ∧
        ∃ (x20 : Int), ww16.cell? (a18.add (Int.toNat i13 * 1)) = some (.int .u8 x20) ∧
        (x20 ≠ 0 →
          R (.int .u64 0) ww16) ∧
        (x20 = 0 →
          (-9223372036854775808 : Int) ≤ (i13 + 1) ∧ (i13 + 1) < 9223372036854775808 ∧
          ∃ m22, m22 < m15 ∧ I2 m22 [.int .i64 (i13 + 1)] ww16)) ∧
      ((b1n : Int) ≤ i13 →
        R (.int .u64 n3) ww16)))

theorem cachetteref03_handle.up (b1a : Option Addr) (b1n : Nat) (b1c : Nat) {R : Value → World → Prop} {w : World} (h : cachetteref03_handle.N b1a b1n b1c R w) : cachetteref03_handle.M b1a b1n b1c R w := by
  unfold cachetteref03_handle.M
  unfold cachetteref03_handle.N at h
  refine bif_of (fun c2 => ?_) (fun c2 => ?_)
  · have h := h.1 (of_decide_eq_true c2)
    exact h
  · have h := h.2 (Int.not_lt.1 (of_decide_eq_false c2))
    obtain ⟨I0, m5, h0, h⟩ := h
    refine ⟨I0, m5, h0, fun m6 ww7 n3 i4 hI => ?_⟩
    have h := h m6 ww7 n3 i4 hI
    refine bif_of (fun c8 => ?_) (fun c8 => ?_)
    · have h := h.1 (of_decide_eq_true c8)
      obtain ⟨a9, ha9, h⟩ := h
      refine elim_some ha9 ?_
      obtain ⟨hq1, hq2, h⟩ := h
      refine ⟨hq1, hq2, ?_⟩
      obtain ⟨x11, hc10, h⟩ := h
      refine ⟨x11, hc10, ?_⟩
      obtain ⟨hw1, hw2, h⟩ := h
      try rw [w64 hw1 hw2]
      obtain ⟨m12, hk, h⟩ := h
      exact ⟨m12, hk, h⟩
    · have h := h.2 (Int.not_lt.1 (of_decide_eq_false c8))
      obtain ⟨I2, m14, h0, h⟩ := h
      refine ⟨I2, m14, h0, fun m15 ww16 i13 hI => ?_⟩
      have h := h m15 ww16 i13 hI
      refine bif_of (fun c17 => ?_) (fun c17 => ?_)
      · have h := h.1 (of_decide_eq_true c17)
        obtain ⟨a18, ha18, h⟩ := h
        refine elim_some ha18 ?_
        obtain ⟨hq1, hq2, h⟩ := h
        refine ⟨hq1, hq2, ?_⟩
        obtain ⟨x20, hc19, h⟩ := h
        refine ⟨x20, hc19, ?_⟩
        refine bif_of (fun c21 => ?_) (fun c21 => ?_)
        · have h := h.1 (bne_t c21)
          exact h
        · have h := h.2 (bne_f c21)
          obtain ⟨hw1, hw2, h⟩ := h
          try rw [w64 hw1 hw2]
          obtain ⟨m22, hk, h⟩ := h
          exact ⟨m22, hk, h⟩
      · have h := h.2 (Int.not_lt.1 (of_decide_eq_false c17))
        exact h

theorem cachetteref03_handle.go (b1a : Option Addr) (b1n : Nat) (b1c : Nat) {R : Value → World → Prop} {w : World} (h : cachetteref03_handle.N b1a b1n b1c R w) : Calls Try.prog 47 #[.slice b1a b1n b1c] w fun e w' => ∃ v, e = .returned v ∧ R v w' := cachetteref03_handle.ok b1a b1n b1c (cachetteref03_handle.up b1a b1n b1c h)
theorem cachetteref03_handle.run (b1a : Option Addr) (b1n : Nat) (b1c : Nat) {V : Value} {Q : World → Prop} {w : World} (h : cachetteref03_handle.N b1a b1n b1c (fun v w' => v = V ∧ Q w') w) : Calls Try.prog 47 #[.slice b1a b1n b1c] w (Ret V Q) := (cachetteref03_handle.go b1a b1n b1c h).mono fun e w' ⟨v, he, hv, hq⟩ => ⟨by rw [he, hv], hq⟩

/-- cachetteref02.Class -/
def cachetteref02_Class.M (n1 : Int) (R : Value → World → Prop) (w : World) : Prop :=
  bif decide (n1 < 0) then (
  R (.int .i64 (-1)) w) else (
  bif decide (n1 > 2000) then (
  R (.int .i64 (-1)) w) else (
  ∃ (I0 : Nat → List Value → World → Prop) (m3 : Nat), I0 m3 [.int .i64 0] w ∧ ∀ (m4 : Nat) (ww5 : World) (c2 : Int), I0 m4 [.int .i64 c2] ww5 →
  bif decide (c2 < 7) then (
  Calls Try.prog 51 #[.int .u64 (IntKind.u64.wrap n1)] ww5 fun ee7 ww8 => ∃ (num6a : Option Addr) (num6n : Nat) (num6c : Nat), ee7 = .returned (.slice num6a num6n num6c) ∧
  Calls Try.prog 44 #[.int .i64 c2] ww8 fun ee10 ww11 => ∃ (size9 : Int), ee10 = .returned (.int .i64 size9) ∧
  bif decide ((IntKind.i64.wrap ((num6n : Int) + n1)) ≤ size9) then (
  R (.int .i64 c2) ww11) else (
  ∃ m12, m12 < m4 ∧ I0 m12 [.int .i64 (IntKind.i64.wrap (c2 + 1))] ww11)) else (
  R (.int .i64 (-1)) ww5)))

theorem cachetteref02_Class.eq (n1 : Int) (R : Value → World → Prop) (w : World) : mfunc Try.prog [(0, [0], [(3, (.one (.int .i64)))])] 42 [.int .i64 n1] R w = cachetteref02_Class.M n1 R w := by kernel_rfl
theorem cachetteref02_Class.ok (n1 : Int) {R : Value → World → Prop} {w : World} (h : cachetteref02_Class.M n1 R w) : Calls Try.prog 42 #[.int .i64 n1] w fun e w' => ∃ v, e = .returned v ∧ R v w' :=
  mfunc_ok follows (H := [(0, [0], [(3, (.one (.int .i64)))])]) (args := [.int .i64 n1]) (by rw [cachetteref02_Class.eq]; exact h)

def cachetteref02_Class.N (n1 : Int) (R : Value → World → Prop) (w : World) : Prop :=
  (n1 < 0 →
    R (.int .i64 (-1)) w) ∧
  ((0 : Int) ≤ n1 →
    (n1 > 2000 →
      R (.int .i64 (-1)) w) ∧
    (n1 ≤ 2000 →
      ∃ (I0 : Nat → List Value → World → Prop) (m5 : Nat), I0 m5 [.int .i64 0] w ∧ ∀ (m6 : Nat) (ww7 : World) (c4 : Int), I0 m6 [.int .i64 c4] ww7 →
      (c4 < 7 →
        Calls Try.prog 51 #[.int .u64 (IntKind.u64.wrap n1)] ww7 fun ee10 ww11 => ∃ (num9a : Option Addr) (num9n : Nat) (num9c : Nat), ee10 = .returned (.slice num9a num9n num9c) ∧
        (-9223372036854775808 : Int) ≤ ((num9n : Int) + n1) ∧ ((num9n : Int) + n1) < 9223372036854775808 ∧
        Calls Try.prog 44 #[.int .i64 c4] ww11 fun ee13 ww14 => ∃ (size12 : Int), ee13 = .returned (.int .i64 size12) ∧
        (((num9n : Int) + n1) ≤ size12 →
          R (.int .i64 c4) ww14) ∧
        (size12 < ((num9n : Int) + n1) →
          (-9223372036854775808 : Int) ≤ (c4 + 1) ∧ (c4 + 1) < 9223372036854775808 ∧
          ∃ m16, m16 < m6 ∧ I0 m16 [.int .i64 (c4 + 1)] ww14)) ∧
      ((7 : Int) ≤ c4 →
        R (.int .i64 (-1)) ww7)))

theorem cachetteref02_Class.up (n1 : Int) {R : Value → World → Prop} {w : World} (h : cachetteref02_Class.N n1 R w) : cachetteref02_Class.M n1 R w := by
  unfold cachetteref02_Class.M
  unfold cachetteref02_Class.N at h
  refine bif_of (fun c2 => ?_) (fun c2 => ?_)
  · have h := h.1 (of_decide_eq_true c2)
    exact h
  · have h := h.2 (Int.not_lt.1 (of_decide_eq_false c2))
    refine bif_of (fun c3 => ?_) (fun c3 => ?_)
    · have h := h.1 (of_decide_eq_true c3)
      exact h
    · have h := h.2 (Int.not_lt.1 (of_decide_eq_false c3))
      obtain ⟨I0, m5, h0, h⟩ := h
      refine ⟨I0, m5, h0, fun m6 ww7 c4 hI => ?_⟩
      have h := h m6 ww7 c4 hI
      refine bif_of (fun c8 => ?_) (fun c8 => ?_)
      · have h := h.1 (of_decide_eq_true c8)
        refine h.mono fun ee10 ww11 h => ?_
        obtain ⟨num9a, num9n, num9c, he, h⟩ := h
        refine ⟨num9a, num9n, num9c, he, ?_⟩
        obtain ⟨hw1, hw2, h⟩ := h
        try rw [w64 hw1 hw2]
        refine h.mono fun ee13 ww14 h => ?_
        obtain ⟨size12, he, h⟩ := h
        refine ⟨size12, he, ?_⟩
        refine bif_of (fun c15 => ?_) (fun c15 => ?_)
        · have h := h.1 (of_decide_eq_true c15)
          exact h
        · have h := h.2 (Int.not_le.1 (of_decide_eq_false c15))
          obtain ⟨hw1, hw2, h⟩ := h
          try rw [w64 hw1 hw2]
          obtain ⟨m16, hk, h⟩ := h
          exact ⟨m16, hk, h⟩
      · have h := h.2 (Int.not_lt.1 (of_decide_eq_false c8))
        exact h

theorem cachetteref02_Class.go (n1 : Int) {R : Value → World → Prop} {w : World} (h : cachetteref02_Class.N n1 R w) : Calls Try.prog 42 #[.int .i64 n1] w fun e w' => ∃ v, e = .returned v ∧ R v w' := cachetteref02_Class.ok n1 (cachetteref02_Class.up n1 h)
theorem cachetteref02_Class.run (n1 : Int) {V : Value} {Q : World → Prop} {w : World} (h : cachetteref02_Class.N n1 (fun v w' => v = V ∧ Q w') w) : Calls Try.prog 42 #[.int .i64 n1] w (Ret V Q) := (cachetteref02_Class.go n1 h).mono fun e w' ⟨v, he, hv, hq⟩ => ⟨by rw [he, hv], hq⟩

/-- cachetteref02.Size -/
def cachetteref02_Size.M (c1 : Int) (R : Value → World → Prop) (w : World) : Prop :=
  thenW (w.alloc (.cells #[.int .i64 16, .int .i64 32, .int .i64 64, .int .i64 128, .int .i64 256, .int .i64 512, .int .i64 1024] 3)) fun ww2 =>
  bif decide (c1 < 0) then (
  R (.int .i64 0) ww2) else (
  bif decide (c1 ≥ (7 : Int)) then (
  R (.int .i64 0) ww2) else (
  0 ≤ (c1 : Int) ∧ (c1 : Int) < (7 : Int) ∧
  ∃ (x3 : Int), ww2.cell? ((blk w.heap.size).add (Int.toNat c1 * 1)) = some (.int .i64 x3) ∧
  R (.int .i64 x3) ww2))

theorem cachetteref02_Size.eq (c1 : Int) (R : Value → World → Prop) (w : World) : mfunc Try.prog [] 44 [.int .i64 c1] R w = cachetteref02_Size.M c1 R w := by kernel_rfl
theorem cachetteref02_Size.ok (c1 : Int) {R : Value → World → Prop} {w : World} (h : cachetteref02_Size.M c1 R w) : Calls Try.prog 44 #[.int .i64 c1] w fun e w' => ∃ v, e = .returned v ∧ R v w' :=
  mfunc_ok follows (H := []) (args := [.int .i64 c1]) (by rw [cachetteref02_Size.eq]; exact h)

def cachetteref02_Size.N (c1 : Int) (R : Value → World → Prop) (w : World) : Prop :=
  ∀ (ww2 : World) (q3 : Nat), Ext no w ww2 → Blk ww2 q3 3 [.int .i64 16, .int .i64 32, .int .i64 64, .int .i64 128, .int .i64 256, .int .i64 512, .int .i64 1024] → w.heap.size ≤ q3 → q3 < ww2.heap.size →
  (c1 < 0 →
    R (.int .i64 0) ww2) ∧
  ((0 : Int) ≤ c1 →
    (c1 ≥ (7 : Int) →
      R (.int .i64 0) ww2) ∧
    (c1 < (7 : Int) →
      0 ≤ (c1 : Int) ∧ (c1 : Int) < (7 : Int) ∧
      ∃ (x7 : Int), ww2.cell? ((blk q3).add (Int.toNat c1 * 1)) = some (.int .i64 x7) ∧
      R (.int .i64 x7) ww2))

theorem cachetteref02_Size.up (c1 : Int) {R : Value → World → Prop} {w : World} (h : cachetteref02_Size.N c1 R w) : cachetteref02_Size.M c1 R w := by
  unfold cachetteref02_Size.M
  unfold cachetteref02_Size.N at h
  refine thenW_in fun ww2 e2 => ?_
  have h := h ww2 w.heap.size ((Ext.refl no w).x_alloc e2) (Blk.of_new e2) ((Ext.refl no w)).size (size_lt_alloc e2)
  refine bif_of (fun c4 => ?_) (fun c4 => ?_)
  · have h := h.1 (of_decide_eq_true c4)
    exact h
  · have h := h.2 (Int.not_lt.1 (of_decide_eq_false c4))
    refine bif_of (fun c5 => ?_) (fun c5 => ?_)
    · have h := h.1 (of_decide_eq_true c5)
      exact h
    · have h := h.2 (Int.not_le.1 (of_decide_eq_false c5))
      obtain ⟨hq1, hq2, h⟩ := h
      refine ⟨hq1, hq2, ?_⟩
      obtain ⟨x7, hc6, h⟩ := h
      refine ⟨x7, hc6, ?_⟩
      exact h

theorem cachetteref02_Size.go (c1 : Int) {R : Value → World → Prop} {w : World} (h : cachetteref02_Size.N c1 R w) : Calls Try.prog 44 #[.int .i64 c1] w fun e w' => ∃ v, e = .returned v ∧ R v w' := cachetteref02_Size.ok c1 (cachetteref02_Size.up c1 h)
theorem cachetteref02_Size.run (c1 : Int) {V : Value} {Q : World → Prop} {w : World} (h : cachetteref02_Size.N c1 (fun v w' => v = V ∧ Q w') w) : Calls Try.prog 44 #[.int .i64 c1] w (Ret V Q) := (cachetteref02_Size.go c1 h).mono fun e w' ⟨v, he, hv, hq⟩ => ⟨by rw [he, hv], hq⟩

theorem OwnB.appendz {N : Nat} {w : World} {a : Option Addr} {c : Nat} {bs : List UInt8} (h : OwnB N w a c bs) (hN : N ≤ w.heap.size) {m : Nat} (hm : 0 < m) (hm2 : m ≤ 1000000) (hl : bs.length ≤ 1000000) :
    ∃ a' c' w', (Builtin.append_ #[23, 3] 23 #[.slice a bs.length c, .int .i64 m]).run Try.prog w = .ok (.slice a' (bs ++ List.replicate m 0).length c') w' ∧ OwnB N w' a' c' (bs ++ List.replicate m 0) ∧ Ext (fun b => N ≤ b) w w' := by
  obtain ⟨i, hi, hz, hs, hb⟩ := info_of W.infU8
  obtain ⟨a', c', w', hr, ho, hg, hbk⟩ := run_appendz (P := Try.prog) (ty := 23) (k := .i64) Try.underlying23 Try.underlying3 hi hz hs hb h.own hm hm2 hl
  have e : (bs ++ List.replicate m (0 : UInt8)).length = bs.length + m := by simp
  have e2 : bytesV (bs ++ List.replicate m 0) = bytesV bs ++ List.replicate m (.int .u8 0) := by simp [bytesV, u8V]
  refine ⟨a', c', w', by rw [e]; exact hr, ⟨by rw [e, e2]; exact ho, fun ad ha => ?_⟩, Ext.of_grown hg fun k hk => ?_⟩
  · refine ⟨?_, (own_fresh ho).2 ad ha⟩
    subst ha
    rcases hbk with hq | hq
    · cases a with
      | none => simp [Value.ownBlock] at hq
      | some ad' => simp only [Value.ownBlock, Option.some.injEq] at hq; rw [hq]; exact (h.fr ad' rfl).1
    · simp only [Value.ownBlock, Option.some.injEq] at hq; omega
  · cases a with
    | none => simp [Value.ownBlock] at hk
    | some ad' => simp only [Value.ownBlock, Option.some.injEq] at hk; subst hk; exact .inl (h.fr ad' rfl).1
theorem rSize_spec (c : Int) (w : World) : Calls Try.prog 44 #[.int .i64 c] w (Ret (.int .i64 (sizeN c)) fun w' => Ext no w w') := by
  refine cachetteref02_Size.run _ ?_
  unfold cachetteref02_Size.N
  intro w2 q3 X hb hq hq'
  refine ⟨fun h => ⟨by unfold sizeN; rw [if_neg (by omega)]; rfl, X⟩, fun h0 => ⟨fun h => ⟨by unfold sizeN; rw [if_neg (by omega)]; rfl, X⟩, fun h7 => ?_⟩⟩
  obtain ⟨t, rfl⟩ : ∃ t : Nat, c = t := ⟨c.toNat, by omega⟩
  have ht : t < 7 := by omega
  have hc : ([.int .i64 16, .int .i64 32, .int .i64 64, .int .i64 128, .int .i64 256, .int .i64 512, .int .i64 1024] : List Value)[t]? = some (.int .i64 (sizeN (t : Int))) :=
    seven (P := fun t => ([.int .i64 16, .int .i64 32, .int .i64 64, .int .i64 128, .int .i64 256, .int .i64 512, .int .i64 1024] : List Value)[t]? = some (.int .i64 (sizeN (t : Int)))) ht rfl rfl rfl rfl rfl rfl rfl
  exact ⟨by omega, by omega, _, by rw [Int.toNat_natCast, Nat.mul_one]; exact hb.cella hc, rfl, X⟩
theorem numL_len {n : Nat} (h : n ≤ 2000) : (numL n).length = if n < 128 then 1 else 2 := by
  unfold numL
  by_cases h1 : n < 128
  · rw [if_pos h1]; simp [numF, h1]
  · rw [if_neg h1]
    have h2 : n / 128 < 128 := by omega
    simp [numF, h1, h2]
theorem room_num {n t : Nat} (h : n ≤ 2000) (ht : t < 7) : (n : Int) ≤ roomN t ↔ (((numL n).length : Int) + n) ≤ sizeN (t : Int) := by
  rw [numL_len h]
  match t, ht with
  | 0, _ => rw [show roomN 0 = 15 from rfl, show sizeN ((0 : Nat) : Int) = 16 from rfl]; split <;> omega
  | 1, _ => rw [show roomN 1 = 31 from rfl, show sizeN ((1 : Nat) : Int) = 32 from rfl]; split <;> omega
  | 2, _ => rw [show roomN 2 = 63 from rfl, show sizeN ((2 : Nat) : Int) = 64 from rfl]; split <;> omega
  | 3, _ => rw [show roomN 3 = 127 from rfl, show sizeN ((3 : Nat) : Int) = 128 from rfl]; split <;> omega
  | 4, _ => rw [show roomN 4 = 254 from rfl, show sizeN ((4 : Nat) : Int) = 256 from rfl]; split <;> omega
  | 5, _ => rw [show roomN 5 = 510 from rfl, show sizeN ((5 : Nat) : Int) = 512 from rfl]; split <;> omega
  | 6, _ => rw [show roomN 6 = 1022 from rfl, show sizeN ((6 : Nat) : Int) = 1024 from rfl]; split <;> omega
theorem class_big {n : Nat} (h : ¬ n ≤ 2000) : classOf n = -1 := by
  unfold classOf
  simp only [classF, show roomN 0 = 15 from rfl, show roomN 1 = 31 from rfl, show roomN 2 = 63 from rfl, show roomN 3 = 127 from rfl, show roomN 4 = 254 from rfl, show roomN 5 = 510 from rfl, show roomN 6 = 1022 from rfl]
  rw [if_neg (by omega), if_neg (by omega), if_neg (by omega), if_neg (by omega), if_neg (by omega), if_neg (by omega), if_neg (by omega)]
theorem rClass_spec (n : Nat) (w : World) : Calls Try.prog 42 #[.int .i64 n] w (Ret (.int .i64 (classOf n)) fun w' => Ext no w w') := by
  refine cachetteref02_Class.run _ ?_
  unfold cachetteref02_Class.N
  refine ⟨fun h => absurd h (by omega), fun _ => ⟨fun h => ⟨by rw [class_big (by omega)], Ext.refl _ _⟩, fun h => ?_⟩⟩
  have hn : n ≤ 2000 := by omega
  refine ⟨fun k vs w1 => ∃ t : Nat, vs = [.int .i64 t] ∧ k + t = 7 ∧ classF n k t = classOf n ∧ Ext no w w1, 7, ⟨0, rfl, rfl, rfl, Ext.refl _ _⟩, ?_⟩
  rintro k w1 i ⟨t, hi, hk, hc, X1⟩
  simp only [List.cons.injEq, Value.int.injEq, true_and, and_true] at hi
  subst hi
  refine ⟨fun ht => ?_, fun ht => ?_⟩
  · have ht : t < 7 := by omega
    obtain ⟨k, rfl⟩ : ∃ k', k = k' + 1 := ⟨k - 1, by omega⟩
    rw [wu64 (by omega) (by omega)]
    refine (W.rNum_spec n w1 (by omega)).mono fun e w11 ⟨a', c', he, _, X11⟩ => ⟨_, _, _, he, ?_⟩
    have hl := numL_len hn
    have hl2 : (numL n).length ≤ 2 := by rw [hl]; split <;> omega
    refine ⟨by omega, by omega, ?_⟩
    refine (rSize_spec t w11).mono fun e w14 ⟨he, X14⟩ => ⟨_, he, fun hr => ?_, fun hr => ?_⟩
    · have := (room_num hn ht).2 hr
      simp only [classF] at hc
      rw [if_pos this] at hc
      exact ⟨by rw [← hc], (X1.trans X11).trans X14⟩
    · have : ¬ (n : Int) ≤ roomN t := fun h => by have := (room_num hn ht).1 h; omega
      simp only [classF] at hc
      rw [if_neg this] at hc
      exact ⟨by omega, by omega, k, by omega, t + 1, rfl, by omega, hc, (X1.trans X11).trans X14⟩
  · obtain rfl : t = 7 := by omega
    obtain rfl : k = 0 := by omega
    exact ⟨by rw [← hc]; rfl, X1⟩
def tailB (h t : Nat) : List UInt8 := (List.range t).map fun i => byteAt h (8 - t + i)
theorem tailB_step {h t : Nat} (ht : t < 8) : tailB h (t + 1) = byteAt h (7 - t) :: tailB h t := by
  unfold tailB
  rw [List.range_succ_eq_map, List.map_cons, List.map_map]
  congr 1
  · congr 1; omega
  · apply List.map_congr_left
    intro i hi
    show byteAt h _ = byteAt h _
    congr 1; omega
theorem rEight_spec {h : Nat} (hh : h < 18446744073709551616) (w : World) :
    Calls Try.prog 43 #[.int .u64 h] w (fun e w' => ∃ a' c', e = .returned (.slice a' (boxL h 0).length c') ∧ OwnB w.heap.size w' a' c' (boxL h 0) ∧ Ext no w w') := by
  refine (cachetteref03_eight.go _ (R := fun v w' => ∃ a' c', v = .slice a' (boxL h 0).length c' ∧ OwnB w.heap.size w' a' c' (boxL h 0) ∧ Ext no w w') ?_).mono fun e w' ⟨v, he, a', c', hv, hw⟩ => ⟨a', c', by rw [he, hv], hw⟩
  unfold cachetteref03_eight.N
  refine ⟨fun q vs w1 => ∃ (t : Nat) (a : Option Addr) (c : Nat), vs = [.int .u64 ((h / 256 ^ t : Nat) : Int), .slice a (tailB h t).length c, .int .i64 t] ∧ q + t = 8 ∧ OwnB w.heap.size w1 a c (tailB h t) ∧ Ext no w w1, 8, ⟨0, none, 0, by simp [tailB], rfl, OwnB.nil _ _, Ext.refl _ _⟩, ?_⟩
  rintro q w1 n ba bn bc i ⟨t, a, c, hi, hq, hO, X1⟩
  simp only [List.cons.injEq, Value.int.injEq, Value.slice.injEq, true_and, and_true] at hi
  obtain ⟨rfl, ⟨rfl, rfl, rfl⟩, rfl⟩ := hi
  refine ⟨fun ht w9 q10 X9 hb hq10 hq10' => ?_, fun ht => ?_⟩
  · have ht : t < 8 := by omega
    have hp : 256 ^ t = 2 ^ (8 * t) := by rw [Nat.pow_mul]
    have hlt : h / 256 ^ t < 18446744073709551616 := Nat.lt_of_le_of_lt (Nat.div_le_self _ _) hh
    have hb' : Blk w9 q10 5 (bytesV [byteAt h (7 - t)]) := by
      have e : IntKind.u8.wrap (Int.tmod ((h / 256 ^ t : Nat) : Int) 256) = ((byteAt h (7 - t)).toNat : Int) := by
        rw [byteAt_toNat, show 56 - 8 * (7 - t) = 8 * t by omega, ← hp, show Int.tmod ((h / 256 ^ t : Nat) : Int) 256 = ((h / 256 ^ t % 256 : Nat) : Int) from rfl]
        exact wu8 (by omega) (by omega)
      rw [e] at hb
      exact hb
    have l1 := X1.size
    have hO9 : OwnB w.heap.size w9 (some (blk q10)) 1 [byteAt h (7 - t)] := ⟨owns_of_blk hb' rfl (by show (1 : Nat) ≤ maxLen; unfold maxLen; decide), fun ad ha => by cases ha; exact ⟨by show _ ≤ q10; omega, hq10'⟩⟩
    obtain ⟨a', c', w12, hr, hO', hx⟩ := hO9.append (t := 23) (ty := 23) Try.underlying23 (Nat.le_trans l1 X9.size) (xc := bc) (xs := tailB h t) (hO.no X9).row (by simp [tailB]; omega)
    rw [show [byteAt h (7 - t)] ++ tailB h t = tailB h (t + 1) from (tailB_step ht).symm] at hr hO'
    refine ⟨a', _, c', w12, hr, by omega, by omega, q - 1, by omega, t + 1, a', c', ?_, by omega, hO', (X1.trans X9).then hx fun b hb => .inr hb⟩
    have e : IntKind.u64.wrap (Int.tdiv ((h / 256 ^ t : Nat) : Int) 256) = ((h / 256 ^ (t + 1) : Nat) : Int) := by
      rw [show Int.tdiv ((h / 256 ^ t : Nat) : Int) 256 = ((h / 256 ^ t / 256 : Nat) : Int) from rfl, Nat.div_div_eq_div_mul, ← Nat.pow_succ]
      exact wu64 (Int.natCast_nonneg _) (by have := Nat.div_le_self h (256 ^ t.succ); omega)
    rw [e]
    rfl
  · obtain rfl : t = 8 := by omega
    have e : tailB h 8 = boxL h 0 := rfl
    rw [e] at hO ⊢
    exact ⟨ba, bc, rfl, hO, X1⟩
theorem rHandle_spec {w : World} {a : Option Addr} {c : Nat} {bs : List UInt8} (h : RowAt w a (bytesV bs)) (hl : bs.length < 1000000) :
    Calls Try.prog 47 #[.slice a bs.length c] w (Ret (.int .u64 (handL bs)) fun w' => w' = w) := by
  refine cachetteref03_handle.run _ _ _ ?_
  unfold cachetteref03_handle.N
  refine ⟨fun h8 => ⟨by unfold handL; rw [if_pos (by omega)]; rfl, rfl⟩, fun h8 => ?_⟩
  have h8 : ¬ bs.length < 8 := by omega
  obtain ⟨ad, ha⟩ := h.addr (by intro e; have := bytesV_length bs; rw [e] at this; simp at this; omega)
  refine ⟨fun q vs w1 => ∃ t : Nat, vs = [.int .u64 (valOf (bs.take t)), .int .i64 t] ∧ q + t = 8 ∧ w1 = w, 8, ⟨0, rfl, rfl, rfl⟩, ?_⟩
  rintro q w1 n i ⟨t, hi, hq, rfl⟩
  simp only [List.cons.injEq, Value.int.injEq, true_and, and_true] at hi
  obtain ⟨rfl, rfl⟩ := hi
  refine ⟨fun ht => ?_, fun ht => ?_⟩
  · have ht : t < 8 := by omega
    have htl : t < bs.length := by omega
    have hv := valOf_lt t (bs.take t) (by rw [List.length_take]; omega)
    have hpw : 256 ^ t ≤ 256 ^ 7 := Nat.pow_le_pow_right (by decide) (by omega)
    have hv' : valOf (bs.take t) < 72057594037927936 := by
      have : (256 : Nat) ^ 7 = 72057594037927936 := by decide
      omega
    have hb := u8_lt bs[t]
    refine ⟨ad, ha, by omega, by omega, bs[t].toNat, by rw [Int.toNat_natCast, Nat.mul_one]; subst ha; exact h.at_ (bytesV_get htl), by omega, by omega, q - 1, by omega, t + 1, ?_, by omega, rfl⟩
    rw [wu64 (n := ((valOf (bs.take t) : Nat) : Int) * 256) (by omega) (by omega), wu64 (n := ((bs[t].toNat : Nat) : Int)) (by omega) (by omega), wu64 (by omega) (by omega)]
    rw [List.take_add_one, List.getElem?_eq_getElem htl, Option.toList_some, valOf_snoc]
    simp
  · obtain rfl : t = 8 := by omega
    refine ⟨fun q vs w2 => ∃ s : Nat, vs = [.int .i64 s] ∧ 8 ≤ s ∧ q + s = bs.length ∧ w2 = w1 ∧ ((bs.take s).drop 8).any (fun c => c != 0) = false, bs.length - 8, ⟨8, rfl, Nat.le_refl _, by omega, rfl, by rw [List.drop_eq_nil_of_le (by rw [List.length_take]; omega)]; rfl⟩, ?_⟩
    rintro q w2 i ⟨s, hi, hs8, hq, rfl, hz⟩
    simp only [List.cons.injEq, Value.int.injEq, true_and, and_true] at hi
    subst hi
    refine ⟨fun hs => ?_, fun hs => ?_⟩
    · have hsl : s < bs.length := by omega
      refine ⟨ad, ha, by omega, by omega, bs[s].toNat, by rw [Int.toNat_natCast, Nat.mul_one]; subst ha; exact h.at_ (bytesV_get hsl), fun hne => ⟨?_, rfl⟩, fun h0 => ⟨by omega, by omega, q - 1, by omega, s + 1, rfl, by omega, by omega, rfl, ?_⟩⟩
      · have : (bs.drop 8).any (fun c => c != 0) = true := by
          rw [List.any_eq_true]
          refine ⟨bs[s], ?_, ?_⟩
          · rw [show bs[s] = (bs.drop 8)[s - 8]'(by rw [List.length_drop]; omega) by rw [List.getElem_drop]; congr 1; omega]
            exact List.getElem_mem _
          · rw [bne_iff_ne]
            intro e
            rw [e] at hne
            exact hne rfl
        unfold handL
        rw [if_neg h8, if_pos this]; rfl
      · rw [List.take_add_one, List.getElem?_eq_getElem hsl, Option.toList_some, List.drop_append_of_le_length (by rw [List.length_take]; omega), List.any_append, hz]
        have : bs[s] = 0 := by
          apply UInt8.toNat_inj.1
          have : (bs[s].toNat : Int) = 0 := h0
          show bs[s].toNat = 0
          omega
        simp [this]
    · obtain rfl : s = bs.length := by omega
      rw [List.take_length] at hz
      refine ⟨?_, rfl⟩
      unfold handL
      rw [if_neg h8, hz]
      rfl
end Go.Proofs.Ytgagmbmkpfjbbaa
