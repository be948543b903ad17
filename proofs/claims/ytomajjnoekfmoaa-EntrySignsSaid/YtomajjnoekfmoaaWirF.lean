/- Wire: so many bytes of a reader; the reference's whole numbers, and bytes with their length. -/
import Derived.Test.YtomajjnoekfmoaaWirE
set_option linter.unusedVariables false
set_option linter.unusedSimpArgs false
set_option maxRecDepth 20000
namespace Go.Proofs.Ytomajjnoekfmoaa
open Go Go.Mx Go.Proofs
open W (OwnB Rd RdR GivesW numR countR doneR zig unzig intR)
/-- (*wire.Reader).take -/
def wire_Reader_take.M (r1 : Option Addr) (n2 : Int) (R : Value → World → Prop) (w : World) : Prop :=
  Calls Try.prog 67 #[.pointer r1] w fun ee4 ww5 => ∃ (ok3 : Bool), ee4 = .returned (.bool ok3) ∧
  bif !ok3 then (
  R (.slice none 0 0) ww5) else (
  r1.elim False fun a6 =>
  ∃ (b7a : Option Addr) (b7n : Nat) (b7c : Nat), ww5.cell? (a6.add 0) = some (.slice b7a b7n b7c) ∧
  bif decide (n2 > (b7n : Int)) then (
  Calls Try.prog 69 #[.pointer r1, .int .i64 4] ww5 fun ee8 ww9 => ee8 = .returned (.tuple #[]) ∧
  R (.slice none 0 0) ww9) else (
  r1.elim False fun a10 =>
  ∃ (b11a : Option Addr) (b11n : Nat) (b11c : Nat), ww5.cell? (a10.add 0) = some (.slice b11a b11n b11c) ∧
  (0 : Int) ≤ (n2 : Int) ∧ (n2 : Int) ≤ (b11c : Int) ∧
  Calls Try.prog 62 #[.slice (if b11c = 0 then b11a else Option.map (fun z : Addr => z.add (0 * 1)) b11a) ((Int.toNat n2) - 0) (b11c - 0)] ww5 fun ee13 ww14 => ∃ (clone12a : Option Addr) (clone12n : Nat) (clone12c : Nat), ee13 = .returned (.slice clone12a clone12n clone12c) ∧
  r1.elim False fun a15 =>
  ∃ (b16a : Option Addr) (b16n : Nat) (b16c : Nat), ww14.cell? (a15.add 0) = some (.slice b16a b16n b16c) ∧
  (0 : Int) ≤ (n2 : Int) ∧ (n2 : Int) ≤ (b16n : Int) ∧
  r1.elim False fun a17 =>
  canStore ww14 ((a17.add 0).add 0) ∧
  thenW (ww14.setCell ((a17.add 0).add 0) (.slice (if b16c = Int.toNat n2 then b16a else Option.map (fun z : Addr => z.add ((Int.toNat n2) * 1)) b16a) (b16n - (Int.toNat n2)) (b16c - (Int.toNat n2)))) fun ww18 =>
  R (.slice clone12a clone12n clone12c) ww18))

theorem wire_Reader_take.eq (r1 : Option Addr) (n2 : Int) (R : Value → World → Prop) (w : World) : mfunc Try.prog [] 71 [.pointer r1, .int .i64 n2] R w = wire_Reader_take.M r1 n2 R w := by kernel_rfl
theorem wire_Reader_take.ok (r1 : Option Addr) (n2 : Int) {R : Value → World → Prop} {w : World} (h : wire_Reader_take.M r1 n2 R w) : Calls Try.prog 71 #[.pointer r1, .int .i64 n2] w fun e w' => ∃ v, e = .returned v ∧ R v w' :=
  mfunc_ok follows (H := []) (args := [.pointer r1, .int .i64 n2]) (by rw [wire_Reader_take.eq]; exact h)

def wire_Reader_take.N (r1 : Option Addr) (n2 : Int) (R : Value → World → Prop) (w : World) : Prop :=
  Calls Try.prog 67 #[.pointer r1] w fun ee4 ww5 => ∃ (ok3 : Bool), ee4 = .returned (.bool ok3) ∧
  (ok3 = false →
    R (.slice none 0 0) ww5) ∧
  (ok3 = true →
    ∃ a7 : Addr, r1 = some a7 ∧
    ∃ (b9a : Option Addr) (b9n : Nat) (b9c : Nat), ww5.cell? (a7.add 0) = some (.slice b9a b9n b9c) ∧
    (n2 > (b9n : Int) →
      Calls Try.prog 69 #[.pointer r1, .int .i64 4] ww5 fun ee11 ww12 => ee11 = .returned (.tuple #[]) ∧
      R (.slice none 0 0) ww12) ∧
    (n2 ≤ (b9n : Int) →
      ∃ (b14a : Option Addr) (b14n : Nat) (b14c : Nat), ww5.cell? (a7.add 0) = some (.slice b14a b14n b14c) ∧
      (0 : Int) ≤ (n2 : Int) ∧ (n2 : Int) ≤ (b14c : Int) ∧ 
      Calls Try.prog 62 #[.slice b14a (Int.toNat n2) b14c] ww5 fun ee16 ww17 => ∃ (clone15a : Option Addr) (clone15n : Nat) (clone15c : Nat), ee16 = .returned (.slice clone15a clone15n clone15c) ∧
      ∃ (b19a : Option Addr) (b19n : Nat) (b19c : Nat), ww17.cell? (a7.add 0) = some (.slice b19a b19n b19c) ∧
      (0 : Int) ≤ (n2 : Int) ∧ (n2 : Int) ≤ (b19n : Int) ∧ 
      canStore ww17 ((a7.add 0).add 0) ∧
      thenW (ww17.setCell ((a7.add 0).add 0) (.slice (cutA b19a b19c (Int.toNat n2) 1) (b19n - (Int.toNat n2)) (b19c - (Int.toNat n2)))) fun ww20 =>
      R (.slice clone15a clone15n clone15c) ww20))

theorem wire_Reader_take.up (r1 : Option Addr) (n2 : Int) {R : Value → World → Prop} {w : World} (h : wire_Reader_take.N r1 n2 R w) : wire_Reader_take.M r1 n2 R w := by
  unfold wire_Reader_take.M
  unfold wire_Reader_take.N at h
  refine h.mono fun ee4 ww5 h => ?_
  obtain ⟨ok3, he, h⟩ := h
  refine ⟨ok3, he, ?_⟩
  refine bif_of (fun c6 => ?_) (fun c6 => ?_)
  · have h := h.1 (not_t c6)
    exact h
  · have h := h.2 (not_f c6)
    obtain ⟨a7, ha7, h⟩ := h
    refine elim_some ha7 ?_
    obtain ⟨b9a, b9n, b9c, hc8, h⟩ := h
    refine ⟨b9a, b9n, b9c, hc8, ?_⟩
    refine bif_of (fun c10 => ?_) (fun c10 => ?_)
    · have h := h.1 (of_decide_eq_true c10)
      refine h.mono fun ee11 ww12 h => ?_
      obtain ⟨he, h⟩ := h
      refine ⟨he, ?_⟩
      exact h
    · have h := h.2 (Int.not_lt.1 (of_decide_eq_false c10))
      refine elim_some ha7 ?_
      obtain ⟨b14a, b14n, b14c, hc13, h⟩ := h
      refine ⟨b14a, b14n, b14c, hc13, ?_⟩
      obtain ⟨hq0, hq1, h⟩ := h
      refine ⟨hq0, hq1, ?_⟩
      try rw [cut_zero]
      refine h.mono fun ee16 ww17 h => ?_
      obtain ⟨clone15a, clone15n, clone15c, he, h⟩ := h
      refine ⟨clone15a, clone15n, clone15c, he, ?_⟩
      refine elim_some ha7 ?_
      obtain ⟨b19a, b19n, b19c, hc18, h⟩ := h
      refine ⟨b19a, b19n, b19c, hc18, ?_⟩
      obtain ⟨hq0, hq1, h⟩ := h
      refine ⟨hq0, hq1, ?_⟩
      refine elim_some ha7 ?_
      obtain ⟨hcs, h⟩ := h
      refine ⟨hcs, thenW_in fun ww20 e20 => ?_⟩
      replace h := thenW_out h e20
      exact h

theorem wire_Reader_take.go (r1 : Option Addr) (n2 : Int) {R : Value → World → Prop} {w : World} (h : wire_Reader_take.N r1 n2 R w) : Calls Try.prog 71 #[.pointer r1, .int .i64 n2] w fun e w' => ∃ v, e = .returned v ∧ R v w' := wire_Reader_take.ok r1 n2 (wire_Reader_take.up r1 n2 h)
theorem wire_Reader_take.run (r1 : Option Addr) (n2 : Int) {V : Value} {Q : World → Prop} {w : World} (h : wire_Reader_take.N r1 n2 (fun v w' => v = V ∧ Q w') w) : Calls Try.prog 71 #[.pointer r1, .int .i64 n2] w (Ret V Q) := (wire_Reader_take.go r1 n2 h).mono fun e w' ⟨v, he, hv, hq⟩ => ⟨by rw [he, hv], hq⟩

/-- (*wire.Reader).Bytes -/
def wire_Reader_Bytes.M (r1 : Option Addr) (most2 : Int) (R : Value → World → Prop) (w : World) : Prop :=
  Calls Try.prog 37 #[.pointer r1, .int .i64 most2] w fun ee4 ww5 => ∃ (count3 : Int), ee4 = .returned (.int .i64 count3) ∧
  Calls Try.prog 71 #[.pointer r1, .int .i64 count3] ww5 fun ee7 ww8 => ∃ (take6a : Option Addr) (take6n : Nat) (take6c : Nat), ee7 = .returned (.slice take6a take6n take6c) ∧
  R (.slice take6a take6n take6c) ww8

theorem wire_Reader_Bytes.eq (r1 : Option Addr) (most2 : Int) (R : Value → World → Prop) (w : World) : mfunc Try.prog [] 41 [.pointer r1, .int .i64 most2] R w = wire_Reader_Bytes.M r1 most2 R w := by kernel_rfl
theorem wire_Reader_Bytes.ok (r1 : Option Addr) (most2 : Int) {R : Value → World → Prop} {w : World} (h : wire_Reader_Bytes.M r1 most2 R w) : Calls Try.prog 41 #[.pointer r1, .int .i64 most2] w fun e w' => ∃ v, e = .returned v ∧ R v w' :=
  mfunc_ok follows (H := []) (args := [.pointer r1, .int .i64 most2]) (by rw [wire_Reader_Bytes.eq]; exact h)

def wire_Reader_Bytes.N (r1 : Option Addr) (most2 : Int) (R : Value → World → Prop) (w : World) : Prop :=
  Calls Try.prog 37 #[.pointer r1, .int .i64 most2] w fun ee4 ww5 => ∃ (count3 : Int), ee4 = .returned (.int .i64 count3) ∧
  Calls Try.prog 71 #[.pointer r1, .int .i64 count3] ww5 fun ee7 ww8 => ∃ (take6a : Option Addr) (take6n : Nat) (take6c : Nat), ee7 = .returned (.slice take6a take6n take6c) ∧
  R (.slice take6a take6n take6c) ww8

theorem wire_Reader_Bytes.up (r1 : Option Addr) (most2 : Int) {R : Value → World → Prop} {w : World} (h : wire_Reader_Bytes.N r1 most2 R w) : wire_Reader_Bytes.M r1 most2 R w := by
  unfold wire_Reader_Bytes.M
  unfold wire_Reader_Bytes.N at h
  refine h.mono fun ee4 ww5 h => ?_
  obtain ⟨count3, he, h⟩ := h
  refine ⟨count3, he, ?_⟩
  refine h.mono fun ee7 ww8 h => ?_
  obtain ⟨take6a, take6n, take6c, he, h⟩ := h
  refine ⟨take6a, take6n, take6c, he, ?_⟩
  exact h

theorem wire_Reader_Bytes.go (r1 : Option Addr) (most2 : Int) {R : Value → World → Prop} {w : World} (h : wire_Reader_Bytes.N r1 most2 R w) : Calls Try.prog 41 #[.pointer r1, .int .i64 most2] w fun e w' => ∃ v, e = .returned v ∧ R v w' := wire_Reader_Bytes.ok r1 most2 (wire_Reader_Bytes.up r1 most2 h)
theorem wire_Reader_Bytes.run (r1 : Option Addr) (most2 : Int) {V : Value} {Q : World → Prop} {w : World} (h : wire_Reader_Bytes.N r1 most2 (fun v w' => v = V ∧ Q w') w) : Calls Try.prog 41 #[.pointer r1, .int .i64 most2] w (Ret V Q) := (wire_Reader_Bytes.go r1 most2 h).mono fun e w' ⟨v, he, hv, hq⟩ => ⟨by rw [he, hv], hq⟩

/-- cachetteref01.Int -/
def cachetteref01_Int.M (n1 : Int) (R : Value → World → Prop) (w : World) : Prop :=
  bif decide (n1 ≥ 0) then (
  Calls Try.prog 44 #[.int .u64 (IntKind.u64.wrap ((IntKind.u64.wrap n1) * 2))] w fun ee3 ww4 => ∃ (num2a : Option Addr) (num2n : Nat) (num2c : Nat), ee3 = .returned (.slice num2a num2n num2c) ∧
  R (.slice num2a num2n num2c) ww4) else (
  Calls Try.prog 44 #[.int .u64 (IntKind.u64.wrap ((IntKind.u64.wrap ((IntKind.u64.wrap (IntKind.i64.wrap (0 - (IntKind.i64.wrap (n1 + 1))))) * 2)) + 1))] w fun ee6 ww7 => ∃ (num5a : Option Addr) (num5n : Nat) (num5c : Nat), ee6 = .returned (.slice num5a num5n num5c) ∧
  R (.slice num5a num5n num5c) ww7)

theorem cachetteref01_Int.eq (n1 : Int) (R : Value → World → Prop) (w : World) : mfunc Try.prog [] 46 [.int .i64 n1] R w = cachetteref01_Int.M n1 R w := by kernel_rfl
theorem cachetteref01_Int.ok (n1 : Int) {R : Value → World → Prop} {w : World} (h : cachetteref01_Int.M n1 R w) : Calls Try.prog 46 #[.int .i64 n1] w fun e w' => ∃ v, e = .returned v ∧ R v w' :=
  mfunc_ok follows (H := []) (args := [.int .i64 n1]) (by rw [cachetteref01_Int.eq]; exact h)

def cachetteref01_Int.N (n1 : Int) (R : Value → World → Prop) (w : World) : Prop :=
  (n1 ≥ 0 →
    Calls Try.prog 44 #[.int .u64 (IntKind.u64.wrap ((IntKind.u64.wrap n1) * 2))] w fun ee4 ww5 => ∃ (num3a : Option Addr) (num3n : Nat) (num3c : Nat), ee4 = .returned (.slice num3a num3n num3c) ∧
    R (.slice num3a num3n num3c) ww5) ∧
  (n1 < 0 →
    (-9223372036854775808 : Int) ≤ (n1 + 1) ∧ (n1 + 1) < 9223372036854775808 ∧
    (-9223372036854775808 : Int) ≤ (0 - (n1 + 1)) ∧ (0 - (n1 + 1)) < 9223372036854775808 ∧
    Calls Try.prog 44 #[.int .u64 (IntKind.u64.wrap ((IntKind.u64.wrap ((IntKind.u64.wrap (0 - (n1 + 1))) * 2)) + 1))] w fun ee7 ww8 => ∃ (num6a : Option Addr) (num6n : Nat) (num6c : Nat), ee7 = .returned (.slice num6a num6n num6c) ∧
    R (.slice num6a num6n num6c) ww8)

theorem cachetteref01_Int.up (n1 : Int) {R : Value → World → Prop} {w : World} (h : cachetteref01_Int.N n1 R w) : cachetteref01_Int.M n1 R w := by
  unfold cachetteref01_Int.M
  unfold cachetteref01_Int.N at h
  refine bif_of (fun c2 => ?_) (fun c2 => ?_)
  · have h := h.1 (of_decide_eq_true c2)
    refine h.mono fun ee4 ww5 h => ?_
    obtain ⟨num3a, num3n, num3c, he, h⟩ := h
    refine ⟨num3a, num3n, num3c, he, ?_⟩
    exact h
  · have h := h.2 (Int.not_le.1 (of_decide_eq_false c2))
    obtain ⟨hw1, hw2, h⟩ := h
    try rw [w64 hw1 hw2]
    obtain ⟨hw1, hw2, h⟩ := h
    try rw [w64 hw1 hw2]
    refine h.mono fun ee7 ww8 h => ?_
    obtain ⟨num6a, num6n, num6c, he, h⟩ := h
    refine ⟨num6a, num6n, num6c, he, ?_⟩
    exact h

theorem cachetteref01_Int.go (n1 : Int) {R : Value → World → Prop} {w : World} (h : cachetteref01_Int.N n1 R w) : Calls Try.prog 46 #[.int .i64 n1] w fun e w' => ∃ v, e = .returned v ∧ R v w' := cachetteref01_Int.ok n1 (cachetteref01_Int.up n1 h)
theorem cachetteref01_Int.run (n1 : Int) {V : Value} {Q : World → Prop} {w : World} (h : cachetteref01_Int.N n1 (fun v w' => v = V ∧ Q w') w) : Calls Try.prog 46 #[.int .i64 n1] w (Ret V Q) := (cachetteref01_Int.go n1 h).mono fun e w' ⟨v, he, hv, hq⟩ => ⟨by rw [he, hv], hq⟩

/-- cachetteref01.Bytes -/
def cachetteref01_Bytes.M (x1a : Option Addr) (x1n : Nat) (x1c : Nat) (R : Value → World → Prop) (w : World) : Prop :=
  Calls Try.prog 44 #[.int .u64 (IntKind.u64.wrap (x1n : Int))] w fun ee3 ww4 => ∃ (num2a : Option Addr) (num2n : Nat) (num2c : Nat), ee3 = .returned (.slice num2a num2n num2c) ∧
  ∃ (a5a : Option Addr) (a5n : Nat) (a5c : Nat) (ww6 : World), (Builtin.append_ #[25, 25] 25 #[.slice num2a num2n num2c, .slice x1a x1n x1c]).run Try.prog ww4 = .ok (.slice a5a a5n a5c) ww6 ∧
  R (.slice a5a a5n a5c) ww6

theorem cachetteref01_Bytes.eq (x1a : Option Addr) (x1n : Nat) (x1c : Nat) (R : Value → World → Prop) (w : World) : mfunc Try.prog [] 47 [.slice x1a x1n x1c] R w = cachetteref01_Bytes.M x1a x1n x1c R w := by kernel_rfl
theorem cachetteref01_Bytes.ok (x1a : Option Addr) (x1n : Nat) (x1c : Nat) {R : Value → World → Prop} {w : World} (h : cachetteref01_Bytes.M x1a x1n x1c R w) : Calls Try.prog 47 #[.slice x1a x1n x1c] w fun e w' => ∃ v, e = .returned v ∧ R v w' :=
  mfunc_ok follows (H := []) (args := [.slice x1a x1n x1c]) (by rw [cachetteref01_Bytes.eq]; exact h)

def cachetteref01_Bytes.N (x1a : Option Addr) (x1n : Nat) (x1c : Nat) (R : Value → World → Prop) (w : World) : Prop :=
  Calls Try.prog 44 #[.int .u64 (IntKind.u64.wrap (x1n : Int))] w fun ee3 ww4 => ∃ (num2a : Option Addr) (num2n : Nat) (num2c : Nat), ee3 = .returned (.slice num2a num2n num2c) ∧
  ∃ (a5a : Option Addr) (a5n : Nat) (a5c : Nat) (ww6 : World), (Builtin.append_ #[25, 25] 25 #[.slice num2a num2n num2c, .slice x1a x1n x1c]).run Try.prog ww4 = .ok (.slice a5a a5n a5c) ww6 ∧
  R (.slice a5a a5n a5c) ww6

theorem cachetteref01_Bytes.up (x1a : Option Addr) (x1n : Nat) (x1c : Nat) {R : Value → World → Prop} {w : World} (h : cachetteref01_Bytes.N x1a x1n x1c R w) : cachetteref01_Bytes.M x1a x1n x1c R w := by
  unfold cachetteref01_Bytes.M
  unfold cachetteref01_Bytes.N at h
  refine h.mono fun ee3 ww4 h => ?_
  obtain ⟨num2a, num2n, num2c, he, h⟩ := h
  refine ⟨num2a, num2n, num2c, he, ?_⟩
  obtain ⟨a5a, a5n, a5c, ww6, hr, h⟩ := h
  refine ⟨a5a, a5n, a5c, ww6, hr, ?_⟩
  exact h

theorem cachetteref01_Bytes.go (x1a : Option Addr) (x1n : Nat) (x1c : Nat) {R : Value → World → Prop} {w : World} (h : cachetteref01_Bytes.N x1a x1n x1c R w) : Calls Try.prog 47 #[.slice x1a x1n x1c] w fun e w' => ∃ v, e = .returned v ∧ R v w' := cachetteref01_Bytes.ok x1a x1n x1c (cachetteref01_Bytes.up x1a x1n x1c h)
theorem cachetteref01_Bytes.run (x1a : Option Addr) (x1n : Nat) (x1c : Nat) {V : Value} {Q : World → Prop} {w : World} (h : cachetteref01_Bytes.N x1a x1n x1c (fun v w' => v = V ∧ Q w') w) : Calls Try.prog 47 #[.slice x1a x1n x1c] w (Ret V Q) := (cachetteref01_Bytes.go x1a x1n x1c h).mono fun e w' ⟨v, he, hv, hq⟩ => ⟨by rw [he, hv], hq⟩

/-- (*cachetteref01.Reader).Int -/
def cachetteref01_Reader_Int.M (r1 : Option Addr) (R : Value → World → Prop) (w : World) : Prop :=
  Calls Try.prog 73 #[.pointer r1] w fun ee3 ww4 => ∃ (num2 : Int), ee3 = .returned (.int .u64 num2) ∧
  2 ≠ (0 : Int) ∧ bif (Int.tmod num2 2) == 0 then (
  2 ≠ (0 : Int) ∧ R (.int .i64 (IntKind.i64.wrap (IntKind.u64.wrap (Int.tdiv num2 2)))) ww4) else (
  2 ≠ (0 : Int) ∧ R (.int .i64 (IntKind.i64.wrap ((IntKind.i64.wrap (0 - (IntKind.i64.wrap (IntKind.u64.wrap (Int.tdiv num2 2))))) - 1))) ww4)

theorem cachetteref01_Reader_Int.eq (r1 : Option Addr) (R : Value → World → Prop) (w : World) : mfunc Try.prog [] 75 [.pointer r1] R w = cachetteref01_Reader_Int.M r1 R w := by kernel_rfl
theorem cachetteref01_Reader_Int.ok (r1 : Option Addr) {R : Value → World → Prop} {w : World} (h : cachetteref01_Reader_Int.M r1 R w) : Calls Try.prog 75 #[.pointer r1] w fun e w' => ∃ v, e = .returned v ∧ R v w' :=
  mfunc_ok follows (H := []) (args := [.pointer r1]) (by rw [cachetteref01_Reader_Int.eq]; exact h)

def cachetteref01_Reader_Int.N (r1 : Option Addr) (R : Value → World → Prop) (w : World) : Prop :=
  Calls Try.prog 73 #[.pointer r1] w fun ee3 ww4 => ∃ (num2 : Int), ee3 = .returned (.int .u64 num2) ∧
  ((Int.tmod num2 2) = 0 →
    (-9223372036854775808 : Int) ≤ (IntKind.u64.wrap (Int.tdiv num2 2)) ∧ (IntKind.u64.wrap (Int.tdiv num2 2)) < 9223372036854775808 ∧
    R (.int .i64 (IntKind.u64.wrap (Int.tdiv num2 2))) ww4) ∧
  ((Int.tmod num2 2) ≠ 0 →
    (-9223372036854775808 : Int) ≤ (IntKind.u64.wrap (Int.tdiv num2 2)) ∧ (IntKind.u64.wrap (Int.tdiv num2 2)) < 9223372036854775808 ∧
    (-9223372036854775808 : Int) ≤ (0 - (IntKind.u64.wrap (Int.tdiv num2 2))) ∧ (0 - (IntKind.u64.wrap (Int.tdiv num2 2))) < 9223372036854775808 ∧
    (-9223372036854775808 : Int) ≤ ((0 - (IntKind.u64.wrap (Int.tdiv num2 2))) - 1) ∧ ((0 - (IntKind.u64.wrap (Int.tdiv num2 2))) - 1) < 9223372036854775808 ∧
    R (.int .i64 ((0 - (IntKind.u64.wrap (Int.tdiv num2 2))) - 1)) ww4)

theorem cachetteref01_Reader_Int.up (r1 : Option Addr) {R : Value → World → Prop} {w : World} (h : cachetteref01_Reader_Int.N r1 R w) : cachetteref01_Reader_Int.M r1 R w := by
  unfold cachetteref01_Reader_Int.M
  unfold cachetteref01_Reader_Int.N at h
  refine h.mono fun ee3 ww4 h => ?_
  obtain ⟨num2, he, h⟩ := h
  refine ⟨num2, he, ?_⟩
  refine ⟨by decide, ?_⟩
  refine bif_of (fun c5 => ?_) (fun c5 => ?_)
  · have h := h.1 (beq_t c5)
    refine ⟨by decide, ?_⟩
    obtain ⟨hw1, hw2, h⟩ := h
    try rw [w64 hw1 hw2]
    exact h
  · have h := h.2 (beq_f c5)
    refine ⟨by decide, ?_⟩
    obtain ⟨hw1, hw2, h⟩ := h
    try rw [w64 hw1 hw2]
    obtain ⟨hw1, hw2, h⟩ := h
    try rw [w64 hw1 hw2]
    obtain ⟨hw1, hw2, h⟩ := h
    try rw [w64 hw1 hw2]
    exact h

theorem cachetteref01_Reader_Int.go (r1 : Option Addr) {R : Value → World → Prop} {w : World} (h : cachetteref01_Reader_Int.N r1 R w) : Calls Try.prog 75 #[.pointer r1] w fun e w' => ∃ v, e = .returned v ∧ R v w' := cachetteref01_Reader_Int.ok r1 (cachetteref01_Reader_Int.up r1 h)
theorem cachetteref01_Reader_Int.run (r1 : Option Addr) {V : Value} {Q : World → Prop} {w : World} (h : cachetteref01_Reader_Int.N r1 (fun v w' => v = V ∧ Q w') w) : Calls Try.prog 75 #[.pointer r1] w (Ret V Q) := (cachetteref01_Reader_Int.go r1 h).mono fun e w' ⟨v, he, hv, hq⟩ => ⟨by rw [he, hv], hq⟩

/-- (*cachetteref01.Reader).Bytes -/
def cachetteref01_Reader_Bytes.M (r1 : Option Addr) (most2 : Int) (R : Value → World → Prop) (w : World) : Prop :=
  Calls Try.prog 72 #[.pointer r1, .int .i64 most2] w fun ee4 ww5 => ∃ (count3 : Int), ee4 = .returned (.int .i64 count3) ∧
  r1.elim False fun a6 =>
  ∃ (Kv7 : Int), ww5.cell? (a6.add 1) = some (.int .i64 Kv7) ∧
  bif Kv7 != 0 then (
  R (.slice none 0 0) ww5) else (
  r1.elim False fun a8 =>
  ∃ (B9a : Option Addr) (B9n : Nat) (B9c : Nat), ww5.cell? (a8.add 0) = some (.slice B9a B9n B9c) ∧
  bif decide (count3 > (B9n : Int)) then (
  Calls Try.prog 80 #[.pointer r1, .int .i64 4] ww5 fun ee10 ww11 => ee10 = .returned (.tuple #[]) ∧
  R (.slice none 0 0) ww11) else (
  r1.elim False fun a12 =>
  ∃ (B13a : Option Addr) (B13n : Nat) (B13c : Nat), ww5.cell? (a12.add 0) = some (.slice B13a B13n B13c) ∧
  (0 : Int) ≤ (count3 : Int) ∧ (count3 : Int) ≤ (B13c : Int) ∧
  r1.elim False fun a14 =>
  ∃ (B15a : Option Addr) (B15n : Nat) (B15c : Nat), ww5.cell? (a14.add 0) = some (.slice B15a B15n B15c) ∧
  (0 : Int) ≤ (count3 : Int) ∧ (count3 : Int) ≤ (B15n : Int) ∧
  r1.elim False fun a16 =>
  canStore ww5 ((a16.add 0).add 0) ∧
  thenW (ww5.setCell ((a16.add 0).add 0) (.slice (if B15c = Int.toNat count3 then B15a else Option.map (fun z : Addr => z.add ((Int.toNat count3) * 1)) B15a) (B15n - (Int.toNat count3)) (B15c - (Int.toNat count3)))) fun ww17 =>
  R (.slice (if B13c = 0 then B13a else Option.map (fun z : Addr => z.add (0 * 1)) B13a) ((Int.toNat count3) - 0) (B13c - 0)) ww17))

theorem cachetteref01_Reader_Bytes.eq (r1 : Option Addr) (most2 : Int) (R : Value → World → Prop) (w : World) : mfunc Try.prog [] 76 [.pointer r1, .int .i64 most2] R w = cachetteref01_Reader_Bytes.M r1 most2 R w := by kernel_rfl
theorem cachetteref01_Reader_Bytes.ok (r1 : Option Addr) (most2 : Int) {R : Value → World → Prop} {w : World} (h : cachetteref01_Reader_Bytes.M r1 most2 R w) : Calls Try.prog 76 #[.pointer r1, .int .i64 most2] w fun e w' => ∃ v, e = .returned v ∧ R v w' :=
  mfunc_ok follows (H := []) (args := [.pointer r1, .int .i64 most2]) (by rw [cachetteref01_Reader_Bytes.eq]; exact h)

def cachetteref01_Reader_Bytes.N (r1 : Option Addr) (most2 : Int) (R : Value → World → Prop) (w : World) : Prop :=
  Calls Try.prog 72 #[.pointer r1, .int .i64 most2] w fun ee4 ww5 => ∃ (count3 : Int), ee4 = .returned (.int .i64 count3) ∧
  ∃ a6 : Addr, r1 = some a6 ∧
  ∃ (Kv8 : Int), ww5.cell? (a6.add 1) = some (.int .i64 Kv8) ∧
  (Kv8 ≠ 0 →
    R (.slice none 0 0) ww5) ∧
  (Kv8 = 0 →
    ∃ (B11a : Option Addr) (B11n : Nat) (B11c : Nat), ww5.cell? (a6.add 0) = some (.slice B11a B11n B11c) ∧
    (count3 > (B11n : Int) →
      Calls Try.prog 80 #[.pointer r1, .int .i64 4] ww5 fun ee13 ww14 => ee13 = .returned (.tuple #[]) ∧
      R (.slice none 0 0) ww14) ∧
    (count3 ≤ (B11n : Int) →
      ∃ (B16a : Option Addr) (B16n : Nat) (B16c : Nat), ww5.cell? (a6.add 0) = some (.slice B16a B16n B16c) ∧
      (0 : Int) ≤ (count3 : Int) ∧ (count3 : Int) ≤ (B16c : Int) ∧ 
      ∃ (B18a : Option Addr) (B18n : Nat) (B18c : Nat), ww5.cell? (a6.add 0) = some (.slice B18a B18n B18c) ∧
      (0 : Int) ≤ (count3 : Int) ∧ (count3 : Int) ≤ (B18n : Int) ∧ 
      canStore ww5 ((a6.add 0).add 0) ∧
      thenW (ww5.setCell ((a6.add 0).add 0) (.slice (cutA B18a B18c (Int.toNat count3) 1) (B18n - (Int.toNat count3)) (B18c - (Int.toNat count3)))) fun ww19 =>
      R (.slice B16a (Int.toNat count3) B16c) ww19))

theorem cachetteref01_Reader_Bytes.up (r1 : Option Addr) (most2 : Int) {R : Value → World → Prop} {w : World} (h : cachetteref01_Reader_Bytes.N r1 most2 R w) : cachetteref01_Reader_Bytes.M r1 most2 R w := by
  unfold cachetteref01_Reader_Bytes.M
  unfold cachetteref01_Reader_Bytes.N at h
  refine h.mono fun ee4 ww5 h => ?_
  obtain ⟨count3, he, h⟩ := h
  refine ⟨count3, he, ?_⟩
  obtain ⟨a6, ha6, h⟩ := h
  refine elim_some ha6 ?_
  obtain ⟨Kv8, hc7, h⟩ := h
  refine ⟨Kv8, hc7, ?_⟩
  refine bif_of (fun c9 => ?_) (fun c9 => ?_)
  · have h := h.1 (bne_t c9)
    exact h
  · have h := h.2 (bne_f c9)
    refine elim_some ha6 ?_
    obtain ⟨B11a, B11n, B11c, hc10, h⟩ := h
    refine ⟨B11a, B11n, B11c, hc10, ?_⟩
    refine bif_of (fun c12 => ?_) (fun c12 => ?_)
    · have h := h.1 (of_decide_eq_true c12)
      refine h.mono fun ee13 ww14 h => ?_
      obtain ⟨he, h⟩ := h
      refine ⟨he, ?_⟩
      exact h
    · have h := h.2 (Int.not_lt.1 (of_decide_eq_false c12))
      refine elim_some ha6 ?_
      obtain ⟨B16a, B16n, B16c, hc15, h⟩ := h
      refine ⟨B16a, B16n, B16c, hc15, ?_⟩
      obtain ⟨hq0, hq1, h⟩ := h
      refine ⟨hq0, hq1, ?_⟩
      try rw [cut_zero]
      refine elim_some ha6 ?_
      obtain ⟨B18a, B18n, B18c, hc17, h⟩ := h
      refine ⟨B18a, B18n, B18c, hc17, ?_⟩
      obtain ⟨hq0, hq1, h⟩ := h
      refine ⟨hq0, hq1, ?_⟩
      refine elim_some ha6 ?_
      obtain ⟨hcs, h⟩ := h
      refine ⟨hcs, thenW_in fun ww19 e19 => ?_⟩
      replace h := thenW_out h e19
      exact h

theorem cachetteref01_Reader_Bytes.go (r1 : Option Addr) (most2 : Int) {R : Value → World → Prop} {w : World} (h : cachetteref01_Reader_Bytes.N r1 most2 R w) : Calls Try.prog 76 #[.pointer r1, .int .i64 most2] w fun e w' => ∃ v, e = .returned v ∧ R v w' := cachetteref01_Reader_Bytes.ok r1 most2 (cachetteref01_Reader_Bytes.up r1 most2 h)
theorem cachetteref01_Reader_Bytes.run (r1 : Option Addr) (most2 : Int) {V : Value} {Q : World → Prop} {w : World} (h : cachetteref01_Reader_Bytes.N r1 most2 (fun v w' => v = V ∧ Q w') w) : Calls Try.prog 76 #[.pointer r1, .int .i64 most2] w (Ret V Q) := (cachetteref01_Reader_Bytes.go r1 most2 h).mono fun e w' ⟨v, he, hv, hq⟩ => ⟨by rw [he, hv], hq⟩

abbrev RS := List UInt8 × Int
/-- so many bytes. -/
def takeR (n : Nat) (s : RS) : List UInt8 × RS := if s.2 = 0 then (if s.1.length < n then ([], ([], 4)) else (s.1.take n, (s.1.drop n, 0))) else ([], s)
def bytesR (m : Int) (s : RS) : List UInt8 × RS := takeR (countR m s).1 (countR m s).2
theorem takeR_len (n : Nat) (s : RS) : (takeR n s).2.1.length ≤ s.1.length ∧ (takeR n s).1.length ≤ s.1.length := by
  unfold takeR
  split
  · split
    · simp
    · simp; omega
  · simp
theorem bytesR_len (m : Int) (s : RS) : (bytesR m s).2.1.length ≤ s.1.length ∧ (bytesR m s).1.length ≤ s.1.length := by
  have h1 := W.countR_len m s
  have h2 := takeR_len (countR m s).1 (countR m s).2
  unfold bytesR
  omega
theorem bytesR_le {m : Int} (hm : 0 ≤ m) (s : RS) : ((bytesR m s).1.length : Int) ≤ m := by
  have h := W.count_le m s hm
  unfold bytesR takeR
  split
  · split
    · simpa using hm
    · simp only [List.length_take]; omega
  · simpa using hm
section
variable {w w' : World} {a : Option Addr} {c N p : Nat} {bs : List UInt8} {k : Int}
theorem Rd_drop (h : Rd w p bs k) {a : Option Addr} {c : Nat} (hb : Blk w p 103 [.slice a bs.length c, .int .i64 k]) {n : Nat} (hn : n ≤ bs.length) (hc : bs.length ≤ c) (hr : RowAt w a (bytesV bs)) (h4 : bytesV bs ≠ [] → ∀ ad, a = some ad → ad.block < p)
    (e : w' = w.setCell ((blk p).add 0) (.slice (cutA a c n 1) (bs.length - n) (c - n))) : Rd w' p (bs.drop n) k ∧ Ext (fun b => b = p) w w' := by
  have hx : Ext (fun b => b = p) w w' := (Ext.refl (fun b => b = p) w).x_set (q := p) (i := 0) rfl (.inl rfl) e
  have hb' := hb.seti 0 rfl e
  have hne : bytesV (bs.drop n) ≠ [] → bytesV bs ≠ [] := fun h0 e => h0 (by rw [bytesV, List.map_drop, show List.map u8V bs = [] from e]; simp)
  refine ⟨⟨cutA a c n 1, c - n, by rw [List.length_drop]; exact hb', by rw [List.length_drop]; omega, ?_, fun h0 ad ha => ?_⟩, hx⟩
  · have := hr.cut n c (by rw [bytesV_length]; exact hc)
    rw [show bytesV (bs.drop n) = (bytesV bs).drop n by simp [bytesV]]
    refine this.ext' hx fun h0 ad ha hq => ?_
    obtain ⟨b, hb, hbb⟩ := cutA_block ha
    have := h4 (fun e => h0 (by rw [e]; simp)) b hb
    omega
  · obtain ⟨b, hb, hbb⟩ := cutA_block ha
    have := h4 (hne h0) b hb
    omega
theorem Take_spec (h : Rd w p bs k) (hl : bs.length < 1000000) (n : Nat) :
    Calls Try.prog 71 #[.pointer (some (blk p)), .int .i64 n] w (fun e w' => ∃ a c, e = .returned (.slice a (takeR n (bs, k)).1.length c) ∧ OwnB w.heap.size w' a c (takeR n (bs, k)).1 ∧ Rd w' p (takeR n (bs, k)).2.1 (takeR n (bs, k)).2.2 ∧ Ext (fun b => b = p) w w') := by
  refine (wire_Reader_take.go _ _ (R := fun v w' => ∃ a c, v = (.slice a (takeR n (bs, k)).1.length c) ∧ OwnB w.heap.size w' a c (takeR n (bs, k)).1 ∧ Rd w' p (takeR n (bs, k)).2.1 (takeR n (bs, k)).2.2 ∧ Ext (fun b => b = p) w w') ?_).mono fun e w' ⟨v, he, a, c, hv, hw⟩ => ⟨a, c, by rw [he, hv], hw⟩
  unfold wire_Reader_take.N
  refine (W.ok_spec h).mono fun e w5 ⟨he, hw⟩ => ⟨_, he, fun hk => ?_, fun hk => ?_⟩ <;> subst hw <;> simp only [beq_iff_eq, beq_eq_false_iff_ne] at hk
  · unfold takeR
    rw [if_neg hk]
    exact ⟨none, 0, rfl, OwnB.nil _ _, h, Ext.refl _ _⟩
  · subst hk
    obtain ⟨a, c, h1, h2, h3, h4⟩ := id h
    refine ⟨_, rfl, a, bs.length, c, h1.cella (i := 0) rfl, fun hn => ?_, fun hn => ?_⟩
    · unfold takeR
      rw [if_pos rfl, if_pos (by show bs.length < n; omega)]
      refine (W.fail_spec h 4).mono fun e w12 ⟨he, hr, hx⟩ => ⟨he, none, 0, rfl, OwnB.nil _ _, hr, hx⟩
    · unfold takeR
      rw [if_pos rfl, if_neg (by show ¬ bs.length < n; omega)]
      refine ⟨a, bs.length, c, h1.cella (i := 0) rfl, by omega, by omega, ?_⟩
      rw [Int.toNat_natCast]
      have ht : bytesV (bs.take n) = (bytesV bs).take n := by simp [bytesV]
      have hlt : (bs.take n).length = n := by rw [List.length_take]; omega
      have hc := W.clone_spec (c := c) (bs := bs.take n) (a := a) (w := w5) (by rw [ht]; exact h3.take n) (by omega)
      rw [hlt] at hc
      refine hc.mono fun e w18 ⟨ra, rc, he, hO, hx⟩ => ⟨ra, n, rc, he, ?_⟩
      have h' := h.no hx
      refine ⟨a, bs.length, c, (h1.ext hx id).cella (i := 0) rfl, by omega, by omega, (h1.ext hx id).cana (i := 0) rfl, thenW_in fun w23 e23 => ?_⟩
      obtain ⟨q1, q2⟩ := Rd_drop h' (h1.ext hx id) (n := n) (by omega) h2 (h3.no hx) h4 e23
      refine ⟨ra, rc, by rw [hlt], hO.ext q2 fun ad ha hb => ?_, q1, hx.none.trans q2⟩
      have := (hO.fr ad ha).1
      have := h1.lt
      omega
theorem RBytes_spec (h : Rd w p bs k) (hl : bs.length < 1000000) {m : Int} (hm : m < 4611686018427387904) :
    Calls Try.prog 41 #[.pointer (some (blk p)), .int .i64 m] w (fun e w' => ∃ a c, e = .returned (.slice a (bytesR m (bs, k)).1.length c) ∧ OwnB w.heap.size w' a c (bytesR m (bs, k)).1 ∧ Rd w' p (bytesR m (bs, k)).2.1 (bytesR m (bs, k)).2.2 ∧ Ext (fun b => b = p) w w') := by
  refine (wire_Reader_Bytes.go _ _ (R := fun v w' => ∃ a c, v = (.slice a (bytesR m (bs, k)).1.length c) ∧ OwnB w.heap.size w' a c (bytesR m (bs, k)).1 ∧ Rd w' p (bytesR m (bs, k)).2.1 (bytesR m (bs, k)).2.2 ∧ Ext (fun b => b = p) w w') ?_).mono fun e w' ⟨v, he, a, c, hv, hw⟩ => ⟨a, c, by rw [he, hv], hw⟩
  unfold wire_Reader_Bytes.N
  refine (W.Count_spec h hl hm).mono fun e w5 ⟨he, hr, hx⟩ => ⟨_, he, ?_⟩
  have hlen := W.countR_len m (bs, k)
  refine (Take_spec hr (by simp only at hlen; omega) _).mono fun e w8 ⟨a, c, he, hO, hr2, hx2⟩ => ⟨a, _, c, he, a, c, rfl, ⟨hO.own, fun ad ha => ⟨Nat.le_trans hx.size (hO.fr ad ha).1, (hO.fr ad ha).2⟩⟩, hr2, hx.trans hx2⟩

/-! ### the reference's -/
theorem rInt_spec {n : Int} (h0 : -9223372036854775808 ≤ n) (h1 : n < 9223372036854775808) :
    Calls Try.prog 46 #[.int .i64 n] w (fun e w' => ∃ a' c', e = .returned (.slice a' (numL (zig n)).length c') ∧ OwnB w.heap.size w' a' c' (numL (zig n)) ∧ Ext no w w') := by
  refine (cachetteref01_Int.go _ (R := fun v w' => ∃ a' c', v = (.slice a' (numL (zig n)).length c') ∧ OwnB w.heap.size w' a' c' (numL (zig n)) ∧ Ext no w w') ?_).mono fun e w' ⟨v, he, a, c, hv, hw⟩ => ⟨a, c, by rw [he, hv], hw⟩
  unfold cachetteref01_Int.N
  have hz := W.zig_lt h0 h1
  refine ⟨fun hn => ?_, fun hn => ?_⟩
  · rw [wu64 (n := n) (by omega) (by omega), wu64 (n := n * 2) (by omega) (by omega)]
    have e : n * 2 = ((zig n : Nat) : Int) := by unfold zig; rw [if_pos (by omega)]; omega
    rw [e]
    exact (W.rNum_spec (zig n) w hz).mono fun e w5 ⟨a', c', he, hO, hx⟩ => ⟨a', _, c', he, a', c', rfl, hO, hx⟩
  · refine ⟨by omega, by omega, by omega, by omega, ?_⟩
    rw [wu64 (n := 0 - (n + 1)) (by omega) (by omega), wu64 (n := (0 - (n + 1)) * 2) (by omega) (by omega), wu64 (by omega) (by omega)]
    have e : (0 - (n + 1)) * 2 + 1 = ((zig n : Nat) : Int) := by unfold zig; rw [if_neg (by omega)]; omega
    rw [e]
    exact (W.rNum_spec (zig n) w hz).mono fun e w5 ⟨a', c', he, hO, hx⟩ => ⟨a', _, c', he, a', c', rfl, hO, hx⟩
theorem rBytes_spec {xs : List UInt8} {xa : Option Addr} {xc : Nat} (hx : RowAt w xa (bytesV xs)) (hl : xs.length ≤ 1000000) :
    Calls Try.prog 47 #[.slice xa xs.length xc] w (fun e w' => ∃ a' c', e = .returned (.slice a' (numL xs.length ++ xs).length c') ∧ OwnB w.heap.size w' a' c' (numL xs.length ++ xs) ∧ Ext no w w') := by
  refine (cachetteref01_Bytes.go _ _ _ (R := fun v w' => ∃ a' c', v = (.slice a' (numL xs.length ++ xs).length c') ∧ OwnB w.heap.size w' a' c' (numL xs.length ++ xs) ∧ Ext no w w') ?_).mono fun e w' ⟨v, he, a, c, hv, hw⟩ => ⟨a, c, by rw [he, hv], hw⟩
  unfold cachetteref01_Bytes.N
  rw [wu64 (n := (xs.length : Int)) (by omega) (by omega)]
  refine (W.rNum_spec xs.length w (by omega)).mono fun e w4 ⟨a4, c4, he, hO, hx4⟩ => ⟨a4, _, c4, he, ?_⟩
  have hnl : (numL xs.length).length ≤ 10 := numF_le 10 _
  obtain ⟨a', c', w7, hr, hO7, hx7⟩ := hO.append (t := 25) (ty := 25) Try.underlying25 hx4.size (xc := xc) (hx.no hx4) (by omega)
  exact ⟨a', _, c', w7, hr, a', c', rfl, hO7, hx4.then hx7 fun b hb => .inr hb⟩
theorem rRInt_spec (h : RdR w p N bs k) (hl : bs.length < 1000000) :
    Calls Try.prog 75 #[.pointer (some (blk p))] w (GivesW (.int .i64 (intR (bs, k)).1) fun w' => RdR w' p N (intR (bs, k)).2.1 (intR (bs, k)).2.2 ∧ Ext (fun b => b = p) w w') := by
  refine (cachetteref01_Reader_Int.go _ (R := fun v w' => v = .int .i64 (intR (bs, k)).1 ∧ RdR w' p N (intR (bs, k)).2.1 (intR (bs, k)).2.2 ∧ Ext (fun b => b = p) w w') ?_).mono fun e w' ⟨v, he, hv, hw⟩ => ⟨by rw [he, hv], hw⟩
  unfold cachetteref01_Reader_Int.N
  refine (W.rRNum_spec h hl).mono fun e w4 ⟨he, hr, hx⟩ => ⟨_, he, ?_⟩
  have hlt := W.numR_lt (bs, k)
  unfold intR
  generalize numR (bs, k) = s at *
  have e1 : Int.tmod (s.1 : Int) 2 = ((s.1 % 2 : Nat) : Int) := by rw [Int.tmod_eq_emod_of_nonneg (by omega)]; omega
  have e2 : Int.tdiv (s.1 : Int) 2 = ((s.1 / 2 : Nat) : Int) := by rw [Int.tdiv_eq_ediv_of_nonneg (by omega)]; omega
  rw [e1, e2, wu64 (by omega) (by omega)]
  unfold unzig
  refine ⟨fun h2 => ?_, fun h2 => ?_⟩
  · rw [if_pos (by omega)]
    exact ⟨by omega, by omega, rfl, hr, hx⟩
  · rw [if_neg (by omega)]
    exact ⟨by omega, by omega, by omega, by omega, by omega, by omega, by rw [Int.zero_sub], hr, hx⟩
theorem RdR_drop (h : RdR w p N bs k) {a : Option Addr} {c : Nat} (hb : Blk w p 77 [.slice a bs.length c, .int .i64 k]) {n : Nat} (hn : n ≤ bs.length) (hc : bs.length ≤ c) (hr : RowAt w a (bytesV bs)) (h4 : bytesV bs ≠ [] → ∀ ad, a = some ad → ad.block < N)
    (e : w' = w.setCell ((blk p).add 0) (.slice (cutA a c n 1) (bs.length - n) (c - n))) : RdR w' p N (bs.drop n) k ∧ Ext (fun b => b = p) w w' := by
  have hx : Ext (fun b => b = p) w w' := (Ext.refl (fun b => b = p) w).x_set (q := p) (i := 0) rfl (.inl rfl) e
  have hb' := hb.seti 0 rfl e
  have hne : bytesV (bs.drop n) ≠ [] → bytesV bs ≠ [] := fun h0 e => h0 (by rw [bytesV, List.map_drop, show List.map u8V bs = [] from e]; simp)
  have hNp := h.1
  refine ⟨⟨hNp, cutA a c n 1, c - n, by rw [List.length_drop]; exact hb', by rw [List.length_drop]; omega, ?_, fun h0 ad ha => ?_⟩, hx⟩
  · have := hr.cut n c (by rw [bytesV_length]; exact hc)
    rw [show bytesV (bs.drop n) = (bytesV bs).drop n by simp [bytesV]]
    refine this.ext' hx fun h0 ad ha hq => ?_
    obtain ⟨b, hb, hbb⟩ := cutA_block ha
    have := h4 (fun e => h0 (by rw [e]; simp)) b hb
    omega
  · obtain ⟨b, hb, hbb⟩ := cutA_block ha
    have := h4 (hne h0) b hb
    omega
/-- the bytes are a part of the reader's own. -/
theorem rRBytes_spec (h : RdR w p N bs k) (hl : bs.length < 1000000) {m : Int} (hm0 : 0 ≤ m) (hm : m < 4611686018427387904) :
    Calls Try.prog 76 #[.pointer (some (blk p)), .int .i64 m] w (fun e w' => ∃ a c, e = .returned (.slice a (bytesR m (bs, k)).1.length c) ∧ (bytesR m (bs, k)).1.length ≤ c ∧ RowAt w' a (bytesV (bytesR m (bs, k)).1) ∧ (bytesV (bytesR m (bs, k)).1 ≠ [] → ∀ ad, a = some ad → ad.block < N) ∧
      RdR w' p N (bytesR m (bs, k)).2.1 (bytesR m (bs, k)).2.2 ∧ Ext (fun b => b = p) w w') := by
  refine (cachetteref01_Reader_Bytes.go _ _ (R := fun v w' => ∃ a c, v = (.slice a (bytesR m (bs, k)).1.length c) ∧ (bytesR m (bs, k)).1.length ≤ c ∧ RowAt w' a (bytesV (bytesR m (bs, k)).1) ∧ (bytesV (bytesR m (bs, k)).1 ≠ [] → ∀ ad, a = some ad → ad.block < N) ∧
      RdR w' p N (bytesR m (bs, k)).2.1 (bytesR m (bs, k)).2.2 ∧ Ext (fun b => b = p) w w') ?_).mono fun e w' ⟨v, he, a, c, hv, hw⟩ => ⟨a, c, by rw [he, hv], hw⟩
  unfold cachetteref01_Reader_Bytes.N
  refine (W.rCount_spec h hl hm0 hm).mono fun e w5 ⟨he, hr, hx⟩ => ⟨_, he, ?_⟩
  have hlen := W.countR_len m (bs, k)
  unfold bytesR
  generalize countR m (bs, k) = s at *
  obtain ⟨n, l, k2⟩ := s
  simp only at *
  obtain ⟨hNp, a, c, h1, h2, h3, h4⟩ := id hr
  refine ⟨_, rfl, _, h1.cella (i := 1) rfl, fun hk => ?_, fun hk => ?_⟩
  · unfold takeR
    rw [if_neg hk]
    exact ⟨none, 0, rfl, Nat.le_refl _, RowAt.nil _ _, fun h0 => absurd rfl h0, hr, hx⟩
  · subst hk
    refine ⟨a, l.length, c, h1.cella (i := 0) rfl, fun hn => ?_, fun hn => ?_⟩
    · unfold takeR
      rw [if_pos rfl, if_pos (by show l.length < n; omega)]
      exact (W.rFail_spec hr 4).mono fun e w12 ⟨he, hr, hx2⟩ => ⟨he, none, 0, rfl, Nat.le_refl _, RowAt.nil _ _, fun h0 => absurd rfl h0, hr, hx.trans hx2⟩
    · unfold takeR
      rw [if_pos rfl, if_neg (by show ¬ l.length < n; omega)]
      refine ⟨a, l.length, c, h1.cella (i := 0) rfl, by omega, by omega, a, l.length, c, h1.cella (i := 0) rfl, by omega, by omega, h1.cana (i := 0) rfl, thenW_in fun w23 e23 => ?_⟩
      rw [Int.toNat_natCast] at e23 ⊢
      have ht : bytesV (l.take n) = (bytesV l).take n := by simp [bytesV]
      have hlt : (l.take n).length = n := by rw [List.length_take]; omega
      obtain ⟨q1, q2⟩ := RdR_drop hr h1 (n := n) (by omega) h2 h3 h4 e23
      have hne : bytesV (l.take n) ≠ [] → bytesV l ≠ [] := fun h0 e => h0 (by rw [ht, e]; simp)
      refine ⟨a, c, by rw [hlt], by rw [hlt]; omega, ?_, fun h0 => h4 (hne h0), q1, hx.trans q2⟩
      rw [ht]
      refine (h3.take n).ext' q2 fun h0 ad ha hb => ?_
      have := h4 (fun e => h0 (by rw [e]; simp)) ad ha
      omega
end
end Go.Proofs.Ytomajjnoekfmoaa
