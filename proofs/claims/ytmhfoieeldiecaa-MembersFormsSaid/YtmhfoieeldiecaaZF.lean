/- Wire: so many bytes of a reader; the reference's whole numbers, and bytes with their length. -/
import Derived.Test.YtmhfoieeldiecaaZB
import Derived.Test.YtmhfoieeldiecaaZD
import Derived.Test.YtmhfoieeldiecaaZE
set_option linter.unusedVariables false
set_option linter.unusedSimpArgs false
set_option maxRecDepth 20000
namespace Go.Proofs.Ytmhfoieeldiecaa
open Go Go.Mx Go.Proofs
open W (OwnB Rd RdR GivesW numR countR doneR zig unzig intR)
/-- (*wire.Reader).take -/
def wire_Reader_take.M (r1 : Option Addr) (n2 : Int) (R : Value → World → Prop) (w : World) : Prop :=
  Calls Try.prog 66 #[.pointer r1] w fun ee4 ww5 => ∃ (ok3 : Bool), ee4 = .returned (.bool ok3) ∧
  bif !ok3 then (
  R (.slice none 0 0) ww5) else (
  r1.elim False fun a6 =>
  ∃ (b7a : Option Addr) (b7n : Nat) (b7c : Nat), ww5.cell? (a6.add 0) = some (.slice b7a b7n b7c) ∧
  bif decide (n2 > (b7n : Int)) then (
  Calls Try.prog 68 #[.pointer r1, .int .i64 4] ww5 fun ee8 ww9 => ee8 = .returned (.tuple #[]) ∧
  R (.slice none 0 0) ww9) else (
  r1.elim False fun a10 =>
  ∃ (b11a : Option Addr) (b11n : Nat) (b11c : Nat), ww5.cell? (a10.add 0) = some (.slice b11a b11n b11c) ∧
  (0 : Int) ≤ (n2 : Int) ∧ (n2 : Int) ≤ (b11c : Int) ∧
  Calls Try.prog 64 #[.slice (if b11c = 0 then b11a else Option.map (fun z : Addr => z.add (0 * 1)) b11a) ((Int.toNat n2) - 0) (b11c - 0)] ww5 fun ee13 ww14 => ∃ (clone12a : Option Addr) (clone12n : Nat) (clone12c : Nat), ee13 = .returned (.slice clone12a clone12n clone12c) ∧
  r1.elim False fun a15 =>
  ∃ (b16a : Option Addr) (b16n : Nat) (b16c : Nat), ww14.cell? (a15.add 0) = some (.slice b16a b16n b16c) ∧
  (0 : Int) ≤ (n2 : Int) ∧ (n2 : Int) ≤ (b16n : Int) ∧
  r1.elim False fun a17 =>
  canStore ww14 ((a17.add 0).add 0) ∧
  thenW (ww14.setCell ((a17.add 0).add 0) (.slice (if b16c = Int.toNat n2 then b16a else Option.map (fun z : Addr => z.add ((Int.toNat n2) * 1)) b16a) (b16n - (Int.toNat n2)) (b16c - (Int.toNat n2)))) fun ww18 =>
  R (.slice clone12a clone12n clone12c) ww18))

theorem wire_Reader_take.eq (r1 : Option Addr) (n2 : Int) (R : Value → World → Prop) (w : World) : mfunc Try.prog [] 81 [.pointer r1, .int .i64 n2] R w = wire_Reader_take.M r1 n2 R w := by kernel_rfl
theorem wire_Reader_take.ok (r1 : Option Addr) (n2 : Int) {R : Value → World → Prop} {w : World} (h : wire_Reader_take.M r1 n2 R w) : Calls Try.prog 81 #[.pointer r1, .int .i64 n2] w fun e w' => ∃ v, e = .returned v ∧ R v w' :=
  mfunc_ok follows (H := []) (args := [.pointer r1, .int .i64 n2]) (by rw [wire_Reader_take.eq]; exact h)

def wire_Reader_take.N (r1 : Option Addr) (n2 : Int) (R : Value → World → Prop) (w : World) : Prop :=
  Calls Try.prog 66 #[.pointer r1] w fun ee4 ww5 => ∃ (ok3 : Bool), ee4 = .returned (.bool ok3) ∧
  (ok3 = false →
    R (.slice none 0 0) ww5) ∧
  (ok3 = true →
    ∃ a7 : Addr, r1 = some a7 ∧
    ∃ (b9a : Option Addr) (b9n : Nat) (b9c : Nat), ww5.cell? (a7.add 0) = some (.slice b9a b9n b9c) ∧
    (n2 > (b9n : Int) →
      Calls Try.prog 68 #[.pointer r1, .int .i64 4] ww5 fun ee11 ww12 => ee11 = .returned (.tuple #[]) ∧
      R (.slice none 0 0) ww12) ∧
    (n2 ≤ (b9n : Int) →
      ∃ (b14a : Option Addr) (b14n : Nat) (b14c : Nat), ww5.cell? (a7.add 0) = some (.slice b14a b14n b14c) ∧
      (0 : Int) ≤ (n2 : Int) ∧ (n2 : Int) ≤ (b14c : Int) ∧ 
      Calls Try.prog 64 #[.slice b14a (Int.toNat n2) b14c] ww5 fun ee16 ww17 => ∃ (clone15a : Option Addr) (clone15n : Nat) (clone15c : Nat), ee16 = .returned (.slice clone15a clone15n clone15c) ∧
      ∃ (b19a : Option Addr) (b19n : Nat) (b19c : Nat), ww17.cell? (a7.add 0) = some (.slice b19a b19n b19c) ∧
      (0 : Int) ≤ (n2 : Int) ∧ (n2 : Int) ≤ (b19n : Int) ∧ 
      canStore ww17 ((a7.add 0).add 0) ∧
      thenW (ww17.setCell ((a7.add 0).add 0) (.slice (cutA b19a b19c (Int.toNat n2) 1) (b19n - (Int.toNat n2)) (b19c - (Int.toNat n2)))) fun ww20 =>
      R (.slice clone15a clone15n clone15c) ww20))

theorem wire_Reader_take.up (r1 : Option Addr) (n2 : Int) {R : Value → World → Prop} {w : World} (h : wire_Reader_take.N r1 n2 R w) : wire_Reader_take.M r1 n2 R w := by
  unfold wire_Reader_take.M
  unfold wire_Reader_take.N at h
  refine h.mono fun ee4 ww5 h => ?_
  obtain ⟨ok3, he, h⟩ := h
  refine ⟨ok3, he, ?_⟩
  refine bif_of (fun c6 => ?_) (fun c6 => ?_)
  · have h := h.1 (not_t c6)
    exact h
  · have h := h.2 (not_f c6)
    obtain ⟨a7, ha7, h⟩ := h
    refine elim_some ha7 ?_
    obtain ⟨b9a, b9n, b9c, hc8, h⟩ := h
    refine ⟨b9a, b9n, b9c, hc8, ?_⟩
    refine bif_of (fun c10 => ?_) (fun c10 => ?_)
    · have h := h.1 (of_decide_eq_true c10)
      refine h.mono fun ee11 ww12 h => ?_
      obtain ⟨he, h⟩ := h
      refine ⟨he, ?_⟩
      exact h
    · have h := h.2 (Int.not_lt.1 (of_decide_eq_false c10))
      refine elim_some ha7 ?_
      obtain ⟨b14a, b14n, b14c, hc13, h⟩ := h
      refine ⟨b14a, b14n, b14c, hc13, ?_⟩
      obtain ⟨hq0, hq1, h⟩ := h
      refine ⟨hq0, hq1, ?_⟩
      try rw [cut_zero]
      refine h.mono fun ee16 ww17 h => ?_
      obtain ⟨clone15a, clone15n, clone15c, he, h⟩ := h
      refine ⟨clone15a, clone15n, clone15c, he, ?_⟩
      refine elim_some ha7 ?_
      obtain ⟨b19a, b19n, b19c, hc18, h⟩ := h
      refine ⟨b19a, b19n, b19c, hc18, ?_⟩
      obtain ⟨hq0, hq1, h⟩ := h
      refine ⟨hq0, hq1, ?_⟩
      refine elim_some ha7 ?_
      obtain ⟨hcs, h⟩ := h
      refine ⟨hcs, thenW_in fun ww20 e20 => ?_⟩
      replace h := thenW_out h e20
      exact h

theorem wire_Reader_take.go (r1 : Option Addr) (n2 : Int) {R : Value → World → Prop} {w : World} (h : wire_Reader_take.N r1 n2 R w) : Calls Try.prog 81 #[.pointer r1, .int .i64 n2] w fun e w' => ∃ v, e = .returned v ∧ R v w' := wire_Reader_take.ok r1 n2 (wire_Reader_take.up r1 n2 h)
theorem wire_Reader_take.run (r1 : Option Addr) (n2 : Int) {V : Value} {Q : World → Prop} {w : World} (h : wire_Reader_take.N r1 n2 (fun v w' => v = V ∧ Q w') w) : Calls Try.prog 81 #[.pointer r1, .int .i64 n2] w (Ret V Q) := (wire_Reader_take.go r1 n2 h).mono fun e w' ⟨v, he, hv, hq⟩ => ⟨by rw [he, hv], hq⟩

/-- (*wire.Reader).Bytes -/
def wire_Reader_Bytes.M (r1 : Option Addr) (most2 : Int) (R : Value → World → Prop) (w : World) : Prop :=
  Calls Try.prog 47 #[.pointer r1, .int .i64 most2] w fun ee4 ww5 => ∃ (count3 : Int), ee4 = .returned (.int .i64 count3) ∧
  Calls Try.prog 81 #[.pointer r1, .int .i64 count3] ww5 fun ee7 ww8 => ∃ (take6a : Option Addr) (take6n : Nat) (take6c : Nat), ee7 = .returned (.slice take6a take6n take6c) ∧
  R (.slice take6a take6n take6c) ww8

theorem wire_Reader_Bytes.eq (r1 : Option Addr) (most2 : Int) (R : Value → World → Prop) (w : World) : mfunc Try.prog [] 79 [.pointer r1, .int .i64 most2] R w = wire_Reader_Bytes.M r1 most2 R w := by kernel_rfl
theorem wire_Reader_Bytes.ok (r1 : Option Addr) (most2 : Int) {R : Value → World → Prop} {w : World} (h : wire_Reader_Bytes.M r1 most2 R w) : Calls Try.prog 79 #[.pointer r1, .int .i64 most2] w fun e w' => ∃ v, e = .returned v ∧ R v w' :=
  mfunc_ok follows (H := []) (args := [.pointer r1, .int .i64 most2]) (by rw [wire_Reader_Bytes.eq]; exact h)

def wire_Reader_Bytes.N (r1 : Option Addr) (most2 : Int) (R : Value → World → Prop) (w : World) : Prop :=
  Calls Try.prog 47 #[.pointer r1, .int .i64 most2] w fun ee4 ww5 => ∃ (count3 : Int), ee4 = .returned (.int .i64 count3) ∧
  Calls Try.prog 81 #[.pointer r1, .int .i64 count3] ww5 fun ee7 ww8 => ∃ (take6a : Option Addr) (take6n : Nat) (take6c : Nat), ee7 = .returned (.slice take6a take6n take6c) ∧
  R (.slice take6a take6n take6c) ww8

theorem wire_Reader_Bytes.up (r1 : Option Addr) (most2 : Int) {R : Value → World → Prop} {w : World} (h : wire_Reader_Bytes.N r1 most2 R w) : wire_Reader_Bytes.M r1 most2 R w := by
  unfold wire_Reader_Bytes.M
  unfold wire_Reader_Bytes.N at h
  refine h.mono fun ee4 ww5 h => ?_
  obtain ⟨count3, he, h⟩ := h
  refine ⟨count3, he, ?_⟩
  refine h.mono fun ee7 ww8 h => ?_
  obtain ⟨take6a, take6n, take6c, he, h⟩ := h
  refine ⟨take6a, take6n, take6c, he, ?_⟩
  exact h

theorem wire_Reader_Bytes.go (r1 : Option Addr) (most2 : Int) {R : Value → World → Prop} {w : World} (h : wire_Reader_Bytes.N r1 most2 R w) : Calls Try.prog 79 #[.pointer r1, .int .i64 most2] w fun e w' => ∃ v, e = .returned v ∧ R v w' := wire_Reader_Bytes.ok r1 most2 (wire_Reader_Bytes.up r1 most2 h)
theorem wire_Reader_Bytes.run (r1 : Option Addr) (most2 : Int) {V : Value} {Q : World → Prop} {w : World} (h : wire_Reader_Bytes.N r1 most2 (fun v w' => v = V ∧ Q w') w) : Calls Try.prog 79 #[.pointer r1, .int .i64 most2] w (Ret V Q) := (wire_Reader_Bytes.go r1 most2 h).mono fun e w' ⟨v, he, hv, hq⟩ => ⟨by rw [he, hv], hq⟩

/-- cachetteref01.Bytes -/
def cachetteref01_Bytes.M (x1a : Option Addr) (x1n : Nat) (x1c : Nat) (R : Value → World → Prop) (w : World) : Prop :=
  Calls Try.prog 44 #[.int .u64 (IntKind.u64.wrap (x1n : Int))] w fun ee3 ww4 => ∃ (num2a : Option Addr) (num2n : Nat) (num2c : Nat), ee3 = .returned (.slice num2a num2n num2c) ∧
  ∃ (a5a : Option Addr) (a5n : Nat) (a5c : Nat) (ww6 : World), (Builtin.append_ #[34, 34] 34 #[.slice num2a num2n num2c, .slice x1a x1n x1c]).run Try.prog ww4 = .ok (.slice a5a a5n a5c) ww6 ∧
  R (.slice a5a a5n a5c) ww6

theorem cachetteref01_Bytes.eq (x1a : Option Addr) (x1n : Nat) (x1c : Nat) (R : Value → World → Prop) (w : World) : mfunc Try.prog [] 45 [.slice x1a x1n x1c] R w = cachetteref01_Bytes.M x1a x1n x1c R w := by kernel_rfl
theorem cachetteref01_Bytes.ok (x1a : Option Addr) (x1n : Nat) (x1c : Nat) {R : Value → World → Prop} {w : World} (h : cachetteref01_Bytes.M x1a x1n x1c R w) : Calls Try.prog 45 #[.slice x1a x1n x1c] w fun e w' => ∃ v, e = .returned v ∧ R v w' :=
  mfunc_ok follows (H := []) (args := [.slice x1a x1n x1c]) (by rw [cachetteref01_Bytes.eq]; exact h)

def cachetteref01_Bytes.N (x1a : Option Addr) (x1n : Nat) (x1c : Nat) (R : Value → World → Prop) (w : World) : Prop :=
  Calls Try.prog 44 #[.int .u64 (IntKind.u64.wrap (x1n : Int))] w fun ee3 ww4 => ∃ (num2a : Option Addr) (num2n : Nat) (num2c : Nat), ee3 = .returned (.slice num2a num2n num2c) ∧
  ∃ (a5a : Option Addr) (a5n : Nat) (a5c : Nat) (ww6 : World), (Builtin.append_ #[34, 34] 34 #[.slice num2a num2n num2c, .slice x1a x1n x1c]).run Try.prog ww4 = .ok (.slice a5a a5n a5c) ww6 ∧
  R (.slice a5a a5n a5c) ww6

theorem cachetteref01_Bytes.up (x1a : Option Addr) (x1n : Nat) (x1c : Nat) {R : Value → World → Prop} {w : World} (h : cachetteref01_Bytes.N x1a x1n x1c R w) : cachetteref01_Bytes.M x1a x1n x1c R w := by
  unfold cachetteref01_Bytes.M
  unfold cachetteref01_Bytes.N at h
  refine h.mono fun ee3 ww4 h => ?_
  obtain ⟨num2a, num2n, num2c, he, h⟩ := h
  refine ⟨num2a, num2n, num2c, he, ?_⟩
  obtain ⟨a5a, a5n, a5c, ww6, hr, h⟩ := h
  refine ⟨a5a, a5n, a5c, ww6, hr, ?_⟩
  exact h

theorem cachetteref01_Bytes.go (x1a : Option Addr) (x1n : Nat) (x1c : Nat) {R : Value → World → Prop} {w : World} (h : cachetteref01_Bytes.N x1a x1n x1c R w) : Calls Try.prog 45 #[.slice x1a x1n x1c] w fun e w' => ∃ v, e = .returned v ∧ R v w' := cachetteref01_Bytes.ok x1a x1n x1c (cachetteref01_Bytes.up x1a x1n x1c h)
theorem cachetteref01_Bytes.run (x1a : Option Addr) (x1n : Nat) (x1c : Nat) {V : Value} {Q : World → Prop} {w : World} (h : cachetteref01_Bytes.N x1a x1n x1c (fun v w' => v = V ∧ Q w') w) : Calls Try.prog 45 #[.slice x1a x1n x1c] w (Ret V Q) := (cachetteref01_Bytes.go x1a x1n x1c h).mono fun e w' ⟨v, he, hv, hq⟩ => ⟨by rw [he, hv], hq⟩

/-- (*cachetteref01.Reader).Bytes -/
def cachetteref01_Reader_Bytes.M (r1 : Option Addr) (most2 : Int) (R : Value → World → Prop) (w : World) : Prop :=
  Calls Try.prog 50 #[.pointer r1, .int .i64 most2] w fun ee4 ww5 => ∃ (count3 : Int), ee4 = .returned (.int .i64 count3) ∧
  r1.elim False fun a6 =>
  ∃ (Kv7 : Int), ww5.cell? (a6.add 1) = some (.int .i64 Kv7) ∧
  bif Kv7 != 0 then (
  R (.slice none 0 0) ww5) else (
  r1.elim False fun a8 =>
  ∃ (B9a : Option Addr) (B9n : Nat) (B9c : Nat), ww5.cell? (a8.add 0) = some (.slice B9a B9n B9c) ∧
  bif decide (count3 > (B9n : Int)) then (
  Calls Try.prog 73 #[.pointer r1, .int .i64 4] ww5 fun ee10 ww11 => ee10 = .returned (.tuple #[]) ∧
  R (.slice none 0 0) ww11) else (
  r1.elim False fun a12 =>
  ∃ (B13a : Option Addr) (B13n : Nat) (B13c : Nat), ww5.cell? (a12.add 0) = some (.slice B13a B13n B13c) ∧
  (0 : Int) ≤ (count3 : Int) ∧ (count3 : Int) ≤ (B13c : Int) ∧
  r1.elim False fun a14 =>
  ∃ (B15a : Option Addr) (B15n : Nat) (B15c : Nat), ww5.cell? (a14.add 0) = some (.slice B15a B15n B15c) ∧
  (0 : Int) ≤ (count3 : Int) ∧ (count3 : Int) ≤ (B15n : Int) ∧
  r1.elim False fun a16 =>
  canStore ww5 ((a16.add 0).add 0) ∧
  thenW (ww5.setCell ((a16.add 0).add 0) (.slice (if B15c = Int.toNat count3 then B15a else Option.map (fun z : Addr => z.add ((Int.toNat count3) * 1)) B15a) (B15n - (Int.toNat count3)) (B15c - (Int.toNat count3)))) fun ww17 =>
  R (.slice (if B13c = 0 then B13a else Option.map (fun z : Addr => z.add (0 * 1)) B13a) ((Int.toNat count3) - 0) (B13c - 0)) ww17))

theorem cachetteref01_Reader_Bytes.eq (r1 : Option Addr) (most2 : Int) (R : Value → World → Prop) (w : World) : mfunc Try.prog [] 52 [.pointer r1, .int .i64 most2] R w = cachetteref01_Reader_Bytes.M r1 most2 R w := by kernel_rfl
theorem cachetteref01_Reader_Bytes.ok (r1 : Option Addr) (most2 : Int) {R : Value → World → Prop} {w : World} (h : cachetteref01_Reader_Bytes.M r1 most2 R w) : Calls Try.prog 52 #[.pointer r1, .int .i64 most2] w fun e w' => ∃ v, e = .returned v ∧ R v w' :=
  mfunc_ok follows (H := []) (args := [.pointer r1, .int .i64 most2]) (by rw [cachetteref01_Reader_Bytes.eq]; exact h)

def cachetteref01_Reader_Bytes.N (r1 : Option Addr) (most2 : Int) (R : Value → World → Prop) (w : World) : Prop :=
  Calls Try.prog 50 #[.pointer r1, .int .i64 most2] w fun ee4 ww5 => ∃ (count3 : Int), ee4 = .returned (.int .i64 count3) ∧
  ∃ a6 : Addr, r1 = some a6 ∧
  ∃ (Kv8 : Int), ww5.cell? (a6.add 1) = some (.int .i64 Kv8) ∧
  (Kv8 ≠ 0 →
    R (.slice none 0 0) ww5) ∧
  (Kv8 = 0 →
    ∃ (B11a : Option Addr) (B11n : Nat) (B11c : Nat), ww5.cell? (a6.add 0) = some (.slice B11a B11n B11c) ∧
    (count3 > (B11n : Int) →
      Calls Try.prog 73 #[.pointer r1, .int .i64 4] ww5 fun ee13 ww14 => ee13 = .returned (.tuple #[]) ∧
      R (.slice none 0 0) ww14) ∧
    (count3 ≤ (B11n : Int) →
      ∃ (B16a : Option Addr) (B16n : Nat) (B16c : Nat), ww5.cell? (a6.add 0) = some (.slice B16a B16n B16c) ∧
      (0 : Int) ≤ (count3 : Int) ∧ (count3 : Int) ≤ (B16c : Int) ∧ 
      ∃ (B18a : Option Addr) (B18n : Nat) (B18c : Nat), ww5.cell? (a6.add 0) = some (.slice B18a B18n B18c) ∧
      (0 : Int) ≤ (count3 : Int) ∧ (count3 : Int) ≤ (B18n : Int) ∧ 
      canStore ww5 ((a6.add 0).add 0) ∧
      thenW (ww5.setCell ((a6.add 0).add 0) (.slice (cutA B18a B18c (Int.toNat count3) 1) (B18n - (Int.toNat count3)) (B18c - (Int.toNat count3)))) fun ww19 =>
      R (.slice B16a (Int.toNat count3) B16c) ww19))

theorem cachetteref01_Reader_Bytes.up (r1 : Option Addr) (most2 : Int) {R : Value → World → Prop} {w : World} (h : cachetteref01_Reader_Bytes.N r1 most2 R w) : cachetteref01_Reader_Bytes.M r1 most2 R w := by
  unfold cachetteref01_Reader_Bytes.M
  unfold cachetteref01_Reader_Bytes.N at h
  refine h.mono fun ee4 ww5 h => ?_
  obtain ⟨count3, he, h⟩ := h
  refine ⟨count3, he, ?_⟩
  obtain ⟨a6, ha6, h⟩ := h
  refine elim_some ha6 ?_
  obtain ⟨Kv8, hc7, h⟩ := h
  refine ⟨Kv8, hc7, ?_⟩
  refine bif_of (fun c9 => ?_) (fun c9 => ?_)
  · have h := h.1 (bne_t c9)
    exact h
  · have h := h.2 (bne_f c9)
    refine elim_some ha6 ?_
    obtain ⟨B11a, B11n, B11c, hc10, h⟩ := h
    refine ⟨B11a, B11n, B11c, hc10, ?_⟩
    refine bif_of (fun c12 => ?_) (fun c12 => ?_)
    · have h := h.1 (of_decide_eq_true c12)
      refine h.mono fun ee13 ww14 h => ?_
      obtain ⟨he, h⟩ := h
      refine ⟨he, ?_⟩
      exact h
    · have h := h.2 (Int.not_lt.1 (of_decide_eq_false c12))
      refine elim_some ha6 ?_
      obtain ⟨B16a, B16n, B16c, hc15, h⟩ := h
      refine ⟨B16a, B16n, B16c, hc15, ?_⟩
      obtain ⟨hq0, hq1, h⟩ := h
      refine ⟨hq0, hq1, ?_⟩
      try rw [cut_zero]
      refine elim_some ha6 ?_
      obtain ⟨B18a, B18n, B18c, hc17, h⟩ := h
      refine ⟨B18a, B18n, B18c, hc17, ?_⟩
      obtain ⟨hq0, hq1, h⟩ := h
      refine ⟨hq0, hq1, ?_⟩
      refine elim_some ha6 ?_
      obtain ⟨hcs, h⟩ := h
      refine ⟨hcs, thenW_in fun ww19 e19 => ?_⟩
      replace h := thenW_out h e19
      exact h

theorem cachetteref01_Reader_Bytes.go (r1 : Option Addr) (most2 : Int) {R : Value → World → Prop} {w : World} (h : cachetteref01_Reader_Bytes.N r1 most2 R w) : Calls Try.prog 52 #[.pointer r1, .int .i64 most2] w fun e w' => ∃ v, e = .returned v ∧ R v w' := cachetteref01_Reader_Bytes.ok r1 most2 (cachetteref01_Reader_Bytes.up r1 most2 h)
theorem cachetteref01_Reader_Bytes.run (r1 : Option Addr) (most2 : Int) {V : Value} {Q : World → Prop} {w : World} (h : cachetteref01_Reader_Bytes.N r1 most2 (fun v w' => v = V ∧ Q w') w) : Calls Try.prog 52 #[.pointer r1, .int .i64 most2] w (Ret V Q) := (cachetteref01_Reader_Bytes.go r1 most2 h).mono fun e w' ⟨v, he, hv, hq⟩ => ⟨by rw [he, hv], hq⟩

abbrev RS := List UInt8 × Int
/-- so many bytes. -/
def takeR (n : Nat) (s : RS) : List UInt8 × RS := if s.2 = 0 then (if s.1.length < n then ([], ([], 4)) else (s.1.take n, (s.1.drop n, 0))) else ([], s)
def bytesR (m : Int) (s : RS) : List UInt8 × RS := takeR (countR m s).1 (countR m s).2
theorem takeR_len (n : Nat) (s : RS) : (takeR n s).2.1.length ≤ s.1.length ∧ (takeR n s).1.length ≤ s.1.length := by
  unfold takeR
  split
  · split
    · simp
    · simp; omega
  · simp
theorem bytesR_len (m : Int) (s : RS) : (bytesR m s).2.1.length ≤ s.1.length ∧ (bytesR m s).1.length ≤ s.1.length := by
  have h1 := W.countR_len m s
  have h2 := takeR_len (countR m s).1 (countR m s).2
  unfold bytesR
  omega
theorem bytesR_le {m : Int} (hm : 0 ≤ m) (s : RS) : ((bytesR m s).1.length : Int) ≤ m := by
  have h := W.count_le m s hm
  unfold bytesR takeR
  split
  · split
    · simpa using hm
    · simp only [List.length_take]; omega
  · simpa using hm
section
variable {w w' : World} {a : Option Addr} {c N p : Nat} {bs : List UInt8} {k : Int}
theorem Rd_drop (h : Rd w p bs k) {a : Option Addr} {c : Nat} (hb : Blk w p 120 [.slice a bs.length c, .int .i64 k]) {n : Nat} (hn : n ≤ bs.length) (hc : bs.length ≤ c) (hr : RowAt w a (bytesV bs)) (h4 : bytesV bs ≠ [] → ∀ ad, a = some ad → ad.block < p)
    (e : w' = w.setCell ((blk p).add 0) (.slice (cutA a c n 1) (bs.length - n) (c - n))) : Rd w' p (bs.drop n) k ∧ Ext (fun b => b = p) w w' := by
  have hx : Ext (fun b => b = p) w w' := (Ext.refl (fun b => b = p) w).x_set (q := p) (i := 0) rfl (.inl rfl) e
  have hb' := hb.seti 0 rfl e
  have hne : bytesV (bs.drop n) ≠ [] → bytesV bs ≠ [] := fun h0 e => h0 (by rw [bytesV, List.map_drop, show List.map u8V bs = [] from e]; simp)
  refine ⟨⟨cutA a c n 1, c - n, by rw [List.length_drop]; exact hb', by rw [List.length_drop]; omega, ?_, fun h0 ad ha => ?_⟩, hx⟩
  · have := hr.cut n c (by rw [bytesV_length]; exact hc)
    rw [show bytesV (bs.drop n) = (bytesV bs).drop n by simp [bytesV]]
    refine this.ext' hx fun h0 ad ha hq => ?_
    obtain ⟨b, hb, hbb⟩ := cutA_block ha
    have := h4 (fun e => h0 (by rw [e]; simp)) b hb
    omega
  · obtain ⟨b, hb, hbb⟩ := cutA_block ha
    have := h4 (hne h0) b hb
    omega
theorem Take_spec (h : Rd w p bs k) (hl : bs.length < 1000000) (n : Nat) :
    Calls Try.prog 81 #[.pointer (some (blk p)), .int .i64 n] w (fun e w' => ∃ a c, e = .returned (.slice a (takeR n (bs, k)).1.length c) ∧ OwnB w.heap.size w' a c (takeR n (bs, k)).1 ∧ Rd w' p (takeR n (bs, k)).2.1 (takeR n (bs, k)).2.2 ∧ Ext (fun b => b = p) w w') := by
  refine (wire_Reader_take.go _ _ (R := fun v w' => ∃ a c, v = (.slice a (takeR n (bs, k)).1.length c) ∧ OwnB w.heap.size w' a c (takeR n (bs, k)).1 ∧ Rd w' p (takeR n (bs, k)).2.1 (takeR n (bs, k)).2.2 ∧ Ext (fun b => b = p) w w') ?_).mono fun e w' ⟨v, he, a, c, hv, hw⟩ => ⟨a, c, by rw [he, hv], hw⟩
  unfold wire_Reader_take.N
  refine (W.ok_spec h).mono fun e w5 ⟨he, hw⟩ => ⟨_, he, fun hk => ?_, fun hk => ?_⟩ <;> subst hw <;> simp only [beq_iff_eq, beq_eq_false_iff_ne] at hk
  · unfold takeR
    rw [if_neg hk]
    exact ⟨none, 0, rfl, OwnB.nil _ _, h, Ext.refl _ _⟩
  · subst hk
    obtain ⟨a, c, h1, h2, h3, h4⟩ := id h
    refine ⟨_, rfl, a, bs.length, c, h1.cella (i := 0) rfl, fun hn => ?_, fun hn => ?_⟩
    · unfold takeR
      rw [if_pos rfl, if_pos (by show bs.length < n; omega)]
      refine (W.fail_spec h 4).mono fun e w12 ⟨he, hr, hx⟩ => ⟨he, none, 0, rfl, OwnB.nil _ _, hr, hx⟩
    · unfold takeR
      rw [if_pos rfl, if_neg (by show ¬ bs.length < n; omega)]
      refine ⟨a, bs.length, c, h1.cella (i := 0) rfl, by omega, by omega, ?_⟩
      rw [Int.toNat_natCast]
      have ht : bytesV (bs.take n) = (bytesV bs).take n := by simp [bytesV]
      have hlt : (bs.take n).length = n := by rw [List.length_take]; omega
      have hc := W.clone_spec (c := c) (bs := bs.take n) (a := a) (w := w5) (by rw [ht]; exact h3.take n) (by omega)
      rw [hlt] at hc
      refine hc.mono fun e w18 ⟨ra, rc, he, hO, hx⟩ => ⟨ra, n, rc, he, ?_⟩
      have h' := h.no hx
      refine ⟨a, bs.length, c, (h1.ext hx id).cella (i := 0) rfl, by omega, by omega, (h1.ext hx id).cana (i := 0) rfl, thenW_in fun w23 e23 => ?_⟩
      obtain ⟨q1, q2⟩ := Rd_drop h' (h1.ext hx id) (n := n) (by omega) h2 (h3.no hx) h4 e23
      refine ⟨ra, rc, by rw [hlt], hO.ext q2 fun ad ha hb => ?_, q1, hx.none.trans q2⟩
      have := (hO.fr ad ha).1
      have := h1.lt
      omega
theorem RBytes_spec (h : Rd w p bs k) (hl : bs.length < 1000000) {m : Int} (hm : m < 4611686018427387904) :
    Calls Try.prog 79 #[.pointer (some (blk p)), .int .i64 m] w (fun e w' => ∃ a c, e = .returned (.slice a (bytesR m (bs, k)).1.length c) ∧ OwnB w.heap.size w' a c (bytesR m (bs, k)).1 ∧ Rd w' p (bytesR m (bs, k)).2.1 (bytesR m (bs, k)).2.2 ∧ Ext (fun b => b = p) w w') := by
  refine (wire_Reader_Bytes.go _ _ (R := fun v w' => ∃ a c, v = (.slice a (bytesR m (bs, k)).1.length c) ∧ OwnB w.heap.size w' a c (bytesR m (bs, k)).1 ∧ Rd w' p (bytesR m (bs, k)).2.1 (bytesR m (bs, k)).2.2 ∧ Ext (fun b => b = p) w w') ?_).mono fun e w' ⟨v, he, a, c, hv, hw⟩ => ⟨a, c, by rw [he, hv], hw⟩
  unfold wire_Reader_Bytes.N
  refine (W.Count_spec h hl hm).mono fun e w5 ⟨he, hr, hx⟩ => ⟨_, he, ?_⟩
  have hlen := W.countR_len m (bs, k)
  refine (Take_spec hr (by simp only at hlen; omega) _).mono fun e w8 ⟨a, c, he, hO, hr2, hx2⟩ => ⟨a, _, c, he, a, c, rfl, ⟨hO.own, fun ad ha => ⟨Nat.le_trans hx.size (hO.fr ad ha).1, (hO.fr ad ha).2⟩⟩, hr2, hx.trans hx2⟩

/-! ### the reference's -/
theorem rBytes_spec {xs : List UInt8} {xa : Option Addr} {xc : Nat} (hx : RowAt w xa (bytesV xs)) (hl : xs.length ≤ 1000000) :
    Calls Try.prog 45 #[.slice xa xs.length xc] w (fun e w' => ∃ a' c', e = .returned (.slice a' (numL xs.length ++ xs).length c') ∧ OwnB w.heap.size w' a' c' (numL xs.length ++ xs) ∧ Ext no w w') := by
  refine (cachetteref01_Bytes.go _ _ _ (R := fun v w' => ∃ a' c', v = (.slice a' (numL xs.length ++ xs).length c') ∧ OwnB w.heap.size w' a' c' (numL xs.length ++ xs) ∧ Ext no w w') ?_).mono fun e w' ⟨v, he, a, c, hv, hw⟩ => ⟨a, c, by rw [he, hv], hw⟩
  unfold cachetteref01_Bytes.N
  rw [wu64 (n := (xs.length : Int)) (by omega) (by omega)]
  refine (W.rNum_spec xs.length w (by omega)).mono fun e w4 ⟨a4, c4, he, hO, hx4⟩ => ⟨a4, _, c4, he, ?_⟩
  have hnl : (numL xs.length).length ≤ 10 := numF_le 10 _
  obtain ⟨a', c', w7, hr, hO7, hx7⟩ := hO.append (t := 34) (ty := 34) Try.underlying34 hx4.size (xc := xc) (hx.no hx4) (by omega)
  exact ⟨a', _, c', w7, hr, a', c', rfl, hO7, hx4.then hx7 fun b hb => .inr hb⟩
theorem RdR_drop (h : RdR w p N bs k) {a : Option Addr} {c : Nat} (hb : Blk w p 106 [.slice a bs.length c, .int .i64 k]) {n : Nat} (hn : n ≤ bs.length) (hc : bs.length ≤ c) (hr : RowAt w a (bytesV bs)) (h4 : bytesV bs ≠ [] → ∀ ad, a = some ad → ad.block < N)
    (e : w' = w.setCell ((blk p).add 0) (.slice (cutA a c n 1) (bs.length - n) (c - n))) : RdR w' p N (bs.drop n) k ∧ Ext (fun b => b = p) w w' := by
  have hx : Ext (fun b => b = p) w w' := (Ext.refl (fun b => b = p) w).x_set (q := p) (i := 0) rfl (.inl rfl) e
  have hb' := hb.seti 0 rfl e
  have hne : bytesV (bs.drop n) ≠ [] → bytesV bs ≠ [] := fun h0 e => h0 (by rw [bytesV, List.map_drop, show List.map u8V bs = [] from e]; simp)
  have hNp := h.1
  refine ⟨⟨hNp, cutA a c n 1, c - n, by rw [List.length_drop]; exact hb', by rw [List.length_drop]; omega, ?_, fun h0 ad ha => ?_⟩, hx⟩
  · have := hr.cut n c (by rw [bytesV_length]; exact hc)
    rw [show bytesV (bs.drop n) = (bytesV bs).drop n by simp [bytesV]]
    refine this.ext' hx fun h0 ad ha hq => ?_
    obtain ⟨b, hb, hbb⟩ := cutA_block ha
    have := h4 (fun e => h0 (by rw [e]; simp)) b hb
    omega
  · obtain ⟨b, hb, hbb⟩ := cutA_block ha
    have := h4 (hne h0) b hb
    omega
/-- the bytes are a part of the reader's own. -/
theorem rRBytes_spec (h : RdR w p N bs k) (hl : bs.length < 1000000) {m : Int} (hm0 : 0 ≤ m) (hm : m < 4611686018427387904) :
    Calls Try.prog 52 #[.pointer (some (blk p)), .int .i64 m] w (fun e w' => ∃ a c, e = .returned (.slice a (bytesR m (bs, k)).1.length c) ∧ (bytesR m (bs, k)).1.length ≤ c ∧ RowAt w' a (bytesV (bytesR m (bs, k)).1) ∧ (bytesV (bytesR m (bs, k)).1 ≠ [] → ∀ ad, a = some ad → ad.block < N) ∧
      RdR w' p N (bytesR m (bs, k)).2.1 (bytesR m (bs, k)).2.2 ∧ Ext (fun b => b = p) w w') := by
  refine (cachetteref01_Reader_Bytes.go _ _ (R := fun v w' => ∃ a c, v = (.slice a (bytesR m (bs, k)).1.length c) ∧ (bytesR m (bs, k)).1.length ≤ c ∧ RowAt w' a (bytesV (bytesR m (bs, k)).1) ∧ (bytesV (bytesR m (bs, k)).1 ≠ [] → ∀ ad, a = some ad → ad.block < N) ∧
      RdR w' p N (bytesR m (bs, k)).2.1 (bytesR m (bs, k)).2.2 ∧ Ext (fun b => b = p) w w') ?_).mono fun e w' ⟨v, he, a, c, hv, hw⟩ => ⟨a, c, by rw [he, hv], hw⟩
  unfold cachetteref01_Reader_Bytes.N
  refine (W.rCount_spec h hl hm0 hm).mono fun e w5 ⟨he, hr, hx⟩ => ⟨_, he, ?_⟩
  have hlen := W.countR_len m (bs, k)
  unfold bytesR
  generalize countR m (bs, k) = s at *
  obtain ⟨n, l, k2⟩ := s
  simp only at *
  obtain ⟨hNp, a, c, h1, h2, h3, h4⟩ := id hr
  refine ⟨_, rfl, _, h1.cella (i := 1) rfl, fun hk => ?_, fun hk => ?_⟩
  · unfold takeR
    rw [if_neg hk]
    exact ⟨none, 0, rfl, Nat.le_refl _, RowAt.nil _ _, fun h0 => absurd rfl h0, hr, hx⟩
  · subst hk
    refine ⟨a, l.length, c, h1.cella (i := 0) rfl, fun hn => ?_, fun hn => ?_⟩
    · unfold takeR
      rw [if_pos rfl, if_pos (by show l.length < n; omega)]
      exact (W.rFail_spec hr 4).mono fun e w12 ⟨he, hr, hx2⟩ => ⟨he, none, 0, rfl, Nat.le_refl _, RowAt.nil _ _, fun h0 => absurd rfl h0, hr, hx.trans hx2⟩
    · unfold takeR
      rw [if_pos rfl, if_neg (by show ¬ l.length < n; omega)]
      refine ⟨a, l.length, c, h1.cella (i := 0) rfl, by omega, by omega, a, l.length, c, h1.cella (i := 0) rfl, by omega, by omega, h1.cana (i := 0) rfl, thenW_in fun w23 e23 => ?_⟩
      rw [Int.toNat_natCast] at e23 ⊢
      have ht : bytesV (l.take n) = (bytesV l).take n := by simp [bytesV]
      have hlt : (l.take n).length = n := by rw [List.length_take]; omega
      obtain ⟨q1, q2⟩ := RdR_drop hr h1 (n := n) (by omega) h2 h3 h4 e23
      have hne : bytesV (l.take n) ≠ [] → bytesV l ≠ [] := fun h0 e => h0 (by rw [ht, e]; simp)
      refine ⟨a, c, by rw [hlt], by rw [hlt]; omega, ?_, fun h0 => h4 (hne h0), q1, hx.trans q2⟩
      rw [ht]
      refine (h3.take n).ext' q2 fun h0 ad ha hb => ?_
      have := h4 (fun e => h0 (by rw [e]; simp)) ad ha
      omega
end
end Go.Proofs.Ytmhfoieeldiecaa

/- Members: a change's bytes, the program's and the reference's. -/
set_option linter.unusedVariables false
set_option linter.unusedSimpArgs false
set_option maxRecDepth 20000
set_option maxHeartbeats 4000000
namespace Go.Proofs.Ytmhfoieeldiecaa
open Go Go.Mx Go.Proofs
open W (OwnB)
def wrapL (x : Int × List UInt8) : List UInt8 := numL x.1.toNat ++ (numL x.2.length ++ x.2)
def wsL (l : List (Int × List UInt8)) : List UInt8 := l.flatMap wrapL
def bodyM (c : Chg) : List UInt8 :=
  if c.kd = 3 then numL 3 ++ numL c.ws.length ++ wsL c.ws ++ (numL c.old.length ++ c.old)
  else if c.kd = 1 then numL 1 ++ numL c.who.toNat ++ numL c.pub.toNat else numL 2 ++ numL c.who.toNat ++ numL c.lim.toNat
def bytesM (c : Chg) : List UInt8 × Int := if rightM c = true then (bodyM c, 0) else ([], 1)
section
variable {w w' w1 : World} {a b : Option Addr} {c d N : Nat} {cg : Chg} {l : List Wr} {wa oa : Option Addr} {wc oc : Nat} {bs : List UInt8} {p : Nat}
theorem boxesGo_all : ∀ {l : List (Int × List UInt8)} {last : Int}, boxesGo last l = true → ∀ x ∈ l, 0 ≤ x.1 ∧ x.1 < 8 ∧ last < x.1 ∧ x.2.length = 16
  | [], _, _, x, hx => by cases hx
  | y :: r, last, h, x, hx => by
    simp only [boxesGo, Bool.and_eq_true, decide_eq_true_eq] at h
    obtain ⟨⟨⟨h1, h2⟩, h3⟩, h4⟩ := h
    rcases List.mem_cons.1 hx with rfl | hx
    · exact ⟨h1.1, h1.2, h2, h3⟩
    · have := boxesGo_all h4 x hx; omega
theorem boxesGo_len : ∀ {l : List (Int × List UInt8)} {last : Int}, boxesGo last l = true → -1 ≤ last → (l.length : Int) + last ≤ 7 ∨ l = []
  | [], _, _, _ => .inr rfl
  | y :: r, last, h, hl => by
    simp only [boxesGo, Bool.and_eq_true, decide_eq_true_eq] at h
    obtain ⟨⟨⟨h1, h2⟩, h3⟩, h4⟩ := h
    left
    rcases boxesGo_len h4 (by omega) with h5 | h5
    · simp only [List.length_cons]; omega
    · subst h5; simp only [List.length_cons, List.length_nil]; omega
theorem right_kd (h : rightM cg = true) : cg.kd = 1 ∨ cg.kd = 2 ∨ cg.kd = 3 := by
  by_cases h1 : cg.kd = 1
  · exact .inl h1
  by_cases h2 : cg.kd = 2
  · exact .inr (.inl h2)
  by_cases h3 : cg.kd = 3
  · exact .inr (.inr h3)
  rw [rightM_0 h1 h2 h3] at h; cases h
theorem right_3 (h : rightM cg = true) (h3 : cg.kd = 3) : boxesGo (-1) cg.ws = true ∧ cg.ws ≠ [] ∧ cg.who = 0 ∧ cg.pub = 0 ∧ cg.lim = 0 ∧ (cg.old.length = 0 ∨ cg.old.length = 24) ∧ cg.ws.length ≤ 8 := by
  rw [rightM_3 h3, Bool.and_eq_true, decide_eq_true_eq] at h
  obtain ⟨h1, h2⟩ := h
  unfold boxesP at h1
  rw [Bool.and_eq_true, decide_eq_true_eq] at h1
  refine ⟨h1.1, h1.2, h2.1, h2.2.1, h2.2.2.1, h2.2.2.2, ?_⟩
  rcases boxesGo_len h1.1 (by decide) with h | h
  · omega
  · exact absurd h h1.2
theorem wrapL_len {x : Int × List UInt8} (h : x.2.length ≤ 100) : (wrapL x).length ≤ 120 := by
  have h1 := W.numL_le x.1.toNat
  have h2 := W.numL_le x.2.length
  unfold wrapL; simp only [List.length_append]; omega
theorem wsL_len : ∀ {l : List (Int × List UInt8)}, (∀ x ∈ l, x.2.length ≤ 100) → (wsL l).length ≤ 120 * l.length
  | [], _ => Nat.zero_le _
  | x :: r, h => by
    have h1 := wrapL_len (h x (by simp))
    have h2 := wsL_len (l := r) fun y hy => h y (by simp [hy])
    unfold wsL at h2 ⊢
    rw [List.flatMap_cons, List.length_append, List.length_cons]; omega
theorem mnum_spec (h : RowAt w a (bytesV bs)) (hl : bs.length ≤ 1000000) {x : Int} (h0 : 0 ≤ x) (h1 : x < 18446744073709551616) :
    Calls Try.prog 41 #[.slice a bs.length c, .int .u64 (IntKind.u64.wrap x)] w (fun e w' => ∃ a' c', e = .returned (.slice a' (bs ++ numL x.toNat).length c') ∧ OwnB w.heap.size w' a' c' (bs ++ numL x.toNat) ∧ Ext no w w') := by
  have := W.Num_spec (c := c) h hl (n := x.toNat) (by omega)
  rw [Int.toNat_of_nonneg h0] at this
  rw [wu64 h0 h1]; exact this
theorem mrnum_spec {x : Int} (h0 : 0 ≤ x) (h1 : x < 18446744073709551616) : Calls Try.prog 43 #[.int .i64 x] w (fun e w' => ∃ a' c', e = .returned (.slice a' (numL x.toNat).length c') ∧ OwnB w.heap.size w' a' c' (numL x.toNat) ∧ Ext no w w') := by
  refine (cachetteref12_num.go x (R := fun v w' => ∃ a' c', v = (.slice a' (numL x.toNat).length c') ∧ OwnB w.heap.size w' a' c' (numL x.toNat) ∧ Ext no w w') ?_).mono fun e w' ⟨v, he, a', c', hv, hw⟩ => ⟨a', c', by rw [he, hv], hw⟩
  unfold cachetteref12_num.N
  have := W.rNum_spec x.toNat w (by omega)
  rw [Int.toNat_of_nonneg h0] at this
  rw [wu64 h0 h1]
  exact this.mono fun e w4 ⟨a', c', he, hO, X⟩ => ⟨a', _, c', he, a', c', rfl, hO, X⟩
/-- what a change's bytes are given as. -/
def BytG (w : World) (r : List UInt8 × Int) (v : Value) (w' : World) : Prop := ∃ a' c', v = .tuple #[.slice a' r.1.length c', .int .i64 r.2] ∧ OwnB w.heap.size w' a' c' r.1 ∧ Ext no w w'
theorem mBytes_spec (hr : RowAt w wa (l.flatMap Wr.C)) (hl : l.map Wr.p = cg.ws) (hn : l.length < 1000) (hb : ∀ x ∈ l, RowAt w x.a (bytesV x.b)) (ho : RowAt w oa (bytesV cg.old)) (hol : cg.old.length < 1000) (hpub : 0 ≤ cg.pub ∧ cg.pub < 18446744073709551616) :
    Calls Try.prog 27 #[chgV cg wa wc oa oc] w (fun e w' => ∃ v, e = .returned v ∧ BytG w (bytesM cg) v w') := by
  refine members_Bytes.go cg.kd cg.who cg.pub cg.lim wa cg.ws.length wc oa cg.old.length oc (R := BytG w (bytesM cg)) ?_
  unfold members_Bytes.N
  intro w7 p8 X7 hp
  have h8 := (hp p8 (by simp)).1
  have hlen : cg.ws.length = l.length := by rw [← hl]; simp
  refine (Right_spec (hr.no X7) hl (by omega) (by omega)).mono fun e w11 ⟨he, X11⟩ => ⟨_, he, X11.kept, fun hf => ?_, fun ht => ?_⟩
  · unfold bytesM; rw [if_neg (by rw [hf]; decide)]
    exact ⟨none, 0, rfl, OwnB.nil _ _, X7.trans X11⟩
  have Y11 := X7.trans X11
  have hB : bytesM cg = (bodyM cg, 0) := by unfold bytesM; rw [if_pos ht]
  rw [hB]
  have hkd := right_kd ht
  have hwho := rightM_who ht
  refine (mnum_spec (a := none) (c := 0) (bs := []) (RowAt.nil _ _) (by decide) (x := cg.kd) (by omega) (by omega)).mono fun e w15 ⟨a15, c15, he, O15, X15⟩ => ⟨_, _, _, he, X15.kept, fun hk => ?_, fun hk => ?_⟩
  all_goals have Y15 := Y11.trans X15
  all_goals have n1 := W.numL_le cg.kd.toNat
  · obtain ⟨h1, h2, h3, h4, h5, h6, h7⟩ := right_3 ht hk
    have hall := boxesGo_all h1
    have hbody : bodyM cg = numL 3 ++ numL cg.ws.length ++ wsL cg.ws ++ (numL cg.old.length ++ cg.old) := by unfold bodyM; rw [if_pos hk]
    rw [hbody]
    rw [hk] at O15
    rw [hk]
    have hwsl : ∀ x ∈ cg.ws, x.2.length ≤ 100 := fun x hx => by have := hall x hx; omega
    refine (mnum_spec O15.row (by simp only [List.nil_append]; have := W.numL_le (3 : Int).toNat; omega) (x := (cg.ws.length : Int)) (by omega) (by omega)).mono fun e w19 ⟨a19, c19, he, O19, X19⟩ => ⟨_, _, _, he, X19.kept, ?_⟩
    have Y19 := Y15.trans X19
    have hO : OwnB w.heap.size w19 a19 c19 (numL 3 ++ numL cg.ws.length ++ wsL (cg.ws.take 0)) := by
      have := (⟨O19.own, fun ad ha => ⟨Nat.le_trans (Nat.le_trans Y15.size (Nat.le_refl _)) (O19.fr ad ha).1, (O19.fr ad ha).2⟩⟩ : OwnB w.heap.size w19 a19 c19 _)
      have e : numL 3 ++ numL cg.ws.length ++ wsL (cg.ws.take 0) = [] ++ numL (3 : Int).toNat ++ numL ((cg.ws.length : Int)).toNat := by rw [Int.toNat_natCast]; simp [wsL]
      rw [e]; exact this
    have hst : ∀ t, (numL 3 ++ numL cg.ws.length ++ wsL (cg.ws.take t)).length ≤ 2000 := fun t => by
      have q1 := W.numL_le 3
      have q2 := W.numL_le cg.ws.length
      have q3 := wsL_len (l := cg.ws.take t) fun x hx => hwsl x (List.mem_of_mem_take hx)
      have q4 : (cg.ws.take t).length ≤ 8 := by rw [List.length_take]; omega
      simp only [List.length_append]; omega
    refine ⟨fun q vs w1 => ∃ (t : Nat) (a1 : Option Addr) (c1 : Nat), vs = [.slice a1 (numL 3 ++ numL cg.ws.length ++ wsL (cg.ws.take t)).length c1, .int .i64 t] ∧ q + t = l.length ∧ OwnB w.heap.size w1 a1 c1 (numL 3 ++ numL cg.ws.length ++ wsL (cg.ws.take t)) ∧ Ext no w w1, l.length, ⟨0, a19, c19, ?_, rfl, hO, Y19⟩, ?_⟩
    · have e : ([] ++ numL (3 : Int).toNat ++ numL ((cg.ws.length : Int)).toNat).length = (numL 3 ++ numL cg.ws.length ++ wsL (cg.ws.take 0)).length := by rw [Int.toNat_natCast]; simp [wsL]
      rw [e]; rfl
    rintro q w24 ba bn bc t0 ⟨t, a1, c1, hi, hq, O24, Y24⟩
    simp only [List.cons.injEq, Value.slice.injEq, Value.int.injEq, true_and, and_true] at hi
    obtain ⟨⟨rfl, rfl, rfl⟩, rfl⟩ := hi
    have hsz := hst t
    refine ⟨fun ht => ?_, fun ht => ?_⟩
    · have htl : t < l.length := by omega
      have hg : l[t]? = some l[t] := List.getElem?_eq_getElem htl
      have hgw : cg.ws[t]? = some l[t].p := by rw [← hl, List.getElem?_map, hg]; rfl
      have hmem := List.mem_of_getElem? hgw
      have hxb := hb _ (List.getElem_mem htl)
      have htk : wsL (cg.ws.take (t + 1)) = wsL (cg.ws.take t) ++ wrapL l[t].p := by
        rw [List.take_add_one, hgw]; unfold wsL; rw [List.flatMap_append]; simp
      have hx := hall _ hmem
      generalize l[t] = x at *
      have estep : numL 3 ++ numL cg.ws.length ++ wsL (cg.ws.take t) ++ numL x.who.toNat ++ numL x.b.length ++ x.b = numL 3 ++ numL cg.ws.length ++ wsL (cg.ws.take (t + 1)) := by
        rw [htk]; unfold wrapL; simp only [List.append_assoc]; rfl
      have hx1 : 0 ≤ x.who ∧ x.who < 8 := ⟨hx.1, hx.2.1⟩
      have hx2 : x.b.length = 16 := hx.2.2.2
      obtain ⟨ad, rfl⟩ := hr.faddr Wr.len (by decide) htl
      refine ⟨ad, rfl, by omega, by omega, x.who, x.a, x.b.length, x.c, by rw [Int.toNat_natCast]; exact (hr.no Y24).floads Wr.len hg, fun w33 p34 X33 hp34 => ?_⟩
      have Y33 := Y24.trans X33
      refine (mnum_spec (O24.no X33).row (by omega) (x := x.who) (by omega) (by omega)).mono fun e w37 ⟨a37, c37, he, O37, X37⟩ => ⟨_, _, _, he, X37.kept, ?_⟩
      have Y37 := Y33.trans X37
      refine (W.Bytes_spec O37.row (by have := W.numL_le x.who.toNat; rw [List.length_append]; omega) (hxb.no Y37) (by omega)).mono fun e w40 ⟨a40, c40, he, O40, X40⟩ => ⟨_, _, _, he, X40.kept, by omega, by omega, q - 1, by omega, t + 1, a40, c40, ?_, by omega, ?_, Y37.trans X40⟩
      · rw [estep]; rfl
      · rw [estep] at O40
        exact ⟨O40.own, fun ad ha => ⟨Nat.le_trans Y37.size (O40.fr ad ha).1, (O40.fr ad ha).2⟩⟩
    · have htt : cg.ws.take t = cg.ws := List.take_of_length_le (by omega)
      rw [htt] at O24 hsz ⊢
      refine (W.Bytes_spec O24.row (by omega) (ho.no Y24) (by omega)).mono fun e w44 ⟨a44, c44, he, O44, X44⟩ => ⟨_, _, _, he, ?_⟩
      rw [List.append_assoc _ (numL cg.old.length)] at O44 ⊢
      exact ⟨a44, c44, rfl, ⟨O44.own, fun ad ha => ⟨Nat.le_trans Y24.size (O44.fr ad ha).1, (O44.fr ad ha).2⟩⟩, Y24.trans X44⟩
  · refine (mnum_spec O15.row (by simp only [List.nil_append]; omega) (x := cg.who) (by omega) (by omega)).mono fun e w47 ⟨a47, c47, he, O47, X47⟩ => ⟨_, _, _, he, X47.kept, fun hk1 => ?_, fun hk1 => ?_⟩
    all_goals have Y47 := Y15.trans X47
    all_goals have n2 := W.numL_le cg.who.toNat
    · have hbody : bodyM cg = [] ++ numL cg.kd.toNat ++ numL cg.who.toNat ++ numL cg.pub.toNat := by unfold bodyM; rw [if_neg hk, if_pos hk1, hk1]; rfl
      rw [hbody]
      have := W.Num_spec (c := c47) O47.row (by simp only [List.nil_append, List.length_append]; omega) (n := cg.pub.toNat) (by omega)
      rw [Int.toNat_of_nonneg hpub.1] at this
      refine this.mono fun e w51 ⟨a51, c51, he, O51, X51⟩ => ⟨_, _, _, he, a51, c51, rfl, ⟨O51.own, fun ad ha => ⟨Nat.le_trans Y47.size (O51.fr ad ha).1, (O51.fr ad ha).2⟩⟩, Y47.trans X51⟩
    · have hk2 : cg.kd = 2 := by omega
      have hbody : bodyM cg = [] ++ numL cg.kd.toNat ++ numL cg.who.toNat ++ numL cg.lim.toNat := by unfold bodyM; rw [if_neg hk, if_neg hk1, hk2]; rfl
      rw [hbody]
      have hlim : 0 ≤ cg.lim ∧ cg.lim ≤ 200 := by
        rw [rightM_2 hk2, decide_eq_true_eq] at ht; exact ⟨ht.2.2.2.1, ht.2.2.2.2.1⟩
      refine (mnum_spec O47.row (by simp only [List.nil_append, List.length_append]; omega) (x := cg.lim) (by omega) (by omega)).mono fun e w54 ⟨a54, c54, he, O54, X54⟩ => ⟨_, _, _, he, a54, c54, rfl, ⟨O54.own, fun ad ha => ⟨Nat.le_trans Y47.size (O54.fr ad ha).1, (O54.fr ad ha).2⟩⟩, Y47.trans X54⟩
/-- one more piece behind bytes of one's own. -/
theorem mapp (h : OwnB N w a c bs) (hN : N ≤ w.heap.size) {xa : Option Addr} {xc : Nat} {xs : List UInt8} (hx : RowAt w xa (bytesV xs)) (hl : bs.length + xs.length ≤ 100000) (hp : p < N) (X0 : Ext no w1 w) (hw1 : w1.heap.size ≤ N) :
    ∃ a' n' c' w', (Builtin.append_ #[34, 34] 34 #[.slice a bs.length c, .slice xa xs.length xc]).run Try.prog w = .ok (.slice a' n' c') w' ∧ n' = (bs ++ xs).length ∧ OwnB N w' a' c' (bs ++ xs) ∧ Keep [p] w w' ∧ Ext no w1 w' ∧ N ≤ w'.heap.size := by
  obtain ⟨a', c', w', hrun, O, X⟩ := h.append (ty := 34) Try.underlying34 hN (xc := xc) hx (by omega)
  exact ⟨a', _, c', w', hrun, rfl, O, X.keep fun q hq _ hb => by have hb : N ≤ q := hb; simp at hq; omega, X0.then X fun b hb => .inr (Nat.le_trans hw1 hb), Nat.le_trans hN X.size⟩
theorem rmBytes_spec (hr : RowAt w wa (l.flatMap Wr.C)) (hl : l.map Wr.p = cg.ws) (hn : l.length < 1000) (hb : ∀ x ∈ l, RowAt w x.a (bytesV x.b)) (ho : RowAt w oa (bytesV cg.old)) (hol : cg.old.length < 1000) (hpub : 0 ≤ cg.pub ∧ cg.pub < 18446744073709551616) :
    Calls Try.prog 28 #[chgV cg wa wc oa oc] w (fun e w' => ∃ v, e = .returned v ∧ BytG w (bytesM cg) v w') := by
  refine cachetteref12_Bytes.go cg.kd cg.who cg.pub cg.lim wa cg.ws.length wc oa cg.old.length oc (R := BytG w (bytesM cg)) ?_
  unfold cachetteref12_Bytes.N
  intro w7 p8 X7 hp
  have h8 := (hp p8 (by simp)).1
  have h87 := (hp p8 (by simp)).2
  have hlen : cg.ws.length = l.length := by rw [← hl]; simp
  refine (rRight_spec (hr.no X7) hl (by omega) (by omega)).mono fun e w11 ⟨he, X11⟩ => ⟨_, he, X11.kept, fun hf => ?_, fun ht => ?_⟩
  · unfold bytesM; rw [if_neg (by rw [hf]; decide)]
    exact ⟨none, 0, rfl, OwnB.nil _ _, X7.trans X11⟩
  have Y11 := X7.trans X11
  have hB : bytesM cg = (bodyM cg, 0) := by unfold bytesM; rw [if_pos ht]
  rw [hB]
  have hkd := right_kd ht
  have hwho := rightM_who ht
  have h11 := X11.size
  have h711 := X7.size
  have hN8 : p8 < w11.heap.size := by omega
  have hNw : w.heap.size ≤ w11.heap.size := Y11.size
  refine (mrnum_spec (x := cg.kd) (by omega) (by omega)).mono fun e w15 ⟨a15, c15, he, O15, X15⟩ => ⟨_, _, _, he, X15.kept, fun hk => ?_, fun hk1 => ⟨fun hk => ?_, fun hk2 => ⟨fun hk => ?_, fun hk => by omega⟩⟩⟩
  all_goals have Y15 := Y11.trans X15
  all_goals have n1 := W.numL_le cg.kd.toNat
  all_goals have n2 := W.numL_le cg.who.toNat
  · intro w17 X17
    refine (mrnum_spec (x := cg.who) (by omega) (by omega)).mono fun e w20 ⟨a20, c20, he, O20, X20⟩ => ⟨_, _, _, he, X20.kept, ?_⟩
    have Y20 := (Y15.trans X17).trans X20
    obtain ⟨a22, m22, c22, w22, hrun, hn22, O22, K22, Y22, hN22⟩ := mapp (p := p8) (w1 := w) ((O15.no X17).no X20) (Nat.le_trans X15.size (Nat.le_trans X17.size X20.size)) (xc := c20) O20.row (by omega) hN8 Y20 hNw
    subst hn22
    refine ⟨a22, _, c22, w22, hrun, K22, ?_⟩
    have n3 := W.numL_le cg.pub.toNat
    have := W.rNum_spec cg.pub.toNat w22 (by omega)
    rw [Int.toNat_of_nonneg hpub.1] at this
    refine this.mono fun e w25 ⟨a25, c25, he, O25, X25⟩ => ⟨_, _, _, he, ?_⟩
    obtain ⟨a27, m27, c27, w27, hrun27, hn27, O27, _, Y27, _⟩ := mapp (p := p8) (w1 := w) (O22.no X25) (Nat.le_trans hN22 X25.size) (xc := c25) O25.row (by rw [List.length_append]; omega) hN8 (Y22.trans X25) hNw
    subst hn27
    have hbody : bodyM cg = numL cg.kd.toNat ++ numL cg.who.toNat ++ numL cg.pub.toNat := by unfold bodyM; rw [if_neg (by omega), if_pos hk, hk]; rfl
    rw [hbody]
    exact ⟨a27, _, c27, w27, hrun27, a27, c27, rfl, ⟨O27.own, fun ad ha => ⟨Nat.le_trans hNw (O27.fr ad ha).1, (O27.fr ad ha).2⟩⟩, Y27⟩
  · intro w17 X17
    have hlim : 0 ≤ cg.lim ∧ cg.lim ≤ 200 := by
      rw [rightM_2 hk, decide_eq_true_eq] at ht; exact ⟨ht.2.2.2.1, ht.2.2.2.2.1⟩
    refine (mrnum_spec (x := cg.who) (by omega) (by omega)).mono fun e w20 ⟨a20, c20, he, O20, X20⟩ => ⟨_, _, _, he, X20.kept, ?_⟩
    have Y20 := (Y15.trans X17).trans X20
    obtain ⟨a22, m22, c22, w22, hrun, hn22, O22, K22, Y22, hN22⟩ := mapp (p := p8) (w1 := w) ((O15.no X17).no X20) (Nat.le_trans X15.size (Nat.le_trans X17.size X20.size)) (xc := c20) O20.row (by omega) hN8 Y20 hNw
    subst hn22
    refine ⟨a22, _, c22, w22, hrun, K22, ?_⟩
    have n3 := W.numL_le cg.lim.toNat
    refine (mrnum_spec (x := cg.lim) (by omega) (by omega)).mono fun e w25 ⟨a25, c25, he, O25, X25⟩ => ⟨_, _, _, he, ?_⟩
    obtain ⟨a27, m27, c27, w27, hrun27, hn27, O27, _, Y27, _⟩ := mapp (p := p8) (w1 := w) (O22.no X25) (Nat.le_trans hN22 X25.size) (xc := c25) O25.row (by rw [List.length_append]; omega) hN8 (Y22.trans X25) hNw
    subst hn27
    have hbody : bodyM cg = numL cg.kd.toNat ++ numL cg.who.toNat ++ numL cg.lim.toNat := by unfold bodyM; rw [if_neg (by omega), if_neg (by omega), hk]; rfl
    rw [hbody]
    exact ⟨a27, _, c27, w27, hrun27, a27, c27, rfl, ⟨O27.own, fun ad ha => ⟨Nat.le_trans hNw (O27.fr ad ha).1, (O27.fr ad ha).2⟩⟩, Y27⟩
  · obtain ⟨h1, h2, h3, h4, h5, h6, h7⟩ := right_3 ht hk
    have hall := boxesGo_all h1
    have hbody : bodyM cg = numL 3 ++ numL cg.ws.length ++ wsL cg.ws ++ (numL cg.old.length ++ cg.old) := by unfold bodyM; rw [if_pos hk]
    rw [hbody]
    rw [hk] at O15
    rw [hk]
    have O15 : OwnB w11.heap.size w15 a15 c15 (numL 3) := O15
    show Calls _ _ _ _ _
    have hwsl : ∀ x ∈ cg.ws, x.2.length ≤ 100 := fun x hx => by have := hall x hx; omega
    have n4 := W.numL_le cg.ws.length
    have n5 := W.numL_le 3
    have hnum := mrnum_spec (w := w15) (x := (cg.ws.length : Int)) (by omega) (by omega)
    rw [Int.toNat_natCast] at hnum
    refine hnum.mono fun e w43 ⟨a43, c43, he, O43, X43⟩ => ⟨_, _, _, he, X43.kept, ?_⟩
    obtain ⟨a45, m45, c45, w45, hrun, hn45, O45, K45, Y45, hN45⟩ := mapp (p := p8) (w1 := w) (O15.no X43) (Nat.le_trans X15.size X43.size) (xc := c43) O43.row (by omega) hN8 (Y15.trans X43) hNw
    subst hn45
    refine ⟨a45, _, c45, w45, hrun, K45, ?_⟩
    have hst : ∀ t, (numL 3 ++ numL cg.ws.length ++ wsL (cg.ws.take t)).length ≤ 2000 := fun t => by
      have q3 := wsL_len (l := cg.ws.take t) fun x hx => hwsl x (List.mem_of_mem_take hx)
      have q4 : (cg.ws.take t).length ≤ 8 := by rw [List.length_take]; omega
      simp only [List.length_append]; omega
    have e0 : numL 3 ++ numL cg.ws.length ++ wsL (cg.ws.take 0) = numL 3 ++ numL cg.ws.length := by simp [wsL]
    refine ⟨fun q vs w1 => ∃ (t : Nat) (a1 : Option Addr) (c1 : Nat), vs = [.slice a1 (numL 3 ++ numL cg.ws.length ++ wsL (cg.ws.take t)).length c1, .int .i64 t] ∧ q + t = l.length ∧ OwnB w11.heap.size w1 a1 c1 (numL 3 ++ numL cg.ws.length ++ wsL (cg.ws.take t)) ∧ Ext no w w1 ∧ w11.heap.size ≤ w1.heap.size, l.length, ⟨0, a45, c45, by rw [e0]; rfl, rfl, by rw [e0]; exact O45, Y45, hN45⟩, ?_⟩
    rintro q w50 ba bn bc t0 ⟨t, a1, c1, hi, hq, O50, Y50, hN50⟩
    simp only [List.cons.injEq, Value.slice.injEq, Value.int.injEq, true_and, and_true] at hi
    obtain ⟨⟨rfl, rfl, rfl⟩, rfl⟩ := hi
    have hsz := hst t
    refine ⟨fun ht => ?_, fun ht => ?_⟩
    · have htl : t < l.length := by omega
      have hg : l[t]? = some l[t] := List.getElem?_eq_getElem htl
      have hgw : cg.ws[t]? = some l[t].p := by rw [← hl, List.getElem?_map, hg]; rfl
      have hmem := List.mem_of_getElem? hgw
      have hxb := hb _ (List.getElem_mem htl)
      have htk : wsL (cg.ws.take (t + 1)) = wsL (cg.ws.take t) ++ wrapL l[t].p := by
        rw [List.take_add_one, hgw]; unfold wsL; rw [List.flatMap_append]; simp
      have hx := hall _ hmem
      generalize l[t] = x at *
      have estep : numL 3 ++ numL cg.ws.length ++ wsL (cg.ws.take t) ++ numL x.who.toNat ++ (numL x.b.length ++ x.b) = numL 3 ++ numL cg.ws.length ++ wsL (cg.ws.take (t + 1)) := by
        rw [htk]; unfold wrapL; simp only [List.append_assoc]; rfl
      have hx1 : 0 ≤ x.who ∧ x.who < 8 := ⟨hx.1, hx.2.1⟩
      have hx2 : x.b.length = 16 := hx.2.2.2
      have n6 := W.numL_le x.who.toNat
      have n7 := W.numL_le x.b.length
      have hrY : ∀ {w1 : World}, Ext no w w1 → RowAt w1 wa (l.flatMap Wr.C) := fun X => hr.no X
      obtain ⟨ad, rfl⟩ := hr.faddr Wr.len (by decide) htl
      have c1 : ∀ {w1 : World}, Ext no w w1 → w1.cell? ((ad.add (Int.toNat (t : Int) * 2)).add 1) = some (.slice x.a x.b.length x.c) := fun X => by rw [Int.toNat_natCast]; exact (hrY X).fcell Wr.len hg 1 rfl
      refine ⟨ad, rfl, by omega, by omega, x.who, by rw [Int.toNat_natCast]; exact (hrY Y50).fcell Wr.len hg 0 rfl, by omega, by omega, x.a, x.b.length, x.c, c1 Y50, fun w52 X52 => ?_⟩
      have Y52 := Y50.trans X52
      refine (mrnum_spec (x := x.who) (by omega) (by omega)).mono fun e w60 ⟨a60, c60, he, O60, X60⟩ => ⟨_, _, _, he, X60.kept, c1 (Y52.trans X60), ?_⟩
      obtain ⟨a62, m62, c62, w62, hrun62, hn62, O62, K62, Y62, hN62⟩ := mapp (p := p8) (w1 := w) ((O50.no X52).no X60) (Nat.le_trans hN50 (Nat.le_trans X52.size X60.size)) (xc := c60) O60.row (by omega) hN8 (Y52.trans X60) hNw
      subst hn62
      refine ⟨a62, _, c62, w62, hrun62, K62, c1 Y62, ?_⟩
      refine (rBytes_spec (hxb.no Y62) (by omega)).mono fun e w67 ⟨a67, c67, he, O67, X67⟩ => ⟨_, _, _, he, X67.kept, ?_⟩
      obtain ⟨a69, m69, c69, w69, hrun69, hn69, O69, K69, Y69, hN69⟩ := mapp (p := p8) (w1 := w) (O62.no X67) (Nat.le_trans hN62 X67.size) (xc := c67) O67.row (by simp only [List.length_append] at hsz ⊢; omega) hN8 (Y62.trans X67) hNw
      subst hn69
      refine ⟨a69, _, c69, w69, hrun69, K69, by omega, by omega, q - 1, by omega, t + 1, a69, c69, by rw [estep]; rfl, by omega, by rw [estep] at O69; exact O69, Y69, hN69⟩
    · have htt : cg.ws.take t = cg.ws := List.take_of_length_le (by omega)
      rw [htt] at O50 hsz ⊢
      have n8 := W.numL_le cg.old.length
      refine (rBytes_spec (ho.no Y50) (by omega)).mono fun e w73 ⟨a73, c73, he, O73, X73⟩ => ⟨_, _, _, he, ?_⟩
      obtain ⟨a75, m75, c75, w75, hrun75, hn75, O75, _, Y75, _⟩ := mapp (p := p8) (w1 := w) (O50.no X73) (Nat.le_trans hN50 X73.size) (xc := c73) O73.row (by simp only [List.length_append] at hsz ⊢; omega) hN8 (Y50.trans X73) hNw
      subst hn75
      exact ⟨a75, _, c75, w75, hrun75, a75, c75, rfl, ⟨O75.own, fun ad ha => ⟨Nat.le_trans hNw (O75.fr ad ha).1, (O75.fr ad ha).2⟩⟩, Y75⟩
end
end Go.Proofs.Ytmhfoieeldiecaa

/- Members: a change that is read, the program's reader. -/
set_option linter.unusedVariables false
set_option linter.unusedSimpArgs false
set_option maxRecDepth 20000
set_option maxHeartbeats 4000000
namespace Go.Proofs.Ytmhfoieeldiecaa
open Go Go.Mx Go.Proofs
open W (OwnB Rd RdR countR numR doneR)
def wsAt (s : RS) : Nat → List (Int × List UInt8) × RS
  | 0 => ([], s)
  | t + 1 => ((wsAt s t).1 ++ [(((countR 7 (wsAt s t).2).1 : Int), (bytesR 16 (countR 7 (wsAt s t).2).2).1)], (bytesR 16 (countR 7 (wsAt s t).2).2).2)
def Chg.z : Chg := ⟨0, 0, 0, 0, [], []⟩
def rawM (b : List UInt8) : Chg × RS :=
  if (countR 3 (b, 0)).1 = 1 then (⟨1, (countR 7 (countR 3 (b, 0)).2).1, (numR (countR 7 (countR 3 (b, 0)).2).2).1, 0, [], []⟩, (numR (countR 7 (countR 3 (b, 0)).2).2).2)
  else if (countR 3 (b, 0)).1 = 2 then (⟨2, (countR 7 (countR 3 (b, 0)).2).1, 0, (countR 200 (countR 7 (countR 3 (b, 0)).2).2).1, [], []⟩, (countR 200 (countR 7 (countR 3 (b, 0)).2).2).2)
  else if (countR 3 (b, 0)).1 = 3 then (⟨3, 0, 0, 0, (wsAt (countR 8 (countR 3 (b, 0)).2).2 (countR 8 (countR 3 (b, 0)).2).1).1, (bytesR 24 (wsAt (countR 8 (countR 3 (b, 0)).2).2 (countR 8 (countR 3 (b, 0)).2).1).2).1⟩, (bytesR 24 (wsAt (countR 8 (countR 3 (b, 0)).2).2 (countR 8 (countR 3 (b, 0)).2).1).2).2)
  else (⟨(countR 3 (b, 0)).1, 0, 0, 0, [], []⟩, (countR 3 (b, 0)).2)
def readM (b : List UInt8) : Chg × Int := if doneR (rawM b).2 = 0 then (if rightM (rawM b).1 = true then ((rawM b).1, 0) else (Chg.z, 4)) else (Chg.z, doneR (rawM b).2)
section
variable {K : Nat → Prop} {w w' w1 : World} {o o' o1 : Own} {a : Option Addr} {c N p q : Nat} {l : List Wr} {bs : List UInt8} {k : Int}
theorem cell_in {t : TypeId} {cs : List Value} {ad : Addr} {v : Value} (h : Blk w q t cs) (hc : w.cell? ad = some v) (hq : ad.block = q) : v ∈ cs := by
  simp only [Blk] at h
  unfold World.cell? at hc
  rw [hq, h] at hc
  simp only at hc
  split at hc
  · cases hc
  · exact List.mem_of_getElem? (by simpa using hc)
/-- a store into a block without bytes leaves a reader as it is. -/
theorem Rd_apart {t : TypeId} {cs : List Value} (h : Rd w p bs k) (hb : Blk w q t cs) (hcs : ∀ v ∈ cs, ∀ x, v ≠ .int .u8 x) (hpq : p ≠ q) (X : Ext (fun b => b = q) w w') : Rd w' p bs k := by
  obtain ⟨a, c, h1, h2, h3, h4⟩ := h
  refine ⟨a, c, h1.ext X hpq, h2, h3.ext' X fun hne ad ha (hbq : ad.block = q) => ?_, h4⟩
  subst ha
  cases bs with
  | nil => exact hne rfl
  | cons x r =>
    have := h3.at_ (i := 0) (v := .int .u8 (x.toNat : Int)) rfl
    exact hcs _ (cell_in hb this (by rw [block_add]; exact hbq)) _ rfl
theorem who_spec (h : Rd w p bs k) (hl : bs.length < 1000000) : Calls Try.prog 78 #[.agg #[.pointer (some (blk p))]] w (Ret (.int .i64 (countR 7 (bs, k)).1) fun w' => Rd w' p (countR 7 (bs, k)).2.1 (countR 7 (bs, k)).2.2 ∧ Ext (fun b => b = p) w w') := by
  refine members_reader_who.run _ ?_
  unfold members_reader_who.N
  intro w2 X2
  exact (W.Count_spec (h.no X2) hl (m := 7) (by decide)).mono fun e w6 ⟨he, hr, X6⟩ => ⟨_, he, rfl, hr, X2.none.trans X6⟩
def cgC (kd who pub lim : Int) (wa : Option Addr) (wn wc : Nat) (oa : Option Addr) (on oc : Nat) : List Value := [.int .i64 kd, .int .i64 who, .int .u64 pub, .int .i64 lim, .slice wa wn wc, .slice oa on oc]
theorem cgC_no {kd who pub lim : Int} {wa oa : Option Addr} {wn wc on oc : Nat} : ∀ v ∈ cgC kd who pub lim wa wn wc oa on oc, ∀ x, v ≠ .int .u8 x := fun v hv x => by
  simp only [cgC, List.mem_cons, List.not_mem_nil, or_false] at hv
  rcases hv with rfl | rfl | rfl | rfl | rfl | rfl <;> intro h <;> cases h
theorem invite_rd {kd : Int} (h : Rd w p bs k) (hl : bs.length < 1000000) (hb : Blk w q 36 (cgC kd 0 0 0 none 0 0 none 0 0)) (hqp : q < p) :
    Calls Try.prog 69 #[.agg #[.pointer (some (blk p))], .pointer (some (blk q))] w (Ret (.tuple #[]) fun w' => Rd w' p (numR (countR 7 (bs, k)).2).2.1 (numR (countR 7 (bs, k)).2).2.2 ∧ Blk w' q 36 (cgC kd (countR 7 (bs, k)).1 (numR (countR 7 (bs, k)).2).1 0 none 0 0 none 0 0) ∧ Ext (fun b => b = q ∨ b = p) w w') := by
  refine members_reader_invite.run _ _ ?_
  unfold members_reader_invite.N
  intro w4 p5 X4 hp
  have h5 := (hp p5 (by simp)).1
  have hlt := h.lt
  refine (who_spec (h.no X4) hl).mono fun e w8 ⟨he, r8, X8⟩ => ⟨_, he, X8.keep fun x hx _ hb => by simp at hx; omega, ?_⟩
  have hl2 : (countR 7 (bs, k)).2.1.length ≤ bs.length := W.countR_len 7 (bs, k)
  refine (W.RNum_spec r8 (by omega)).mono fun e w11 ⟨he, r11, X11⟩ => ⟨_, he, blk q, rfl, ?_⟩
  have b11 := ((hb.ext X4 id).ext X8 (by omega)).ext X11 (by omega)
  refine ⟨b11.cani 1 rfl rfl, thenW_in fun w13 e13 => ?_⟩
  have X13 := (Ext.refl (fun b => b = q) w11).x_set (q := q) (i := 1) rfl (.inl rfl) e13
  have b13 := b11.seti 1 (v := .int .i64 (countR 7 (bs, k)).1) rfl e13
  refine ⟨b13.cani 2 rfl rfl, thenW_in fun w14 e14 => ?_⟩
  have X14 := X13.x_set (q := q) (i := 2) rfl (.inl rfl) e14
  have b14 := b13.seti 2 (v := .int .u64 (numR (countR 7 (bs, k)).2).1) rfl e14
  have XX : Ext (fun b => b = q ∨ b = p) w w11 := ((X4.none.trans X8).trans X11).mono fun b hb _ => .inr hb
  exact ⟨rfl, Rd_apart r11 b11 cgC_no (by omega) X14, b14, XX.trans (X14.mono fun b hb _ => .inl hb)⟩
theorem revoke_rd {kd : Int} (h : Rd w p bs k) (hl : bs.length < 1000000) (hb : Blk w q 36 (cgC kd 0 0 0 none 0 0 none 0 0)) (hqp : q < p) :
    Calls Try.prog 70 #[.agg #[.pointer (some (blk p))], .pointer (some (blk q))] w (Ret (.tuple #[]) fun w' => Rd w' p (countR 200 (countR 7 (bs, k)).2).2.1 (countR 200 (countR 7 (bs, k)).2).2.2 ∧ Blk w' q 36 (cgC kd (countR 7 (bs, k)).1 0 (countR 200 (countR 7 (bs, k)).2).1 none 0 0 none 0 0) ∧ Ext (fun b => b = q ∨ b = p) w w') := by
  refine members_reader_revoke.run _ _ ?_
  unfold members_reader_revoke.N
  intro w4 p5 X4 hp
  have h5 := (hp p5 (by simp)).1
  have hlt := h.lt
  refine (who_spec (h.no X4) hl).mono fun e w8 ⟨he, r8, X8⟩ => ⟨_, he, X8.keep fun x hx _ hb => by simp at hx; omega, ?_⟩
  have hl2 : (countR 7 (bs, k)).2.1.length ≤ bs.length := W.countR_len 7 (bs, k)
  refine (W.Count_spec r8 (by omega) (m := 200) (by decide)).mono fun e w11 ⟨he, r11, X11⟩ => ⟨_, he, blk q, rfl, ?_⟩
  have b11 := ((hb.ext X4 id).ext X8 (by omega)).ext X11 (by omega)
  refine ⟨b11.cani 1 rfl rfl, thenW_in fun w13 e13 => ?_⟩
  have X13 := (Ext.refl (fun b => b = q) w11).x_set (q := q) (i := 1) rfl (.inl rfl) e13
  have b13 := b11.seti 1 (v := .int .i64 (countR 7 (bs, k)).1) rfl e13
  refine ⟨b13.cani 3 rfl rfl, thenW_in fun w14 e14 => ?_⟩
  have X14 := X13.x_set (q := q) (i := 3) rfl (.inl rfl) e14
  have b14 := b13.seti 3 (v := .int .i64 (countR 200 (countR 7 (bs, k)).2).1) rfl e14
  have XX : Ext (fun b => b = q ∨ b = p) w w11 := ((X4.none.trans X8).trans X11).mono fun b hb _ => .inr hb
  exact ⟨rfl, Rd_apart r11 b11 cgC_no (by omega) X14, b14, XX.trans (X14.mono fun b hb _ => .inl hb)⟩
abbrev WGw (w : World) (o : Own) (g : Nat) (a : Option Addr) (c : Nat) (l : List Wr) : Prop := Grows 85 2 w o g a l.length c (l.flatMap Wr.C)
theorem Wr.one (x : Wr) : ∀ u ∈ x.C, u.oneCell' = true := fun u hu => by
  simp only [Wr.C, List.mem_cons, List.not_mem_nil, or_false] at hu
  rcases hu with rfl | rfl <;> rfl
theorem WGw.push {g : Nat} (h : WGw w o g a c l) (ok : Tags w o) (hg : g < w.heap.size) (hl : l.length < 1000000) (x : Wr) {qb : Nat} (hb : Blk w qb 85 x.C) :
    ∃ a' n' c' w' o', (Builtin.append_ #[33, 33] 33 #[.slice a l.length c, .slice (some (blk qb)) 1 1]).run Try.prog w = .ok (.slice a' n' c') w' ∧ n' = (l ++ [x]).length ∧ Step (fun j => j = g) w o w' o' ∧ WGw w' o' g a' c' (l ++ [x]) ∧ Ext (fun b => ∃ ad, a = some ad ∧ b = ad.block) w w' ∧ (∀ ad, a' = some ad → (∃ b, a = some b ∧ ad.block = b.block) ∨ ad.block = w.heap.size) := by
  obtain ⟨i, hi, hz, hsz, hby⟩ := info_of inf85
  obtain ⟨a', c', w', o', hrun, s2, hrow, hk, hf⟩ := Grows.push (ty := 33) Try.underlying33 hi hz hsz hby rfl (by decide) h ok hg (xa := some (blk qb)) (m := 1) (xc := 1) (news := x.C) rfl (RowAt.of_blk hb) x.one (by omega) (by omega)
  exact ⟨a', _, c', w', o', hrun, by simp, s2, by unfold WGw; rw [List.length_append, List.flatMap_append]; simpa using hrow, ⟨s2.ext.os, s2.ext.tape, s2.ext.output, s2.ext.size, fun b hb hn => hk b hb fun ad ha hb' => hn ⟨ad, ha, hb'⟩⟩, hf⟩
theorem wsAt_len (s : RS) : ∀ t, (wsAt s t).2.1.length ≤ s.1.length ∧ (wsAt s t).1.length = t
  | 0 => ⟨Nat.le_refl _, rfl⟩
  | t + 1 => by
    obtain ⟨h1, h2⟩ := wsAt_len s t
    have h3 := W.countR_len 7 (wsAt s t).2
    have h4 := (bytesR_len 16 (countR 7 (wsAt s t).2).2).1
    refine ⟨?_, by show ((wsAt s t).1 ++ [_]).length = _; rw [List.length_append, h2]; rfl⟩
    show (bytesR 16 (countR 7 (wsAt s t).2).2).2.1.length ≤ _
    omega
theorem epoch_rd {kd : Int} (h : Rd w p bs k) (hl : bs.length < 1000000) (hb : Blk w q 36 (cgC kd 0 0 0 none 0 0 none 0 0)) (hqp : q < p) :
    Calls Try.prog 71 #[.agg #[.pointer (some (blk p))], .pointer (some (blk q))] w (Ret (.tuple #[]) fun w' => ∃ (wa : Option Addr) (wc : Nat) (l : List Wr) (oa : Option Addr) (oc : Nat),
      l.map Wr.p = (wsAt (countR 8 (bs, k)).2 (countR 8 (bs, k)).1).1 ∧ Rd w' p (bytesR 24 (wsAt (countR 8 (bs, k)).2 (countR 8 (bs, k)).1).2).2.1 (bytesR 24 (wsAt (countR 8 (bs, k)).2 (countR 8 (bs, k)).1).2).2.2 ∧
      Blk w' q 36 (cgC kd 0 0 0 wa l.length wc oa (bytesR 24 (wsAt (countR 8 (bs, k)).2 (countR 8 (bs, k)).1).2).1.length oc) ∧ RowAt w' wa (l.flatMap Wr.C) ∧ (∀ x ∈ l, RowAt w' x.a (bytesV x.b)) ∧ RowAt w' oa (bytesV (bytesR 24 (wsAt (countR 8 (bs, k)).2 (countR 8 (bs, k)).1).2).1) ∧ Ext (fun b => b = q ∨ b = p) w w') := by
  refine members_reader_epoch.run _ _ ?_
  unfold members_reader_epoch.N
  intro w3 p4 X3 hp
  have h4 := (hp p4 (by simp)).1
  have h4' := (hp p4 (by simp)).2
  have hlt := h.lt
  refine (W.Count_spec (h.no X3) hl (m := 8) (by decide)).mono fun e w7 ⟨he, r7, X7⟩ => ⟨_, he, X7.keep fun x hx _ hb => by simp at hx; omega, ?_⟩
  have hcl : (countR 8 (bs, k)).2.1.length ≤ bs.length := W.countR_len 8 (bs, k)
  have hcle := W.count_le 8 (bs, k) (by decide)
  generalize hS : (countR 8 (bs, k)).2 = S at *
  generalize hn : (countR 8 (bs, k)).1 = n at *
  have XX : Ext (fun b => b = q ∨ b = p) w w7 := X3.none.trans (X7.mono fun b hb _ => .inr hb)
  have b7 := (hb.ext X3 id).ext X7 (by omega)
  -- owners, from here on
  have ok7 : Tags w7 (tag (tag (fun _ => none) q q) p p) := fun b j hb hj => by
    unfold tag at hj
    split at hj
    · cases hj; exact r7.lt
    · split at hj
      · cases hj; exact b7.lt
      · cases hj
  have M7 : Mine [q, p] w7 (tag (tag (fun _ => none) q q) p p) := fun x hx => by
    simp only [List.mem_cons, List.not_mem_nil, or_false] at hx
    rcases hx with rfl | rfl
    · exact ⟨b7.lt, by rw [tag_ne (by omega)]; exact tag_self⟩
    · exact ⟨r7.lt, tag_self⟩
  have F7 : Free [p4] w7 (tag (tag (fun _ => none) q q) p p) := fun x hx => by
    rw [show x = p4 by simpa using hx]
    exact ⟨Nat.lt_of_lt_of_le h4' X7.size, by rw [tag_ne (by omega), tag_ne (by omega)]⟩
  have hp47 := (F7 p4 (by simp)).1
  refine ⟨fun m vs w1 => ∃ (t : Nat) (l : List Wr) (wa : Option Addr) (wc : Nat) (o1 : Own), vs = [.int .i64 t] ∧ m + t = n ∧ Tags w1 o1 ∧ Mine [q, p] w1 o1 ∧ Free [p4] w1 o1 ∧ Rd w1 p (wsAt S t).2.1 (wsAt S t).2.2 ∧ l.map Wr.p = (wsAt S t).1 ∧ Blk w1 q 36 (cgC kd 0 0 0 wa l.length wc none 0 0) ∧ WGw w1 o1 p4 wa wc l ∧ (∀ ad, wa = some ad → p4 < ad.block) ∧ (∀ x ∈ l, Row w1 o1 x.a (bytesV x.b)) ∧ Ext (fun b => b = q ∨ b = p) w w1, n, ⟨0, [], none, 0, _, rfl, rfl, ok7, M7, F7, r7, rfl, b7, Grows.nil _ _ _ _ _, fun ad h => (by cases h), fun x hx => (by cases hx), XX⟩, ?_⟩
  rintro m w11 t0 ⟨t, l, wa, wc, o11, hi, hm, ok11, M11, F11, r11, hlp, b11, g11, hbl, hrow, X11⟩
  simp only [List.cons.injEq, Value.int.injEq, true_and, and_true] at hi
  subst hi
  obtain ⟨hwl, hwl2⟩ := wsAt_len S t
  have hll : l.length = t := by have := congrArg List.length hlp; rwa [List.length_map, hwl2] at this
  refine ⟨fun ht => ?_, fun ht => ?_⟩
  · refine ⟨blk q, rfl, wa, _, wc, b11.celli 4 rfl rfl, fun w13 X13 => ?_⟩
    have s13 := Step.of_no X13 ok11
    refine (who_spec (r11.no X13) (by omega)).mono fun e w19 ⟨he, r19, X19⟩ => ⟨_, he, ?_⟩
    have s19 := Step.stores X19 s13.ok ((M11.step s13).sub (M := [p]) (by simp)) (by simp)
    have b19 := (b11.ext X13 id).ext X19 (by omega)
    have hc7 := W.countR_len 7 (wsAt S t).2
    have hc7' : (countR 7 ((wsAt S t).2.1, (wsAt S t).2.2)).2.1.length ≤ (wsAt S t).2.1.length := W.countR_len 7 (wsAt S t).2
    refine ⟨((F11.step s13).keep s19), b19.celli 4 rfl rfl, ?_⟩
    refine (RBytes_spec r19 (by omega) (m := 16) (by decide)).mono fun e w23 ⟨ya, yc, he, O23, r23, X23⟩ => ⟨_, _, _, he, ?_⟩
    have s23 := Step.stores X23 s19.ok (((M11.step s13).step s19).sub (M := [p]) (by simp)) (by simp)
    have b23 := b19.ext X23 (by omega)
    refine ⟨((F11.step s13).step s19).keep s23, b23.celli 4 rfl rfl, fun w25 q26 X25 hb25 hq hq' => ?_⟩
    have s25 := Step.of_no X25 s23.ok
    have b25 := b23.ext X25 id
    have S25 := ((s13.none.trans (s19.mono fun j hj _ => (by simpa using hj : j = p))).trans (s23.mono fun j hj _ => (by simpa using hj : j = p))).trans s25.none
    have g25 := g11.step S25 (by omega)
    have hsz25 := S25.size
    have hp11 := (F11 p4 (by simp)).1
    have rowy : Row w23 (grow w19 (grow w13 (grow w11 o11))) ya (bytesV (bytesR 16 (countR 7 (wsAt S t).2).2).1) := Row.fresh O23.row fun ad ha => (O23.fr ad ha).1
    obtain ⟨a29, n29, c29, w29, o29, hrun, hn29, s29, g29, X29, hf29⟩ := WGw.push g25 s25.ok (by omega) (by omega) ⟨(countR 7 (wsAt S t).2).1, ya, yc, (bytesR 16 (countR 7 (wsAt S t).2).2).1⟩ hb25
    subst hn29
    have b29 := b25.ext X29 fun ⟨ad, h1, h2⟩ => by have := hbl ad h1; omega
    have F25 := (((F11.step s13).step s19).step s23).step s25
    refine ⟨b25.celli 4 rfl rfl, a29, _, c29, w29, hrun, F25.keep s29, b29.cani 4 rfl rfl, fun x hx => by simp at hx; rw [block_add]; show x ≠ q; omega, thenW_in fun w30 e30 => ?_⟩
    have X30 := (Ext.refl (fun b => b = q) w29).x_set (q := q) (i := 4) rfl (.inl rfl) e30
    have b30 := b29.seti 4 (v := .slice a29 (l ++ [(⟨(countR 7 (wsAt S t).2).1, ya, yc, (bytesR 16 (countR 7 (wsAt S t).2).2).1⟩ : Wr)]).length c29) rfl e30
    have M29 := ((((M11.step s13).step s19).step s23).step s25).step s29
    have s30 := Step.stores X30 s29.ok (M29.sub (M := [q]) (by simp)) (by simp)
    have r29 : Rd w29 p (wsAt S (t + 1)).2.1 (wsAt S (t + 1)).2.2 := (r23.no X25).up X29 fun b ⟨ad, h1, h2⟩ => by have := hbl ad h1; omega
    refine ⟨by omega, by omega, m - 1, by omega, t + 1, _, a29, c29, _, rfl, by omega, s30.ok, M29.step s30, (F25.step s29).step s30, Rd_apart r29 b29 cgC_no (by omega) X30, ?_, b30, g29.step s30 (by simp; omega), fun ad ha => ?_, fun x hx => ?_, ?_⟩
    · rw [List.map_append, hlp]; rfl
    · rcases hf29 ad ha with ⟨b, h1, h2⟩ | h2
      · rw [h2]; exact hbl b h1
      · omega
    · rcases List.mem_append.1 hx with hx | hx
      · exact ((((((hrow x hx).step s13).step s19).step s23).step s25).step s29).step s30
      · simp at hx; subst hx
        exact ((rowy.step s25).step s29).step s30
    · have x25 : Ext (fun b => b = q ∨ b = p) w w25 := (((X11.trans X13.none).trans (X19.mono fun b hb _ => .inr hb)).trans (X23.mono fun b hb _ => .inr hb)).trans X25.none
      exact (x25.then X29 fun b ⟨ad, h1, h2⟩ => .inr (by have := hbl ad h1; have := X3.size; omega)).trans (X30.mono fun b hb _ => .inl hb)
  · have : t = n := by omega
    subst this
    refine (RBytes_spec r11 (by omega) (m := 24) (by decide)).mono fun e w34 ⟨ya, yc, he, O34, r34, X34⟩ => ⟨_, _, _, he, blk q, rfl, ?_⟩
    have s34 := Step.stores X34 ok11 (M11.sub (M := [p]) (by simp)) (by simp)
    have b34 := b11.ext X34 (by omega)
    refine ⟨b34.cani 5 rfl rfl, thenW_in fun w36 e36 => ?_⟩
    have X36 := (Ext.refl (fun b => b = q) w34).x_set (q := q) (i := 5) rfl (.inl rfl) e36
    have b36 := b34.seti 5 (v := .slice ya (bytesR 24 (wsAt S t).2).1.length yc) rfl e36
    have M34 := M11.step s34
    have s36 := Step.stores X36 s34.ok (M34.sub (M := [q]) (by simp)) (by simp)
    have rowy : Row w34 (grow w11 o11) ya (bytesV (bytesR 24 (wsAt S t).2).1) := Row.fresh O34.row fun ad ha => (O34.fr ad ha).1
    have g36 := (g11.step s34 (by simp; omega)).step s36 (by simp; omega)
    exact ⟨rfl, wa, wc, l, ya, yc, hlp, Rd_apart r34 b34 cgC_no (by omega) X36, b36, g36.row, fun x hx => (((hrow x hx).step s34).step s36).1, (rowy.step s36).1, (X11.trans (X34.mono fun b hb _ => .inr hb)).trans (X36.mono fun b hb _ => .inl hb)⟩
end
end Go.Proofs.Ytmhfoieeldiecaa

/- Members: Read, the program's. -/
set_option linter.unusedVariables false
set_option linter.unusedSimpArgs false
set_option maxRecDepth 20000
set_option maxHeartbeats 4000000
namespace Go.Proofs.Ytmhfoieeldiecaa
open Go Go.Mx Go.Proofs
open W (OwnB Rd RdR countR numR doneR)
section
variable {K : Nat → Prop} {w w' w1 : World} {o o' o1 : Own} {a : Option Addr} {c N p q : Nat} {l : List Wr} {bs : List UInt8} {k : Int}
/-- a change that was read, in memory. -/
structure CR.at_ (w : World) (x : CR) : Prop where
  ws : RowAt w x.wa (x.l.flatMap Wr.C)
  bs : ∀ y ∈ x.l, RowAt w y.a (bytesV y.b)
  old : RowAt w x.oa (bytesV x.old)
theorem CR.at_.no {x : CR} (h : x.at_ w) (X : Ext no w w') : x.at_ w' := ⟨h.ws.no X, fun y hy => (h.bs y hy).no X, h.old.no X⟩
theorem same_ext {t : TypeId} {cs : List Value} (X : Ext (fun b => b = q) w w') (h : Blk w q t cs) (h' : Blk w' q t cs) : Ext no w w' :=
  ⟨X.os, X.tape, X.output, X.size, fun b hb _ => by
    by_cases e : b = q
    · subst e; unfold Blk at h h'; rw [h, h']
    · exact X.block b hb e⟩
def CR.z : CR := ⟨0, 0, 0, 0, none, 0, [], none, 0, []⟩
theorem CR.z_at : CR.at_ w CR.z := ⟨RowAt.nil _ _, fun y h => (by cases h), RowAt.nil _ _⟩
def ReadG (w : World) (r : Chg × Int) (v : Value) (w' : World) : Prop := ∃ x : CR, v = .tuple #[.agg #[.int .i64 x.kd, .int .i64 x.who, .int .u64 x.pub, .int .i64 x.lim, .slice x.wa x.l.length x.wc, .slice x.oa x.old.length x.oc], .int .i64 r.2] ∧ x.cg = r.1 ∧ x.at_ w' ∧ Ext no w w'
theorem six {Φ : World → Prop} {a0 a1 a2 a3 a4 a5 v0 v1 v2 v3 v4 v5 : Value} (hb : Blk w q 36 [a0, a1, a2, a3, a4, a5]) (hΦ : ∀ w', Blk w' q 36 [v0, v1, v2, v3, v4, v5] → Ext (fun b => b = q) w w' → Φ w') :
    canStore w ((blk q).add 0) ∧ thenW (w.setCell ((blk q).add 0) v0) fun w1 => canStore w1 ((blk q).add 1) ∧ thenW (w1.setCell ((blk q).add 1) v1) fun w2 => canStore w2 ((blk q).add 2) ∧ thenW (w2.setCell ((blk q).add 2) v2) fun w3 =>
      canStore w3 ((blk q).add 3) ∧ thenW (w3.setCell ((blk q).add 3) v3) fun w4 => canStore w4 ((blk q).add 4) ∧ thenW (w4.setCell ((blk q).add 4) v4) fun w5 => canStore w5 ((blk q).add 5) ∧ thenW (w5.setCell ((blk q).add 5) v5) Φ := by
  refine ⟨hb.cani 0 rfl rfl, thenW_in fun w1 e1 => ?_⟩
  have X1 := (Ext.refl (fun b => b = q) w).x_set (q := q) (i := 0) rfl (.inl rfl) e1
  have b1 := hb.seti 0 (v := v0) rfl e1
  refine ⟨b1.cani 1 rfl rfl, thenW_in fun w2 e2 => ?_⟩
  have X2 := X1.x_set (q := q) (i := 1) rfl (.inl rfl) e2
  have b2 := b1.seti 1 (v := v1) rfl e2
  refine ⟨b2.cani 2 rfl rfl, thenW_in fun w3 e3 => ?_⟩
  have X3 := X2.x_set (q := q) (i := 2) rfl (.inl rfl) e3
  have b3 := b2.seti 2 (v := v2) rfl e3
  refine ⟨b3.cani 3 rfl rfl, thenW_in fun w4 e4 => ?_⟩
  have X4 := X3.x_set (q := q) (i := 3) rfl (.inl rfl) e4
  have b4 := b3.seti 3 (v := v3) rfl e4
  refine ⟨b4.cani 4 rfl rfl, thenW_in fun w5 e5 => ?_⟩
  have X5 := X4.x_set (q := q) (i := 4) rfl (.inl rfl) e5
  have b5 := b4.seti 4 (v := v4) rfl e5
  refine ⟨b5.cani 5 rfl rfl, thenW_in fun w6 e6 => ?_⟩
  have X6 := X5.x_set (q := q) (i := 5) rfl (.inl rfl) e6
  have b6 := b5.seti 5 (v := v5) rfl e6
  exact hΦ w6 b6 X6
theorem kind_spec (x : Option Addr) (n : Int) : Calls Try.prog 48 #[.agg #[.pointer x], .int .i64 n] w (fun e w' => ∃ (kk : Nat) (f g : Array Value), e = .returned (.func (.func kk) f g) ∧ Ext no w w' ∧ g = #[] ∧ (n = 1 → kk = 69 ∧ f = #[.agg #[.pointer x]]) ∧ (n = 2 → kk = 70 ∧ f = #[.agg #[.pointer x]]) ∧ (n = 3 → kk = 71 ∧ f = #[.agg #[.pointer x]]) ∧ (n ≠ 1 → n ≠ 2 → n ≠ 3 → kk = 72 ∧ f = #[])) := by
  refine (members_reader_kind.go x n (R := fun v w' => ∃ (kk : Nat) (f g : Array Value), v = (.func (.func kk) f g) ∧ Ext no w w' ∧ g = #[] ∧ (n = 1 → kk = 69 ∧ f = #[.agg #[.pointer x]]) ∧ (n = 2 → kk = 70 ∧ f = #[.agg #[.pointer x]]) ∧ (n = 3 → kk = 71 ∧ f = #[.agg #[.pointer x]]) ∧ (n ≠ 1 → n ≠ 2 → n ≠ 3 → kk = 72 ∧ f = #[])) ?_).mono fun e w' ⟨v, he, kk, f, g, hv, hw⟩ => ⟨kk, f, g, by rw [he, hv], hw⟩
  unfold members_reader_kind.N
  refine ⟨fun h w3 X => ⟨_, _, _, rfl, X, rfl, fun _ => ⟨rfl, rfl⟩, fun h2 => by omega, fun h3 => by omega, fun h1 => absurd h h1⟩, fun h1 => ⟨fun h w3 X => ⟨_, _, _, rfl, X, rfl, fun h2 => by omega, fun _ => ⟨rfl, rfl⟩, fun h3 => by omega, fun _ h1 => absurd h h1⟩, fun h2 => ⟨fun h w3 X => ⟨_, _, _, rfl, X, rfl, fun h2 => by omega, fun h2 => by omega, fun _ => ⟨rfl, rfl⟩, fun _ _ h1 => absurd h h1⟩, fun h3 w3 X => ⟨_, _, _, rfl, X, rfl, fun h2 => by omega, fun h2 => by omega, fun h2 => by omega, fun _ _ _ => ⟨rfl, rfl⟩⟩⟩⟩⟩
/-- what stands behind the body. -/
def BodyG (w : World) (q p : Nat) (r : Chg × RS) (w' : World) : Prop := ∃ x : CR, x.cg = r.1 ∧ Blk w' q 36 x.C ∧ Rd w' p r.2.1 r.2.2 ∧ x.at_ w' ∧ Ext (fun b => b = q ∨ b = p) w w'
theorem body_spec {b : List UInt8} (h : Rd w p (countR 3 (b, 0)).2.1 (countR 3 (b, 0)).2.2) (hl : (countR 3 (b, 0)).2.1.length < 1000000) (hb : Blk w q 36 (cgC (countR 3 (b, 0)).1 0 0 0 none 0 0 none 0 0)) (hqp : q < p)
    {kk : Nat} {f g : Array Value} (hg : g = #[]) (k1 : ((countR 3 (b, 0)).1 : Int) = 1 → kk = 69 ∧ f = #[.agg #[.pointer (some (blk p))]]) (k2 : ((countR 3 (b, 0)).1 : Int) = 2 → kk = 70 ∧ f = #[.agg #[.pointer (some (blk p))]]) (k3 : ((countR 3 (b, 0)).1 : Int) = 3 → kk = 71 ∧ f = #[.agg #[.pointer (some (blk p))]]) (k4 : ((countR 3 (b, 0)).1 : Int) ≠ 1 → ((countR 3 (b, 0)).1 : Int) ≠ 2 → ((countR 3 (b, 0)).1 : Int) ≠ 3 → kk = 72 ∧ f = #[]) :
    enters Try.prog kk = true ∧ Calls Try.prog kk (f.toList ++ ([.pointer (some (blk q))] : List Value) ++ g.toList).toArray w (Ret (.tuple #[]) fun w' => BodyG w q p (rawM b) w') := by
  subst hg
  by_cases h1 : (countR 3 (b, 0)).1 = 1
  · obtain ⟨rfl, rfl⟩ := k1 (by omega)
    refine ⟨by kernel_rfl, ?_⟩
    have hr : rawM b = (⟨1, (countR 7 (countR 3 (b, 0)).2).1, (numR (countR 7 (countR 3 (b, 0)).2).2).1, 0, [], []⟩, (numR (countR 7 (countR 3 (b, 0)).2).2).2) := by unfold rawM; rw [if_pos h1]
    rw [hr]
    rw [h1] at hb
    exact (invite_rd h hl hb hqp).mono fun e w' ⟨he, hR, hB, X⟩ => ⟨he, ⟨1, _, _, 0, none, 0, [], none, 0, []⟩, rfl, hB, hR, ⟨RowAt.nil _ _, fun y h => (by cases h), RowAt.nil _ _⟩, X⟩
  by_cases h2 : (countR 3 (b, 0)).1 = 2
  · obtain ⟨rfl, rfl⟩ := k2 (by omega)
    refine ⟨by kernel_rfl, ?_⟩
    have hr : rawM b = (⟨2, (countR 7 (countR 3 (b, 0)).2).1, 0, (countR 200 (countR 7 (countR 3 (b, 0)).2).2).1, [], []⟩, (countR 200 (countR 7 (countR 3 (b, 0)).2).2).2) := by unfold rawM; rw [if_neg h1, if_pos h2]
    rw [hr]
    rw [h2] at hb
    exact (revoke_rd h hl hb hqp).mono fun e w' ⟨he, hR, hB, X⟩ => ⟨he, ⟨2, _, 0, _, none, 0, [], none, 0, []⟩, rfl, hB, hR, ⟨RowAt.nil _ _, fun y h => (by cases h), RowAt.nil _ _⟩, X⟩
  by_cases h3 : (countR 3 (b, 0)).1 = 3
  · obtain ⟨rfl, rfl⟩ := k3 (by omega)
    refine ⟨by kernel_rfl, ?_⟩
    have hr : rawM b = (⟨3, 0, 0, 0, (wsAt (countR 8 (countR 3 (b, 0)).2).2 (countR 8 (countR 3 (b, 0)).2).1).1, (bytesR 24 (wsAt (countR 8 (countR 3 (b, 0)).2).2 (countR 8 (countR 3 (b, 0)).2).1).2).1⟩, (bytesR 24 (wsAt (countR 8 (countR 3 (b, 0)).2).2 (countR 8 (countR 3 (b, 0)).2).1).2).2) := by unfold rawM; rw [if_neg h1, if_neg h2, if_pos h3]
    rw [hr]
    rw [h3] at hb
    exact (epoch_rd h hl hb hqp).mono fun e w' ⟨he, wa, wc, l, oa, oc, e1, hR, hB, r1, r2, r3, X⟩ => ⟨he, ⟨3, 0, 0, 0, wa, wc, l, oa, oc, _⟩, by show Chg.mk 3 0 0 0 (l.map Wr.p) _ = _; rw [e1], hB, hR, ⟨r1, r2, r3⟩, X⟩
  · obtain ⟨rfl, rfl⟩ := k4 (by omega) (by omega) (by omega)
    refine ⟨by kernel_rfl, ?_⟩
    have hr : rawM b = (⟨(countR 3 (b, 0)).1, 0, 0, 0, [], []⟩, (countR 3 (b, 0)).2) := by unfold rawM; rw [if_neg h1, if_neg h2, if_neg h3]
    rw [hr]
    refine members_reader_kind_1.run _ ?_
    exact ⟨rfl, ⟨_, 0, 0, 0, none, 0, [], none, 0, []⟩, rfl, hb, h, ⟨RowAt.nil _ _, fun y h => (by cases h), RowAt.nil _ _⟩, Ext.refl _ _⟩
theorem raw_small (b : List UInt8) : (rawM b).1.ws.length ≤ 8 ∧ (rawM b).1.old.length ≤ 24 := by
  unfold rawM
  split
  · exact ⟨Nat.zero_le _, Nat.zero_le _⟩
  split
  · exact ⟨Nat.zero_le _, Nat.zero_le _⟩
  split
  · have h1 := (wsAt_len (countR 8 (countR 3 (b, 0)).2).2 (countR 8 (countR 3 (b, 0)).2).1).2
    have h2 := W.count_le 8 (countR 3 (b, 0)).2 (by decide)
    have h3 := bytesR_le (m := 24) (by decide) (wsAt (countR 8 (countR 3 (b, 0)).2).2 (countR 8 (countR 3 (b, 0)).2).1).2
    refine ⟨?_, ?_⟩
    · show (wsAt _ _).1.length ≤ 8; omega
    · show (bytesR 24 _).1.length ≤ 24; omega
  · exact ⟨Nat.zero_le _, Nat.zero_le _⟩
theorem mRead_spec {b : List UInt8} (h : RowAt w a (bytesV b)) (hc : b.length ≤ c) (hl : b.length < 1000000) :
    Calls Try.prog 29 #[.slice a b.length c] w (fun e w' => ∃ v, e = .returned v ∧ ReadG w (readM b) v w') := by
  refine members_Read.go _ _ _ (R := ReadG w (readM b)) ?_
  unfold members_Read.N
  intro w2 q X2 hb2 hq hq'
  refine (W.Read_spec (h.no X2) hc).mono fun e w6 ⟨p, he, r6, hp, X6⟩ => ⟨_, he, fun w8 p9 X8 hp9 => ?_⟩
  have h9 := (hp9 p9 (by simp)).1
  have hqp : q < p := by omega
  have hp6 := r6.lt
  refine (W.Count_spec (r6.no X8) hl (m := 3) (by decide)).mono fun e w12 ⟨he, r12, X12⟩ => ⟨_, he, X12.keep fun x hx _ hb => by simp at hx; omega, ?_⟩
  have hb12 := ((hb2.ext X6 id).ext X8 id).ext X12 (by omega)
  refine ⟨hb12.cani 0 rfl rfl, fun x hx => by simp at hx; rw [block_add]; show x ≠ q; omega, thenW_in fun w13 e13 => ?_⟩
  have X13 := (Ext.refl (fun b => b = q) w12).x_set (q := q) (i := 0) rfl (.inl rfl) e13
  have b13 := hb12.seti 0 (v := .int .i64 ((countR 3 (b, 0)).1 : Int)) rfl e13
  have r13 := Rd_apart r12 hb12 (cgC_no (kd := 0) (who := 0) (pub := 0) (lim := 0) (wa := none) (wn := 0) (wc := 0) (oa := none) (on := 0) (oc := 0)) (by omega) X13
  have Y12 : Ext (fun b => b = q ∨ b = p) w2 w13 := ((X6.none.trans X8.none).trans (X12.mono fun b hb _ => .inr hb)).trans (X13.mono fun b hb _ => .inl hb)
  refine ⟨_, b13.celli 0 rfl rfl, (kind_spec _ _).mono fun e w18 ⟨kk, f, g, he, X18, hg, k1, k2, k3, k4⟩ => ⟨kk, f, g, he, X18.kept, ?_⟩⟩
  have hcl : (countR 3 (b, 0)).2.1.length ≤ b.length := W.countR_len 3 (b, 0)
  obtain ⟨hen, hcall⟩ := body_spec (r13.no X18) (by omega) (b13.ext X18 id) hqp hg k1 k2 k3 k4
  obtain ⟨hsm1, hsm2⟩ := raw_small b
  refine ⟨hen, hcall.mono fun e w20 ⟨he, x, hx, hB, hR, hA, X20⟩ => ⟨he, X20.keep fun y hy _ hb => by simp at hy; omega, ?_⟩⟩
  have Y20 : Ext (fun b => b = q ∨ b = p) w2 w20 := (Y12.trans X18.none).trans X20
  have fin : ∀ {w' : World}, Ext (fun b => b = q) w20 w' → Ext no w w' := fun X => X2.then (Y20.trans (X.mono fun b hb _ => .inl hb)) fun b hb => .inr (by have := X2.size; omega)
  have hM : readM b = if doneR (rawM b).2 = 0 then (if rightM (rawM b).1 = true then ((rawM b).1, 0) else (Chg.z, 4)) else (Chg.z, doneR (rawM b).2) := rfl
  have hxl : x.l.map Wr.p = x.cg.ws := rfl
  have hll : x.l.length ≤ 8 := by have := congrArg List.length hxl; rw [List.length_map, hx] at this; omega
  have hol : x.cg.old.length ≤ 24 := by rw [hx]; exact hsm2
  refine (W.Done_spec hR).mono fun e w23 ⟨he, hw⟩ => ⟨_, he, fun hd => ?_, fun hd => ?_⟩
  all_goals subst hw
  · rw [hM, if_neg hd]
    refine six hB fun w' b' X' => ?_
    exact ⟨0, 0, 0, 0, none, 0, 0, none, 0, 0, RowAt.loads (RowAt.of_blk b') rfl, CR.z, rfl, rfl, CR.z_at, fin X'⟩
  · refine ⟨x.kd, x.who, x.pub, x.lim, x.wa, x.l.length, x.wc, x.oa, x.old.length, x.oc, RowAt.loads (RowAt.of_blk hB) rfl, ?_⟩
    rw [CR.V]
    refine (Right_spec hA.ws hxl (by omega) (by omega)).mono fun e w47 ⟨he, X47⟩ => ⟨_, he, fun hf => ?_, fun ht => ?_⟩
    all_goals have hB47 := hB.ext X47 id
    all_goals rw [hx] at he
    · rw [hM, if_pos hd, if_neg (by rw [← hx, hf]; decide)]
      refine six hB47 fun w' b' X' => ?_
      exact ⟨0, 0, 0, 0, none, 0, 0, none, 0, 0, RowAt.loads (RowAt.of_blk b') rfl, CR.z, rfl, rfl, CR.z_at, fin (X47.none.trans X')⟩
    · rw [hM, if_pos hd, if_pos (by rw [← hx, ht])]
      refine ⟨x.kd, x.who, x.pub, x.lim, x.wa, x.l.length, x.wc, x.oa, x.old.length, x.oc, RowAt.loads (RowAt.of_blk hB47) rfl, six hB47 fun w' b' X' => ?_⟩
      have Z := same_ext X' hB47 b'
      have A47 := (hA.no X47).no Z
      exact ⟨x.kd, x.who, x.pub, x.lim, x.wa, x.l.length, x.wc, x.oa, x.old.length, x.oc, RowAt.loads (RowAt.of_blk b') rfl, x, rfl, hx, A47, fin (X47.none.trans X')⟩
end
end Go.Proofs.Ytmhfoieeldiecaa

/- Members: Read, the reference's. -/
set_option linter.unusedVariables false
set_option linter.unusedSimpArgs false
set_option maxRecDepth 20000
set_option maxHeartbeats 4000000
namespace Go.Proofs.Ytmhfoieeldiecaa
open Go Go.Mx Go.Proofs
open W (OwnB Rd RdR countR numR doneR)
section
variable {K : Nat → Prop} {w w' w1 : World} {o o' o1 : Own} {a : Option Addr} {c N p q : Nat} {l : List Wr} {bs : List UInt8} {k : Int}
def LowRow (w : World) (N : Nat) (a : Option Addr) (bs : List UInt8) : Prop := RowAt w a (bytesV bs) ∧ (bytesV bs ≠ [] → ∀ ad, a = some ad → ad.block < N)
theorem LowRow.up {m : Nat → Prop} (h : LowRow w N a bs) (X : Ext m w w') (hm : ∀ b, m b → N ≤ b) : LowRow w' N a bs :=
  ⟨h.1.ext' X fun h0 ad ha hb => by have := hm _ hb; have := h.2 h0 ad ha; omega, h.2⟩
theorem numR_stuck {s : RS} (h : s.2 ≠ 0) : numR s = (0, s) := by unfold W.numR; rw [if_neg h]
theorem countR_stuck {m : Int} {s : RS} (h : s.2 ≠ 0) : countR m s = (0, s) := by unfold W.countR; rw [numR_stuck h, if_neg h]
theorem bytesR_stuck {m : Int} {s : RS} (h : s.2 ≠ 0) : bytesR m s = ([], s) := by unfold bytesR takeR; rw [countR_stuck h, if_neg h]
theorem wsAt_stuck {S : RS} {t : Nat} (h : (wsAt S t).2.2 ≠ 0) : ∀ j, (wsAt S (t + j)).2 = (wsAt S t).2
  | 0 => rfl
  | j + 1 => by
    have ih := wsAt_stuck h j
    show (bytesR 16 (countR 7 (wsAt S (t + j)).2).2).2 = _
    rw [ih, countR_stuck h, bytesR_stuck h]
theorem doneR_0 {s : RS} (h : doneR s = 0) : s.2 = 0 := by
  unfold W.doneR at h
  split at h
  · assumption
  · exact h
theorem RdR.kk (h : RdR w p N bs k) : w.cell? ((blk p).add 1) = some (.int .i64 k) := by
  obtain ⟨_, a, c, h1, _⟩ := h
  exact h1.celli 1 rfl rfl
abbrev RGw (w : World) (o : Own) (g : Nat) (a : Option Addr) (c : Nat) (l : List Wr) : Prop := Grows 84 2 w o g a l.length c (l.flatMap Wr.C)
theorem inf84 : (Try.prog.info? 84).map (fun i => (i.zero, i.size, i.bytes)) = some (some (.agg #[.int .i64 0, .slice none 0 0]), 2, 32) := by kernel_rfl
theorem RGw.push {g : Nat} (h : RGw w o g a c l) (ok : Tags w o) (hg : g < w.heap.size) (hl : l.length < 1000000) (x : Wr) {qb : Nat} (hb : Blk w qb 84 x.C) :
    ∃ a' n' c' w' o', (Builtin.append_ #[38, 38] 38 #[.slice a l.length c, .slice (some (blk qb)) 1 1]).run Try.prog w = .ok (.slice a' n' c') w' ∧ n' = (l ++ [x]).length ∧ Step (fun j => j = g) w o w' o' ∧ RGw w' o' g a' c' (l ++ [x]) ∧ Ext (fun b => ∃ ad, a = some ad ∧ b = ad.block) w w' ∧ (∀ ad, a' = some ad → (∃ b, a = some b ∧ ad.block = b.block) ∨ ad.block = w.heap.size) := by
  obtain ⟨i, hi, hz, hsz, hby⟩ := info_of inf84
  obtain ⟨a', c', w', o', hrun, s2, hrow, hk, hf⟩ := Grows.push (ty := 38) Try.underlying38 hi hz hsz hby rfl (by decide) h ok hg (xa := some (blk qb)) (m := 1) (xc := 1) (news := x.C) rfl (RowAt.of_blk hb) x.one (by omega) (by omega)
  exact ⟨a', _, c', w', o', hrun, by simp, s2, by unfold RGw; rw [List.length_append, List.flatMap_append]; simpa using hrow, ⟨s2.ext.os, s2.ext.tape, s2.ext.output, s2.ext.size, fun b hb hn => hk b hb fun ad ha hb' => hn ⟨ad, ha, hb'⟩⟩, hf⟩
/-- what is done behind the last piece. -/
theorem tailR {b bs : List UInt8} {k : Int} {N q p5 pX : Nat} (hN : N = w.heap.size) (Y : Ext (fun b => N ≤ b) w w1) (R : RdR w1 q N bs k) (hs : (rawM b).2 = (bs, k)) (x : CR) (hx : doneR (bs, k) = 0 → x.cg = (rawM b).1) (hp5 : N ≤ p5) (hsm : x.l.length < 1000000) (hso : x.old.length < 1000000)
    (hws : RowAt w1 x.wa (x.l.flatMap Wr.C)) (hwb : ∀ ad, x.wa = some ad → p5 < ad.block) (hbs : ∀ y ∈ x.l, LowRow w1 N y.a y.b) (hold : LowRow w1 N x.oa x.old) :
    Calls Try.prog 53 #[.pointer (some (blk q))] w1 fun ee27 ww28 => ∃ (done26 : Int), ee27 = .returned (.int .i64 done26) ∧ Keep [p5, pX] w1 ww28 ∧
      (done26 ≠ 0 → ∀ (ww35 : World), Ext (fun b => b = p5) ww28 ww35 → ReadG w (readM b) (.tuple #[.agg #[.int .i64 0, .int .i64 0, .int .u64 0, .int .i64 0, .slice none 0 0, .slice none 0 0], .int .i64 done26]) ww35) ∧
      (done26 = 0 → Calls Try.prog 32 #[.agg #[.int .i64 x.kd, .int .i64 x.who, .int .u64 x.pub, .int .i64 x.lim, .slice x.wa x.l.length x.wc, .slice x.oa x.old.length x.oc]] ww28 fun ee37 ww38 => ∃ (right36 : Bool), ee37 = .returned (.bool right36) ∧ Keep [p5, pX] ww28 ww38 ∧
        (right36 = false → ∀ (ww45 : World), Ext (fun b => b = p5) ww38 ww45 → ReadG w (readM b) (.tuple #[.agg #[.int .i64 0, .int .i64 0, .int .u64 0, .int .i64 0, .slice none 0 0, .slice none 0 0], .int .i64 4]) ww45) ∧
        (right36 = true → ∀ (ww51 : World), Ext (fun b => b = p5) ww38 ww51 → ReadG w (readM b) (.tuple #[.agg #[.int .i64 x.kd, .int .i64 x.who, .int .u64 x.pub, .int .i64 x.lim, .slice x.wa x.l.length x.wc, .slice x.oa x.old.length x.oc], .int .i64 0]) ww51)) := by
  subst hN
  have hM : readM b = if doneR (bs, k) = 0 then (if rightM (rawM b).1 = true then ((rawM b).1, 0) else (Chg.z, 4)) else (Chg.z, doneR (bs, k)) := by unfold readM; rw [hs]
  have bad : ∀ {w2 w3 : World} (e : Int), readM b = (Chg.z, e) → Ext no w1 w2 → Ext (fun b => b = p5) w2 w3 → ReadG w (readM b) (.tuple #[.agg #[.int .i64 0, .int .i64 0, .int .u64 0, .int .i64 0, .slice none 0 0, .slice none 0 0], .int .i64 e]) w3 := fun e hM X0 X => by
    rw [hM]
    exact ⟨CR.z, rfl, rfl, CR.z_at, (Ext.refl no w).then ((Y.trans X0.none).trans (X.mono fun b hb _ => by have hb : b = p5 := hb; omega)) fun b hb => .inr hb⟩
  refine (W.rDone_spec R).mono fun e w28 ⟨he, hw⟩ => ⟨_, he, by subst hw; exact fun _ _ _ => rfl, fun hd w35 X35 => ?_, fun hd => ?_⟩
  all_goals subst hw
  · exact bad _ (by rw [hM, if_neg hd]) (Ext.refl _ _) X35
  · have hx := hx hd
    rw [CR.V]
    refine (rRight_spec hws rfl hsm hso).mono fun e w38 ⟨he, X38⟩ => ⟨_, he, X38.kept, fun hf w45 X45 => ?_, fun ht w51 X51 => ?_⟩
    · exact bad 4 (by rw [hM, if_pos hd, if_neg (by rw [← hx, hf]; decide)]) X38 X45
    · rw [hM, if_pos hd, if_pos (by rw [← hx, ht])]
      refine ⟨x, by rw [CR.V], hx, ⟨?_, fun y hy => ?_, ?_⟩, (Ext.refl no w).then ((Y.trans X38.none).trans (X51.mono fun b hb _ => by have hb : b = p5 := hb; omega)) fun b hb => .inr hb⟩
      · exact (hws.no X38).ext' X51 fun h0 ad ha hb => by have hb : ad.block = p5 := hb; have := hwb ad ha; omega
      · exact (((hbs y hy).up X38 fun b hb => hb.elim).up X51 fun b hb => by have hb : b = p5 := hb; omega).1
      · exact ((hold.up X38 fun b hb => hb.elim).up X51 fun b hb => by have hb : b = p5 := hb; omega).1
theorem rmRead_spec {b : List UInt8} (h : RowAt w a (bytesV b)) (hc : b.length ≤ c) (hl : b.length < 1000000) :
    Calls Try.prog 30 #[.slice a b.length c] w (fun e w' => ∃ v, e = .returned v ∧ ReadG w (readM b) v w') := by
  refine cachetteref12_Read.go _ _ _ (R := ReadG w (readM b)) ?_
  unfold cachetteref12_Read.N
  intro w3 q p5 X3 hb3 hq hq' hp5
  obtain ⟨h5, h5q⟩ := hp5 p5 (by simp)
  have r3 : RdR w3 q w.heap.size b 0 := ⟨hq, a, c, hb3, hc, h.no X3, fun h0 ad ha => h.lt h0 ha⟩
  have kp : ∀ {w1 w2 : World} {L : List Nat}, (∀ x ∈ L, x ≠ q) → Ext (fun b => b = q) w1 w2 → Keep L w1 w2 := fun hL X => X.keep fun x hx _ hb => hL x hx hb
  refine (W.rCount_spec r3 hl (m := 3) (by decide) (by decide)).mono fun e w8 ⟨he, r8, X8⟩ => ⟨_, he, kp (fun x hx => by simp at hx; omega) X8, ?_⟩
  have hcl : (countR 3 (b, 0)).2.1.length ≤ b.length := W.countR_len 3 (b, 0)
  have up : ∀ {w1 w2 : World}, Ext (fun b => w.heap.size ≤ b) w w1 → Ext (fun b => b = q) w1 w2 → Ext (fun b => w.heap.size ≤ b) w w2 := fun Y X => Y.trans (X.mono fun b hb _ => by have hb : b = q := hb; omega)
  have Y8 : Ext (fun b => w.heap.size ≤ b) w w8 := up X3.none X8
  have q8 := r8.lt
  refine ⟨fun h1 w15 p17 X15 hp => ?_, fun h1 => ⟨fun h2 w15 p17 X15 hp => ?_, fun h2 => ⟨fun h3 w15 p17 X15 hp => ?_, fun h3 w15 p17 X15 hp => ?_⟩⟩⟩
  all_goals have h17 := (hp p17 (by simp)).1
  all_goals have r15 := r8.no X15
  all_goals have Y15 : Ext (fun b => w.heap.size ≤ b) w w15 := Y8.trans X15.none
  all_goals have k17 : ∀ x ∈ [p5, p17], x ≠ q := fun x hx => by simp at hx; omega
  · refine (W.rCount_spec r15 (by omega) (m := 7) (by decide) (by decide)).mono fun e w20 ⟨he, r20, X20⟩ => ⟨_, he, kp k17 X20, fun w21 X21 => ?_⟩
    have hc7 : (countR 7 ((countR 3 (b, 0)).2.1, (countR 3 (b, 0)).2.2)).2.1.length ≤ (countR 3 (b, 0)).2.1.length := W.countR_len 7 (countR 3 (b, 0)).2
    have r21 := r20.up X21 fun b hb => by have hb : b = p17 := hb; omega
    refine (W.rRNum_spec r21 (by omega)).mono fun e w24 ⟨he, r24, X24⟩ => ⟨_, he, kp k17 X24, fun w25 X25 => ?_⟩
    have r25 := r24.up X25 fun b hb => by have hb : b = p17 := hb; omega
    have Y25 : Ext (fun b => w.heap.size ≤ b) w w25 := (up ((up Y15 X20).trans (X21.mono fun b hb _ => by have hb : b = p17 := hb; omega)) X24).trans (X25.mono fun b hb _ => by have hb : b = p17 := hb; omega)
    have e1 : (countR 3 (b, 0)).1 = 1 := by omega
    have hr : rawM b = (⟨1, (countR 7 (countR 3 (b, 0)).2).1, (numR (countR 7 (countR 3 (b, 0)).2).2).1, 0, [], []⟩, (numR (countR 7 (countR 3 (b, 0)).2).2).2) := by unfold rawM; rw [if_pos e1]
    exact tailR rfl Y25 r25 (by rw [hr]) ⟨((countR 3 (b, 0)).1 : Int), (countR 7 (countR 3 (b, 0)).2).1, (numR (countR 7 (countR 3 (b, 0)).2).2).1, 0, none, 0, [], none, 0, []⟩ (fun _ => by rw [hr, h1]; rfl) h5 (by show 0 < _; decide) (by show 0 < _; decide) (RowAt.nil _ _) (fun ad h => (by cases h)) (fun y h => (by cases h)) ⟨RowAt.nil _ _, fun h => absurd rfl h⟩
  · refine (W.rCount_spec r15 (by omega) (m := 7) (by decide) (by decide)).mono fun e w20 ⟨he, r20, X20⟩ => ⟨_, he, kp k17 X20, fun w21 X21 => ?_⟩
    have hc7 : (countR 7 ((countR 3 (b, 0)).2.1, (countR 3 (b, 0)).2.2)).2.1.length ≤ (countR 3 (b, 0)).2.1.length := W.countR_len 7 (countR 3 (b, 0)).2
    have r21 := r20.up X21 fun b hb => by have hb : b = p17 := hb; omega
    refine (W.rCount_spec r21 (by omega) (m := 200) (by decide) (by decide)).mono fun e w24 ⟨he, r24, X24⟩ => ⟨_, he, kp k17 X24, fun w25 X25 => ?_⟩
    have r25 := r24.up X25 fun b hb => by have hb : b = p17 := hb; omega
    have Y25 : Ext (fun b => w.heap.size ≤ b) w w25 := (up ((up Y15 X20).trans (X21.mono fun b hb _ => by have hb : b = p17 := hb; omega)) X24).trans (X25.mono fun b hb _ => by have hb : b = p17 := hb; omega)
    have e2 : (countR 3 (b, 0)).1 = 2 := by omega
    have hr : rawM b = (⟨2, (countR 7 (countR 3 (b, 0)).2).1, 0, (countR 200 (countR 7 (countR 3 (b, 0)).2).2).1, [], []⟩, (countR 200 (countR 7 (countR 3 (b, 0)).2).2).2) := by unfold rawM; rw [if_neg (by omega), if_pos e2]
    exact tailR rfl Y25 r25 (by rw [hr]) ⟨((countR 3 (b, 0)).1 : Int), (countR 7 (countR 3 (b, 0)).2).1, 0, (countR 200 (countR 7 (countR 3 (b, 0)).2).2).1, none, 0, [], none, 0, []⟩ (fun _ => by rw [hr, h2]; rfl) h5 (by show 0 < _; decide) (by show 0 < _; decide) (RowAt.nil _ _) (fun ad h => (by cases h)) (fun y h => (by cases h)) ⟨RowAt.nil _ _, fun h => absurd rfl h⟩
  rotate_left
  · have hr : rawM b = (⟨(countR 3 (b, 0)).1, 0, 0, 0, [], []⟩, (countR 3 (b, 0)).2) := by unfold rawM; rw [if_neg (by omega), if_neg (by omega), if_neg (by omega)]
    exact tailR rfl Y15 r15 (by rw [hr]) ⟨((countR 3 (b, 0)).1 : Int), 0, 0, 0, none, 0, [], none, 0, []⟩ (fun _ => by rw [hr]; rfl) h5 (by show 0 < _; decide) (by show 0 < _; decide) (RowAt.nil _ _) (fun ad h => (by cases h)) (fun y h => (by cases h)) ⟨RowAt.nil _ _, fun h => absurd rfl h⟩
  have e3 : (countR 3 (b, 0)).1 = 3 := by omega
  refine (W.rCount_spec r15 (by omega) (m := 8) (by decide) (by decide)).mono fun e w92 ⟨he, r92, X92⟩ => ⟨_, he, kp k17 X92, ?_⟩
  have hc8 : (countR 8 ((countR 3 (b, 0)).2.1, (countR 3 (b, 0)).2.2)).2.1.length ≤ (countR 3 (b, 0)).2.1.length := W.countR_len 8 (countR 3 (b, 0)).2
  have hcle : (((countR 8 ((countR 3 (b, 0)).2.1, (countR 3 (b, 0)).2.2)).1 : Nat) : Int) ≤ 8 := W.count_le 8 (countR 3 (b, 0)).2 (by decide)
  have hr : rawM b = (⟨3, 0, 0, 0, (wsAt (countR 8 (countR 3 (b, 0)).2).2 (countR 8 (countR 3 (b, 0)).2).1).1, (bytesR 24 (wsAt (countR 8 (countR 3 (b, 0)).2).2 (countR 8 (countR 3 (b, 0)).2).1).2).1⟩, (bytesR 24 (wsAt (countR 8 (countR 3 (b, 0)).2).2 (countR 8 (countR 3 (b, 0)).2).1).2).2) := by unfold rawM; rw [if_neg (by omega), if_neg (by omega), if_pos e3]
  have eta : ((countR 3 (b, 0)).2.1, (countR 3 (b, 0)).2.2) = (countR 3 (b, 0)).2 := rfl
  rw [eta] at r92 hc8 hcle ⊢
  generalize hS : (countR 8 (countR 3 (b, 0)).2).2 = S at *
  generalize hn : (countR 8 (countR 3 (b, 0)).2).1 = n at *
  have Y92 := up Y15 X92
  have q92 := r92.lt
  have h17' := (hp p17 (by simp)).2
  have p17lt : p17 < w92.heap.size := Nat.lt_of_lt_of_le h17' X92.size
  have ok92 : Tags w92 (tag (tag (fun _ => none) q q) p17 p17) := fun b j hb hj => by
    unfold tag at hj
    split at hj
    · cases hj; exact p17lt
    · split at hj
      · cases hj; exact q92
      · cases hj
  have M92 : Mine [q, p17] w92 (tag (tag (fun _ => none) q q) p17 p17) := fun x hx => by
    simp only [List.mem_cons, List.not_mem_nil, or_false] at hx
    rcases hx with rfl | rfl
    · exact ⟨q92, by rw [tag_ne (by omega)]; exact tag_self⟩
    · exact ⟨p17lt, tag_self⟩
  have F92 : Free [p5] w92 (tag (tag (fun _ => none) q q) p17 p17) := fun x hx => by
    rw [show x = p5 by simpa using hx]
    exact ⟨by omega, by rw [tag_ne (by omega), tag_ne (by omega)]⟩
  refine ⟨fun m vs w1 => ∃ (t : Nat) (l : List Wr) (wa : Option Addr) (wc : Nat) (o1 : Own), vs = [.int .i64 t, .int .i64 0, .int .i64 0, .int .u64 0, .int .i64 0, .slice none 0 0, .slice none 0 0, .int .i64 ((countR 3 (b, 0)).1 : Int), .int .i64 0, .int .u64 0, .int .i64 0, .slice wa l.length wc, .slice none 0 0] ∧ m + t = n ∧ Tags w1 o1 ∧ Mine [q, p17] w1 o1 ∧ Free [p5] w1 o1 ∧ RdR w1 q w.heap.size (wsAt S t).2.1 (wsAt S t).2.2 ∧ l.map Wr.p = (wsAt S t).1 ∧ RGw w1 o1 p5 wa wc l ∧ (∀ ad, wa = some ad → p17 < ad.block) ∧ (∀ x ∈ l, LowRow w1 w.heap.size x.a x.b) ∧ Ext (fun b => w.heap.size ≤ b) w w1, n, ⟨0, [], none, 0, _, rfl, rfl, ok92, M92, F92, r92, rfl, Grows.nil _ _ _ _ _, fun ad h => (by cases h), fun x hx => (by cases hx), Y92⟩, ?_⟩
  intro m w108 i0 z1 z2 z3 z4 z5a z5n z5c z6a z6n z6c y1 y2 y3 y4 y5a y5n y5c y6a y6n y6c hI
  obtain ⟨t, l, wa, wc, o108, hi, hm, ok108, M108, F108, r108, hlp, g108, hbl, hlow, Y108⟩ := hI
  simp only [List.cons.injEq, Value.slice.injEq, Value.int.injEq, true_and, and_true] at hi
  obtain ⟨rfl, rfl, rfl, rfl, rfl, ⟨rfl, rfl, rfl⟩, ⟨rfl, rfl, rfl⟩, rfl, rfl, rfl, rfl, ⟨rfl, rfl, rfl⟩, ⟨rfl, rfl, rfl⟩⟩ := hi
  obtain ⟨hwl, hwl2⟩ := wsAt_len S t
  have hll : l.length = t := by have := congrArg List.length hlp; rwa [List.length_map, hwl2] at this
  have H1 : (t = n ∨ (wsAt S t).2.2 ≠ 0) → (rawM b).2 = (bytesR 24 (wsAt S t).2).2 ∧ ((bytesR 24 (wsAt S t).2).2.2 = 0 → (rawM b).1 = ⟨3, 0, 0, 0, (wsAt S t).1, (bytesR 24 (wsAt S t).2).1⟩) := fun hor => by
    rcases hor with rfl | hne
    · rw [hr]; exact ⟨rfl, fun _ => rfl⟩
    · obtain ⟨j, rfl⟩ : ∃ j, n = t + j := ⟨n - t, by omega⟩
      rw [hr]
      refine ⟨by show (bytesR 24 (wsAt S (t + j)).2).2 = _; rw [wsAt_stuck hne j], fun h0 => ?_⟩
      rw [bytesR_stuck hne] at h0
      exact absurd h0 hne
  have hp5lt := (F108 p5 (by simp)).1
  refine ⟨fun ht => ⟨_, RdR.kk r108, fun hK => ?_, fun hK => ?_⟩, fun hge => ?_⟩
  · refine (W.rCount_spec r108 (by omega) (m := 7) (by decide) (by decide)).mono fun e w115 ⟨he, r115, X115⟩ => ⟨_, he, kp k17 X115, fun w116 X116 => ?_⟩
    have hc7' : (countR 7 ((wsAt S t).2.1, (wsAt S t).2.2)).2.1.length ≤ (wsAt S t).2.1.length := W.countR_len 7 (wsAt S t).2
    refine (rRBytes_spec (r115.no X116) (by omega) (m := 16) (by decide) (by decide)).mono fun e w119 ⟨ya, yc, he, hyc, rowy, lowy, r119, X119⟩ => ⟨_, _, _, he, kp k17 X119, fun w120 q121 X120 hb120 hq1 hq2 => ?_⟩
    have s115 := Step.stores X115 ok108 (M108.sub (M := [q]) (by simp)) (by simp)
    have s116 := Step.of_no X116 s115.ok
    have s119 := Step.stores X119 s116.ok (((M108.step s115).step s116).sub (M := [q]) (by simp)) (by simp)
    have s120 := Step.of_no X120 s119.ok
    have S120 := (((s115.mono fun j hj _ => (by simpa using hj : j = q)).trans s116.none).trans (s119.mono fun j hj _ => (by simpa using hj : j = q))).trans s120.none
    have g120 := g108.step S120 (by omega)
    have Y120 : Ext (fun b => w.heap.size ≤ b) w w120 := (up ((up Y108 X115).trans X116.none) X119).trans X120.none
    have hsz := S120.size
    have lowR : ∀ {w1 w2 : World} {a : Option Addr} {bs : List UInt8}, LowRow w1 w.heap.size a bs → Ext (fun b => b = q) w1 w2 → LowRow w2 w.heap.size a bs := fun h X => h.up X fun b hb => by have hb : b = q := hb; omega
    have lown : ∀ {w1 w2 : World} {a : Option Addr} {bs : List UInt8}, LowRow w1 w.heap.size a bs → Ext no w1 w2 → LowRow w2 w.heap.size a bs := fun h X => h.up X fun b hb => hb.elim
    obtain ⟨a123, n123, c123, w123, o123, hrun, hn123, s123, g123, X123, hf123⟩ := RGw.push g120 s120.ok (by omega) (by omega) ⟨(countR 7 (wsAt S t).2).1, ya, yc, (bytesR 16 (countR 7 (wsAt S t).2).2).1⟩ hb120
    subst hn123
    have M120 := (((M108.step s115).step s116).step s119).step s120
    have F120 := (((F108.step s115).step s116).step s119).step s120
    have hX123 : ∀ b, (∃ ad, y5a = some ad ∧ b = ad.block) → p17 < b := fun b ⟨ad, h1, h2⟩ => by rw [h2]; exact hbl ad h1
    refine ⟨a123, _, c123, w123, hrun, X123.keep fun x hx _ hb => by have := hX123 x hb; simp at hx; omega, by omega, by omega, fun w124 X124 => ?_⟩
    have s124 := Step.stores X124 s123.ok ((M120.step s123).sub (M := [p17]) (by simp)) (by simp)
    have r123 := (r119.no X120).up X123 fun b hb => by have := hX123 b hb; omega
    have r124 : RdR w124 q w.heap.size (wsAt S (t + 1)).2.1 (wsAt S (t + 1)).2.2 := r123.up X124 fun b hb => by have hb : b = p17 := hb; omega
    have fin2 : ∀ {a : Option Addr} {bs : List UInt8}, LowRow w120 w.heap.size a bs → LowRow w124 w.heap.size a bs := fun h => (h.up X123 fun b hb => by have := hX123 b hb; omega).up X124 fun b hb => by have hb : b = p17 := hb; omega
    refine ⟨m - 1, by omega, t + 1, _, a123, c123, _, rfl, by omega, s124.ok, (M120.step s123).step s124, (F120.step s123).step s124, r124, ?_, g123.step s124 (by simp; omega), fun ad ha => ?_, fun x hx => ?_, ?_⟩
    · rw [List.map_append, hlp]; rfl
    · rcases hf123 ad ha with ⟨b, h1, h2⟩ | h2
      · rw [h2]; exact hbl b h1
      · have := (M108 p17 (by simp)).1; omega
    · rcases List.mem_append.1 hx with hx | hx
      · exact fin2 (lown (lowR (lown (lowR (hlow x hx) X115) X116) X119) X120)
      · simp at hx; subst hx
        exact fin2 (lown ⟨rowy, lowy⟩ X120)
    · exact (Y120.trans (X123.mono fun b hb _ => by have := hX123 b hb; omega)).trans (X124.mono fun b hb _ => by have hb : b = p17 := hb; omega)
  all_goals
    obtain ⟨hs, hcg⟩ := H1 (by first | exact .inr hK | exact .inl (by omega))
    refine (rRBytes_spec r108 (by omega) (m := 24) (by decide) (by decide)).mono fun e w128 ⟨ya, yc, he, hyc, rowy, lowy, r128, X128⟩ => ⟨_, _, _, he, kp k17 X128, fun w129 X129 => ?_⟩
    have r129 := r128.up X129 fun b hb => by have hb : b = p17 := hb; omega
    have Y129 : Ext (fun b => w.heap.size ≤ b) w w129 := (up Y108 X128).trans (X129.mono fun b hb _ => by have hb : b = p17 := hb; omega)
    have g128 : RowAt w128 y5a (l.flatMap Wr.C) := g108.row.ext' X128 fun h0 ad ha hb => by have hb : ad.block = q := hb; have := hbl ad ha; omega
    have g129 : RowAt w129 y5a (l.flatMap Wr.C) := g128.ext' X129 fun h0 ad ha hb => by have hb : ad.block = p17 := hb; have := hbl ad ha; omega
    have l128 : ∀ x ∈ l, LowRow w129 w.heap.size x.a x.b := fun x hx => ((hlow x hx).up X128 fun b hb => by have hb : b = q := hb; omega).up X129 fun b hb => by have hb : b = p17 := hb; omega
    have ly : LowRow w129 w.heap.size ya (bytesR 24 (wsAt S t).2).1 := LowRow.up ⟨rowy, lowy⟩ X129 fun b hb => by have hb : b = p17 := hb; omega
    have hbl24 := (bytesR_len 24 (wsAt S t).2).2
    exact tailR rfl Y129 r129 hs ⟨((countR 3 (b, 0)).1 : Int), 0, 0, 0, y5a, y5c, l, ya, yc, (bytesR 24 (wsAt S t).2).1⟩ (fun hd => by rw [hcg (doneR_0 hd), h3]; show Chg.mk 3 0 0 0 (l.map Wr.p) _ = _; rw [hlp]) h5 (by show l.length < _; omega) (by show (bytesR 24 (wsAt S t).2).1.length < _; omega) g129 (fun ad ha => by have := hbl ad ha; omega) l128 ly
end
end Go.Proofs.Ytmhfoieeldiecaa

/- Members: a change told back, changes alike, the plain laws of its bytes. -/
set_option linter.unusedVariables false
set_option linter.unusedSimpArgs false
set_option maxRecDepth 20000
set_option maxHeartbeats 4000000
namespace Go.Proofs.Ytmhfoieeldiecaa
open Go Go.Mx Go.Proofs
open W (OwnB Rd RdR countR numR doneR)
section
variable {w w' w1 : World} {o o' o1 : Own} {a : Option Addr} {c N : Nat} {l : List Wr} {cs : List Value} {cg : Chg} {wa oa : Option Addr} {wc oc : Nat}
abbrev VRow (N : Nat) (w : World) (o : Own) (a : Option Addr) (c : Nat) (l : List Wr) : Prop := LRow 84 2 N w o a l.length c (l.flatMap Wr.C)
/-- the same change, as the document's. -/
theorem Back_spec (ok : Tags w o) (hr : Row w o wa (l.flatMap Wr.C)) (hw : cg.ws = l.map Wr.p) (hl : l.length < 1000000) :
    Calls Try.prog 35 #[chgV cg wa wc oa oc] w (fun x w' => ∃ o' wa' wc', x = .returned (chgV cg wa' wc' oa oc) ∧ Step no w o w' o' ∧ Row w' o' wa' (l.flatMap Wr.C) ∧ l.length ≤ wc') := by
  have hlen : cg.ws.length = l.length := by rw [hw]; simp
  refine (cachettelaw12_Back.go cg.kd cg.who cg.pub cg.lim wa cg.ws.length wc oa cg.old.length oc (R := fun v w' => ∃ o' wa' wc', v = (chgV cg wa' wc' oa oc) ∧ Step no w o w' o' ∧ Row w' o' wa' (l.flatMap Wr.C) ∧ l.length ≤ wc') ?_).mono fun x w' ⟨v, he, o', a', c', hv, hw⟩ => ⟨o', a', c', by rw [he, hv], hw⟩
  unfold cachettelaw12_Back.N
  intro w15 p16 p17 p18 X15 hp
  obtain ⟨s15, M15⟩ := Step.priv X15 hp ok
  have g : ∀ p ∈ [p16, p17, p18], w.heap.size ≤ p := fun p h => (hp p h).1
  have hM15 : ∀ p ∈ [p16, p17, p18], p < w15.heap.size := fun p h => M15.lt h
  rw [hlen]
  refine ⟨fun m vs w1 => ∃ (t : Nat) (a1 : Option Addr) (c1 : Nat) (o1 : Own), vs = [.int .i64 t, .int .i64 0, .int .i64 0, .int .u64 0, .int .i64 0, .slice none 0 0, .slice none 0 0, .int .i64 cg.kd, .int .i64 cg.who, .int .u64 cg.pub, .int .i64 cg.lim, .slice a1 (l.take t).length c1, .slice oa cg.old.length oc] ∧ m + t = l.length ∧ Step no w o w1 o1 ∧ Step (fun j => w15.heap.size ≤ j ∨ j ∈ [p16, p17, p18]) w15 (tags w o [p16, p17, p18]) w1 o1 ∧ VRow w15.heap.size w1 o1 a1 c1 (l.take t), l.length, ⟨0, none, 0, _, rfl, rfl, s15, Step.refl _ s15.ok, LRow.nil _ _ _ _ _⟩, ?_⟩
  intro m w1 i0 k1 k2 k3 k4 k5a k5n k5c k6a k6n k6c k7 k8 k9 k10 k11a k11n k11c k12a k12n k12c hI
  obtain ⟨t, a1, c1, o1, hi, hm, s1, s15', r1⟩ := hI
  simp only [List.cons.injEq, Value.slice.injEq, Value.int.injEq, true_and, and_true] at hi
  obtain ⟨rfl, rfl, rfl, rfl, rfl, ⟨rfl, rfl, rfl⟩, ⟨rfl, rfl, rfl⟩, rfl, rfl, rfl, rfl, ⟨rfl, rfl, rfl⟩, ⟨rfl, rfl, rfl⟩⟩ := hi
  have M1 := M15.step s15'
  refine ⟨fun ht => ?_, fun ht w53 X53 => ?_⟩
  · have htl : t < l.length := by omega
    have hg : l[t]? = some l[t] := List.getElem?_eq_getElem htl
    have htk : l.take (t + 1) = l.take t ++ [l[t]] := by rw [List.take_add_one, hg]; rfl
    generalize l[t] = x at *
    obtain ⟨ad, rfl⟩ := hr.1.faddr Wr.len (by decide) htl
    have hr1 := (hr.step s1).1
    refine ⟨ad, rfl, by omega, by omega, x.who, by rw [Int.toNat_natCast]; exact hr1.fcell Wr.len hg 0 rfl, by omega, by omega, x.a, x.b.length, x.c, by rw [Int.toNat_natCast]; exact hr1.fcell Wr.len hg 1 rfl, fun w42 q43 X42 hb hq hq' => ?_⟩
    have s42 := Step.of_no X42 s1.ok
    have r42 : VRow w15.heap.size w42 _ k11a k11c (l.take t) := LRow.step r1 s42 fun k h => h.elim
    obtain ⟨i, hi, hz, hsz, hby⟩ := info_of inf84
    have h15 := s15'.size
    obtain ⟨a', c', w45, o45, hrun, s45, hrow, _⟩ := LRow.push (ty := 38) Try.underlying38 hi hz hsz hby rfl (by decide) r42 s42.ok (p := q43) (by omega) hq' (xa := some (blk q43)) (m := 1) (xc := 1) (news := x.C) rfl (RowAt.of_blk hb) (fun u hu => by
      simp only [Wr.C, List.mem_cons, List.not_mem_nil, or_false] at hu
      rcases hu with rfl | rfl <;> rfl) (by rw [List.length_take]; omega) (by rw [List.length_take]; omega)
    refine ⟨a', _, c', w45, hrun, (M1.step s42).keep s45 (fun p hp' => by have := hM15 p hp'; omega), by omega, by omega, fun w46 X46 => ?_⟩
    have s46 := Step.stores X46 s45.ok ((((M1.step s42).step s45)).sub (M := [p18]) (by simp)) (by simp)
    have r46 := hrow.step s46 fun k hk => .inl (hM15 k (by simp at hk ⊢; omega))
    have h15w := s15.size
    have hcells : (l.take t).flatMap Wr.C ++ x.C = (l.take (t + 1)).flatMap Wr.C := by rw [htk]; simp
    have hlen2 : (l.take t).length + 1 = (l.take (t + 1)).length := by rw [htk]; simp
    rw [hcells, hlen2] at r46
    refine ⟨m - 1, by omega, t + 1, a', c', _, by rw [← hlen2]; rfl, by omega, ((s1.trans s42).trans' s45 fun j hj => .inr (by omega)).trans' s46 fun j hj => .inr (g j (by simp at hj ⊢; omega)), (s15'.trans (s42.none.trans (s45.mono fun j hj _ => .inl hj))).trans (s46.mono fun j hj _ => .inr (by simp at hj ⊢; omega)), r46⟩
  · have htt : t = l.length := by omega
    subst htt
    rw [List.take_length] at r1 ⊢
    have s53 := Step.stores X53 s1.ok (M1.sub (M := [p17]) (by simp)) (by simp)
    have sF : Step no w o w53 _ := s1.trans' s53 fun j hj => .inr (g j (by simp at hj ⊢; omega))
    have r53 : VRow w15.heap.size w53 _ k11a k11c l := LRow.step r1 s53 fun k hk => .inl (hM15 k (by simp at hk ⊢; omega))
    refine ⟨_, k11a, k11c, ?_, noStep (K := no) sF, r53.give sF s15.size, r53.le⟩
    unfold chgV
    rw [hlen]
theorem readM_cases (b : List UInt8) : ((readM b).2 = 0 ∧ doneR (rawM b).2 = 0 ∧ rightM (rawM b).1 = true ∧ (readM b).1 = (rawM b).1) ∨ ((readM b).2 ≠ 0 ∧ (readM b).1 = Chg.z) := by
  unfold readM
  by_cases hd : doneR (rawM b).2 = 0
  · rw [if_pos hd]
    by_cases hr : rightM (rawM b).1 = true
    · rw [if_pos hr]; exact .inl ⟨rfl, hd, hr, rfl⟩
    · rw [if_neg hr]; exact .inr ⟨by show (4 : Int) ≠ 0; decide, rfl⟩
  · rw [if_neg hd]; exact .inr ⟨hd, rfl⟩
theorem changes_spec {x y : CR} (hx : x.at_ w) (hy : y.at_ w) (hxl : x.l.length < 1000000) (hxb : ∀ u ∈ x.l, u.b.length < 1000000) (hxo : x.old.length < 1000000) :
    Calls Try.prog 34 #[chgV x.cg x.wa x.wc x.oa x.oc, chgV y.cg y.wa y.wc y.oa y.oc] w (fun e w' => ∃ r : Bool, e = .returned (.bool r) ∧ (r = true ↔ x.cg = y.cg) ∧ Ext no w w') := by
  rw [← CR.V, ← CR.V]
  refine (cachetteref12_Changes.go x.kd x.who x.pub x.lim x.wa x.l.length x.wc x.oa x.old.length x.oc y.kd y.who y.pub y.lim y.wa y.l.length y.wc y.oa y.old.length y.oc (R := fun v w' => ∃ r : Bool, v = .bool r ∧ (r = true ↔ x.cg = y.cg) ∧ Ext no w w') ?_).mono fun e w' ⟨v, he, r, hv, h⟩ => ⟨r, by rw [he, hv], h⟩
  unfold cachetteref12_Changes.N
  have no_ : ∀ {w' : World}, (x.cg = y.cg → False) → Ext no w w' → ∃ r : Bool, Value.bool false = .bool r ∧ (r = true ↔ x.cg = y.cg) ∧ Ext no w w' := fun h X => ⟨false, rfl, ⟨fun h => (by cases h), fun e => (h e).elim⟩, X⟩
  refine ⟨fun h w14 X => no_ (fun e => h (congrArg Chg.kd e)) X, fun h1 => ⟨fun h w14 X => no_ (fun e => h (congrArg Chg.who e)) X, fun h2 => ⟨fun h w14 X => no_ (fun e => h (congrArg Chg.pub e)) X, fun h3 => ⟨fun h w14 X => no_ (fun e => h (congrArg Chg.lim e)) X, fun h4 => ⟨fun h w14 X => no_ (fun e => h (by have := congrArg (fun c => c.ws.length) e; simp only [CR.cg, List.length_map] at this; omega)) X, fun h5 w14 p30 p31 X14 hp => ?_⟩⟩⟩⟩⟩
  refine (W.sameB_spec (hx.old.no X14) (hy.old.no X14) hxo).mono fun e w34 ⟨he, X34⟩ => ⟨_, he, X34.kept, fun hf => no_ (fun e => of_decide_eq_false hf (congrArg Chg.old e)) (X14.trans X34), fun ho => ?_⟩
  have ho := of_decide_eq_true ho
  have Y34 := X14.trans X34
  refine ⟨fun q vs w1 => ∃ t : Nat, vs = [.int .i64 t] ∧ q + t = x.l.length ∧ Ext no w w1 ∧ (x.l.map Wr.p).take t = (y.l.map Wr.p).take t, x.l.length, ⟨0, rfl, rfl, Y34, rfl⟩, ?_⟩
  rintro q w39 i ⟨t, hi, hq, Y39, hn⟩
  simp only [List.cons.injEq, Value.int.injEq, true_and, and_true] at hi
  subst hi
  refine ⟨fun ht => ?_, fun ht => ?_⟩
  · have t1 : t < x.l.length := by omega
    have t2 : t < y.l.length := by omega
    have g1 : x.l[t]? = some x.l[t] := List.getElem?_eq_getElem t1
    have g2 : y.l[t]? = some y.l[t] := List.getElem?_eq_getElem t2
    have m1 := List.getElem_mem t1
    have m2 := List.getElem_mem t2
    have e1 : (x.l.map Wr.p)[t]? = some x.l[t].p := by rw [List.getElem?_map, g1]; rfl
    have e2 : (y.l.map Wr.p)[t]? = some y.l[t].p := by rw [List.getElem?_map, g2]; rfl
    have ne : x.l[t].p ≠ y.l[t].p → x.cg = y.cg → False := fun h e => by
      have := congrArg (fun c : Chg => c.ws[t]?) e
      simp only [CR.cg] at this
      rw [e1, e2] at this
      exact h (Option.some.inj this)
    generalize x.l[t] = u at *
    generalize y.l[t] = v at *
    obtain ⟨ad, had⟩ := hx.ws.faddr Wr.len (by decide) t1
    obtain ⟨bd, hbd⟩ := hy.ws.faddr Wr.len (by decide) t2
    have rx := hx.ws.no Y39
    have ry := hy.ws.no Y39
    rw [had] at rx ⊢
    rw [hbd] at ry ⊢
    refine ⟨ad, rfl, by omega, by omega, u.who, by rw [Int.toNat_natCast]; exact rx.fcell Wr.len g1 0 rfl, bd, rfl, by omega, by omega, v.who, by rw [Int.toNat_natCast]; exact ry.fcell Wr.len g2 0 rfl, fun hne w41 X41 => no_ (ne fun e => hne (congrArg Prod.fst e)) (Y39.trans X41), fun hw => ⟨by omega, by omega, u.a, u.b.length, u.c, by rw [Int.toNat_natCast]; exact rx.fcell Wr.len g1 1 rfl, by omega, by omega, v.a, v.b.length, v.c, by rw [Int.toNat_natCast]; exact ry.fcell Wr.len g2 1 rfl, fun w41 X41 => ?_⟩⟩
    have Y41 := Y39.trans X41
    refine (W.sameB_spec ((hx.bs u m1).no Y41) ((hy.bs v m2).no Y41) (hxb u m1)).mono fun e w55 ⟨he, X55⟩ => ⟨_, he, X55.kept, fun hf => no_ (ne fun e => of_decide_eq_false hf (congrArg Prod.snd e)) (Y41.trans X55), fun hb => ⟨by omega, by omega, q - 1, by omega, t + 1, rfl, by omega, Y41.trans X55, ?_⟩⟩
    have hb := of_decide_eq_true hb
    have : u.p = v.p := by unfold Wr.p; rw [hw, hb]
    rw [List.take_add_one, List.take_add_one, hn, e1, e2, this]
  · rw [List.take_of_length_le (by simp; omega), List.take_of_length_le (by simp; omega)] at hn
    refine ⟨true, rfl, ⟨fun _ => ?_, fun _ => rfl⟩, Y39⟩
    unfold CR.cg
    rw [h1, h2, h3, h4, hn, ho]
end
end Go.Proofs.Ytmhfoieeldiecaa

/- MembersForms, MembersBack. -/
set_option linter.unusedVariables false
set_option linter.unusedSimpArgs false
set_option maxRecDepth 20000
set_option maxHeartbeats 4000000
namespace Go.Proofs.Ytmhfoieeldiecaa
open Go Go.Mx Go.Proofs
open W (OwnB Rd RdR countR numR doneR numL_le sameB_spec)
section
variable {w w' w1 : World} {o o' o1 : Own} {a ba : Option Addr} {c bc N : Nat} {l : List Wr} {cg : Chg} {wa oa : Option Addr} {wc oc : Nat} {b : List UInt8}
theorem noTags (w : World) : Tags w (fun _ => none) := fun b j _ h => by cases h
theorem noExt (h : Step no w o w' o') : Ext no w w' := h.ext.mono fun b ⟨_, _, h⟩ _ => h
theorem ownE (hr : RowAt w wa (l.flatMap Wr.C)) (hw : cg.ws = l.map Wr.p) (hl : l.length < 1000000) : Calls Try.prog 13 #[chgV cg wa wc oa oc] w (fun e w' => ∃ wa' wc', e = .returned (chgV cg wa' wc' oa oc) ∧ RowAt w' wa' (l.flatMap Wr.C) ∧ Ext no w w') :=
  (Own_spec (noTags w) ⟨hr, fun _ _ _ => rfl⟩ hw hl).mono fun e w' ⟨o', wa', wc', he, s, r, _⟩ => ⟨wa', wc', he, r.1, noExt s⟩
theorem backE (hr : RowAt w wa (l.flatMap Wr.C)) (hw : cg.ws = l.map Wr.p) (hl : l.length < 1000000) : Calls Try.prog 35 #[chgV cg wa wc oa oc] w (fun e w' => ∃ wa' wc', e = .returned (chgV cg wa' wc' oa oc) ∧ RowAt w' wa' (l.flatMap Wr.C) ∧ Ext no w w') :=
  (Back_spec (noTags w) ⟨hr, fun _ _ _ => rfl⟩ hw hl).mono fun e w' ⟨o', wa', wc', he, s, r, _⟩ => ⟨wa', wc', he, r.1, noExt s⟩
theorem CR.at_with {x : CR} (h : x.at_ w) {wa : Option Addr} {wc : Nat} (hr : RowAt w wa (x.l.flatMap Wr.C)) : CR.at_ w { x with wa := wa, wc := wc } := ⟨hr, h.bs, h.old⟩
theorem raw_bs (x : CR) (h : x.cg = (readM b).1) : x.l.length < 1000000 ∧ x.old.length < 1000000 ∧ ∀ u ∈ x.l, u.b.length < 1000000 := by
  rcases readM_cases b with ⟨_, hd, hr, e⟩ | ⟨_, e⟩
  · rw [e] at h
    obtain ⟨s1, s2⟩ := raw_small b
    have h1 : (x.l.map Wr.p).length ≤ 8 := by have := congrArg (fun c : Chg => c.ws.length) h; simp only [CR.cg] at this; omega
    have h2 : x.old.length ≤ 24 := by have := congrArg (fun c : Chg => c.old.length) h; simp only [CR.cg] at this; omega
    rw [List.length_map] at h1
    refine ⟨by omega, by omega, fun u hu => ?_⟩
    have hr : rightM x.cg = true := by rw [h]; exact hr
    have hm : u.p ∈ x.cg.ws := List.mem_map.2 ⟨u, hu, rfl⟩
    rcases right_kd hr with hk | hk | hk
    · rw [rightM_1 hk, decide_eq_true_eq] at hr; rw [hr.2.2.2.1] at hm; cases hm
    · rw [rightM_2 hk, decide_eq_true_eq] at hr; rw [hr.2.2.2.2.2.1] at hm; cases hm
    · have hb := boxesGo_all (right_3 hr hk).1 _ hm
      have : u.b.length = 16 := hb.2.2.2
      omega
  · rw [e] at h
    have h1 : (x.l.map Wr.p) = [] := congrArg Chg.ws h
    have h2 : x.old = [] := congrArg Chg.old h
    have h3 : x.l = [] := List.map_eq_nil_iff.1 h1
    rw [h2, h3]
    exact ⟨by decide, by decide, fun u hu => (by cases hu)⟩
theorem bytes_len {x : CR} (hx2 : x.old.length ≤ 100) : (bytesM x.cg).1.length < 1000000 := by
  unfold bytesM
  split
  · rename_i hr
    have hold : x.cg.old.length ≤ 100 := hx2
    rcases right_kd hr with hk | hk | hk
    · unfold bodyM; rw [if_neg (by omega), if_pos hk]
      have n1 := numL_le 1; have n2 := numL_le x.cg.who.toNat; have n3 := numL_le x.cg.pub.toNat
      simp only [List.length_append]; omega
    · unfold bodyM; rw [if_neg (by omega), if_neg (by omega)]
      have n1 := numL_le 2; have n2 := numL_le x.cg.who.toNat; have n3 := numL_le x.cg.lim.toNat
      simp only [List.length_append]; omega
    · obtain ⟨h1, _, _, _, _, h6, h7⟩ := right_3 hr hk
      have hall := boxesGo_all h1
      have q3 := wsL_len (l := x.cg.ws) fun u hu => by have := hall u hu; omega
      unfold bodyM; rw [if_pos hk]
      have n1 := numL_le 3; have n2 := numL_le x.cg.ws.length; have n3 := numL_le x.cg.old.length
      simp only [List.length_append]; omega
  · exact (by decide : 0 < 1000000)
theorem MembersForms_spec (W : World) {x : CR} (hg : x.good W) (hb : RowAt W ba (bytesV b)) (hbc : b.length ≤ bc) :
    Calls Try.prog 7 #[.agg #[.int .i64 x.kd, .int .i64 x.who, .int .u64 x.pub, .int .i64 x.lim, .slice x.wa x.l.length x.wc, .slice x.oa x.old.length x.oc], .slice ba b.length bc] W (Ret (.bool true) fun w' => Ext no W w') := by
  refine cachettelaw12_MembersForms.run _ _ _ _ _ _ _ _ _ _ _ _ _ ?_
  unfold cachettelaw12_MembersForms.N
  intro w9 q10 p11 X9 hq10 hq hq' hp11
  have hlr : RowAt w9 (some (blk q10)) (([x] : List CR).flatMap CR.C) := by simpa using (RowAt.of_blk hq10 : RowAt w9 (some (blk q10)) x.C)
  have hA : x.at_ w9 := ⟨hg.ws.no X9, fun y hy => (hg.bs y hy).1.no X9, hg.old.no X9⟩
  refine (light12_spec (l := [x]) (lc := 1) hlr (fun p hp => by rw [List.mem_singleton.1 hp]; exact hA.ws)).mono fun e w14 ⟨he, hw⟩ => ⟨_, he, by subst hw; exact fun _ _ _ => rfl, fun _ => ?_, fun hL => ⟨fun _ => ?_, fun h500 => ?_⟩⟩
  · subst hw; exact (alive12_spec _).mono fun e w18 ⟨he, X⟩ => ⟨_, he, rfl, X9.trans X⟩
  · subst hw; exact (alive12_spec _).mono fun e w18 ⟨he, X⟩ => ⟨_, he, rfl, X9.trans X⟩
  subst hw
  obtain ⟨_, hl2⟩ := light12_of hL
  obtain ⟨hx1, hx2, hx3⟩ := hl2 x (by simp)
  have hxl : x.l.map Wr.p = x.cg.ws := rfl
  rw [CR.V]
  refine (ownE hA.ws rfl (by omega)).mono fun e w30 ⟨wa1, wc1, he, r30, X30⟩ => ⟨_, _, _, _, _, _, _, _, _, _, he, X30.kept, ?_⟩
  have A30 := hA.no X30
  refine (mBytes_spec r30 hxl (by omega) A30.bs A30.old (by show x.old.length < 1000; omega) hg.pub).mono fun e w34 ⟨v, he, a34, c34, hv, O34, X34⟩ => ?_
  subst hv
  refine ⟨_, _, _, _, he, X34.kept, ?_⟩
  have A34 := A30.no X34
  refine (rmBytes_spec A34.ws hxl (by omega) A34.bs A34.old (by show x.old.length < 1000; omega) hg.pub).mono fun e w38 ⟨v, he, a38, c38, hv, O38, X38⟩ => ?_
  subst hv
  refine ⟨_, _, _, _, he, X38.kept, ?_⟩
  have Y38 := ((X9.trans X30).trans X34).trans X38
  refine (mRead_spec (hb.no Y38) hbc (by omega)).mono fun e w47 ⟨v, he, y, hv, hy, B47, X47⟩ => ?_
  subst hv
  refine ⟨_, _, _, _, _, _, _, _, _, _, _, he, X47.kept, fun w54 p55 X54 hp55 => ?_⟩
  have Y54 := (Y38.trans X47).trans X54
  refine (rmRead_spec (hb.no Y54) hbc (by omega)).mono fun e w64 ⟨v, he, z, hv, hz, C64, X64⟩ => ?_
  subst hv
  refine ⟨_, _, _, _, _, _, _, _, _, _, _, he, X64.kept, fun w72 p73 X72 hp73 => ?_⟩
  have Z72 := ((X38.trans X47).trans X54).trans (X64.trans X72)
  have A72 := A34.no Z72
  refine (ownE A72.ws rfl (by omega)).mono fun e w81 ⟨wa2, wc2, he, r81, X81⟩ => ⟨_, _, _, _, _, _, _, _, _, _, he, X81.kept, ?_⟩
  refine (Right_spec r81 hxl (by omega) (by show x.old.length < _; omega)).mono fun e w84 ⟨he, X84⟩ => ⟨_, he, X84.kept, ?_⟩
  have A84 := (A72.no X81).no X84
  refine (rRight_spec A84.ws hxl (by omega) (by show x.old.length < _; omega)).mono fun e w87 ⟨he, X87⟩ => ⟨_, he, X87.kept, fun _ => ?_, fun h => absurd rfl h⟩
  have Z87 := (X81.trans X84).trans X87
  have hbl := bytes_len hx2
  refine (sameB_spec (((O34.row.no X38).no ((X47.trans X54).trans (X64.trans X72))).no Z87) ((O38.row.no ((X47.trans X54).trans (X64.trans X72))).no Z87) hbl).mono fun e w91 ⟨he, X91⟩ => ⟨_, he, X91.kept, fun _ => ⟨fun _ => ?_, fun h => absurd rfl h⟩, fun h => absurd h (by simp)⟩
  have T91 := Z87.trans X91
  have B91 := (((B47.no X54).no X64).no X72).no T91
  obtain ⟨y1, y2, y3⟩ := raw_bs y hy
  rw [CR.V]
  refine (backE B91.ws rfl y1).mono fun e w101 ⟨wa3, wc3, he, r101, X101⟩ => ⟨_, _, _, _, _, _, _, _, _, _, he, X101.kept, ?_⟩
  have C101 := (((C64.no X72).no T91).no X101)
  have B101 : CR.at_ w101 { y with wa := wa3, wc := wc3 } := CR.at_with (B91.no X101) r101
  have hch := changes_spec B101 C101 y1 y3 y2
  rw [← CR.V z] at hch
  refine hch.mono fun e w104 ⟨r, he, hr, X104⟩ => ⟨r, he, fun ht => ⟨fun _ => ?_, fun h => absurd rfl h⟩, fun hf => ?_⟩
  · exact (alive12_spec _).mono fun e w109 ⟨he, X⟩ => ⟨_, he, rfl, ((((Y54.trans X64).trans X72).trans T91).trans ((X101.trans X104).trans X))⟩
  · have : r = true := hr.2 (by show y.cg = z.cg; rw [hy, hz])
    rw [this] at hf; cases hf
theorem MembersForms_walk (W : World) (cs0 : Array Value) (a1 : Option Addr) (len1 cap1 : Nat) (o0 : ∃ p : CR, cs0.toList = p.C ∧ p.good W) (o1 : BytesQ W [.slice a1 len1 cap1]) :
    Calls Try.prog 7 #[.agg cs0, .slice a1 len1 cap1] W (Ret (.bool true) fun w' => Ext no W w') := by
  obtain ⟨x, e0, hg⟩ := o0
  have : cs0 = x.C.toArray := Array.ext' e0
  subst this
  obtain ⟨_, c1, b, e1, q1, q2, r1⟩ := o1
  cases e1
  exact MembersForms_spec W hg r1 q1
end
end Go.Proofs.Ytmhfoieeldiecaa
