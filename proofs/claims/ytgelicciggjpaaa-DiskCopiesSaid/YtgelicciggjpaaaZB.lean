/- Disk: predicates. -/
import Derived.Test.YtgelicciggjpaaaZA
import Derived.Lib.Overlaps
import Derived.Lib.AppendZerosOnto
import Derived.Laws.IdiomCopy
import Derived.Laws.Externs
set_option linter.unusedVariables false
set_option linter.unusedSimpArgs false
set_option maxRecDepth 20000
set_option maxHeartbeats 2000000
namespace Go.Proofs.Ytgelicciggjpaaa
open Go Go.Mx Go.Proofs
/-- disk.New -/
def disk_New.M (n1 : Int) (R : Value → World → Prop) (w : World) : Prop :=
  bif decide (n1 < 1) then (
  R (.tuple #[.pointer none, .int .i64 1]) w) else (
  bif decide (n1 > 400) then (
  R (.tuple #[.pointer none, .int .i64 1]) w) else (
  ∃ (m2a : Option Addr) (m2n : Nat) (m2c : Nat) (ww3 : World), (Instr.makeSlice 54 (.int .i64 n1) (.int .i64 n1)).run Try.prog w = .ok (.slice m2a m2n m2c) ww3 ∧
  thenW (ww3.alloc (.cells #[.slice m2a m2n m2c, .slice none 0 0, .int .i64 0, .bool false, .int .i64 0, .int .i64 0] 58)) fun ww4 =>
  R (.tuple #[.pointer (some (blk ww3.heap.size)), .int .i64 0]) ww4))

theorem disk_New.eq (n1 : Int) (R : Value → World → Prop) (w : World) : mfunc Try.prog [] 9 [.int .i64 n1] R w = disk_New.M n1 R w := by kernel_rfl
theorem disk_New.ok (n1 : Int) {R : Value → World → Prop} {w : World} (h : disk_New.M n1 R w) : Calls Try.prog 9 #[.int .i64 n1] w fun e w' => ∃ v, e = .returned v ∧ R v w' :=
  mfunc_ok follows (H := []) (args := [.int .i64 n1]) (by rw [disk_New.eq]; exact h)

def disk_New.N (n1 : Int) (R : Value → World → Prop) (w : World) : Prop :=
  (n1 < 1 →
    R (.tuple #[.pointer none, .int .i64 1]) w) ∧
  ((1 : Int) ≤ n1 →
    (n1 > 400 →
      R (.tuple #[.pointer none, .int .i64 1]) w) ∧
    (n1 ≤ 400 →
      ∃ (m4a : Option Addr) (m4n : Nat) (m4c : Nat) (ww5 : World), (Instr.makeSlice 54 (.int .i64 n1) (.int .i64 n1)).run Try.prog w = .ok (.slice m4a m4n m4c) ww5 ∧
      ∀ (ww6 : World) (q7 : Nat), Ext no ww5 ww6 → Blk ww6 q7 58 [.slice m4a m4n m4c, .slice none 0 0, .int .i64 0, .bool false, .int .i64 0, .int .i64 0] → ww5.heap.size ≤ q7 → q7 < ww6.heap.size →
      R (.tuple #[.pointer (some (blk q7)), .int .i64 0]) ww6))

theorem disk_New.up (n1 : Int) {R : Value → World → Prop} {w : World} (h : disk_New.N n1 R w) : disk_New.M n1 R w := by
  unfold disk_New.M
  unfold disk_New.N at h
  refine bif_of (fun c2 => ?_) (fun c2 => ?_)
  · have h := h.1 (of_decide_eq_true c2)
    exact h
  · have h := h.2 (Int.not_lt.1 (of_decide_eq_false c2))
    refine bif_of (fun c3 => ?_) (fun c3 => ?_)
    · have h := h.1 (of_decide_eq_true c3)
      exact h
    · have h := h.2 (Int.not_lt.1 (of_decide_eq_false c3))
      obtain ⟨m4a, m4n, m4c, ww5, hr, h⟩ := h
      refine ⟨m4a, m4n, m4c, ww5, hr, ?_⟩
      refine thenW_in fun ww6 e6 => ?_
      have h := h ww6 ww5.heap.size ((Ext.refl no ww5).x_alloc e6) (Blk.of_new e6) ((Ext.refl no ww5)).size (size_lt_alloc e6)
      exact h

theorem disk_New.go (n1 : Int) {R : Value → World → Prop} {w : World} (h : disk_New.N n1 R w) : Calls Try.prog 9 #[.int .i64 n1] w fun e w' => ∃ v, e = .returned v ∧ R v w' := disk_New.ok n1 (disk_New.up n1 h)
theorem disk_New.run (n1 : Int) {V : Value} {Q : World → Prop} {w : World} (h : disk_New.N n1 (fun v w' => v = V ∧ Q w') w) : Calls Try.prog 9 #[.int .i64 n1] w (Ret V Q) := (disk_New.go n1 h).mono fun e w' ⟨v, he, hv, hq⟩ => ⟨by rw [he, hv], hq⟩

/-- (*disk.Disk).is -/
def disk_Disk_is.M (d1 : Option Addr) (R : Value → World → Prop) (w : World) : Prop :=
  bif Option.isNone d1 then (
  R (.int .i64 23) w) else (
  d1.elim False fun a2 =>
  ∃ (state3 : Int), w.cell? (a2.add 4) = some (.int .i64 state3) ∧
  bif state3 == 1 then (
  R (.int .i64 19) w) else (
  R (.int .i64 0) w))

theorem disk_Disk_is.eq (d1 : Option Addr) (R : Value → World → Prop) (w : World) : mfunc Try.prog [] 26 [.pointer d1] R w = disk_Disk_is.M d1 R w := by kernel_rfl
theorem disk_Disk_is.ok (d1 : Option Addr) {R : Value → World → Prop} {w : World} (h : disk_Disk_is.M d1 R w) : Calls Try.prog 26 #[.pointer d1] w fun e w' => ∃ v, e = .returned v ∧ R v w' :=
  mfunc_ok follows (H := []) (args := [.pointer d1]) (by rw [disk_Disk_is.eq]; exact h)

def disk_Disk_is.N (d1 : Option Addr) (R : Value → World → Prop) (w : World) : Prop :=
  (d1 = none →
    R (.int .i64 23) w) ∧
  (d1 ≠ none →
    ∃ a3 : Addr, d1 = some a3 ∧
    ∃ (state5 : Int), w.cell? (a3.add 4) = some (.int .i64 state5) ∧
    (state5 = 1 →
      R (.int .i64 19) w) ∧
    (state5 ≠ 1 →
      R (.int .i64 0) w))

theorem disk_Disk_is.up (d1 : Option Addr) {R : Value → World → Prop} {w : World} (h : disk_Disk_is.N d1 R w) : disk_Disk_is.M d1 R w := by
  unfold disk_Disk_is.M
  unfold disk_Disk_is.N at h
  refine bif_of (fun c2 => ?_) (fun c2 => ?_)
  · have h := h.1 (isNone_t c2)
    exact h
  · have h := h.2 (isNone_f c2)
    obtain ⟨a3, ha3, h⟩ := h
    refine elim_some ha3 ?_
    obtain ⟨state5, hc4, h⟩ := h
    refine ⟨state5, hc4, ?_⟩
    refine bif_of (fun c6 => ?_) (fun c6 => ?_)
    · have h := h.1 (beq_t c6)
      exact h
    · have h := h.2 (beq_f c6)
      exact h

theorem disk_Disk_is.go (d1 : Option Addr) {R : Value → World → Prop} {w : World} (h : disk_Disk_is.N d1 R w) : Calls Try.prog 26 #[.pointer d1] w fun e w' => ∃ v, e = .returned v ∧ R v w' := disk_Disk_is.ok d1 (disk_Disk_is.up d1 h)
theorem disk_Disk_is.run (d1 : Option Addr) {V : Value} {Q : World → Prop} {w : World} (h : disk_Disk_is.N d1 (fun v w' => v = V ∧ Q w') w) : Calls Try.prog 26 #[.pointer d1] w (Ret V Q) := (disk_Disk_is.go d1 h).mono fun e w' ⟨v, he, hv, hq⟩ => ⟨by rw [he, hv], hq⟩

/-- (*disk.Disk).has -/
def disk_Disk_has.M (d1 : Option Addr) (i2 : Int) (R : Value → World → Prop) (w : World) : Prop :=
  Calls Try.prog 26 #[.pointer d1] w fun ee4 ww5 => ∃ (isv3 : Int), ee4 = .returned (.int .i64 isv3) ∧
  bif isv3 != 0 then (
  R (.int .i64 isv3) ww5) else (
  bif decide (i2 < 0) then (
  R (.int .i64 2) ww5) else (
  d1.elim False fun a6 =>
  ∃ (good7a : Option Addr) (good7n : Nat) (good7c : Nat), ww5.cell? (a6.add 0) = some (.slice good7a good7n good7c) ∧
  bif decide (i2 ≥ (good7n : Int)) then (
  R (.int .i64 2) ww5) else (
  R (.int .i64 0) ww5)))

theorem disk_Disk_has.eq (d1 : Option Addr) (i2 : Int) (R : Value → World → Prop) (w : World) : mfunc Try.prog [] 25 [.pointer d1, .int .i64 i2] R w = disk_Disk_has.M d1 i2 R w := by kernel_rfl
theorem disk_Disk_has.ok (d1 : Option Addr) (i2 : Int) {R : Value → World → Prop} {w : World} (h : disk_Disk_has.M d1 i2 R w) : Calls Try.prog 25 #[.pointer d1, .int .i64 i2] w fun e w' => ∃ v, e = .returned v ∧ R v w' :=
  mfunc_ok follows (H := []) (args := [.pointer d1, .int .i64 i2]) (by rw [disk_Disk_has.eq]; exact h)

def disk_Disk_has.N (d1 : Option Addr) (i2 : Int) (R : Value → World → Prop) (w : World) : Prop :=
  Calls Try.prog 26 #[.pointer d1] w fun ee4 ww5 => ∃ (isv3 : Int), ee4 = .returned (.int .i64 isv3) ∧
  (isv3 ≠ 0 →
    R (.int .i64 isv3) ww5) ∧
  (isv3 = 0 →
    (i2 < 0 →
      R (.int .i64 2) ww5) ∧
    ((0 : Int) ≤ i2 →
      ∃ a8 : Addr, d1 = some a8 ∧
      ∃ (good10a : Option Addr) (good10n : Nat) (good10c : Nat), ww5.cell? (a8.add 0) = some (.slice good10a good10n good10c) ∧
      (i2 ≥ (good10n : Int) →
        R (.int .i64 2) ww5) ∧
      (i2 < (good10n : Int) →
        R (.int .i64 0) ww5)))

theorem disk_Disk_has.up (d1 : Option Addr) (i2 : Int) {R : Value → World → Prop} {w : World} (h : disk_Disk_has.N d1 i2 R w) : disk_Disk_has.M d1 i2 R w := by
  unfold disk_Disk_has.M
  unfold disk_Disk_has.N at h
  refine h.mono fun ee4 ww5 h => ?_
  obtain ⟨isv3, he, h⟩ := h
  refine ⟨isv3, he, ?_⟩
  refine bif_of (fun c6 => ?_) (fun c6 => ?_)
  · have h := h.1 (bne_t c6)
    exact h
  · have h := h.2 (bne_f c6)
    refine bif_of (fun c7 => ?_) (fun c7 => ?_)
    · have h := h.1 (of_decide_eq_true c7)
      exact h
    · have h := h.2 (Int.not_lt.1 (of_decide_eq_false c7))
      obtain ⟨a8, ha8, h⟩ := h
      refine elim_some ha8 ?_
      obtain ⟨good10a, good10n, good10c, hc9, h⟩ := h
      refine ⟨good10a, good10n, good10c, hc9, ?_⟩
      refine bif_of (fun c11 => ?_) (fun c11 => ?_)
      · have h := h.1 (of_decide_eq_true c11)
        exact h
      · have h := h.2 (Int.not_le.1 (of_decide_eq_false c11))
        exact h

theorem disk_Disk_has.go (d1 : Option Addr) (i2 : Int) {R : Value → World → Prop} {w : World} (h : disk_Disk_has.N d1 i2 R w) : Calls Try.prog 25 #[.pointer d1, .int .i64 i2] w fun e w' => ∃ v, e = .returned v ∧ R v w' := disk_Disk_has.ok d1 i2 (disk_Disk_has.up d1 i2 h)
theorem disk_Disk_has.run (d1 : Option Addr) (i2 : Int) {V : Value} {Q : World → Prop} {w : World} (h : disk_Disk_has.N d1 i2 (fun v w' => v = V ∧ Q w') w) : Calls Try.prog 25 #[.pointer d1, .int .i64 i2] w (Ret V Q) := (disk_Disk_has.go d1 i2 h).mono fun e w' ⟨v, he, hv, hq⟩ => ⟨by rw [he, hv], hq⟩

/-- (*disk.Disk).Read -/
def disk_Disk_Read.M (d1 : Option Addr) (i2 : Int) (R : Value → World → Prop) (w : World) : Prop :=
  Calls Try.prog 25 #[.pointer d1, .int .i64 i2] w fun ee4 ww5 => ∃ (has3 : Int), ee4 = .returned (.int .i64 has3) ∧
  bif has3 != 0 then (
  R (.tuple #[.slice none 0 0, .int .i64 has3]) ww5) else (
  d1.elim False fun a6 =>
  ∃ (good7a : Option Addr) (good7n : Nat) (good7c : Nat), ww5.cell? (a6.add 0) = some (.slice good7a good7n good7c) ∧
  good7a.elim False fun a8 =>
  0 ≤ (i2 : Int) ∧ (i2 : Int) < (good7n : Int) ∧
  ∃ x9 : Array Value, szB Try.prog 61 x9.size = true ∧ cellsAt ww5 (a8.add (Int.toNat i2 * 65)) x9.toList 0 ∧
  thenW (ww5.alloc (.cells (List.toArray (List.replicate 64 (.int .u8 0) ++ [.bool false])) 61)) fun ww10 =>
  bif szB Try.prog 61 x9.size then storesK (blk ww5.heap.size) x9.toList 0 ww10 fun ww11 =>
  d1.elim False fun a12 =>
  ∃ (pend13a : Option Addr) (pend13n : Nat) (pend13c : Nat), ww11.cell? (a12.add 1) = some (.slice pend13a pend13n pend13c) ∧
  ∃ (I0 : Nat → List Value → World → Prop) (m15 : Nat), I0 m15 [.int .i64 0] ww11 ∧ ∀ (m16 : Nat) (ww17 : World) (t14 : Int), I0 m16 [.int .i64 t14] ww17 →
  bif decide (t14 < (pend13n : Int)) then (
  pend13a.elim False fun a18 =>
  0 ≤ (t14 : Int) ∧ (t14 : Int) < (pend13n : Int) ∧
  ∃ x19 : Array Value, szB Try.prog 63 x19.size = true ∧ cellsAt ww17 (a18.add (Int.toNat t14 * 66)) x19.toList 0 ∧
  thenW (ww17.alloc (.cells (List.toArray ([.int .i64 0] ++ List.replicate 64 (.int .u8 0) ++ [.bool false])) 63)) fun ww20 =>
  bif szB Try.prog 63 x19.size then storesK (blk ww17.heap.size) x19.toList 0 ww20 fun ww21 =>
  ∃ (i22 : Int), ww21.cell? ((blk ww17.heap.size).add 0) = some (.int .i64 i22) ∧
  bif i22 == i2 then (
  ∃ s23 : Array Value, szB Try.prog 61 s23.size = true ∧ cellsAt ww21 ((blk ww17.heap.size).add 1) s23.toList 0 ∧
  bif szB Try.prog 61 s23.size then storesK (blk ww5.heap.size) s23.toList 0 ww21 fun ww24 =>
  ∃ m25, m25 < m16 ∧ I0 m25 [.int .i64 (IntKind.i64.wrap (t14 + 1))] ww24
  else False) else (
  ∃ m26, m26 < m16 ∧ I0 m26 [.int .i64 (IntKind.i64.wrap (t14 + 1))] ww21)
  else False) else (
  ∃ (torn27 : Bool), ww17.cell? ((blk ww5.heap.size).add 64) = some (.bool torn27) ∧
  bif torn27 then (
  R (.tuple #[.slice none 0 0, .int .i64 5]) ww17) else (
  R (.tuple #[.slice (some (if 64 = 0 then ((blk ww5.heap.size).add 0) else ((blk ww5.heap.size).add 0).add (0 * 1))) (64 - 0) (64 - 0), .int .i64 0]) ww17))
  else False)

theorem disk_Disk_Read.eq (d1 : Option Addr) (i2 : Int) (R : Value → World → Prop) (w : World) : mfunc Try.prog [(0, [1, 7, 26, 27], [(28, (.one (.int .i64)))])] 16 [.pointer d1, .int .i64 i2] R w = disk_Disk_Read.M d1 i2 R w := by kernel_rfl
theorem disk_Disk_Read.ok (d1 : Option Addr) (i2 : Int) {R : Value → World → Prop} {w : World} (h : disk_Disk_Read.M d1 i2 R w) : Calls Try.prog 16 #[.pointer d1, .int .i64 i2] w fun e w' => ∃ v, e = .returned v ∧ R v w' :=
  mfunc_ok follows (H := [(0, [1, 7, 26, 27], [(28, (.one (.int .i64)))])]) (args := [.pointer d1, .int .i64 i2]) (by rw [disk_Disk_Read.eq]; exact h)

def disk_Disk_Read.N (d1 : Option Addr) (i2 : Int) (R : Value → World → Prop) (w : World) : Prop :=
  Calls Try.prog 25 #[.pointer d1, .int .i64 i2] w fun ee4 ww5 => ∃ (has3 : Int), ee4 = .returned (.int .i64 has3) ∧
  (has3 ≠ 0 →
    R (.tuple #[.slice none 0 0, .int .i64 has3]) ww5) ∧
  (has3 = 0 →
    ∃ a7 : Addr, d1 = some a7 ∧
    ∃ (good9a : Option Addr) (good9n : Nat) (good9c : Nat), ww5.cell? (a7.add 0) = some (.slice good9a good9n good9c) ∧
    ∃ a10 : Addr, good9a = some a10 ∧
    0 ≤ (i2 : Int) ∧ (i2 : Int) < (good9n : Int) ∧
    ∃ x12 : Array Value, szB Try.prog 61 x12.size = true ∧ cellsAt ww5 (a10.add (Int.toNat i2 * 65)) x12.toList 0 ∧
    ∀ (ww13 : World) (q14 : Nat), Ext no ww5 ww13 → Blk ww13 q14 61 (List.replicate 64 (.int .u8 0) ++ [.bool false]) → ww5.heap.size ≤ q14 → q14 < ww13.heap.size →
    szB Try.prog 61 x12.size = true ∧
    storesK (blk q14) x12.toList 0 ww13 fun ww15 =>
    ∃ (pend17a : Option Addr) (pend17n : Nat) (pend17c : Nat), ww15.cell? (a7.add 1) = some (.slice pend17a pend17n pend17c) ∧
    ∃ (I0 : Nat → List Value → World → Prop) (m19 : Nat), I0 m19 [.int .i64 0] ww15 ∧ ∀ (m20 : Nat) (ww21 : World) (t18 : Int), I0 m20 [.int .i64 t18] ww21 →
    (t18 < (pend17n : Int) →
      ∃ a23 : Addr, pend17a = some a23 ∧
      0 ≤ (t18 : Int) ∧ (t18 : Int) < (pend17n : Int) ∧
      ∃ x25 : Array Value, szB Try.prog 63 x25.size = true ∧ cellsAt ww21 (a23.add (Int.toNat t18 * 66)) x25.toList 0 ∧
      ∀ (ww26 : World) (q27 : Nat), Ext no ww21 ww26 → Blk ww26 q27 63 ([.int .i64 0] ++ List.replicate 64 (.int .u8 0) ++ [.bool false]) → ww21.heap.size ≤ q27 → q27 < ww26.heap.size →
      szB Try.prog 63 x25.size = true ∧
      storesK (blk q27) x25.toList 0 ww26 fun ww28 =>
      ∃ (i30 : Int), ww28.cell? ((blk q27).add 0) = some (.int .i64 i30) ∧
      (i30 = i2 →
        ∃ s33 : Array Value, szB Try.prog 61 s33.size = true ∧ cellsAt ww28 ((blk q27).add 1) s33.toList 0 ∧
        szB Try.prog 61 s33.size = true ∧
        storesK (blk q14) s33.toList 0 ww28 fun ww34 =>
        (-9223372036854775808 : Int) ≤ (t18 + 1) ∧ (t18 + 1) < 9223372036854775808 ∧
        ∃ m35, m35 < m20 ∧ I0 m35 [.int .i64 (t18 + 1)] ww34) ∧
      (i30 ≠ i2 →
        (-9223372036854775808 : Int) ≤ (t18 + 1) ∧ (t18 + 1) < 9223372036854775808 ∧
        ∃ m36, m36 < m20 ∧ I0 m36 [.int .i64 (t18 + 1)] ww28)) ∧
    ((pend17n : Int) ≤ t18 →
      ∃ (torn38 : Bool), ww21.cell? ((blk q14).add 64) = some (.bool torn38) ∧
      (torn38 = true →
        R (.tuple #[.slice none 0 0, .int .i64 5]) ww21) ∧
      (torn38 = false →
        R (.tuple #[.slice (some (if 64 = 0 then ((blk q14).add 0) else ((blk q14).add 0).add (0 * 1))) (64 - 0) (64 - 0), .int .i64 0]) ww21)))

theorem disk_Disk_Read.up (d1 : Option Addr) (i2 : Int) {R : Value → World → Prop} {w : World} (h : disk_Disk_Read.N d1 i2 R w) : disk_Disk_Read.M d1 i2 R w := by
  unfold disk_Disk_Read.M
  unfold disk_Disk_Read.N at h
  refine h.mono fun ee4 ww5 h => ?_
  obtain ⟨has3, he, h⟩ := h
  refine ⟨has3, he, ?_⟩
  refine bif_of (fun c6 => ?_) (fun c6 => ?_)
  · have h := h.1 (bne_t c6)
    exact h
  · have h := h.2 (bne_f c6)
    obtain ⟨a7, ha7, h⟩ := h
    refine elim_some ha7 ?_
    obtain ⟨good9a, good9n, good9c, hc8, h⟩ := h
    refine ⟨good9a, good9n, good9c, hc8, ?_⟩
    obtain ⟨a10, ha10, h⟩ := h
    refine elim_some ha10 ?_
    obtain ⟨hq1, hq2, h⟩ := h
    refine ⟨hq1, hq2, ?_⟩
    obtain ⟨x12, hz, hc11, h⟩ := h
    refine ⟨x12, hz, hc11, ?_⟩
    refine thenW_in fun ww13 e13 => ?_
    have h := h ww13 ww5.heap.size ((Ext.refl no ww5).x_alloc e13) (Blk.of_new e13) ((Ext.refl no ww5)).size (size_lt_alloc e13)
    obtain ⟨hsz, h⟩ := h
    refine bif_tt hsz ?_
    refine storesK_ext h fun ww15 X15 h => ?_
    refine elim_some ha7 ?_
    obtain ⟨pend17a, pend17n, pend17c, hc16, h⟩ := h
    refine ⟨pend17a, pend17n, pend17c, hc16, ?_⟩
    obtain ⟨I0, m19, h0, h⟩ := h
    refine ⟨I0, m19, h0, fun m20 ww21 t18 hI => ?_⟩
    have h := h m20 ww21 t18 hI
    refine bif_of (fun c22 => ?_) (fun c22 => ?_)
    · have h := h.1 (of_decide_eq_true c22)
      obtain ⟨a23, ha23, h⟩ := h
      refine elim_some ha23 ?_
      obtain ⟨hq1, hq2, h⟩ := h
      refine ⟨hq1, hq2, ?_⟩
      obtain ⟨x25, hz, hc24, h⟩ := h
      refine ⟨x25, hz, hc24, ?_⟩
      refine thenW_in fun ww26 e26 => ?_
      have h := h ww26 ww21.heap.size ((Ext.refl no ww21).x_alloc e26) (Blk.of_new e26) ((Ext.refl no ww21)).size (size_lt_alloc e26)
      obtain ⟨hsz, h⟩ := h
      refine bif_tt hsz ?_
      refine storesK_ext h fun ww28 X28 h => ?_
      obtain ⟨i30, hc29, h⟩ := h
      refine ⟨i30, hc29, ?_⟩
      refine bif_of (fun c31 => ?_) (fun c31 => ?_)
      · have h := h.1 (beq_t c31)
        obtain ⟨s33, hz, hc32, h⟩ := h
        refine ⟨s33, hz, hc32, ?_⟩
        obtain ⟨hsz, h⟩ := h
        refine bif_tt hsz ?_
        refine storesK_ext h fun ww34 X34 h => ?_
        obtain ⟨hw1, hw2, h⟩ := h
        try rw [w64 hw1 hw2]
        obtain ⟨m35, hk, h⟩ := h
        exact ⟨m35, hk, h⟩
      · have h := h.2 (beq_f c31)
        obtain ⟨hw1, hw2, h⟩ := h
        try rw [w64 hw1 hw2]
        obtain ⟨m36, hk, h⟩ := h
        exact ⟨m36, hk, h⟩
    · have h := h.2 (Int.not_lt.1 (of_decide_eq_false c22))
      obtain ⟨torn38, hc37, h⟩ := h
      refine ⟨torn38, hc37, ?_⟩
      refine bif_of (fun c39 => ?_) (fun c39 => ?_)
      · have h := h.1 c39
        exact h
      · have h := h.2 c39
        exact h

theorem disk_Disk_Read.go (d1 : Option Addr) (i2 : Int) {R : Value → World → Prop} {w : World} (h : disk_Disk_Read.N d1 i2 R w) : Calls Try.prog 16 #[.pointer d1, .int .i64 i2] w fun e w' => ∃ v, e = .returned v ∧ R v w' := disk_Disk_Read.ok d1 i2 (disk_Disk_Read.up d1 i2 h)
theorem disk_Disk_Read.run (d1 : Option Addr) (i2 : Int) {V : Value} {Q : World → Prop} {w : World} (h : disk_Disk_Read.N d1 i2 (fun v w' => v = V ∧ Q w') w) : Calls Try.prog 16 #[.pointer d1, .int .i64 i2] w (Ret V Q) := (disk_Disk_Read.go d1 i2 h).mono fun e w' ⟨v, he, hv, hq⟩ => ⟨by rw [he, hv], hq⟩

/-- (*disk.Disk).settle -/
def disk_Disk_settle.M (d1 : Option Addr) (keep2k : Nat) (keep2f : Array Value) (keep2g : Array Value) (R : Value → World → Prop) (w : World) : Prop :=
  d1.elim False fun a3 =>
  ∃ (pend4a : Option Addr) (pend4n : Nat) (pend4c : Nat), w.cell? (a3.add 1) = some (.slice pend4a pend4n pend4c) ∧
  ∃ (I0 : Nat → List Value → World → Prop) (m6 : Nat), I0 m6 [.int .i64 0] w ∧ ∀ (m7 : Nat) (ww8 : World) (t5 : Int), I0 m7 [.int .i64 t5] ww8 →
  bif decide (t5 < (pend4n : Int)) then (
  pend4a.elim False fun a9 =>
  0 ≤ (t5 : Int) ∧ (t5 : Int) < (pend4n : Int) ∧
  ∃ x10 : Array Value, szB Try.prog 63 x10.size = true ∧ cellsAt ww8 (a9.add (Int.toNat t5 * 66)) x10.toList 0 ∧
  thenW (ww8.alloc (.cells (List.toArray ([.int .i64 0] ++ List.replicate 64 (.int .u8 0) ++ [.bool false])) 63)) fun ww11 =>
  bif szB Try.prog 63 x10.size then storesK (blk ww8.heap.size) x10.toList 0 ww11 fun ww12 =>
  bif enters Try.prog keep2k then Calls Try.prog keep2k (keep2f.toList ++ ([.int .i64 t5] : List Value) ++ keep2g.toList).toArray ww12 (fun ee14 ww15 => ∃ (r13 : Bool), ee14 = .returned (.bool r13) ∧
  bif r13 then (
  thenW (ww15.drew) fun ww17 =>
  d1.elim False fun a18 =>
  ∃ (good19a : Option Addr) (good19n : Nat) (good19c : Nat), ww17.cell? (a18.add 0) = some (.slice good19a good19n good19c) ∧
  ∃ (i20 : Int), ww17.cell? ((blk ww8.heap.size).add 0) = some (.int .i64 i20) ∧
  ∃ s21 : Array Value, szB Try.prog 61 s21.size = true ∧ cellsAt ww17 ((blk ww8.heap.size).add 1) s21.toList 0 ∧
  good19a.elim False fun a22 =>
  0 ≤ (i20 : Int) ∧ (i20 : Int) < (good19n : Int) ∧
  bif szB Try.prog 61 s21.size then storesK (a22.add (Int.toNat i20 * 65)) s21.toList 0 ww17 fun ww23 =>
  ∃ m24, m24 < m7 ∧ I0 m24 [.int .i64 (IntKind.i64.wrap (t5 + 1))] ww23
  else False) else (
  ∃ m25, m25 < m7 ∧ I0 m25 [.int .i64 (IntKind.i64.wrap (t5 + 1))] ww15)) else (∃ (r13 : Bool) (ww16 : World), (externCall keep2k (keep2f.toList ++ ([.int .i64 t5] : List Value) ++ keep2g.toList).toArray).run Try.prog ww12 = .ok (.bool r13) ww16 ∧
  bif r13 then (
  thenW (ww16.drew) fun ww26 =>
  d1.elim False fun a27 =>
  ∃ (good28a : Option Addr) (good28n : Nat) (good28c : Nat), ww26.cell? (a27.add 0) = some (.slice good28a good28n good28c) ∧
  ∃ (i29 : Int), ww26.cell? ((blk ww8.heap.size).add 0) = some (.int .i64 i29) ∧
  ∃ s30 : Array Value, szB Try.prog 61 s30.size = true ∧ cellsAt ww26 ((blk ww8.heap.size).add 1) s30.toList 0 ∧
  good28a.elim False fun a31 =>
  0 ≤ (i29 : Int) ∧ (i29 : Int) < (good28n : Int) ∧
  bif szB Try.prog 61 s30.size then storesK (a31.add (Int.toNat i29 * 65)) s30.toList 0 ww26 fun ww32 =>
  ∃ m33, m33 < m7 ∧ I0 m33 [.int .i64 (IntKind.i64.wrap (t5 + 1))] ww32
  else False) else (
  ∃ m34, m34 < m7 ∧ I0 m34 [.int .i64 (IntKind.i64.wrap (t5 + 1))] ww16))
  else False) else (
  d1.elim False fun a35 =>
  canStore ww8 ((a35.add 1).add 0) ∧
  thenW (ww8.setCell ((a35.add 1).add 0) (.slice none 0 0)) fun ww36 =>
  R (.tuple #[]) ww36)

theorem disk_Disk_settle.eq (d1 : Option Addr) (keep2k : Nat) (keep2f : Array Value) (keep2g : Array Value) (R : Value → World → Prop) (w : World) : mfunc Try.prog [(0, [0, 1, 9, 10], [(11, (.one (.int .i64)))])] 27 [.pointer d1, .func (.func keep2k) keep2f keep2g] R w = disk_Disk_settle.M d1 keep2k keep2f keep2g R w := by kernel_rfl
theorem disk_Disk_settle.ok (d1 : Option Addr) (keep2k : Nat) (keep2f : Array Value) (keep2g : Array Value) {R : Value → World → Prop} {w : World} (h : disk_Disk_settle.M d1 keep2k keep2f keep2g R w) : Calls Try.prog 27 #[.pointer d1, .func (.func keep2k) keep2f keep2g] w fun e w' => ∃ v, e = .returned v ∧ R v w' :=
  mfunc_ok follows (H := [(0, [0, 1, 9, 10], [(11, (.one (.int .i64)))])]) (args := [.pointer d1, .func (.func keep2k) keep2f keep2g]) (by rw [disk_Disk_settle.eq]; exact h)

def disk_Disk_settle.N (d1 : Option Addr) (keep2k : Nat) (keep2f : Array Value) (keep2g : Array Value) (R : Value → World → Prop) (w : World) : Prop :=
  ∃ a3 : Addr, d1 = some a3 ∧
  ∃ (pend5a : Option Addr) (pend5n : Nat) (pend5c : Nat), w.cell? (a3.add 1) = some (.slice pend5a pend5n pend5c) ∧
  ∃ (I0 : Nat → List Value → World → Prop) (m7 : Nat), I0 m7 [.int .i64 0] w ∧ ∀ (m8 : Nat) (ww9 : World) (t6 : Int), I0 m8 [.int .i64 t6] ww9 →
  (t6 < (pend5n : Int) →
    ∃ a11 : Addr, pend5a = some a11 ∧
    0 ≤ (t6 : Int) ∧ (t6 : Int) < (pend5n : Int) ∧
    ∃ x13 : Array Value, szB Try.prog 63 x13.size = true ∧ cellsAt ww9 (a11.add (Int.toNat t6 * 66)) x13.toList 0 ∧
    ∀ (ww14 : World) (q15 : Nat), Ext no ww9 ww14 → Blk ww14 q15 63 ([.int .i64 0] ++ List.replicate 64 (.int .u8 0) ++ [.bool false]) → ww9.heap.size ≤ q15 → q15 < ww14.heap.size →
    szB Try.prog 63 x13.size = true ∧
    storesK (blk q15) x13.toList 0 ww14 fun ww16 =>
    enters Try.prog keep2k = true ∧ Calls Try.prog keep2k (keep2f.toList ++ ([.int .i64 t6] : List Value) ++ keep2g.toList).toArray ww16 (fun ee18 ww19 => ∃ (r17 : Bool), ee18 = .returned (.bool r17) ∧
    (r17 = true →
      ∃ (good23a : Option Addr) (good23n : Nat) (good23c : Nat), ww19.cell? (a3.add 0) = some (.slice good23a good23n good23c) ∧
      ∃ (i25 : Int), ww19.cell? ((blk q15).add 0) = some (.int .i64 i25) ∧
      ∃ s27 : Array Value, szB Try.prog 61 s27.size = true ∧ cellsAt ww19 ((blk q15).add 1) s27.toList 0 ∧
      ∃ a28 : Addr, good23a = some a28 ∧
      0 ≤ (i25 : Int) ∧ (i25 : Int) < (good23n : Int) ∧
      ∀ (ww21 : World), Ext no ww19 ww21 →
      szB Try.prog 61 s27.size = true ∧
      storesK (a28.add (Int.toNat i25 * 65)) s27.toList 0 ww21 fun ww29 =>
      (-9223372036854775808 : Int) ≤ (t6 + 1) ∧ (t6 + 1) < 9223372036854775808 ∧
      ∃ m30, m30 < m8 ∧ I0 m30 [.int .i64 (t6 + 1)] ww29) ∧
    (r17 = false →
      (-9223372036854775808 : Int) ≤ (t6 + 1) ∧ (t6 + 1) < 9223372036854775808 ∧
      ∃ m31, m31 < m8 ∧ I0 m31 [.int .i64 (t6 + 1)] ww19))) ∧
  ((pend5n : Int) ≤ t6 →
    canStore ww9 ((a3.add 1).add 0) ∧
    thenW (ww9.setCell ((a3.add 1).add 0) (.slice none 0 0)) fun ww32 =>
    R (.tuple #[]) ww32)

theorem disk_Disk_settle.up (d1 : Option Addr) (keep2k : Nat) (keep2f : Array Value) (keep2g : Array Value) {R : Value → World → Prop} {w : World} (h : disk_Disk_settle.N d1 keep2k keep2f keep2g R w) : disk_Disk_settle.M d1 keep2k keep2f keep2g R w := by
  unfold disk_Disk_settle.M
  unfold disk_Disk_settle.N at h
  obtain ⟨a3, ha3, h⟩ := h
  refine elim_some ha3 ?_
  obtain ⟨pend5a, pend5n, pend5c, hc4, h⟩ := h
  refine ⟨pend5a, pend5n, pend5c, hc4, ?_⟩
  obtain ⟨I0, m7, h0, h⟩ := h
  refine ⟨I0, m7, h0, fun m8 ww9 t6 hI => ?_⟩
  have h := h m8 ww9 t6 hI
  refine bif_of (fun c10 => ?_) (fun c10 => ?_)
  · have h := h.1 (of_decide_eq_true c10)
    obtain ⟨a11, ha11, h⟩ := h
    refine elim_some ha11 ?_
    obtain ⟨hq1, hq2, h⟩ := h
    refine ⟨hq1, hq2, ?_⟩
    obtain ⟨x13, hz, hc12, h⟩ := h
    refine ⟨x13, hz, hc12, ?_⟩
    refine thenW_in fun ww14 e14 => ?_
    have h := h ww14 ww9.heap.size ((Ext.refl no ww9).x_alloc e14) (Blk.of_new e14) ((Ext.refl no ww9)).size (size_lt_alloc e14)
    obtain ⟨hsz, h⟩ := h
    refine bif_tt hsz ?_
    refine storesK_ext h fun ww16 X16 h => ?_
    obtain ⟨hen, h⟩ := h
    refine bif_tt hen ?_
    refine h.mono fun ee18 ww19 h => ?_
    obtain ⟨r17, he, h⟩ := h
    refine ⟨r17, he, ?_⟩
    refine bif_of (fun c20 => ?_) (fun c20 => ?_)
    · have h := h.1 c20
      refine thenW_in fun ww21 e21 => ?_
      have hx21 := (Ext.refl no ww19).x_drew e21
      refine elim_some ha3 ?_
      obtain ⟨good23a, good23n, good23c, hc22, h⟩ := h
      refine ⟨good23a, good23n, good23c, (hx21).cell hc22 id, ?_⟩
      obtain ⟨i25, hc24, h⟩ := h
      refine ⟨i25, (hx21).cell hc24 id, ?_⟩
      obtain ⟨s27, hz, hc26, h⟩ := h
      refine ⟨s27, hz, cellsAt_no (hx21) hc26, ?_⟩
      obtain ⟨a28, ha28, h⟩ := h
      refine elim_some ha28 ?_
      obtain ⟨hq1, hq2, h⟩ := h
      refine ⟨hq1, hq2, ?_⟩
      have h := h ww21 hx21
      obtain ⟨hsz, h⟩ := h
      refine bif_tt hsz ?_
      refine storesK_ext h fun ww29 X29 h => ?_
      obtain ⟨hw1, hw2, h⟩ := h
      try rw [w64 hw1 hw2]
      obtain ⟨m30, hk, h⟩ := h
      exact ⟨m30, hk, h⟩
    · have h := h.2 c20
      obtain ⟨hw1, hw2, h⟩ := h
      try rw [w64 hw1 hw2]
      obtain ⟨m31, hk, h⟩ := h
      exact ⟨m31, hk, h⟩
  · have h := h.2 (Int.not_lt.1 (of_decide_eq_false c10))
    refine elim_some ha3 ?_
    obtain ⟨hcs, h⟩ := h
    refine ⟨hcs, thenW_in fun ww32 e32 => ?_⟩
    replace h := thenW_out h e32
    exact h

theorem disk_Disk_settle.go (d1 : Option Addr) (keep2k : Nat) (keep2f : Array Value) (keep2g : Array Value) {R : Value → World → Prop} {w : World} (h : disk_Disk_settle.N d1 keep2k keep2f keep2g R w) : Calls Try.prog 27 #[.pointer d1, .func (.func keep2k) keep2f keep2g] w fun e w' => ∃ v, e = .returned v ∧ R v w' := disk_Disk_settle.ok d1 keep2k keep2f keep2g (disk_Disk_settle.up d1 keep2k keep2f keep2g h)
theorem disk_Disk_settle.run (d1 : Option Addr) (keep2k : Nat) (keep2f : Array Value) (keep2g : Array Value) {V : Value} {Q : World → Prop} {w : World} (h : disk_Disk_settle.N d1 keep2k keep2f keep2g (fun v w' => v = V ∧ Q w') w) : Calls Try.prog 27 #[.pointer d1, .func (.func keep2k) keep2f keep2g] w (Ret V Q) := (disk_Disk_settle.go d1 keep2k keep2f keep2g h).mono fun e w' ⟨v, he, hv, hq⟩ => ⟨by rw [he, hv], hq⟩

/-- (*disk.Disk).Write -/
def disk_Disk_Write.M (d1 : Option Addr) (i2 : Int) (b3a : Option Addr) (b3n : Nat) (b3c : Nat) (R : Value → World → Prop) (w : World) : Prop :=
  Calls Try.prog 25 #[.pointer d1, .int .i64 i2] w fun ee5 ww6 => ∃ (has4 : Int), ee5 = .returned (.int .i64 has4) ∧
  bif has4 != 0 then (
  R (.int .i64 has4) ww6) else (
  bif (b3n : Int) != 64 then (
  R (.int .i64 1) ww6) else (
  thenW (ww6.alloc (.cells (List.toArray ([.int .i64 0] ++ List.replicate 64 (.int .u8 0) ++ [.bool false])) 63)) fun ww7 =>
  canStore ww7 ((blk ww6.heap.size).add 0) ∧
  thenW (ww7.setCell ((blk ww6.heap.size).add 0) (.int .i64 i2)) fun ww8 =>
  canStore ww8 ((blk ww6.heap.size).add 1) ∧
  thenW (ww8.setCell ((blk ww6.heap.size).add 1) (.int .u8 0)) fun ww9 =>
  canStore ww9 ((blk ww6.heap.size).add 2) ∧
  thenW (ww9.setCell ((blk ww6.heap.size).add 2) (.int .u8 0)) fun ww10 =>
  canStore ww10 ((blk ww6.heap.size).add 3) ∧
  thenW (ww10.setCell ((blk ww6.heap.size).add 3) (.int .u8 0)) fun ww11 =>
  canStore ww11 ((blk ww6.heap.size).add 4) ∧
  thenW (ww11.setCell ((blk ww6.heap.size).add 4) (.int .u8 0)) fun ww12 =>
  canStore ww12 ((blk ww6.heap.size).add 5) ∧
  thenW (ww12.setCell ((blk ww6.heap.size).add 5) (.int .u8 0)) fun ww13 =>
  canStore ww13 ((blk ww6.heap.size).add 6) ∧
  thenW (ww13.setCell ((blk ww6.heap.size).add 6) (.int .u8 0)) fun ww14 =>
  canStore ww14 ((blk ww6.heap.size).add 7) ∧
  thenW (ww14.setCell ((blk ww6.heap.size).add 7) (.int .u8 0)) fun ww15 =>
  canStore ww15 ((blk ww6.heap.size).add 8) ∧
  thenW (ww15.setCell ((blk ww6.heap.size).add 8) (.int .u8 0)) fun ww16 =>
  canStore ww16 ((blk ww6.heap.size).add 9) ∧
  thenW (ww16.setCell ((blk ww6.heap.size).add 9) (.int .u8 0)) fun ww17 =>
  canStore ww17 ((blk ww6.heap.size).add 10) ∧
  thenW (ww17.setCell ((blk ww6.heap.size).add 10) (.int .u8 0)) fun ww18 =>
  canStore ww18 ((blk ww6.heap.size).add 11) ∧
  thenW (ww18.setCell ((blk ww6.heap.size).add 11) (.int .u8 0)) fun ww19 =>
  canStore ww19 ((blk ww6.heap.size).add 12) ∧
  thenW (ww19.setCell ((blk ww6.heap.size).add 12) (.int .u8 0)) fun ww20 =>
  canStore ww20 ((blk ww6.heap.size).add 13) ∧
  thenW (ww20.setCell ((blk ww6.heap.size).add 13) (.int .u8 0)) fun ww21 =>
  canStore ww21 ((blk ww6.heap.size).add 14) ∧
  thenW (ww21.setCell ((blk ww6.heap.size).add 14) (.int .u8 0)) fun ww22 =>
  canStore ww22 ((blk ww6.heap.size).add 15) ∧
  thenW (ww22.setCell ((blk ww6.heap.size).add 15) (.int .u8 0)) fun ww23 =>
  canStore ww23 ((blk ww6.heap.size).add 16) ∧
  thenW (ww23.setCell ((blk ww6.heap.size).add 16) (.int .u8 0)) fun ww24 =>
  canStore ww24 ((blk ww6.heap.size).add 17) ∧
  thenW (ww24.setCell ((blk ww6.heap.size).add 17) (.int .u8 0)) fun ww25 =>
  canStore ww25 ((blk ww6.heap.size).add 18) ∧
  thenW (ww25.setCell ((blk ww6.heap.size).add 18) (.int .u8 0)) fun ww26 =>
  canStore ww26 ((blk ww6.heap.size).add 19) ∧
  thenW (ww26.setCell ((blk ww6.heap.size).add 19) (.int .u8 0)) fun ww27 =>
  canStore ww27 ((blk ww6.heap.size).add 20) ∧
  thenW (ww27.setCell ((blk ww6.heap.size).add 20) (.int .u8 0)) fun ww28 =>
  canStore ww28 ((blk ww6.heap.size).add 21) ∧
  thenW (ww28.setCell ((blk ww6.heap.size).add 21) (.int .u8 0)) fun ww29 =>
  canStore ww29 ((blk ww6.heap.size).add 22) ∧
  thenW (ww29.setCell ((blk ww6.heap.size).add 22) (.int .u8 0)) fun ww30 =>
  canStore ww30 ((blk ww6.heap.size).add 23) ∧
  thenW (ww30.setCell ((blk ww6.heap.size).add 23) (.int .u8 0)) fun ww31 =>
  canStore ww31 ((blk ww6.heap.size).add 24) ∧
  thenW (ww31.setCell ((blk ww6.heap.size).add 24) (.int .u8 0)) fun ww32 =>
  canStore ww32 ((blk ww6.heap.size).add 25) ∧
  thenW (ww32.setCell ((blk ww6.heap.size).add 25) (.int .u8 0)) fun ww33 =>
  canStore ww33 ((blk ww6.heap.size).add 26) ∧
  thenW (ww33.setCell ((blk ww6.heap.size).add 26) (.int .u8 0)) fun ww34 =>
  canStore ww34 ((blk ww6.heap.size).add 27) ∧
  thenW (ww34.setCell ((blk ww6.heap.size).add 27) (.int .u8 0)) fun ww35 =>
  canStore ww35 ((blk ww6.heap.size).add 28) ∧
  thenW (ww35.setCell ((blk ww6.heap.size).add 28) (.int .u8 0)) fun ww36 =>
  canStore ww36 ((blk ww6.heap.size).add 29) ∧
  thenW (ww36.setCell ((blk ww6.heap.size).add 29) (.int .u8 0)) fun ww37 =>
  canStore ww37 ((blk ww6.heap.size).add 30) ∧
  thenW (ww37.setCell ((blk ww6.heap.size).add 30) (.int .u8 0)) fun ww38 =>
  canStore ww38 ((blk ww6.heap.size).add 31) ∧
  thenW (ww38.setCell ((blk ww6.heap.size).add 31) (.int .u8 0)) fun ww39 =>
  canStore ww39 ((blk ww6.heap.size).add 32) ∧
  thenW (ww39.setCell ((blk ww6.heap.size).add 32) (.int .u8 0)) fun ww40 =>
  canStore ww40 ((blk ww6.heap.size).add 33) ∧
  thenW (ww40.setCell ((blk ww6.heap.size).add 33) (.int .u8 0)) fun ww41 =>
  canStore ww41 ((blk ww6.heap.size).add 34) ∧
  thenW (ww41.setCell ((blk ww6.heap.size).add 34) (.int .u8 0)) fun ww42 =>
  canStore ww42 ((blk ww6.heap.size).add 35) ∧
  thenW (ww42.setCell ((blk ww6.heap.size).add 35) (.int .u8 0)) fun ww43 =>
  canStore ww43 ((blk ww6.heap.size).add 36) ∧
  thenW (ww43.setCell ((blk ww6.heap.size).add 36) (.int .u8 0)) fun ww44 =>
  canStore ww44 ((blk ww6.heap.size).add 37) ∧
  thenW (ww44.setCell ((blk ww6.heap.size).add 37) (.int .u8 0)) fun ww45 =>
  canStore ww45 ((blk ww6.heap.size).add 38) ∧
  thenW (ww45.setCell ((blk ww6.heap.size).add 38) (.int .u8 0)) fun ww46 =>
  canStore ww46 ((blk ww6.heap.size).add 39) ∧
  thenW (ww46.setCell ((blk ww6.heap.size).add 39) (.int .u8 0)) fun ww47 =>
  canStore ww47 ((blk ww6.heap.size).add 40) ∧
  thenW (ww47.setCell ((blk ww6.heap.size).add 40) (.int .u8 0)) fun ww48 =>
  canStore ww48 ((blk ww6.heap.size).add 41) ∧
  thenW (ww48.setCell ((blk ww6.heap.size).add 41) (.int .u8 0)) fun ww49 =>
  canStore ww49 ((blk ww6.heap.size).add 42) ∧
  thenW (ww49.setCell ((blk ww6.heap.size).add 42) (.int .u8 0)) fun ww50 =>
  canStore ww50 ((blk ww6.heap.size).add 43) ∧
  thenW (ww50.setCell ((blk ww6.heap.size).add 43) (.int .u8 0)) fun ww51 =>
  canStore ww51 ((blk ww6.heap.size).add 44) ∧
  thenW (ww51.setCell ((blk ww6.heap.size).add 44) (.int .u8 0)) fun ww52 =>
  canStore ww52 ((blk ww6.heap.size).add 45) ∧
  thenW (ww52.setCell ((blk ww6.heap.size).add 45) (.int .u8 0)) fun ww53 =>
  canStore ww53 ((blk ww6.heap.size).add 46) ∧
  thenW (ww53.setCell ((blk ww6.heap.size).add 46) (.int .u8 0)) fun ww54 =>
  canStore ww54 ((blk ww6.heap.size).add 47) ∧
  thenW (ww54.setCell ((blk ww6.heap.size).add 47) (.int .u8 0)) fun ww55 =>
  canStore ww55 ((blk ww6.heap.size).add 48) ∧
  thenW (ww55.setCell ((blk ww6.heap.size).add 48) (.int .u8 0)) fun ww56 =>
  canStore ww56 ((blk ww6.heap.size).add 49) ∧
  thenW (ww56.setCell ((blk ww6.heap.size).add 49) (.int .u8 0)) fun ww57 =>
  canStore ww57 ((blk ww6.heap.size).add 50) ∧
  thenW (ww57.setCell ((blk ww6.heap.size).add 50) (.int .u8 0)) fun ww58 =>
  canStore ww58 ((blk ww6.heap.size).add 51) ∧
  thenW (ww58.setCell ((blk ww6.heap.size).add 51) (.int .u8 0)) fun ww59 =>
  canStore ww59 ((blk ww6.heap.size).add 52) ∧
  thenW (ww59.setCell ((blk ww6.heap.size).add 52) (.int .u8 0)) fun ww60 =>
  canStore ww60 ((blk ww6.heap.size).add 53) ∧
  thenW (ww60.setCell ((blk ww6.heap.size).add 53) (.int .u8 0)) fun ww61 =>
  canStore ww61 ((blk ww6.heap.size).add 54) ∧
  thenW (ww61.setCell ((blk ww6.heap.size).add 54) (.int .u8 0)) fun ww62 =>
  canStore ww62 ((blk ww6.heap.size).add 55) ∧
  thenW (ww62.setCell ((blk ww6.heap.size).add 55) (.int .u8 0)) fun ww63 =>
  canStore ww63 ((blk ww6.heap.size).add 56) ∧
  thenW (ww63.setCell ((blk ww6.heap.size).add 56) (.int .u8 0)) fun ww64 =>
  canStore ww64 ((blk ww6.heap.size).add 57) ∧
  thenW (ww64.setCell ((blk ww6.heap.size).add 57) (.int .u8 0)) fun ww65 =>
  canStore ww65 ((blk ww6.heap.size).add 58) ∧
  thenW (ww65.setCell ((blk ww6.heap.size).add 58) (.int .u8 0)) fun ww66 =>
  canStore ww66 ((blk ww6.heap.size).add 59) ∧
  thenW (ww66.setCell ((blk ww6.heap.size).add 59) (.int .u8 0)) fun ww67 =>
  canStore ww67 ((blk ww6.heap.size).add 60) ∧
  thenW (ww67.setCell ((blk ww6.heap.size).add 60) (.int .u8 0)) fun ww68 =>
  canStore ww68 ((blk ww6.heap.size).add 61) ∧
  thenW (ww68.setCell ((blk ww6.heap.size).add 61) (.int .u8 0)) fun ww69 =>
  canStore ww69 ((blk ww6.heap.size).add 62) ∧
  thenW (ww69.setCell ((blk ww6.heap.size).add 62) (.int .u8 0)) fun ww70 =>
  canStore ww70 ((blk ww6.heap.size).add 63) ∧
  thenW (ww70.setCell ((blk ww6.heap.size).add 63) (.int .u8 0)) fun ww71 =>
  canStore ww71 ((blk ww6.heap.size).add 64) ∧
  thenW (ww71.setCell ((blk ww6.heap.size).add 64) (.int .u8 0)) fun ww72 =>
  canStore ww72 ((blk ww6.heap.size).add 65) ∧
  thenW (ww72.setCell ((blk ww6.heap.size).add 65) (.bool false)) fun ww73 =>
  ∃ (c74 : Int) (ww75 : World), (Builtin.copy_ #[33, 33] 3 #[.slice (some (if 64 = 0 then (((blk ww6.heap.size).add 1).add 0) else (((blk ww6.heap.size).add 1).add 0).add (0 * 1))) (64 - 0) (64 - 0), .slice b3a b3n b3c]).run Try.prog ww73 = .ok (.int .i64 c74) ww75 ∧
  thenW (ww75.drew) fun ww76 =>
  d1.elim False fun a77 =>
  ∃ (pend78a : Option Addr) (pend78n : Nat) (pend78c : Nat), ww76.cell? (a77.add 1) = some (.slice pend78a pend78n pend78c) ∧
  ∃ x79 : Array Value, szB Try.prog 63 x79.size = true ∧ cellsAt ww76 (blk ww6.heap.size) x79.toList 0 ∧
  mslit Try.prog 55 1 [(0, Value.agg x79)] ww76 fun (big80 : Value) (ww81 : World) =>
  ww81.cell? (a77.add 1) = some (.slice pend78a pend78n pend78c) ∧
  ∃ (a82a : Option Addr) (a82n : Nat) (a82c : Nat) (ww83 : World), (Builtin.append_ #[55, 55] 55 #[.slice pend78a pend78n pend78c, big80]).run Try.prog ww81 = .ok (.slice a82a a82n a82c) ww83 ∧
  d1.elim False fun a84 =>
  canStore ww83 ((a84.add 1).add 0) ∧
  thenW (ww83.setCell ((a84.add 1).add 0) (.slice a82a a82n a82c)) fun ww85 =>
  d1.elim False fun a86 =>
  ∃ (armed87 : Bool), ww85.cell? (a86.add 3) = some (.bool armed87) ∧
  bif armed87 then (
  d1.elim False fun a88 =>
  ∃ (left89 : Int), ww85.cell? (a88.add 2) = some (.int .i64 left89) ∧
  bif left89 == 0 then (
  d1.elim False fun a90 =>
  canStore ww85 ((a90.add 4).add 0) ∧
  thenW (ww85.setCell ((a90.add 4).add 0) (.int .i64 1)) fun ww91 =>
  thenW (ww91.drew) fun ww92 =>
  d1.elim False fun a93 =>
  ∃ (pend94a : Option Addr) (pend94n : Nat) (pend94c : Nat), ww92.cell? (a93.add 1) = some (.slice pend94a pend94n pend94c) ∧
  d1.elim False fun a95 =>
  ∃ (pend96a : Option Addr) (pend96n : Nat) (pend96c : Nat), ww92.cell? (a95.add 1) = some (.slice pend96a pend96n pend96c) ∧
  pend94a.elim False fun a97 =>
  0 ≤ ((IntKind.i64.wrap ((pend96n : Int) - 1)) : Int) ∧ ((IntKind.i64.wrap ((pend96n : Int) - 1)) : Int) < (pend94n : Int) ∧
  canStore ww92 ((((a97.add (Int.toNat (IntKind.i64.wrap ((pend96n : Int) - 1)) * 66)).add 1).add 64).add 0) ∧
  thenW (ww92.setCell ((((a97.add (Int.toNat (IntKind.i64.wrap ((pend96n : Int) - 1)) * 66)).add 1).add 64).add 0) (.bool true)) fun ww98 =>
  R (.int .i64 19) ww98) else (
  d1.elim False fun a99 =>
  ∃ (left100 : Int), ww85.cell? (a99.add 2) = some (.int .i64 left100) ∧
  d1.elim False fun a101 =>
  canStore ww85 ((a101.add 2).add 0) ∧
  thenW (ww85.setCell ((a101.add 2).add 0) (.int .i64 (IntKind.i64.wrap (left100 - 1)))) fun ww102 =>
  d1.elim False fun a103 =>
  ∃ (count104 : Int), ww102.cell? (a103.add 5) = some (.int .i64 count104) ∧
  d1.elim False fun a105 =>
  canStore ww102 ((a105.add 5).add 0) ∧
  thenW (ww102.setCell ((a105.add 5).add 0) (.int .i64 (IntKind.i64.wrap (count104 + 1)))) fun ww106 =>
  R (.int .i64 0) ww106)) else (
  d1.elim False fun a107 =>
  ∃ (count108 : Int), ww85.cell? (a107.add 5) = some (.int .i64 count108) ∧
  d1.elim False fun a109 =>
  canStore ww85 ((a109.add 5).add 0) ∧
  thenW (ww85.setCell ((a109.add 5).add 0) (.int .i64 (IntKind.i64.wrap (count108 + 1)))) fun ww110 =>
  R (.int .i64 0) ww110)))

theorem disk_Disk_Write.eq (d1 : Option Addr) (i2 : Int) (b3a : Option Addr) (b3n : Nat) (b3c : Nat) (R : Value → World → Prop) (w : World) : mfunc Try.prog [] 10 [.pointer d1, .int .i64 i2, .slice b3a b3n b3c] R w = disk_Disk_Write.M d1 i2 b3a b3n b3c R w := by kernel_rfl
theorem disk_Disk_Write.ok (d1 : Option Addr) (i2 : Int) (b3a : Option Addr) (b3n : Nat) (b3c : Nat) {R : Value → World → Prop} {w : World} (h : disk_Disk_Write.M d1 i2 b3a b3n b3c R w) : Calls Try.prog 10 #[.pointer d1, .int .i64 i2, .slice b3a b3n b3c] w fun e w' => ∃ v, e = .returned v ∧ R v w' :=
  mfunc_ok follows (H := []) (args := [.pointer d1, .int .i64 i2, .slice b3a b3n b3c]) (by rw [disk_Disk_Write.eq]; exact h)

def disk_Disk_Write.N (d1 : Option Addr) (i2 : Int) (b3a : Option Addr) (b3n : Nat) (b3c : Nat) (R : Value → World → Prop) (w : World) : Prop :=
  Calls Try.prog 25 #[.pointer d1, .int .i64 i2] w fun ee5 ww6 => ∃ (has4 : Int), ee5 = .returned (.int .i64 has4) ∧
  (has4 ≠ 0 →
    R (.int .i64 has4) ww6) ∧
  (has4 = 0 →
    ((b3n : Int) ≠ 64 →
      R (.int .i64 1) ww6) ∧
    ((b3n : Int) = 64 →
      ∀ (ww9 : World) (q10 : Nat), Ext no ww6 ww9 → Blk ww9 q10 63 ([.int .i64 0] ++ List.replicate 64 (.int .u8 0) ++ [.bool false]) → ww6.heap.size ≤ q10 → q10 < ww9.heap.size →
      putsK ww9 (blk q10) ([.int .i64 i2] ++ List.replicate 64 (.int .u8 0) ++ [.bool false]) 0 fun ww76 =>
      ∃ (c77 : Int) (ww78 : World), (Builtin.copy_ #[33, 33] 3 #[.slice (some (if 64 = 0 then (((blk q10).add 1).add 0) else (((blk q10).add 1).add 0).add (0 * 1))) (64 - 0) (64 - 0), .slice b3a b3n b3c]).run Try.prog ww76 = .ok (.int .i64 c77) ww78 ∧
      ∃ a80 : Addr, d1 = some a80 ∧
      ∃ (pend82a : Option Addr) (pend82n : Nat) (pend82c : Nat), ww78.cell? (a80.add 1) = some (.slice pend82a pend82n pend82c) ∧
      ∃ x84 : Array Value, szB Try.prog 63 x84.size = true ∧ cellsAt ww78 (blk q10) x84.toList 0 ∧
      szB Try.prog 63 x84.size = true ∧
      ∀ (ww85 : World) (q86 : Nat), Ext no ww78 ww85 → Blk ww85 q86 63 x84.toList → ww78.heap.size ≤ q86 → q86 < ww85.heap.size →
      ww85.cell? (a80.add 1) = some (.slice pend82a pend82n pend82c) ∧
      ∃ (a88a : Option Addr) (a88n : Nat) (a88c : Nat) (ww89 : World), (Builtin.append_ #[55, 55] 55 #[.slice pend82a pend82n pend82c, .slice (some (blk q86)) 1 1]).run Try.prog ww85 = .ok (.slice a88a a88n a88c) ww89 ∧
      canStore ww89 ((a80.add 1).add 0) ∧
      thenW (ww89.setCell ((a80.add 1).add 0) (.slice a88a a88n a88c)) fun ww90 =>
      ∃ (armed92 : Bool), ww90.cell? (a80.add 3) = some (.bool armed92) ∧
      (armed92 = true →
        ∃ (left95 : Int), ww90.cell? (a80.add 2) = some (.int .i64 left95) ∧
        (left95 = 0 →
          canStore ww90 ((a80.add 4).add 0) ∧
          thenW (ww90.setCell ((a80.add 4).add 0) (.int .i64 1)) fun ww97 =>
          ∃ (pend100a : Option Addr) (pend100n : Nat) (pend100c : Nat), ww97.cell? (a80.add 1) = some (.slice pend100a pend100n pend100c) ∧
          ∃ (pend102a : Option Addr) (pend102n : Nat) (pend102c : Nat), ww97.cell? (a80.add 1) = some (.slice pend102a pend102n pend102c) ∧
          (-9223372036854775808 : Int) ≤ ((pend102n : Int) - 1) ∧ ((pend102n : Int) - 1) < 9223372036854775808 ∧
          ∃ a103 : Addr, pend100a = some a103 ∧
          0 ≤ (((pend102n : Int) - 1) : Int) ∧ (((pend102n : Int) - 1) : Int) < (pend100n : Int) ∧
          ∀ (ww98 : World), Ext no ww97 ww98 →
          canStore ww98 ((((a103.add (Int.toNat ((pend102n : Int) - 1) * 66)).add 1).add 64).add 0) ∧
          thenW (ww98.setCell ((((a103.add (Int.toNat ((pend102n : Int) - 1) * 66)).add 1).add 64).add 0) (.bool true)) fun ww104 =>
          R (.int .i64 19) ww104) ∧
        (left95 ≠ 0 →
          ∃ (left106 : Int), ww90.cell? (a80.add 2) = some (.int .i64 left106) ∧
          (-9223372036854775808 : Int) ≤ (left106 - 1) ∧ (left106 - 1) < 9223372036854775808 ∧
          canStore ww90 ((a80.add 2).add 0) ∧
          thenW (ww90.setCell ((a80.add 2).add 0) (.int .i64 (left106 - 1))) fun ww107 =>
          ∃ (count109 : Int), ww107.cell? (a80.add 5) = some (.int .i64 count109) ∧
          (-9223372036854775808 : Int) ≤ (count109 + 1) ∧ (count109 + 1) < 9223372036854775808 ∧
          canStore ww107 ((a80.add 5).add 0) ∧
          thenW (ww107.setCell ((a80.add 5).add 0) (.int .i64 (count109 + 1))) fun ww110 =>
          R (.int .i64 0) ww110)) ∧
      (armed92 = false →
        ∃ (count112 : Int), ww90.cell? (a80.add 5) = some (.int .i64 count112) ∧
        (-9223372036854775808 : Int) ≤ (count112 + 1) ∧ (count112 + 1) < 9223372036854775808 ∧
        canStore ww90 ((a80.add 5).add 0) ∧
        thenW (ww90.setCell ((a80.add 5).add 0) (.int .i64 (count112 + 1))) fun ww113 =>
        R (.int .i64 0) ww113)))

theorem disk_Disk_Write.up (d1 : Option Addr) (i2 : Int) (b3a : Option Addr) (b3n : Nat) (b3c : Nat) {R : Value → World → Prop} {w : World} (h : disk_Disk_Write.N d1 i2 b3a b3n b3c R w) : disk_Disk_Write.M d1 i2 b3a b3n b3c R w := by
  unfold disk_Disk_Write.M
  unfold disk_Disk_Write.N at h
  refine h.mono fun ee5 ww6 h => ?_
  obtain ⟨has4, he, h⟩ := h
  refine ⟨has4, he, ?_⟩
  refine bif_of (fun c7 => ?_) (fun c7 => ?_)
  · have h := h.1 (bne_t c7)
    exact h
  · have h := h.2 (bne_f c7)
    refine bif_of (fun c8 => ?_) (fun c8 => ?_)
    · have h := h.1 (bne_t c8)
      exact h
    · have h := h.2 (bne_f c8)
      refine thenW_in fun ww9 e9 => ?_
      have h := h ww9 ww6.heap.size ((Ext.refl no ww6).x_alloc e9) (Blk.of_new e9) ((Ext.refl no ww6)).size (size_lt_alloc e9)
      try rw [show (([.int .i64 i2] ++ List.replicate 64 (.int .u8 0) ++ [.bool false])) = [.int .i64 i2, .int .u8 0, .int .u8 0, .int .u8 0, .int .u8 0, .int .u8 0, .int .u8 0, .int .u8 0, .int .u8 0, .int .u8 0, .int .u8 0, .int .u8 0, .int .u8 0, .int .u8 0, .int .u8 0, .int .u8 0, .int .u8 0, .int .u8 0, .int .u8 0, .int .u8 0, .int .u8 0, .int .u8 0, .int .u8 0, .int .u8 0, .int .u8 0, .int .u8 0, .int .u8 0, .int .u8 0, .int .u8 0, .int .u8 0, .int .u8 0, .int .u8 0, .int .u8 0, .int .u8 0, .int .u8 0, .int .u8 0, .int .u8 0, .int .u8 0, .int .u8 0, .int .u8 0, .int .u8 0, .int .u8 0, .int .u8 0, .int .u8 0, .int .u8 0, .int .u8 0, .int .u8 0, .int .u8 0, .int .u8 0, .int .u8 0, .int .u8 0, .int .u8 0, .int .u8 0, .int .u8 0, .int .u8 0, .int .u8 0, .int .u8 0, .int .u8 0, .int .u8 0, .int .u8 0, .int .u8 0, .int .u8 0, .int .u8 0, .int .u8 0, .int .u8 0, .bool false] from rfl] at h
      obtain ⟨hcs, h⟩ := h
      refine ⟨hcs, thenW_in fun ww11 e11 => ?_⟩
      replace h := thenW_out h e11
      obtain ⟨hcs, h⟩ := h
      refine ⟨hcs, thenW_in fun ww12 e12 => ?_⟩
      replace h := thenW_out h e12
      obtain ⟨hcs, h⟩ := h
      refine ⟨hcs, thenW_in fun ww13 e13 => ?_⟩
      replace h := thenW_out h e13
      obtain ⟨hcs, h⟩ := h
      refine ⟨hcs, thenW_in fun ww14 e14 => ?_⟩
      replace h := thenW_out h e14
      obtain ⟨hcs, h⟩ := h
      refine ⟨hcs, thenW_in fun ww15 e15 => ?_⟩
      replace h := thenW_out h e15
      obtain ⟨hcs, h⟩ := h
      refine ⟨hcs, thenW_in fun ww16 e16 => ?_⟩
      replace h := thenW_out h e16
      obtain ⟨hcs, h⟩ := h
      refine ⟨hcs, thenW_in fun ww17 e17 => ?_⟩
      replace h := thenW_out h e17
      obtain ⟨hcs, h⟩ := h
      refine ⟨hcs, thenW_in fun ww18 e18 => ?_⟩
      replace h := thenW_out h e18
      obtain ⟨hcs, h⟩ := h
      refine ⟨hcs, thenW_in fun ww19 e19 => ?_⟩
      replace h := thenW_out h e19
      obtain ⟨hcs, h⟩ := h
      refine ⟨hcs, thenW_in fun ww20 e20 => ?_⟩
      replace h := thenW_out h e20
      obtain ⟨hcs, h⟩ := h
      refine ⟨hcs, thenW_in fun ww21 e21 => ?_⟩
      replace h := thenW_out h e21
      obtain ⟨hcs, h⟩ := h
      refine ⟨hcs, thenW_in fun ww22 e22 => ?_⟩
      replace h := thenW_out h e22
      obtain ⟨hcs, h⟩ := h
      refine ⟨hcs, thenW_in fun ww23 e23 => ?_⟩
      replace h := thenW_out h e23
      obtain ⟨hcs, h⟩ := h
      refine ⟨hcs, thenW_in fun ww24 e24 => ?_⟩
      replace h := thenW_out h e24
      obtain ⟨hcs, h⟩ := h
      refine ⟨hcs, thenW_in fun ww25 e25 => ?_⟩
      replace h := thenW_out h e25
      obtain ⟨hcs, h⟩ := h
      refine ⟨hcs, thenW_in fun ww26 e26 => ?_⟩
      replace h := thenW_out h e26
      obtain ⟨hcs, h⟩ := h
      refine ⟨hcs, thenW_in fun ww27 e27 => ?_⟩
      replace h := thenW_out h e27
      obtain ⟨hcs, h⟩ := h
      refine ⟨hcs, thenW_in fun ww28 e28 => ?_⟩
      replace h := thenW_out h e28
      obtain ⟨hcs, h⟩ := h
      refine ⟨hcs, thenW_in fun ww29 e29 => ?_⟩
      replace h := thenW_out h e29
      obtain ⟨hcs, h⟩ := h
      refine ⟨hcs, thenW_in fun ww30 e30 => ?_⟩
      replace h := thenW_out h e30
      obtain ⟨hcs, h⟩ := h
      refine ⟨hcs, thenW_in fun ww31 e31 => ?_⟩
      replace h := thenW_out h e31
      obtain ⟨hcs, h⟩ := h
      refine ⟨hcs, thenW_in fun ww32 e32 => ?_⟩
      replace h := thenW_out h e32
      obtain ⟨hcs, h⟩ := h
      refine ⟨hcs, thenW_in fun ww33 e33 => ?_⟩
      replace h := thenW_out h e33
      obtain ⟨hcs, h⟩ := h
      refine ⟨hcs, thenW_in fun ww34 e34 => ?_⟩
      replace h := thenW_out h e34
      obtain ⟨hcs, h⟩ := h
      refine ⟨hcs, thenW_in fun ww35 e35 => ?_⟩
      replace h := thenW_out h e35
      obtain ⟨hcs, h⟩ := h
      refine ⟨hcs, thenW_in fun ww36 e36 => ?_⟩
      replace h := thenW_out h e36
      obtain ⟨hcs, h⟩ := h
      refine ⟨hcs, thenW_in fun ww37 e37 => ?_⟩
      replace h := thenW_out h e37
      obtain ⟨hcs, h⟩ := h
      refine ⟨hcs, thenW_in fun ww38 e38 => ?_⟩
      replace h := thenW_out h e38
      obtain ⟨hcs, h⟩ := h
      refine ⟨hcs, thenW_in fun ww39 e39 => ?_⟩
      replace h := thenW_out h e39
      obtain ⟨hcs, h⟩ := h
      refine ⟨hcs, thenW_in fun ww40 e40 => ?_⟩
      replace h := thenW_out h e40
      obtain ⟨hcs, h⟩ := h
      refine ⟨hcs, thenW_in fun ww41 e41 => ?_⟩
      replace h := thenW_out h e41
      obtain ⟨hcs, h⟩ := h
      refine ⟨hcs, thenW_in fun ww42 e42 => ?_⟩
      replace h := thenW_out h e42
      obtain ⟨hcs, h⟩ := h
      refine ⟨hcs, thenW_in fun ww43 e43 => ?_⟩
      replace h := thenW_out h e43
      obtain ⟨hcs, h⟩ := h
      refine ⟨hcs, thenW_in fun ww44 e44 => ?_⟩
      replace h := thenW_out h e44
      obtain ⟨hcs, h⟩ := h
      refine ⟨hcs, thenW_in fun ww45 e45 => ?_⟩
      replace h := thenW_out h e45
      obtain ⟨hcs, h⟩ := h
      refine ⟨hcs, thenW_in fun ww46 e46 => ?_⟩
      replace h := thenW_out h e46
      obtain ⟨hcs, h⟩ := h
      refine ⟨hcs, thenW_in fun ww47 e47 => ?_⟩
      replace h := thenW_out h e47
      obtain ⟨hcs, h⟩ := h
      refine ⟨hcs, thenW_in fun ww48 e48 => ?_⟩
      replace h := thenW_out h e48
      obtain ⟨hcs, h⟩ := h
      refine ⟨hcs, thenW_in fun ww49 e49 => ?_⟩
      replace h := thenW_out h e49
      obtain ⟨hcs, h⟩ := h
      refine ⟨hcs, thenW_in fun ww50 e50 => ?_⟩
      replace h := thenW_out h e50
      obtain ⟨hcs, h⟩ := h
      refine ⟨hcs, thenW_in fun ww51 e51 => ?_⟩
      replace h := thenW_out h e51
      obtain ⟨hcs, h⟩ := h
      refine ⟨hcs, thenW_in fun ww52 e52 => ?_⟩
      replace h := thenW_out h e52
      obtain ⟨hcs, h⟩ := h
      refine ⟨hcs, thenW_in fun ww53 e53 => ?_⟩
      replace h := thenW_out h e53
      obtain ⟨hcs, h⟩ := h
      refine ⟨hcs, thenW_in fun ww54 e54 => ?_⟩
      replace h := thenW_out h e54
      obtain ⟨hcs, h⟩ := h
      refine ⟨hcs, thenW_in fun ww55 e55 => ?_⟩
      replace h := thenW_out h e55
      obtain ⟨hcs, h⟩ := h
      refine ⟨hcs, thenW_in fun ww56 e56 => ?_⟩
      replace h := thenW_out h e56
      obtain ⟨hcs, h⟩ := h
      refine ⟨hcs, thenW_in fun ww57 e57 => ?_⟩
      replace h := thenW_out h e57
      obtain ⟨hcs, h⟩ := h
      refine ⟨hcs, thenW_in fun ww58 e58 => ?_⟩
      replace h := thenW_out h e58
      obtain ⟨hcs, h⟩ := h
      refine ⟨hcs, thenW_in fun ww59 e59 => ?_⟩
      replace h := thenW_out h e59
      obtain ⟨hcs, h⟩ := h
      refine ⟨hcs, thenW_in fun ww60 e60 => ?_⟩
      replace h := thenW_out h e60
      obtain ⟨hcs, h⟩ := h
      refine ⟨hcs, thenW_in fun ww61 e61 => ?_⟩
      replace h := thenW_out h e61
      obtain ⟨hcs, h⟩ := h
      refine ⟨hcs, thenW_in fun ww62 e62 => ?_⟩
      replace h := thenW_out h e62
      obtain ⟨hcs, h⟩ := h
      refine ⟨hcs, thenW_in fun ww63 e63 => ?_⟩
      replace h := thenW_out h e63
      obtain ⟨hcs, h⟩ := h
      refine ⟨hcs, thenW_in fun ww64 e64 => ?_⟩
      replace h := thenW_out h e64
      obtain ⟨hcs, h⟩ := h
      refine ⟨hcs, thenW_in fun ww65 e65 => ?_⟩
      replace h := thenW_out h e65
      obtain ⟨hcs, h⟩ := h
      refine ⟨hcs, thenW_in fun ww66 e66 => ?_⟩
      replace h := thenW_out h e66
      obtain ⟨hcs, h⟩ := h
      refine ⟨hcs, thenW_in fun ww67 e67 => ?_⟩
      replace h := thenW_out h e67
      obtain ⟨hcs, h⟩ := h
      refine ⟨hcs, thenW_in fun ww68 e68 => ?_⟩
      replace h := thenW_out h e68
      obtain ⟨hcs, h⟩ := h
      refine ⟨hcs, thenW_in fun ww69 e69 => ?_⟩
      replace h := thenW_out h e69
      obtain ⟨hcs, h⟩ := h
      refine ⟨hcs, thenW_in fun ww70 e70 => ?_⟩
      replace h := thenW_out h e70
      obtain ⟨hcs, h⟩ := h
      refine ⟨hcs, thenW_in fun ww71 e71 => ?_⟩
      replace h := thenW_out h e71
      obtain ⟨hcs, h⟩ := h
      refine ⟨hcs, thenW_in fun ww72 e72 => ?_⟩
      replace h := thenW_out h e72
      obtain ⟨hcs, h⟩ := h
      refine ⟨hcs, thenW_in fun ww73 e73 => ?_⟩
      replace h := thenW_out h e73
      obtain ⟨hcs, h⟩ := h
      refine ⟨hcs, thenW_in fun ww74 e74 => ?_⟩
      replace h := thenW_out h e74
      obtain ⟨hcs, h⟩ := h
      refine ⟨hcs, thenW_in fun ww75 e75 => ?_⟩
      replace h := thenW_out h e75
      obtain ⟨hcs, h⟩ := h
      refine ⟨hcs, thenW_in fun ww76 e76 => ?_⟩
      replace h := thenW_out h e76
      obtain ⟨c77, ww78, hr, h⟩ := h
      refine ⟨c77, ww78, hr, ?_⟩
      refine thenW_in fun ww79 e79 => ?_
      have hx79 := (Ext.refl no ww78).x_drew e79
      obtain ⟨a80, ha80, h⟩ := h
      refine elim_some ha80 ?_
      obtain ⟨pend82a, pend82n, pend82c, hc81, h⟩ := h
      refine ⟨pend82a, pend82n, pend82c, (hx79).cell hc81 id, ?_⟩
      obtain ⟨x84, hz, hc83, h⟩ := h
      refine ⟨x84, hz, cellsAt_no (hx79) hc83, ?_⟩
      obtain ⟨hzl, h⟩ := h
      refine mslit_big Try.underlying55 (by kernel_rfl) hzl ?_
      refine thenW_in fun ww85 e85 => ?_
      have h := h ww85 ww79.heap.size (hx79.x_alloc e85) (Blk.of_new e85) (hx79).size (size_lt_alloc e85)
      obtain ⟨ho87, h⟩ := h
      refine ⟨ho87, ?_⟩
      obtain ⟨a88a, a88n, a88c, ww89, hr, h⟩ := h
      refine ⟨a88a, a88n, a88c, ww89, hr, ?_⟩
      refine elim_some ha80 ?_
      obtain ⟨hcs, h⟩ := h
      refine ⟨hcs, thenW_in fun ww90 e90 => ?_⟩
      replace h := thenW_out h e90
      refine elim_some ha80 ?_
      obtain ⟨armed92, hc91, h⟩ := h
      refine ⟨armed92, hc91, ?_⟩
      refine bif_of (fun c93 => ?_) (fun c93 => ?_)
      · have h := h.1 c93
        refine elim_some ha80 ?_
        obtain ⟨left95, hc94, h⟩ := h
        refine ⟨left95, hc94, ?_⟩
        refine bif_of (fun c96 => ?_) (fun c96 => ?_)
        · have h := h.1 (beq_t c96)
          refine elim_some ha80 ?_
          obtain ⟨hcs, h⟩ := h
          refine ⟨hcs, thenW_in fun ww97 e97 => ?_⟩
          replace h := thenW_out h e97
          refine thenW_in fun ww98 e98 => ?_
          have hx98 := (Ext.refl no ww97).x_drew e98
          refine elim_some ha80 ?_
          obtain ⟨pend100a, pend100n, pend100c, hc99, h⟩ := h
          refine ⟨pend100a, pend100n, pend100c, (hx98).cell hc99 id, ?_⟩
          refine elim_some ha80 ?_
          obtain ⟨pend102a, pend102n, pend102c, hc101, h⟩ := h
          refine ⟨pend102a, pend102n, pend102c, (hx98).cell hc101 id, ?_⟩
          obtain ⟨hw1, hw2, h⟩ := h
          try rw [w64 hw1 hw2]
          obtain ⟨a103, ha103, h⟩ := h
          refine elim_some ha103 ?_
          obtain ⟨hq1, hq2, h⟩ := h
          refine ⟨hq1, hq2, ?_⟩
          have h := h ww98 hx98
          obtain ⟨hcs, h⟩ := h
          refine ⟨hcs, thenW_in fun ww104 e104 => ?_⟩
          replace h := thenW_out h e104
          exact h
        · have h := h.2 (beq_f c96)
          refine elim_some ha80 ?_
          obtain ⟨left106, hc105, h⟩ := h
          refine ⟨left106, hc105, ?_⟩
          obtain ⟨hw1, hw2, h⟩ := h
          try rw [w64 hw1 hw2]
          refine elim_some ha80 ?_
          obtain ⟨hcs, h⟩ := h
          refine ⟨hcs, thenW_in fun ww107 e107 => ?_⟩
          replace h := thenW_out h e107
          refine elim_some ha80 ?_
          obtain ⟨count109, hc108, h⟩ := h
          refine ⟨count109, hc108, ?_⟩
          obtain ⟨hw1, hw2, h⟩ := h
          try rw [w64 hw1 hw2]
          refine elim_some ha80 ?_
          obtain ⟨hcs, h⟩ := h
          refine ⟨hcs, thenW_in fun ww110 e110 => ?_⟩
          replace h := thenW_out h e110
          exact h
      · have h := h.2 c93
        refine elim_some ha80 ?_
        obtain ⟨count112, hc111, h⟩ := h
        refine ⟨count112, hc111, ?_⟩
        obtain ⟨hw1, hw2, h⟩ := h
        try rw [w64 hw1 hw2]
        refine elim_some ha80 ?_
        obtain ⟨hcs, h⟩ := h
        refine ⟨hcs, thenW_in fun ww113 e113 => ?_⟩
        replace h := thenW_out h e113
        exact h

theorem disk_Disk_Write.go (d1 : Option Addr) (i2 : Int) (b3a : Option Addr) (b3n : Nat) (b3c : Nat) {R : Value → World → Prop} {w : World} (h : disk_Disk_Write.N d1 i2 b3a b3n b3c R w) : Calls Try.prog 10 #[.pointer d1, .int .i64 i2, .slice b3a b3n b3c] w fun e w' => ∃ v, e = .returned v ∧ R v w' := disk_Disk_Write.ok d1 i2 b3a b3n b3c (disk_Disk_Write.up d1 i2 b3a b3n b3c h)
theorem disk_Disk_Write.run (d1 : Option Addr) (i2 : Int) (b3a : Option Addr) (b3n : Nat) (b3c : Nat) {V : Value} {Q : World → Prop} {w : World} (h : disk_Disk_Write.N d1 i2 b3a b3n b3c (fun v w' => v = V ∧ Q w') w) : Calls Try.prog 10 #[.pointer d1, .int .i64 i2, .slice b3a b3n b3c] w (Ret V Q) := (disk_Disk_Write.go d1 i2 b3a b3n b3c h).mono fun e w' ⟨v, he, hv, hq⟩ => ⟨by rw [he, hv], hq⟩

/-- (*disk.Disk).Copy -/
def disk_Disk_Copy.M (d1 : Option Addr) (R : Value → World → Prop) (w : World) : Prop :=
  bif Option.isNone d1 then (
  R (.pointer none) w) else (
  d1.elim False fun a2 =>
  ∃ (xGood3a : Option Addr) (xGood3n : Nat) (xGood3c : Nat) (xPend4a : Option Addr) (xPend4n : Nat) (xPend4c : Nat) (xLeft5 : Int) (xArmed6 : Bool) (xState7 : Int) (xCount8 : Int), cellsAt w a2 [.slice xGood3a xGood3n xGood3c, .slice xPend4a xPend4n xPend4c, .int .i64 xLeft5, .bool xArmed6, .int .i64 xState7, .int .i64 xCount8] 0 ∧
  thenW (w.alloc (.cells #[.slice none 0 0, .slice none 0 0, .int .i64 0, .bool false, .int .i64 0, .int .i64 0] 58)) fun ww9 =>
  canStore ww9 ((blk w.heap.size).add 0) ∧
  thenW (ww9.setCell ((blk w.heap.size).add 0) (.slice xGood3a xGood3n xGood3c)) fun ww10 =>
  canStore ww10 ((blk w.heap.size).add 1) ∧
  thenW (ww10.setCell ((blk w.heap.size).add 1) (.slice xPend4a xPend4n xPend4c)) fun ww11 =>
  canStore ww11 ((blk w.heap.size).add 2) ∧
  thenW (ww11.setCell ((blk w.heap.size).add 2) (.int .i64 xLeft5)) fun ww12 =>
  canStore ww12 ((blk w.heap.size).add 3) ∧
  thenW (ww12.setCell ((blk w.heap.size).add 3) (.bool xArmed6)) fun ww13 =>
  canStore ww13 ((blk w.heap.size).add 4) ∧
  thenW (ww13.setCell ((blk w.heap.size).add 4) (.int .i64 xState7)) fun ww14 =>
  canStore ww14 ((blk w.heap.size).add 5) ∧
  thenW (ww14.setCell ((blk w.heap.size).add 5) (.int .i64 xCount8)) fun ww15 =>
  thenW (ww15.drew) fun ww16 =>
  d1.elim False fun a17 =>
  ∃ (good18a : Option Addr) (good18n : Nat) (good18c : Nat), ww16.cell? (a17.add 0) = some (.slice good18a good18n good18c) ∧
  d1.elim False fun a19 =>
  ∃ (pend20a : Option Addr) (pend20n : Nat) (pend20c : Nat), ww16.cell? (a19.add 1) = some (.slice pend20a pend20n pend20c) ∧
  Calls Try.prog 29 #[.slice good18a good18n good18c] ww16 fun ee22 ww23 => ∃ (clone21a : Option Addr) (clone21n : Nat) (clone21c : Nat), ee22 = .returned (.slice clone21a clone21n clone21c) ∧
  ww23.cell? (a19.add 1) = some (.slice pend20a pend20n pend20c) ∧
  Calls Try.prog 30 #[.slice pend20a pend20n pend20c] ww23 fun ee25 ww26 => ∃ (clone24a : Option Addr) (clone24n : Nat) (clone24c : Nat), ee25 = .returned (.slice clone24a clone24n clone24c) ∧
  canStore ww26 (((blk w.heap.size).add 0).add 0) ∧
  thenW (ww26.setCell (((blk w.heap.size).add 0).add 0) (.slice clone21a clone21n clone21c)) fun ww27 =>
  canStore ww27 (((blk w.heap.size).add 1).add 0) ∧
  thenW (ww27.setCell (((blk w.heap.size).add 1).add 0) (.slice clone24a clone24n clone24c)) fun ww28 =>
  R (.pointer (some (blk w.heap.size))) ww28)

theorem disk_Disk_Copy.eq (d1 : Option Addr) (R : Value → World → Prop) (w : World) : mfunc Try.prog [] 13 [.pointer d1] R w = disk_Disk_Copy.M d1 R w := by kernel_rfl
theorem disk_Disk_Copy.ok (d1 : Option Addr) {R : Value → World → Prop} {w : World} (h : disk_Disk_Copy.M d1 R w) : Calls Try.prog 13 #[.pointer d1] w fun e w' => ∃ v, e = .returned v ∧ R v w' :=
  mfunc_ok follows (H := []) (args := [.pointer d1]) (by rw [disk_Disk_Copy.eq]; exact h)

def disk_Disk_Copy.N (d1 : Option Addr) (R : Value → World → Prop) (w : World) : Prop :=
  (d1 = none →
    R (.pointer none) w) ∧
  (d1 ≠ none →
    ∃ a3 : Addr, d1 = some a3 ∧
    ∃ (xGood5a : Option Addr) (xGood5n : Nat) (xGood5c : Nat) (xPend6a : Option Addr) (xPend6n : Nat) (xPend6c : Nat) (xLeft7 : Int) (xArmed8 : Bool) (xState9 : Int) (xCount10 : Int), cellsAt w a3 [.slice xGood5a xGood5n xGood5c, .slice xPend6a xPend6n xPend6c, .int .i64 xLeft7, .bool xArmed8, .int .i64 xState9, .int .i64 xCount10] 0 ∧
    ∀ (ww11 : World) (q12 : Nat), Ext no w ww11 → Blk ww11 q12 58 [.slice none 0 0, .slice none 0 0, .int .i64 0, .bool false, .int .i64 0, .int .i64 0] → w.heap.size ≤ q12 → q12 < ww11.heap.size →
    canStore ww11 ((blk q12).add 0) ∧
    thenW (ww11.setCell ((blk q12).add 0) (.slice xGood5a xGood5n xGood5c)) fun ww13 =>
    canStore ww13 ((blk q12).add 1) ∧
    thenW (ww13.setCell ((blk q12).add 1) (.slice xPend6a xPend6n xPend6c)) fun ww14 =>
    canStore ww14 ((blk q12).add 2) ∧
    thenW (ww14.setCell ((blk q12).add 2) (.int .i64 xLeft7)) fun ww15 =>
    canStore ww15 ((blk q12).add 3) ∧
    thenW (ww15.setCell ((blk q12).add 3) (.bool xArmed8)) fun ww16 =>
    canStore ww16 ((blk q12).add 4) ∧
    thenW (ww16.setCell ((blk q12).add 4) (.int .i64 xState9)) fun ww17 =>
    canStore ww17 ((blk q12).add 5) ∧
    thenW (ww17.setCell ((blk q12).add 5) (.int .i64 xCount10)) fun ww18 =>
    ∃ (good21a : Option Addr) (good21n : Nat) (good21c : Nat), ww18.cell? (a3.add 0) = some (.slice good21a good21n good21c) ∧
    ∃ (pend23a : Option Addr) (pend23n : Nat) (pend23c : Nat), ww18.cell? (a3.add 1) = some (.slice pend23a pend23n pend23c) ∧
    ∀ (ww19 : World), Ext no ww18 ww19 →
    Calls Try.prog 29 #[.slice good21a good21n good21c] ww19 fun ee25 ww26 => ∃ (clone24a : Option Addr) (clone24n : Nat) (clone24c : Nat), ee25 = .returned (.slice clone24a clone24n clone24c) ∧
    ww26.cell? (a3.add 1) = some (.slice pend23a pend23n pend23c) ∧
    Calls Try.prog 30 #[.slice pend23a pend23n pend23c] ww26 fun ee29 ww30 => ∃ (clone28a : Option Addr) (clone28n : Nat) (clone28c : Nat), ee29 = .returned (.slice clone28a clone28n clone28c) ∧
    canStore ww30 (((blk q12).add 0).add 0) ∧
    thenW (ww30.setCell (((blk q12).add 0).add 0) (.slice clone24a clone24n clone24c)) fun ww31 =>
    canStore ww31 (((blk q12).add 1).add 0) ∧
    thenW (ww31.setCell (((blk q12).add 1).add 0) (.slice clone28a clone28n clone28c)) fun ww32 =>
    R (.pointer (some (blk q12))) ww32)

theorem disk_Disk_Copy.up (d1 : Option Addr) {R : Value → World → Prop} {w : World} (h : disk_Disk_Copy.N d1 R w) : disk_Disk_Copy.M d1 R w := by
  unfold disk_Disk_Copy.M
  unfold disk_Disk_Copy.N at h
  refine bif_of (fun c2 => ?_) (fun c2 => ?_)
  · have h := h.1 (isNone_t c2)
    exact h
  · have h := h.2 (isNone_f c2)
    obtain ⟨a3, ha3, h⟩ := h
    refine elim_some ha3 ?_
    obtain ⟨xGood5a, xGood5n, xGood5c, xPend6a, xPend6n, xPend6c, xLeft7, xArmed8, xState9, xCount10, hc4, h⟩ := h
    refine ⟨xGood5a, xGood5n, xGood5c, xPend6a, xPend6n, xPend6c, xLeft7, xArmed8, xState9, xCount10, hc4, ?_⟩
    refine thenW_in fun ww11 e11 => ?_
    have h := h ww11 w.heap.size ((Ext.refl no w).x_alloc e11) (Blk.of_new e11) ((Ext.refl no w)).size (size_lt_alloc e11)
    obtain ⟨hcs, h⟩ := h
    refine ⟨hcs, thenW_in fun ww13 e13 => ?_⟩
    replace h := thenW_out h e13
    obtain ⟨hcs, h⟩ := h
    refine ⟨hcs, thenW_in fun ww14 e14 => ?_⟩
    replace h := thenW_out h e14
    obtain ⟨hcs, h⟩ := h
    refine ⟨hcs, thenW_in fun ww15 e15 => ?_⟩
    replace h := thenW_out h e15
    obtain ⟨hcs, h⟩ := h
    refine ⟨hcs, thenW_in fun ww16 e16 => ?_⟩
    replace h := thenW_out h e16
    obtain ⟨hcs, h⟩ := h
    refine ⟨hcs, thenW_in fun ww17 e17 => ?_⟩
    replace h := thenW_out h e17
    obtain ⟨hcs, h⟩ := h
    refine ⟨hcs, thenW_in fun ww18 e18 => ?_⟩
    replace h := thenW_out h e18
    refine thenW_in fun ww19 e19 => ?_
    have hx19 := (Ext.refl no ww18).x_drew e19
    refine elim_some ha3 ?_
    obtain ⟨good21a, good21n, good21c, hc20, h⟩ := h
    refine ⟨good21a, good21n, good21c, (hx19).cell hc20 id, ?_⟩
    refine elim_some ha3 ?_
    obtain ⟨pend23a, pend23n, pend23c, hc22, h⟩ := h
    refine ⟨pend23a, pend23n, pend23c, (hx19).cell hc22 id, ?_⟩
    have h := h ww19 hx19
    refine h.mono fun ee25 ww26 h => ?_
    obtain ⟨clone24a, clone24n, clone24c, he, h⟩ := h
    refine ⟨clone24a, clone24n, clone24c, he, ?_⟩
    obtain ⟨ho27, h⟩ := h
    refine ⟨ho27, ?_⟩
    refine h.mono fun ee29 ww30 h => ?_
    obtain ⟨clone28a, clone28n, clone28c, he, h⟩ := h
    refine ⟨clone28a, clone28n, clone28c, he, ?_⟩
    obtain ⟨hcs, h⟩ := h
    refine ⟨hcs, thenW_in fun ww31 e31 => ?_⟩
    replace h := thenW_out h e31
    obtain ⟨hcs, h⟩ := h
    refine ⟨hcs, thenW_in fun ww32 e32 => ?_⟩
    replace h := thenW_out h e32
    exact h

theorem disk_Disk_Copy.go (d1 : Option Addr) {R : Value → World → Prop} {w : World} (h : disk_Disk_Copy.N d1 R w) : Calls Try.prog 13 #[.pointer d1] w fun e w' => ∃ v, e = .returned v ∧ R v w' := disk_Disk_Copy.ok d1 (disk_Disk_Copy.up d1 h)
theorem disk_Disk_Copy.run (d1 : Option Addr) {V : Value} {Q : World → Prop} {w : World} (h : disk_Disk_Copy.N d1 (fun v w' => v = V ∧ Q w') w) : Calls Try.prog 13 #[.pointer d1] w (Ret V Q) := (disk_Disk_Copy.go d1 h).mono fun e w' ⟨v, he, hv, hq⟩ => ⟨by rw [he, hv], hq⟩

end Go.Proofs.Ytgelicciggjpaaa

/- Disk: predicates, the others. -/
set_option linter.unusedVariables false
set_option linter.unusedSimpArgs false
set_option maxRecDepth 20000
set_option maxHeartbeats 2000000
namespace Go.Proofs.Ytgelicciggjpaaa
open Go Go.Mx Go.Proofs
/-- (*disk.Disk).Sync -/
def disk_Disk_Sync.M (d1 : Option Addr) (R : Value → World → Prop) (w : World) : Prop :=
  Calls Try.prog 26 #[.pointer d1] w fun ee3 ww4 => ∃ (isv2 : Int), ee3 = .returned (.int .i64 isv2) ∧
  bif isv2 != 0 then (
  R (.int .i64 isv2) ww4) else (
  Calls Try.prog 27 #[.pointer d1, .func (.func 28) #[] #[]] ww4 fun ee5 ww6 => ee5 = .returned (.tuple #[]) ∧
  R (.int .i64 0) ww6)

theorem disk_Disk_Sync.eq (d1 : Option Addr) (R : Value → World → Prop) (w : World) : mfunc Try.prog [] 12 [.pointer d1] R w = disk_Disk_Sync.M d1 R w := by kernel_rfl
theorem disk_Disk_Sync.ok (d1 : Option Addr) {R : Value → World → Prop} {w : World} (h : disk_Disk_Sync.M d1 R w) : Calls Try.prog 12 #[.pointer d1] w fun e w' => ∃ v, e = .returned v ∧ R v w' :=
  mfunc_ok follows (H := []) (args := [.pointer d1]) (by rw [disk_Disk_Sync.eq]; exact h)

def disk_Disk_Sync.N (d1 : Option Addr) (R : Value → World → Prop) (w : World) : Prop :=
  Calls Try.prog 26 #[.pointer d1] w fun ee3 ww4 => ∃ (isv2 : Int), ee3 = .returned (.int .i64 isv2) ∧
  (isv2 ≠ 0 →
    R (.int .i64 isv2) ww4) ∧
  (isv2 = 0 →
    Calls Try.prog 27 #[.pointer d1, .func (.func 28) #[] #[]] ww4 fun ee6 ww7 => ee6 = .returned (.tuple #[]) ∧
    R (.int .i64 0) ww7)

theorem disk_Disk_Sync.up (d1 : Option Addr) {R : Value → World → Prop} {w : World} (h : disk_Disk_Sync.N d1 R w) : disk_Disk_Sync.M d1 R w := by
  unfold disk_Disk_Sync.M
  unfold disk_Disk_Sync.N at h
  refine h.mono fun ee3 ww4 h => ?_
  obtain ⟨isv2, he, h⟩ := h
  refine ⟨isv2, he, ?_⟩
  refine bif_of (fun c5 => ?_) (fun c5 => ?_)
  · have h := h.1 (bne_t c5)
    exact h
  · have h := h.2 (bne_f c5)
    refine h.mono fun ee6 ww7 h => ?_
    obtain ⟨he, h⟩ := h
    refine ⟨he, ?_⟩
    exact h

theorem disk_Disk_Sync.go (d1 : Option Addr) {R : Value → World → Prop} {w : World} (h : disk_Disk_Sync.N d1 R w) : Calls Try.prog 12 #[.pointer d1] w fun e w' => ∃ v, e = .returned v ∧ R v w' := disk_Disk_Sync.ok d1 (disk_Disk_Sync.up d1 h)
theorem disk_Disk_Sync.run (d1 : Option Addr) {V : Value} {Q : World → Prop} {w : World} (h : disk_Disk_Sync.N d1 (fun v w' => v = V ∧ Q w') w) : Calls Try.prog 12 #[.pointer d1] w (Ret V Q) := (disk_Disk_Sync.go d1 h).mono fun e w' ⟨v, he, hv, hq⟩ => ⟨by rw [he, hv], hq⟩

/-- (*disk.Disk).Sync$1 -/
def disk_Disk_Sync_1.M (p1 : Int) (R : Value → World → Prop) (w : World) : Prop :=
  R (.bool true) w

theorem disk_Disk_Sync_1.eq (p1 : Int) (R : Value → World → Prop) (w : World) : mfunc Try.prog [] 28 [.int .i64 p1] R w = disk_Disk_Sync_1.M p1 R w := by kernel_rfl
theorem disk_Disk_Sync_1.ok (p1 : Int) {R : Value → World → Prop} {w : World} (h : disk_Disk_Sync_1.M p1 R w) : Calls Try.prog 28 #[.int .i64 p1] w fun e w' => ∃ v, e = .returned v ∧ R v w' :=
  mfunc_ok follows (H := []) (args := [.int .i64 p1]) (by rw [disk_Disk_Sync_1.eq]; exact h)

def disk_Disk_Sync_1.N (p1 : Int) (R : Value → World → Prop) (w : World) : Prop :=
  R (.bool true) w

theorem disk_Disk_Sync_1.up (p1 : Int) {R : Value → World → Prop} {w : World} (h : disk_Disk_Sync_1.N p1 R w) : disk_Disk_Sync_1.M p1 R w := by
  unfold disk_Disk_Sync_1.M
  unfold disk_Disk_Sync_1.N at h
  exact h

theorem disk_Disk_Sync_1.go (p1 : Int) {R : Value → World → Prop} {w : World} (h : disk_Disk_Sync_1.N p1 R w) : Calls Try.prog 28 #[.int .i64 p1] w fun e w' => ∃ v, e = .returned v ∧ R v w' := disk_Disk_Sync_1.ok p1 (disk_Disk_Sync_1.up p1 h)
theorem disk_Disk_Sync_1.run (p1 : Int) {V : Value} {Q : World → Prop} {w : World} (h : disk_Disk_Sync_1.N p1 (fun v w' => v = V ∧ Q w') w) : Calls Try.prog 28 #[.int .i64 p1] w (Ret V Q) := (disk_Disk_Sync_1.go p1 h).mono fun e w' ⟨v, he, hv, hq⟩ => ⟨by rw [he, hv], hq⟩

/-- (*disk.Disk).Arm -/
def disk_Disk_Arm.M (d1 : Option Addr) (n2 : Int) (R : Value → World → Prop) (w : World) : Prop :=
  Calls Try.prog 26 #[.pointer d1] w fun ee4 ww5 => ∃ (isv3 : Int), ee4 = .returned (.int .i64 isv3) ∧
  bif isv3 != 0 then (
  R (.int .i64 isv3) ww5) else (
  bif decide (n2 < 0) then (
  R (.int .i64 1) ww5) else (
  d1.elim False fun a6 =>
  canStore ww5 ((a6.add 2).add 0) ∧
  thenW (ww5.setCell ((a6.add 2).add 0) (.int .i64 n2)) fun ww7 =>
  d1.elim False fun a8 =>
  canStore ww7 ((a8.add 3).add 0) ∧
  thenW (ww7.setCell ((a8.add 3).add 0) (.bool true)) fun ww9 =>
  R (.int .i64 0) ww9))

theorem disk_Disk_Arm.eq (d1 : Option Addr) (n2 : Int) (R : Value → World → Prop) (w : World) : mfunc Try.prog [] 14 [.pointer d1, .int .i64 n2] R w = disk_Disk_Arm.M d1 n2 R w := by kernel_rfl
theorem disk_Disk_Arm.ok (d1 : Option Addr) (n2 : Int) {R : Value → World → Prop} {w : World} (h : disk_Disk_Arm.M d1 n2 R w) : Calls Try.prog 14 #[.pointer d1, .int .i64 n2] w fun e w' => ∃ v, e = .returned v ∧ R v w' :=
  mfunc_ok follows (H := []) (args := [.pointer d1, .int .i64 n2]) (by rw [disk_Disk_Arm.eq]; exact h)

def disk_Disk_Arm.N (d1 : Option Addr) (n2 : Int) (R : Value → World → Prop) (w : World) : Prop :=
  Calls Try.prog 26 #[.pointer d1] w fun ee4 ww5 => ∃ (isv3 : Int), ee4 = .returned (.int .i64 isv3) ∧
  (isv3 ≠ 0 →
    R (.int .i64 isv3) ww5) ∧
  (isv3 = 0 →
    (n2 < 0 →
      R (.int .i64 1) ww5) ∧
    ((0 : Int) ≤ n2 →
      ∃ a8 : Addr, d1 = some a8 ∧
      canStore ww5 ((a8.add 2).add 0) ∧
      thenW (ww5.setCell ((a8.add 2).add 0) (.int .i64 n2)) fun ww9 =>
      canStore ww9 ((a8.add 3).add 0) ∧
      thenW (ww9.setCell ((a8.add 3).add 0) (.bool true)) fun ww10 =>
      R (.int .i64 0) ww10))

theorem disk_Disk_Arm.up (d1 : Option Addr) (n2 : Int) {R : Value → World → Prop} {w : World} (h : disk_Disk_Arm.N d1 n2 R w) : disk_Disk_Arm.M d1 n2 R w := by
  unfold disk_Disk_Arm.M
  unfold disk_Disk_Arm.N at h
  refine h.mono fun ee4 ww5 h => ?_
  obtain ⟨isv3, he, h⟩ := h
  refine ⟨isv3, he, ?_⟩
  refine bif_of (fun c6 => ?_) (fun c6 => ?_)
  · have h := h.1 (bne_t c6)
    exact h
  · have h := h.2 (bne_f c6)
    refine bif_of (fun c7 => ?_) (fun c7 => ?_)
    · have h := h.1 (of_decide_eq_true c7)
      exact h
    · have h := h.2 (Int.not_lt.1 (of_decide_eq_false c7))
      obtain ⟨a8, ha8, h⟩ := h
      refine elim_some ha8 ?_
      obtain ⟨hcs, h⟩ := h
      refine ⟨hcs, thenW_in fun ww9 e9 => ?_⟩
      replace h := thenW_out h e9
      refine elim_some ha8 ?_
      obtain ⟨hcs, h⟩ := h
      refine ⟨hcs, thenW_in fun ww10 e10 => ?_⟩
      replace h := thenW_out h e10
      exact h

theorem disk_Disk_Arm.go (d1 : Option Addr) (n2 : Int) {R : Value → World → Prop} {w : World} (h : disk_Disk_Arm.N d1 n2 R w) : Calls Try.prog 14 #[.pointer d1, .int .i64 n2] w fun e w' => ∃ v, e = .returned v ∧ R v w' := disk_Disk_Arm.ok d1 n2 (disk_Disk_Arm.up d1 n2 h)
theorem disk_Disk_Arm.run (d1 : Option Addr) (n2 : Int) {V : Value} {Q : World → Prop} {w : World} (h : disk_Disk_Arm.N d1 n2 (fun v w' => v = V ∧ Q w') w) : Calls Try.prog 14 #[.pointer d1, .int .i64 n2] w (Ret V Q) := (disk_Disk_Arm.go d1 n2 h).mono fun e w' ⟨v, he, hv, hq⟩ => ⟨by rw [he, hv], hq⟩

/-- (*disk.Disk).Restart -/
def disk_Disk_Restart.M (d1 : Option Addr) (keep2a : Option Addr) (keep2n : Nat) (keep2c : Nat) (R : Value → World → Prop) (w : World) : Prop :=
  bif Option.isNone d1 then (
  R (.int .i64 23) w) else (
  Calls Try.prog 27 #[.pointer d1, .func (.func 31) #[.slice keep2a keep2n keep2c] #[]] w fun ee3 ww4 => ee3 = .returned (.tuple #[]) ∧
  d1.elim False fun a5 =>
  canStore ww4 ((a5.add 4).add 0) ∧
  thenW (ww4.setCell ((a5.add 4).add 0) (.int .i64 0)) fun ww6 =>
  d1.elim False fun a7 =>
  canStore ww6 ((a7.add 3).add 0) ∧
  thenW (ww6.setCell ((a7.add 3).add 0) (.bool false)) fun ww8 =>
  R (.int .i64 0) ww8)

theorem disk_Disk_Restart.eq (d1 : Option Addr) (keep2a : Option Addr) (keep2n : Nat) (keep2c : Nat) (R : Value → World → Prop) (w : World) : mfunc Try.prog [] 15 [.pointer d1, .slice keep2a keep2n keep2c] R w = disk_Disk_Restart.M d1 keep2a keep2n keep2c R w := by kernel_rfl
theorem disk_Disk_Restart.ok (d1 : Option Addr) (keep2a : Option Addr) (keep2n : Nat) (keep2c : Nat) {R : Value → World → Prop} {w : World} (h : disk_Disk_Restart.M d1 keep2a keep2n keep2c R w) : Calls Try.prog 15 #[.pointer d1, .slice keep2a keep2n keep2c] w fun e w' => ∃ v, e = .returned v ∧ R v w' :=
  mfunc_ok follows (H := []) (args := [.pointer d1, .slice keep2a keep2n keep2c]) (by rw [disk_Disk_Restart.eq]; exact h)

def disk_Disk_Restart.N (d1 : Option Addr) (keep2a : Option Addr) (keep2n : Nat) (keep2c : Nat) (R : Value → World → Prop) (w : World) : Prop :=
  (d1 = none →
    R (.int .i64 23) w) ∧
  (d1 ≠ none →
    Calls Try.prog 27 #[.pointer d1, .func (.func 31) #[.slice keep2a keep2n keep2c] #[]] w fun ee4 ww5 => ee4 = .returned (.tuple #[]) ∧
    ∃ a6 : Addr, d1 = some a6 ∧
    canStore ww5 ((a6.add 4).add 0) ∧
    thenW (ww5.setCell ((a6.add 4).add 0) (.int .i64 0)) fun ww7 =>
    canStore ww7 ((a6.add 3).add 0) ∧
    thenW (ww7.setCell ((a6.add 3).add 0) (.bool false)) fun ww8 =>
    R (.int .i64 0) ww8)

theorem disk_Disk_Restart.up (d1 : Option Addr) (keep2a : Option Addr) (keep2n : Nat) (keep2c : Nat) {R : Value → World → Prop} {w : World} (h : disk_Disk_Restart.N d1 keep2a keep2n keep2c R w) : disk_Disk_Restart.M d1 keep2a keep2n keep2c R w := by
  unfold disk_Disk_Restart.M
  unfold disk_Disk_Restart.N at h
  refine bif_of (fun c3 => ?_) (fun c3 => ?_)
  · have h := h.1 (isNone_t c3)
    exact h
  · have h := h.2 (isNone_f c3)
    refine h.mono fun ee4 ww5 h => ?_
    obtain ⟨he, h⟩ := h
    refine ⟨he, ?_⟩
    obtain ⟨a6, ha6, h⟩ := h
    refine elim_some ha6 ?_
    obtain ⟨hcs, h⟩ := h
    refine ⟨hcs, thenW_in fun ww7 e7 => ?_⟩
    replace h := thenW_out h e7
    refine elim_some ha6 ?_
    obtain ⟨hcs, h⟩ := h
    refine ⟨hcs, thenW_in fun ww8 e8 => ?_⟩
    replace h := thenW_out h e8
    exact h

theorem disk_Disk_Restart.go (d1 : Option Addr) (keep2a : Option Addr) (keep2n : Nat) (keep2c : Nat) {R : Value → World → Prop} {w : World} (h : disk_Disk_Restart.N d1 keep2a keep2n keep2c R w) : Calls Try.prog 15 #[.pointer d1, .slice keep2a keep2n keep2c] w fun e w' => ∃ v, e = .returned v ∧ R v w' := disk_Disk_Restart.ok d1 keep2a keep2n keep2c (disk_Disk_Restart.up d1 keep2a keep2n keep2c h)
theorem disk_Disk_Restart.run (d1 : Option Addr) (keep2a : Option Addr) (keep2n : Nat) (keep2c : Nat) {V : Value} {Q : World → Prop} {w : World} (h : disk_Disk_Restart.N d1 keep2a keep2n keep2c (fun v w' => v = V ∧ Q w') w) : Calls Try.prog 15 #[.pointer d1, .slice keep2a keep2n keep2c] w (Ret V Q) := (disk_Disk_Restart.go d1 keep2a keep2n keep2c h).mono fun e w' ⟨v, he, hv, hq⟩ => ⟨by rw [he, hv], hq⟩

/-- (*disk.Disk).Down -/
def disk_Disk_Down.M (d1 : Option Addr) (R : Value → World → Prop) (w : World) : Prop :=
  bif !(Option.isNone d1) then (
  d1.elim False fun a2 =>
  ∃ (state3 : Int), w.cell? (a2.add 4) = some (.int .i64 state3) ∧
  R (.bool (state3 == 1)) w) else (
  R (.bool false) w)

theorem disk_Disk_Down.eq (d1 : Option Addr) (R : Value → World → Prop) (w : World) : mfunc Try.prog [] 18 [.pointer d1] R w = disk_Disk_Down.M d1 R w := by kernel_rfl
theorem disk_Disk_Down.ok (d1 : Option Addr) {R : Value → World → Prop} {w : World} (h : disk_Disk_Down.M d1 R w) : Calls Try.prog 18 #[.pointer d1] w fun e w' => ∃ v, e = .returned v ∧ R v w' :=
  mfunc_ok follows (H := []) (args := [.pointer d1]) (by rw [disk_Disk_Down.eq]; exact h)

def disk_Disk_Down.N (d1 : Option Addr) (R : Value → World → Prop) (w : World) : Prop :=
  (d1 ≠ none →
    ∃ a3 : Addr, d1 = some a3 ∧
    ∃ (state5 : Int), w.cell? (a3.add 4) = some (.int .i64 state5) ∧
    R (.bool (state5 == 1)) w) ∧
  (d1 = none →
    R (.bool false) w)

theorem disk_Disk_Down.up (d1 : Option Addr) {R : Value → World → Prop} {w : World} (h : disk_Disk_Down.N d1 R w) : disk_Disk_Down.M d1 R w := by
  unfold disk_Disk_Down.M
  unfold disk_Disk_Down.N at h
  refine bif_of (fun c2 => ?_) (fun c2 => ?_)
  · have h := h.1 (isNone_f (not_t c2))
    obtain ⟨a3, ha3, h⟩ := h
    refine elim_some ha3 ?_
    obtain ⟨state5, hc4, h⟩ := h
    refine ⟨state5, hc4, ?_⟩
    exact h
  · have h := h.2 (isNone_t (not_f c2))
    exact h

theorem disk_Disk_Down.go (d1 : Option Addr) {R : Value → World → Prop} {w : World} (h : disk_Disk_Down.N d1 R w) : Calls Try.prog 18 #[.pointer d1] w fun e w' => ∃ v, e = .returned v ∧ R v w' := disk_Disk_Down.ok d1 (disk_Disk_Down.up d1 h)
theorem disk_Disk_Down.run (d1 : Option Addr) {V : Value} {Q : World → Prop} {w : World} (h : disk_Disk_Down.N d1 (fun v w' => v = V ∧ Q w') w) : Calls Try.prog 18 #[.pointer d1] w (Ret V Q) := (disk_Disk_Down.go d1 h).mono fun e w' ⟨v, he, hv, hq⟩ => ⟨by rw [he, hv], hq⟩

/-- (*disk.Disk).Pending -/
def disk_Disk_Pending.M (d1 : Option Addr) (R : Value → World → Prop) (w : World) : Prop :=
  bif Option.isNone d1 then (
  R (.int .i64 0) w) else (
  d1.elim False fun a2 =>
  ∃ (pend3a : Option Addr) (pend3n : Nat) (pend3c : Nat), w.cell? (a2.add 1) = some (.slice pend3a pend3n pend3c) ∧
  R (.int .i64 (pend3n : Int)) w)

theorem disk_Disk_Pending.eq (d1 : Option Addr) (R : Value → World → Prop) (w : World) : mfunc Try.prog [] 19 [.pointer d1] R w = disk_Disk_Pending.M d1 R w := by kernel_rfl
theorem disk_Disk_Pending.ok (d1 : Option Addr) {R : Value → World → Prop} {w : World} (h : disk_Disk_Pending.M d1 R w) : Calls Try.prog 19 #[.pointer d1] w fun e w' => ∃ v, e = .returned v ∧ R v w' :=
  mfunc_ok follows (H := []) (args := [.pointer d1]) (by rw [disk_Disk_Pending.eq]; exact h)

def disk_Disk_Pending.N (d1 : Option Addr) (R : Value → World → Prop) (w : World) : Prop :=
  (d1 = none →
    R (.int .i64 0) w) ∧
  (d1 ≠ none →
    ∃ a3 : Addr, d1 = some a3 ∧
    ∃ (pend5a : Option Addr) (pend5n : Nat) (pend5c : Nat), w.cell? (a3.add 1) = some (.slice pend5a pend5n pend5c) ∧
    R (.int .i64 (pend5n : Int)) w)

theorem disk_Disk_Pending.up (d1 : Option Addr) {R : Value → World → Prop} {w : World} (h : disk_Disk_Pending.N d1 R w) : disk_Disk_Pending.M d1 R w := by
  unfold disk_Disk_Pending.M
  unfold disk_Disk_Pending.N at h
  refine bif_of (fun c2 => ?_) (fun c2 => ?_)
  · have h := h.1 (isNone_t c2)
    exact h
  · have h := h.2 (isNone_f c2)
    obtain ⟨a3, ha3, h⟩ := h
    refine elim_some ha3 ?_
    obtain ⟨pend5a, pend5n, pend5c, hc4, h⟩ := h
    refine ⟨pend5a, pend5n, pend5c, hc4, ?_⟩
    exact h

theorem disk_Disk_Pending.go (d1 : Option Addr) {R : Value → World → Prop} {w : World} (h : disk_Disk_Pending.N d1 R w) : Calls Try.prog 19 #[.pointer d1] w fun e w' => ∃ v, e = .returned v ∧ R v w' := disk_Disk_Pending.ok d1 (disk_Disk_Pending.up d1 h)
theorem disk_Disk_Pending.run (d1 : Option Addr) {V : Value} {Q : World → Prop} {w : World} (h : disk_Disk_Pending.N d1 (fun v w' => v = V ∧ Q w') w) : Calls Try.prog 19 #[.pointer d1] w (Ret V Q) := (disk_Disk_Pending.go d1 h).mono fun e w' ⟨v, he, hv, hq⟩ => ⟨by rw [he, hv], hq⟩

/-- (disk.choice).has -/
def disk_choice_has.M (c1a : Option Addr) (c1n : Nat) (c1c : Nat) (i2 : Int) (R : Value → World → Prop) (w : World) : Prop :=
  bif decide (i2 < (c1n : Int)) then (
  c1a.elim False fun a3 =>
  0 ≤ (i2 : Int) ∧ (i2 : Int) < (c1n : Int) ∧
  ∃ (x4 : Bool), w.cell? (a3.add (Int.toNat i2 * 1)) = some (.bool x4) ∧
  R (.bool x4) w) else (
  R (.bool false) w)

theorem disk_choice_has.eq (c1a : Option Addr) (c1n : Nat) (c1c : Nat) (i2 : Int) (R : Value → World → Prop) (w : World) : mfunc Try.prog [] 31 [.slice c1a c1n c1c, .int .i64 i2] R w = disk_choice_has.M c1a c1n c1c i2 R w := by kernel_rfl
theorem disk_choice_has.ok (c1a : Option Addr) (c1n : Nat) (c1c : Nat) (i2 : Int) {R : Value → World → Prop} {w : World} (h : disk_choice_has.M c1a c1n c1c i2 R w) : Calls Try.prog 31 #[.slice c1a c1n c1c, .int .i64 i2] w fun e w' => ∃ v, e = .returned v ∧ R v w' :=
  mfunc_ok follows (H := []) (args := [.slice c1a c1n c1c, .int .i64 i2]) (by rw [disk_choice_has.eq]; exact h)

def disk_choice_has.N (c1a : Option Addr) (c1n : Nat) (c1c : Nat) (i2 : Int) (R : Value → World → Prop) (w : World) : Prop :=
  (i2 < (c1n : Int) →
    ∃ a4 : Addr, c1a = some a4 ∧
    0 ≤ (i2 : Int) ∧ (i2 : Int) < (c1n : Int) ∧
    ∃ (x6 : Bool), w.cell? (a4.add (Int.toNat i2 * 1)) = some (.bool x6) ∧
    R (.bool x6) w) ∧
  ((c1n : Int) ≤ i2 →
    R (.bool false) w)

theorem disk_choice_has.up (c1a : Option Addr) (c1n : Nat) (c1c : Nat) (i2 : Int) {R : Value → World → Prop} {w : World} (h : disk_choice_has.N c1a c1n c1c i2 R w) : disk_choice_has.M c1a c1n c1c i2 R w := by
  unfold disk_choice_has.M
  unfold disk_choice_has.N at h
  refine bif_of (fun c3 => ?_) (fun c3 => ?_)
  · have h := h.1 (of_decide_eq_true c3)
    obtain ⟨a4, ha4, h⟩ := h
    refine elim_some ha4 ?_
    obtain ⟨hq1, hq2, h⟩ := h
    refine ⟨hq1, hq2, ?_⟩
    obtain ⟨x6, hc5, h⟩ := h
    refine ⟨x6, hc5, ?_⟩
    exact h
  · have h := h.2 (Int.not_lt.1 (of_decide_eq_false c3))
    exact h

theorem disk_choice_has.go (c1a : Option Addr) (c1n : Nat) (c1c : Nat) (i2 : Int) {R : Value → World → Prop} {w : World} (h : disk_choice_has.N c1a c1n c1c i2 R w) : Calls Try.prog 31 #[.slice c1a c1n c1c, .int .i64 i2] w fun e w' => ∃ v, e = .returned v ∧ R v w' := disk_choice_has.ok c1a c1n c1c i2 (disk_choice_has.up c1a c1n c1c i2 h)
theorem disk_choice_has.run (c1a : Option Addr) (c1n : Nat) (c1c : Nat) (i2 : Int) {V : Value} {Q : World → Prop} {w : World} (h : disk_choice_has.N c1a c1n c1c i2 (fun v w' => v = V ∧ Q w') w) : Calls Try.prog 31 #[.slice c1a c1n c1c, .int .i64 i2] w (Ret V Q) := (disk_choice_has.go c1a c1n c1c i2 h).mono fun e w' ⟨v, he, hv, hq⟩ => ⟨by rw [he, hv], hq⟩

/-- slices.Clone[[]disk.sector,disk.sector] -/
def slices_Clone_disk_sector_disk_sector.M (s1a : Option Addr) (s1n : Nat) (s1c : Nat) (R : Value → World → Prop) (w : World) : Prop :=
  bif Option.isNone s1a then (
  R (.slice none 0 0) w) else (
  thenW (w.alloc (.cells #[] 61)) fun ww2 =>
  ∃ (a3a : Option Addr) (a3n : Nat) (a3c : Nat) (ww4 : World), (Builtin.append_ #[54, 54] 54 #[.slice (some (blk w.heap.size)) 0 0, .slice s1a s1n s1c]).run Try.prog ww2 = .ok (.slice a3a a3n a3c) ww4 ∧
  R (.slice a3a a3n a3c) ww4)

theorem slices_Clone_disk_sector_disk_sector.eq (s1a : Option Addr) (s1n : Nat) (s1c : Nat) (R : Value → World → Prop) (w : World) : mfunc Try.prog [] 29 [.slice s1a s1n s1c] R w = slices_Clone_disk_sector_disk_sector.M s1a s1n s1c R w := by kernel_rfl
theorem slices_Clone_disk_sector_disk_sector.ok (s1a : Option Addr) (s1n : Nat) (s1c : Nat) {R : Value → World → Prop} {w : World} (h : slices_Clone_disk_sector_disk_sector.M s1a s1n s1c R w) : Calls Try.prog 29 #[.slice s1a s1n s1c] w fun e w' => ∃ v, e = .returned v ∧ R v w' :=
  mfunc_ok follows (H := []) (args := [.slice s1a s1n s1c]) (by rw [slices_Clone_disk_sector_disk_sector.eq]; exact h)

def slices_Clone_disk_sector_disk_sector.N (s1a : Option Addr) (s1n : Nat) (s1c : Nat) (R : Value → World → Prop) (w : World) : Prop :=
  (s1a = none →
    R (.slice none 0 0) w) ∧
  (s1a ≠ none →
    ∀ (ww3 : World) (q4 : Nat), Ext no w ww3 → Blk ww3 q4 61 [] → w.heap.size ≤ q4 → q4 < ww3.heap.size →
    ∃ (a5a : Option Addr) (a5n : Nat) (a5c : Nat) (ww6 : World), (Builtin.append_ #[54, 54] 54 #[.slice (some (blk q4)) 0 0, .slice s1a s1n s1c]).run Try.prog ww3 = .ok (.slice a5a a5n a5c) ww6 ∧
    R (.slice a5a a5n a5c) ww6)

theorem slices_Clone_disk_sector_disk_sector.up (s1a : Option Addr) (s1n : Nat) (s1c : Nat) {R : Value → World → Prop} {w : World} (h : slices_Clone_disk_sector_disk_sector.N s1a s1n s1c R w) : slices_Clone_disk_sector_disk_sector.M s1a s1n s1c R w := by
  unfold slices_Clone_disk_sector_disk_sector.M
  unfold slices_Clone_disk_sector_disk_sector.N at h
  refine bif_of (fun c2 => ?_) (fun c2 => ?_)
  · have h := h.1 (isNone_t c2)
    exact h
  · have h := h.2 (isNone_f c2)
    refine thenW_in fun ww3 e3 => ?_
    have h := h ww3 w.heap.size ((Ext.refl no w).x_alloc e3) (Blk.of_new e3) ((Ext.refl no w)).size (size_lt_alloc e3)
    obtain ⟨a5a, a5n, a5c, ww6, hr, h⟩ := h
    refine ⟨a5a, a5n, a5c, ww6, hr, ?_⟩
    exact h

theorem slices_Clone_disk_sector_disk_sector.go (s1a : Option Addr) (s1n : Nat) (s1c : Nat) {R : Value → World → Prop} {w : World} (h : slices_Clone_disk_sector_disk_sector.N s1a s1n s1c R w) : Calls Try.prog 29 #[.slice s1a s1n s1c] w fun e w' => ∃ v, e = .returned v ∧ R v w' := slices_Clone_disk_sector_disk_sector.ok s1a s1n s1c (slices_Clone_disk_sector_disk_sector.up s1a s1n s1c h)
theorem slices_Clone_disk_sector_disk_sector.run (s1a : Option Addr) (s1n : Nat) (s1c : Nat) {V : Value} {Q : World → Prop} {w : World} (h : slices_Clone_disk_sector_disk_sector.N s1a s1n s1c (fun v w' => v = V ∧ Q w') w) : Calls Try.prog 29 #[.slice s1a s1n s1c] w (Ret V Q) := (slices_Clone_disk_sector_disk_sector.go s1a s1n s1c h).mono fun e w' ⟨v, he, hv, hq⟩ => ⟨by rw [he, hv], hq⟩

/-- slices.Clone[[]disk.write,disk.write] -/
def slices_Clone_disk_write_disk_write.M (s1a : Option Addr) (s1n : Nat) (s1c : Nat) (R : Value → World → Prop) (w : World) : Prop :=
  bif Option.isNone s1a then (
  R (.slice none 0 0) w) else (
  thenW (w.alloc (.cells #[] 63)) fun ww2 =>
  ∃ (a3a : Option Addr) (a3n : Nat) (a3c : Nat) (ww4 : World), (Builtin.append_ #[55, 55] 55 #[.slice (some (blk w.heap.size)) 0 0, .slice s1a s1n s1c]).run Try.prog ww2 = .ok (.slice a3a a3n a3c) ww4 ∧
  R (.slice a3a a3n a3c) ww4)

theorem slices_Clone_disk_write_disk_write.eq (s1a : Option Addr) (s1n : Nat) (s1c : Nat) (R : Value → World → Prop) (w : World) : mfunc Try.prog [] 30 [.slice s1a s1n s1c] R w = slices_Clone_disk_write_disk_write.M s1a s1n s1c R w := by kernel_rfl
theorem slices_Clone_disk_write_disk_write.ok (s1a : Option Addr) (s1n : Nat) (s1c : Nat) {R : Value → World → Prop} {w : World} (h : slices_Clone_disk_write_disk_write.M s1a s1n s1c R w) : Calls Try.prog 30 #[.slice s1a s1n s1c] w fun e w' => ∃ v, e = .returned v ∧ R v w' :=
  mfunc_ok follows (H := []) (args := [.slice s1a s1n s1c]) (by rw [slices_Clone_disk_write_disk_write.eq]; exact h)

def slices_Clone_disk_write_disk_write.N (s1a : Option Addr) (s1n : Nat) (s1c : Nat) (R : Value → World → Prop) (w : World) : Prop :=
  (s1a = none →
    R (.slice none 0 0) w) ∧
  (s1a ≠ none →
    ∀ (ww3 : World) (q4 : Nat), Ext no w ww3 → Blk ww3 q4 63 [] → w.heap.size ≤ q4 → q4 < ww3.heap.size →
    ∃ (a5a : Option Addr) (a5n : Nat) (a5c : Nat) (ww6 : World), (Builtin.append_ #[55, 55] 55 #[.slice (some (blk q4)) 0 0, .slice s1a s1n s1c]).run Try.prog ww3 = .ok (.slice a5a a5n a5c) ww6 ∧
    R (.slice a5a a5n a5c) ww6)

theorem slices_Clone_disk_write_disk_write.up (s1a : Option Addr) (s1n : Nat) (s1c : Nat) {R : Value → World → Prop} {w : World} (h : slices_Clone_disk_write_disk_write.N s1a s1n s1c R w) : slices_Clone_disk_write_disk_write.M s1a s1n s1c R w := by
  unfold slices_Clone_disk_write_disk_write.M
  unfold slices_Clone_disk_write_disk_write.N at h
  refine bif_of (fun c2 => ?_) (fun c2 => ?_)
  · have h := h.1 (isNone_t c2)
    exact h
  · have h := h.2 (isNone_f c2)
    refine thenW_in fun ww3 e3 => ?_
    have h := h ww3 w.heap.size ((Ext.refl no w).x_alloc e3) (Blk.of_new e3) ((Ext.refl no w)).size (size_lt_alloc e3)
    obtain ⟨a5a, a5n, a5c, ww6, hr, h⟩ := h
    refine ⟨a5a, a5n, a5c, ww6, hr, ?_⟩
    exact h

theorem slices_Clone_disk_write_disk_write.go (s1a : Option Addr) (s1n : Nat) (s1c : Nat) {R : Value → World → Prop} {w : World} (h : slices_Clone_disk_write_disk_write.N s1a s1n s1c R w) : Calls Try.prog 30 #[.slice s1a s1n s1c] w fun e w' => ∃ v, e = .returned v ∧ R v w' := slices_Clone_disk_write_disk_write.ok s1a s1n s1c (slices_Clone_disk_write_disk_write.up s1a s1n s1c h)
theorem slices_Clone_disk_write_disk_write.run (s1a : Option Addr) (s1n : Nat) (s1c : Nat) {V : Value} {Q : World → Prop} {w : World} (h : slices_Clone_disk_write_disk_write.N s1a s1n s1c (fun v w' => v = V ∧ Q w') w) : Calls Try.prog 30 #[.slice s1a s1n s1c] w (Ret V Q) := (slices_Clone_disk_write_disk_write.go s1a s1n s1c h).mono fun e w' ⟨v, he, hv, hq⟩ => ⟨by rw [he, hv], hq⟩

/-- cachetteref09.New -/
def cachetteref09_New.M (n1 : Int) (R : Value → World → Prop) (w : World) : Prop :=
  bif decide (n1 < 1) then (
  R (.tuple #[.pointer none, .int .i64 1]) w) else (
  bif decide (n1 > 400) then (
  R (.tuple #[.pointer none, .int .i64 1]) w) else (
  thenW (w.alloc (.cells #[.int .i64 n1, .slice none 0 0, .slice none 0 0, .int .i64 (-1), .bool false, .bool false, .int .i64 0] 51)) fun ww2 =>
  R (.tuple #[.pointer (some (blk w.heap.size)), .int .i64 0]) ww2))

theorem cachetteref09_New.eq (n1 : Int) (R : Value → World → Prop) (w : World) : mfunc Try.prog [] 20 [.int .i64 n1] R w = cachetteref09_New.M n1 R w := by kernel_rfl
theorem cachetteref09_New.ok (n1 : Int) {R : Value → World → Prop} {w : World} (h : cachetteref09_New.M n1 R w) : Calls Try.prog 20 #[.int .i64 n1] w fun e w' => ∃ v, e = .returned v ∧ R v w' :=
  mfunc_ok follows (H := []) (args := [.int .i64 n1]) (by rw [cachetteref09_New.eq]; exact h)

def cachetteref09_New.N (n1 : Int) (R : Value → World → Prop) (w : World) : Prop :=
  (n1 < 1 →
    R (.tuple #[.pointer none, .int .i64 1]) w) ∧
  ((1 : Int) ≤ n1 →
    (n1 > 400 →
      R (.tuple #[.pointer none, .int .i64 1]) w) ∧
    (n1 ≤ 400 →
      ∀ (ww4 : World) (q5 : Nat), Ext no w ww4 → Blk ww4 q5 51 [.int .i64 n1, .slice none 0 0, .slice none 0 0, .int .i64 (-1), .bool false, .bool false, .int .i64 0] → w.heap.size ≤ q5 → q5 < ww4.heap.size →
      R (.tuple #[.pointer (some (blk q5)), .int .i64 0]) ww4))

theorem cachetteref09_New.up (n1 : Int) {R : Value → World → Prop} {w : World} (h : cachetteref09_New.N n1 R w) : cachetteref09_New.M n1 R w := by
  unfold cachetteref09_New.M
  unfold cachetteref09_New.N at h
  refine bif_of (fun c2 => ?_) (fun c2 => ?_)
  · have h := h.1 (of_decide_eq_true c2)
    exact h
  · have h := h.2 (Int.not_lt.1 (of_decide_eq_false c2))
    refine bif_of (fun c3 => ?_) (fun c3 => ?_)
    · have h := h.1 (of_decide_eq_true c3)
      exact h
    · have h := h.2 (Int.not_lt.1 (of_decide_eq_false c3))
      refine thenW_in fun ww4 e4 => ?_
      have h := h ww4 w.heap.size ((Ext.refl no w).x_alloc e4) (Blk.of_new e4) ((Ext.refl no w)).size (size_lt_alloc e4)
      exact h

theorem cachetteref09_New.go (n1 : Int) {R : Value → World → Prop} {w : World} (h : cachetteref09_New.N n1 R w) : Calls Try.prog 20 #[.int .i64 n1] w fun e w' => ∃ v, e = .returned v ∧ R v w' := cachetteref09_New.ok n1 (cachetteref09_New.up n1 h)
theorem cachetteref09_New.run (n1 : Int) {V : Value} {Q : World → Prop} {w : World} (h : cachetteref09_New.N n1 (fun v w' => v = V ∧ Q w') w) : Calls Try.prog 20 #[.int .i64 n1] w (Ret V Q) := (cachetteref09_New.go n1 h).mono fun e w' ⟨v, he, hv, hq⟩ => ⟨by rw [he, hv], hq⟩

/-- (*cachetteref09.Disk).Read -/
def cachetteref09_Disk_Read.M (d1 : Option Addr) (i2 : Int) (R : Value → World → Prop) (w : World) : Prop :=
  d1.elim False fun a3 =>
  ∃ (IsDown4 : Bool), w.cell? (a3.add 4) = some (.bool IsDown4) ∧
  bif IsDown4 then (
  R (.tuple #[.slice none 0 0, .int .i64 19]) w) else (
  bif decide (i2 < 0) then (
  R (.tuple #[.slice none 0 0, .int .i64 2]) w) else (
  d1.elim False fun a5 =>
  ∃ (N6 : Int), w.cell? (a5.add 0) = some (.int .i64 N6) ∧
  bif decide (i2 ≥ N6) then (
  R (.tuple #[.slice none 0 0, .int .i64 2]) w) else (
  thenW (w.drew) fun ww7 =>
  d1.elim False fun a8 =>
  ∃ (Good9a : Option Addr) (Good9n : Nat) (Good9c : Nat), ww7.cell? (a8.add 1) = some (.slice Good9a Good9n Good9c) ∧
  d1.elim False fun a10 =>
  ∃ (Pend11a : Option Addr) (Pend11n : Nat) (Pend11c : Nat), ww7.cell? (a10.add 2) = some (.slice Pend11a Pend11n Pend11c) ∧
  thenW (ww7.alloc (.cells #[] 71)) fun ww12 =>
  ww12.cell? (a10.add 2) = some (.slice Pend11a Pend11n Pend11c) ∧
  ww12.cell? (a8.add 1) = some (.slice Good9a Good9n Good9c) ∧
  ∃ (a13a : Option Addr) (a13n : Nat) (a13c : Nat) (ww14 : World), (Builtin.append_ #[49, 49] 49 #[.slice (some (blk ww7.heap.size)) 0 0, .slice Good9a Good9n Good9c]).run Try.prog ww12 = .ok (.slice a13a a13n a13c) ww14 ∧
  ww14.cell? (a10.add 2) = some (.slice Pend11a Pend11n Pend11c) ∧
  ∃ (a15a : Option Addr) (a15n : Nat) (a15c : Nat) (ww16 : World), (Builtin.append_ #[49, 49] 49 #[.slice a13a a13n a13c, .slice Pend11a Pend11n Pend11c]).run Try.prog ww14 = .ok (.slice a15a a15n a15c) ww16 ∧
  ∃ (I0 : Nat → List Value → World → Prop) (m18 : Nat), I0 m18 [.int .i64 (IntKind.i64.wrap ((a15n : Int) - 1))] ww16 ∧ ∀ (m19 : Nat) (ww20 : World) (k17 : Int), I0 m19 [.int .i64 k17] ww20 →
  bif decide (k17 ≥ 0) then (
  a15a.elim False fun a21 =>
  0 ≤ (k17 : Int) ∧ (k17 : Int) < (a15n : Int) ∧
  ∃ (Iv22 : Int), ww20.cell? ((a21.add (Int.toNat k17 * 3)).add 0) = some (.int .i64 Iv22) ∧
  bif Iv22 == i2 then (
  a15a.elim False fun a23 =>
  0 ≤ (k17 : Int) ∧ (k17 : Int) < (a15n : Int) ∧
  ∃ (Torn24 : Bool), ww20.cell? ((a23.add (Int.toNat k17 * 3)).add 2) = some (.bool Torn24) ∧
  bif Torn24 then (
  R (.tuple #[.slice none 0 0, .int .i64 5]) ww20) else (
  a15a.elim False fun a25 =>
  0 ≤ (k17 : Int) ∧ (k17 : Int) < (a15n : Int) ∧
  ∃ (Iv26 : Int), ww20.cell? ((a25.add (Int.toNat k17 * 3)).add 0) = some (.int .i64 Iv26) ∧
  bif Iv26 == i2 then (
  a15a.elim False fun a27 =>
  0 ≤ (k17 : Int) ∧ (k17 : Int) < (a15n : Int) ∧
  ∃ (B28a : Option Addr) (B28n : Nat) (B28c : Nat), ww20.cell? ((a27.add (Int.toNat k17 * 3)).add 1) = some (.slice B28a B28n B28c) ∧
  R (.tuple #[.slice B28a B28n B28c, .int .i64 0]) ww20) else (
  ∃ m29, m29 < m19 ∧ I0 m29 [.int .i64 (IntKind.i64.wrap (k17 - 1))] ww20))) else (
  a15a.elim False fun a30 =>
  0 ≤ (k17 : Int) ∧ (k17 : Int) < (a15n : Int) ∧
  ∃ (Iv31 : Int), ww20.cell? ((a30.add (Int.toNat k17 * 3)).add 0) = some (.int .i64 Iv31) ∧
  bif Iv31 == i2 then (
  a15a.elim False fun a32 =>
  0 ≤ (k17 : Int) ∧ (k17 : Int) < (a15n : Int) ∧
  ∃ (B33a : Option Addr) (B33n : Nat) (B33c : Nat), ww20.cell? ((a32.add (Int.toNat k17 * 3)).add 1) = some (.slice B33a B33n B33c) ∧
  R (.tuple #[.slice B33a B33n B33c, .int .i64 0]) ww20) else (
  ∃ m34, m34 < m19 ∧ I0 m34 [.int .i64 (IntKind.i64.wrap (k17 - 1))] ww20))) else (
  ∃ (m35a : Option Addr) (m35n : Nat) (m35c : Nat) (ww36 : World), (Instr.makeSlice 33 (.int .i64 64) (.int .i64 64)).run Try.prog ww20 = .ok (.slice m35a m35n m35c) ww36 ∧
  R (.tuple #[.slice m35a m35n m35c, .int .i64 0]) ww36))))

theorem cachetteref09_Disk_Read.eq (d1 : Option Addr) (i2 : Int) (R : Value → World → Prop) (w : World) : mfunc Try.prog [(0, [1, 6], [(7, (.one (.int .i64)))])] 22 [.pointer d1, .int .i64 i2] R w = cachetteref09_Disk_Read.M d1 i2 R w := by kernel_rfl
theorem cachetteref09_Disk_Read.ok (d1 : Option Addr) (i2 : Int) {R : Value → World → Prop} {w : World} (h : cachetteref09_Disk_Read.M d1 i2 R w) : Calls Try.prog 22 #[.pointer d1, .int .i64 i2] w fun e w' => ∃ v, e = .returned v ∧ R v w' :=
  mfunc_ok follows (H := [(0, [1, 6], [(7, (.one (.int .i64)))])]) (args := [.pointer d1, .int .i64 i2]) (by rw [cachetteref09_Disk_Read.eq]; exact h)

def cachetteref09_Disk_Read.N (d1 : Option Addr) (i2 : Int) (R : Value → World → Prop) (w : World) : Prop :=
  ∃ a3 : Addr, d1 = some a3 ∧
  ∃ (IsDown5 : Bool), w.cell? (a3.add 4) = some (.bool IsDown5) ∧
  (IsDown5 = true →
    R (.tuple #[.slice none 0 0, .int .i64 19]) w) ∧
  (IsDown5 = false →
    (i2 < 0 →
      R (.tuple #[.slice none 0 0, .int .i64 2]) w) ∧
    ((0 : Int) ≤ i2 →
      ∃ (N9 : Int), w.cell? (a3.add 0) = some (.int .i64 N9) ∧
      (i2 ≥ N9 →
        R (.tuple #[.slice none 0 0, .int .i64 2]) w) ∧
      (i2 < N9 →
        ∃ (Good13a : Option Addr) (Good13n : Nat) (Good13c : Nat), w.cell? (a3.add 1) = some (.slice Good13a Good13n Good13c) ∧
        ∃ (Pend15a : Option Addr) (Pend15n : Nat) (Pend15c : Nat), w.cell? (a3.add 2) = some (.slice Pend15a Pend15n Pend15c) ∧
        ∀ (ww16 : World) (q17 : Nat), Ext no w ww16 → Blk ww16 q17 71 [] → w.heap.size ≤ q17 → q17 < ww16.heap.size →
        ww16.cell? (a3.add 2) = some (.slice Pend15a Pend15n Pend15c) ∧
        ww16.cell? (a3.add 1) = some (.slice Good13a Good13n Good13c) ∧
        ∃ (a20a : Option Addr) (a20n : Nat) (a20c : Nat) (ww21 : World), (Builtin.append_ #[49, 49] 49 #[.slice (some (blk q17)) 0 0, .slice Good13a Good13n Good13c]).run Try.prog ww16 = .ok (.slice a20a a20n a20c) ww21 ∧
        ww21.cell? (a3.add 2) = some (.slice Pend15a Pend15n Pend15c) ∧
        ∃ (a23a : Option Addr) (a23n : Nat) (a23c : Nat) (ww24 : World), (Builtin.append_ #[49, 49] 49 #[.slice a20a a20n a20c, .slice Pend15a Pend15n Pend15c]).run Try.prog ww21 = .ok (.slice a23a a23n a23c) ww24 ∧
        (-9223372036854775808 : Int) ≤ ((a23n : Int) - 1) ∧ ((a23n : Int) - 1) < 9223372036854775808 ∧
        ∃ (I0 : Nat → List Value → World → Prop) (m26 : Nat), I0 m26 [.int .i64 ((a23n : Int) - 1)] ww24 ∧ ∀ (m27 : Nat) (ww28 : World) (k25 : Int), I0 m27 [.int .i64 k25] ww28 →
        (k25 ≥ 0 →
          ∃ a30 : Addr, a23a = some a30 ∧
          0 ≤ (k25 : Int) ∧ (k25 : Int) < (a23n : Int) ∧
          ∃ (Iv32 : Int), ww28.cell? ((a30.add (Int.toNat k25 * 3)).add 0) = some (.int .i64 Iv32) ∧
          (Iv32 = i2 →
            0 ≤ (k25 : Int) ∧ (k25 : Int) < (a23n : Int) ∧
            ∃ (Torn35 : Bool), ww28.cell? ((a30.add (Int.toNat k25 * 3)).add 2) = some (.bool Torn35) ∧
            (Torn35 = true →
              R (.tuple #[.slice none 0 0, .int .i64 5]) ww28) ∧
            (Torn35 = false →
              0 ≤ (k25 : Int) ∧ (k25 : Int) < (a23n : Int) ∧
              ∃ (Iv38 : Int), ww28.cell? ((a30.add (Int.toNat k25 * 3)).add 0) = some (.int .i64 Iv38) ∧
              (Iv38 = i2 →
                0 ≤ (k25 : Int) ∧ (k25 : Int) < (a23n : Int) ∧
                ∃ (B41a : Option Addr) (B41n : Nat) (B41c : Nat), ww28.cell? ((a30.add (Int.toNat k25 * 3)).add 1) = some (.slice B41a B41n B41c) ∧
                R (.tuple #[.slice B41a B41n B41c, .int .i64 0]) ww28) ∧
              (Iv38 ≠ i2 →
                (-9223372036854775808 : Int) ≤ (k25 - 1) ∧ (k25 - 1) < 9223372036854775808 ∧
                ∃ m42, m42 < m27 ∧ I0 m42 [.int .i64 (k25 - 1)] ww28))) ∧
          (Iv32 ≠ i2 →
            0 ≤ (k25 : Int) ∧ (k25 : Int) < (a23n : Int) ∧
            ∃ (Iv44 : Int), ww28.cell? ((a30.add (Int.toNat k25 * 3)).add 0) = some (.int .i64 Iv44) ∧
            (Iv44 = i2 →
              0 ≤ (k25 : Int) ∧ (k25 : Int) < (a23n : Int) ∧
              ∃ (B47a : Option Addr) (B47n : Nat) (B47c : Nat), ww28.cell? ((a30.add (Int.toNat k25 * 3)).add 1) = some (.slice B47a B47n B47c) ∧
              R (.tuple #[.slice B47a B47n B47c, .int .i64 0]) ww28) ∧
            (Iv44 ≠ i2 →
              (-9223372036854775808 : Int) ≤ (k25 - 1) ∧ (k25 - 1) < 9223372036854775808 ∧
              ∃ m48, m48 < m27 ∧ I0 m48 [.int .i64 (k25 - 1)] ww28))) ∧
        (k25 < 0 →
          ∃ (m49a : Option Addr) (m49n : Nat) (m49c : Nat) (ww50 : World), (Instr.makeSlice 33 (.int .i64 64) (.int .i64 64)).run Try.prog ww28 = .ok (.slice m49a m49n m49c) ww50 ∧
          R (.tuple #[.slice m49a m49n m49c, .int .i64 0]) ww50))))

theorem cachetteref09_Disk_Read.up (d1 : Option Addr) (i2 : Int) {R : Value → World → Prop} {w : World} (h : cachetteref09_Disk_Read.N d1 i2 R w) : cachetteref09_Disk_Read.M d1 i2 R w := by
  unfold cachetteref09_Disk_Read.M
  unfold cachetteref09_Disk_Read.N at h
  obtain ⟨a3, ha3, h⟩ := h
  refine elim_some ha3 ?_
  obtain ⟨IsDown5, hc4, h⟩ := h
  refine ⟨IsDown5, hc4, ?_⟩
  refine bif_of (fun c6 => ?_) (fun c6 => ?_)
  · have h := h.1 c6
    exact h
  · have h := h.2 c6
    refine bif_of (fun c7 => ?_) (fun c7 => ?_)
    · have h := h.1 (of_decide_eq_true c7)
      exact h
    · have h := h.2 (Int.not_lt.1 (of_decide_eq_false c7))
      refine elim_some ha3 ?_
      obtain ⟨N9, hc8, h⟩ := h
      refine ⟨N9, hc8, ?_⟩
      refine bif_of (fun c10 => ?_) (fun c10 => ?_)
      · have h := h.1 (of_decide_eq_true c10)
        exact h
      · have h := h.2 (Int.not_le.1 (of_decide_eq_false c10))
        refine thenW_in fun ww11 e11 => ?_
        have hx11 := (Ext.refl no w).x_drew e11
        refine elim_some ha3 ?_
        obtain ⟨Good13a, Good13n, Good13c, hc12, h⟩ := h
        refine ⟨Good13a, Good13n, Good13c, (hx11).cell hc12 id, ?_⟩
        refine elim_some ha3 ?_
        obtain ⟨Pend15a, Pend15n, Pend15c, hc14, h⟩ := h
        refine ⟨Pend15a, Pend15n, Pend15c, (hx11).cell hc14 id, ?_⟩
        refine thenW_in fun ww16 e16 => ?_
        have h := h ww16 ww11.heap.size (hx11.x_alloc e16) (Blk.of_new e16) (hx11).size (size_lt_alloc e16)
        obtain ⟨ho18, ho19, h⟩ := h
        refine ⟨ho18, ho19, ?_⟩
        obtain ⟨a20a, a20n, a20c, ww21, hr, h⟩ := h
        refine ⟨a20a, a20n, a20c, ww21, hr, ?_⟩
        obtain ⟨ho22, h⟩ := h
        refine ⟨ho22, ?_⟩
        obtain ⟨a23a, a23n, a23c, ww24, hr, h⟩ := h
        refine ⟨a23a, a23n, a23c, ww24, hr, ?_⟩
        obtain ⟨hw1, hw2, h⟩ := h
        try rw [w64 hw1 hw2]
        obtain ⟨I0, m26, h0, h⟩ := h
        refine ⟨I0, m26, h0, fun m27 ww28 k25 hI => ?_⟩
        have h := h m27 ww28 k25 hI
        refine bif_of (fun c29 => ?_) (fun c29 => ?_)
        · have h := h.1 (of_decide_eq_true c29)
          obtain ⟨a30, ha30, h⟩ := h
          refine elim_some ha30 ?_
          obtain ⟨hq1, hq2, h⟩ := h
          refine ⟨hq1, hq2, ?_⟩
          obtain ⟨Iv32, hc31, h⟩ := h
          refine ⟨Iv32, hc31, ?_⟩
          refine bif_of (fun c33 => ?_) (fun c33 => ?_)
          · have h := h.1 (beq_t c33)
            refine elim_some ha30 ?_
            obtain ⟨hq1, hq2, h⟩ := h
            refine ⟨hq1, hq2, ?_⟩
            obtain ⟨Torn35, hc34, h⟩ := h
            refine ⟨Torn35, hc34, ?_⟩
            refine bif_of (fun c36 => ?_) (fun c36 => ?_)
            · have h := h.1 c36
              exact h
            · have h := h.2 c36
              refine elim_some ha30 ?_
              obtain ⟨hq1, hq2, h⟩ := h
              refine ⟨hq1, hq2, ?_⟩
              obtain ⟨Iv38, hc37, h⟩ := h
              refine ⟨Iv38, hc37, ?_⟩
              refine bif_of (fun c39 => ?_) (fun c39 => ?_)
              · have h := h.1 (beq_t c39)
                refine elim_some ha30 ?_
                obtain ⟨hq1, hq2, h⟩ := h
                refine ⟨hq1, hq2, ?_⟩
                obtain ⟨B41a, B41n, B41c, hc40, h⟩ := h
                refine ⟨B41a, B41n, B41c, hc40, ?_⟩
                exact h
              · have h := h.2 (beq_f c39)
                obtain ⟨hw1, hw2, h⟩ := h
                try rw [w64 hw1 hw2]
                obtain ⟨m42, hk, h⟩ := h
                exact ⟨m42, hk, h⟩
          · have h := h.2 (beq_f c33)
            refine elim_some ha30 ?_
            obtain ⟨hq1, hq2, h⟩ := h
            refine ⟨hq1, hq2, ?_⟩
            obtain ⟨Iv44, hc43, h⟩ := h
            refine ⟨Iv44, hc43, ?_⟩
            refine bif_of (fun c45 => ?_) (fun c45 => ?_)
            · have h := h.1 (beq_t c45)
              refine elim_some ha30 ?_
              obtain ⟨hq1, hq2, h⟩ := h
              refine ⟨hq1, hq2, ?_⟩
              obtain ⟨B47a, B47n, B47c, hc46, h⟩ := h
              refine ⟨B47a, B47n, B47c, hc46, ?_⟩
              exact h
            · have h := h.2 (beq_f c45)
              obtain ⟨hw1, hw2, h⟩ := h
              try rw [w64 hw1 hw2]
              obtain ⟨m48, hk, h⟩ := h
              exact ⟨m48, hk, h⟩
        · have h := h.2 (Int.not_le.1 (of_decide_eq_false c29))
          obtain ⟨m49a, m49n, m49c, ww50, hr, h⟩ := h
          refine ⟨m49a, m49n, m49c, ww50, hr, ?_⟩
          exact h

theorem cachetteref09_Disk_Read.go (d1 : Option Addr) (i2 : Int) {R : Value → World → Prop} {w : World} (h : cachetteref09_Disk_Read.N d1 i2 R w) : Calls Try.prog 22 #[.pointer d1, .int .i64 i2] w fun e w' => ∃ v, e = .returned v ∧ R v w' := cachetteref09_Disk_Read.ok d1 i2 (cachetteref09_Disk_Read.up d1 i2 h)
theorem cachetteref09_Disk_Read.run (d1 : Option Addr) (i2 : Int) {V : Value} {Q : World → Prop} {w : World} (h : cachetteref09_Disk_Read.N d1 i2 (fun v w' => v = V ∧ Q w') w) : Calls Try.prog 22 #[.pointer d1, .int .i64 i2] w (Ret V Q) := (cachetteref09_Disk_Read.go d1 i2 h).mono fun e w' ⟨v, he, hv, hq⟩ => ⟨by rw [he, hv], hq⟩

/-- (*cachetteref09.Disk).Write -/
def cachetteref09_Disk_Write.M (d1 : Option Addr) (i2 : Int) (b3a : Option Addr) (b3n : Nat) (b3c : Nat) (R : Value → World → Prop) (w : World) : Prop :=
  d1.elim False fun a4 =>
  ∃ (IsDown5 : Bool), w.cell? (a4.add 4) = some (.bool IsDown5) ∧
  bif IsDown5 then (
  R (.int .i64 19) w) else (
  bif decide (i2 < 0) then (
  R (.int .i64 2) w) else (
  d1.elim False fun a6 =>
  ∃ (N7 : Int), w.cell? (a6.add 0) = some (.int .i64 N7) ∧
  bif decide (i2 ≥ N7) then (
  R (.int .i64 2) w) else (
  bif (b3n : Int) != 64 then (
  R (.int .i64 1) w) else (
  thenW (w.drew) fun ww8 =>
  d1.elim False fun a9 =>
  ∃ (Pend10a : Option Addr) (Pend10n : Nat) (Pend10c : Nat), ww8.cell? (a9.add 2) = some (.slice Pend10a Pend10n Pend10c) ∧
  thenW (ww8.alloc (.cells #[] 5)) fun ww11 =>
  ww11.cell? (a9.add 2) = some (.slice Pend10a Pend10n Pend10c) ∧
  ∃ (a12a : Option Addr) (a12n : Nat) (a12c : Nat) (ww13 : World), (Builtin.append_ #[33, 33] 33 #[.slice (some (blk ww8.heap.size)) 0 0, .slice b3a b3n b3c]).run Try.prog ww11 = .ok (.slice a12a a12n a12c) ww13 ∧
  ww13.cell? (a9.add 2) = some (.slice Pend10a Pend10n Pend10c) ∧
  thenW (ww13.alloc (.cells #[.int .i64 i2, .slice a12a a12n a12c, .bool false] 71)) fun ww14 =>
  ww14.cell? (a9.add 2) = some (.slice Pend10a Pend10n Pend10c) ∧
  ∃ (a15a : Option Addr) (a15n : Nat) (a15c : Nat) (ww16 : World), (Builtin.append_ #[49, 49] 49 #[.slice Pend10a Pend10n Pend10c, .slice (some (blk ww13.heap.size)) 1 1]).run Try.prog ww14 = .ok (.slice a15a a15n a15c) ww16 ∧
  d1.elim False fun a17 =>
  canStore ww16 ((a17.add 2).add 0) ∧
  thenW (ww16.setCell ((a17.add 2).add 0) (.slice a15a a15n a15c)) fun ww18 =>
  d1.elim False fun a19 =>
  ∃ (Armed20 : Int), ww18.cell? (a19.add 3) = some (.int .i64 Armed20) ∧
  bif Armed20 == 0 then (
  d1.elim False fun a21 =>
  canStore ww18 ((a21.add 4).add 0) ∧
  thenW (ww18.setCell ((a21.add 4).add 0) (.bool true)) fun ww22 =>
  d1.elim False fun a23 =>
  canStore ww22 ((a23.add 5).add 0) ∧
  thenW (ww22.setCell ((a23.add 5).add 0) (.bool true)) fun ww24 =>
  R (.int .i64 19) ww24) else (
  d1.elim False fun a25 =>
  ∃ (Armed26 : Int), ww18.cell? (a25.add 3) = some (.int .i64 Armed26) ∧
  bif decide (Armed26 > 0) then (
  d1.elim False fun a27 =>
  ∃ (Armed28 : Int), ww18.cell? (a27.add 3) = some (.int .i64 Armed28) ∧
  d1.elim False fun a29 =>
  canStore ww18 ((a29.add 3).add 0) ∧
  thenW (ww18.setCell ((a29.add 3).add 0) (.int .i64 (IntKind.i64.wrap (Armed28 - 1)))) fun ww30 =>
  d1.elim False fun a31 =>
  ∃ (Count32 : Int), ww30.cell? (a31.add 6) = some (.int .i64 Count32) ∧
  d1.elim False fun a33 =>
  canStore ww30 ((a33.add 6).add 0) ∧
  thenW (ww30.setCell ((a33.add 6).add 0) (.int .i64 (IntKind.i64.wrap (Count32 + 1)))) fun ww34 =>
  R (.int .i64 0) ww34) else (
  d1.elim False fun a35 =>
  ∃ (Count36 : Int), ww18.cell? (a35.add 6) = some (.int .i64 Count36) ∧
  d1.elim False fun a37 =>
  canStore ww18 ((a37.add 6).add 0) ∧
  thenW (ww18.setCell ((a37.add 6).add 0) (.int .i64 (IntKind.i64.wrap (Count36 + 1)))) fun ww38 =>
  R (.int .i64 0) ww38))))))

theorem cachetteref09_Disk_Write.eq (d1 : Option Addr) (i2 : Int) (b3a : Option Addr) (b3n : Nat) (b3c : Nat) (R : Value → World → Prop) (w : World) : mfunc Try.prog [] 32 [.pointer d1, .int .i64 i2, .slice b3a b3n b3c] R w = cachetteref09_Disk_Write.M d1 i2 b3a b3n b3c R w := by kernel_rfl
theorem cachetteref09_Disk_Write.ok (d1 : Option Addr) (i2 : Int) (b3a : Option Addr) (b3n : Nat) (b3c : Nat) {R : Value → World → Prop} {w : World} (h : cachetteref09_Disk_Write.M d1 i2 b3a b3n b3c R w) : Calls Try.prog 32 #[.pointer d1, .int .i64 i2, .slice b3a b3n b3c] w fun e w' => ∃ v, e = .returned v ∧ R v w' :=
  mfunc_ok follows (H := []) (args := [.pointer d1, .int .i64 i2, .slice b3a b3n b3c]) (by rw [cachetteref09_Disk_Write.eq]; exact h)

def cachetteref09_Disk_Write.N (d1 : Option Addr) (i2 : Int) (b3a : Option Addr) (b3n : Nat) (b3c : Nat) (R : Value → World → Prop) (w : World) : Prop :=
  ∃ a4 : Addr, d1 = some a4 ∧
  ∃ (IsDown6 : Bool), w.cell? (a4.add 4) = some (.bool IsDown6) ∧
  (IsDown6 = true →
    R (.int .i64 19) w) ∧
  (IsDown6 = false →
    (i2 < 0 →
      R (.int .i64 2) w) ∧
    ((0 : Int) ≤ i2 →
      ∃ (N10 : Int), w.cell? (a4.add 0) = some (.int .i64 N10) ∧
      (i2 ≥ N10 →
        R (.int .i64 2) w) ∧
      (i2 < N10 →
        ((b3n : Int) ≠ 64 →
          R (.int .i64 1) w) ∧
        ((b3n : Int) = 64 →
          ∃ (Pend15a : Option Addr) (Pend15n : Nat) (Pend15c : Nat), w.cell? (a4.add 2) = some (.slice Pend15a Pend15n Pend15c) ∧
          ∀ (ww16 : World) (q17 : Nat), Ext no w ww16 → Blk ww16 q17 5 [] → w.heap.size ≤ q17 → q17 < ww16.heap.size →
          ww16.cell? (a4.add 2) = some (.slice Pend15a Pend15n Pend15c) ∧
          ∃ (a19a : Option Addr) (a19n : Nat) (a19c : Nat) (ww20 : World), (Builtin.append_ #[33, 33] 33 #[.slice (some (blk q17)) 0 0, .slice b3a b3n b3c]).run Try.prog ww16 = .ok (.slice a19a a19n a19c) ww20 ∧
          ww20.cell? (a4.add 2) = some (.slice Pend15a Pend15n Pend15c) ∧
          ∀ (ww22 : World) (q23 : Nat), Ext no ww20 ww22 → Blk ww22 q23 71 [.int .i64 i2, .slice a19a a19n a19c, .bool false] → ww20.heap.size ≤ q23 → q23 < ww22.heap.size →
          ww22.cell? (a4.add 2) = some (.slice Pend15a Pend15n Pend15c) ∧
          ∃ (a25a : Option Addr) (a25n : Nat) (a25c : Nat) (ww26 : World), (Builtin.append_ #[49, 49] 49 #[.slice Pend15a Pend15n Pend15c, .slice (some (blk q23)) 1 1]).run Try.prog ww22 = .ok (.slice a25a a25n a25c) ww26 ∧
          canStore ww26 ((a4.add 2).add 0) ∧
          thenW (ww26.setCell ((a4.add 2).add 0) (.slice a25a a25n a25c)) fun ww27 =>
          ∃ (Armed29 : Int), ww27.cell? (a4.add 3) = some (.int .i64 Armed29) ∧
          (Armed29 = 0 →
            canStore ww27 ((a4.add 4).add 0) ∧
            thenW (ww27.setCell ((a4.add 4).add 0) (.bool true)) fun ww31 =>
            canStore ww31 ((a4.add 5).add 0) ∧
            thenW (ww31.setCell ((a4.add 5).add 0) (.bool true)) fun ww32 =>
            R (.int .i64 19) ww32) ∧
          (Armed29 ≠ 0 →
            ∃ (Armed34 : Int), ww27.cell? (a4.add 3) = some (.int .i64 Armed34) ∧
            (Armed34 > 0 →
              ∃ (Armed37 : Int), ww27.cell? (a4.add 3) = some (.int .i64 Armed37) ∧
              (-9223372036854775808 : Int) ≤ (Armed37 - 1) ∧ (Armed37 - 1) < 9223372036854775808 ∧
              canStore ww27 ((a4.add 3).add 0) ∧
              thenW (ww27.setCell ((a4.add 3).add 0) (.int .i64 (Armed37 - 1))) fun ww38 =>
              ∃ (Count40 : Int), ww38.cell? (a4.add 6) = some (.int .i64 Count40) ∧
              (-9223372036854775808 : Int) ≤ (Count40 + 1) ∧ (Count40 + 1) < 9223372036854775808 ∧
              canStore ww38 ((a4.add 6).add 0) ∧
              thenW (ww38.setCell ((a4.add 6).add 0) (.int .i64 (Count40 + 1))) fun ww41 =>
              R (.int .i64 0) ww41) ∧
            (Armed34 ≤ 0 →
              ∃ (Count43 : Int), ww27.cell? (a4.add 6) = some (.int .i64 Count43) ∧
              (-9223372036854775808 : Int) ≤ (Count43 + 1) ∧ (Count43 + 1) < 9223372036854775808 ∧
              canStore ww27 ((a4.add 6).add 0) ∧
              thenW (ww27.setCell ((a4.add 6).add 0) (.int .i64 (Count43 + 1))) fun ww44 =>
              R (.int .i64 0) ww44))))))

theorem cachetteref09_Disk_Write.up (d1 : Option Addr) (i2 : Int) (b3a : Option Addr) (b3n : Nat) (b3c : Nat) {R : Value → World → Prop} {w : World} (h : cachetteref09_Disk_Write.N d1 i2 b3a b3n b3c R w) : cachetteref09_Disk_Write.M d1 i2 b3a b3n b3c R w := by
  unfold cachetteref09_Disk_Write.M
  unfold cachetteref09_Disk_Write.N at h
  obtain ⟨a4, ha4, h⟩ := h
  refine elim_some ha4 ?_
  obtain ⟨IsDown6, hc5, h⟩ := h
  refine ⟨IsDown6, hc5, ?_⟩
  refine bif_of (fun c7 => ?_) (fun c7 => ?_)
  · have h := h.1 c7
    exact h
  · have h := h.2 c7
    refine bif_of (fun c8 => ?_) (fun c8 => ?_)
    · have h := h.1 (of_decide_eq_true c8)
      exact h
    · have h := h.2 (Int.not_lt.1 (of_decide_eq_false c8))
      refine elim_some ha4 ?_
      obtain ⟨N10, hc9, h⟩ := h
      refine ⟨N10, hc9, ?_⟩
      refine bif_of (fun c11 => ?_) (fun c11 => ?_)
      · have h := h.1 (of_decide_eq_true c11)
        exact h
      · have h := h.2 (Int.not_le.1 (of_decide_eq_false c11))
        refine bif_of (fun c12 => ?_) (fun c12 => ?_)
        · have h := h.1 (bne_t c12)
          exact h
        · have h := h.2 (bne_f c12)
          refine thenW_in fun ww13 e13 => ?_
          have hx13 := (Ext.refl no w).x_drew e13
          refine elim_some ha4 ?_
          obtain ⟨Pend15a, Pend15n, Pend15c, hc14, h⟩ := h
          refine ⟨Pend15a, Pend15n, Pend15c, (hx13).cell hc14 id, ?_⟩
          refine thenW_in fun ww16 e16 => ?_
          have h := h ww16 ww13.heap.size (hx13.x_alloc e16) (Blk.of_new e16) (hx13).size (size_lt_alloc e16)
          obtain ⟨ho18, h⟩ := h
          refine ⟨ho18, ?_⟩
          obtain ⟨a19a, a19n, a19c, ww20, hr, h⟩ := h
          refine ⟨a19a, a19n, a19c, ww20, hr, ?_⟩
          obtain ⟨ho21, h⟩ := h
          refine ⟨ho21, ?_⟩
          refine thenW_in fun ww22 e22 => ?_
          have h := h ww22 ww20.heap.size ((Ext.refl no ww20).x_alloc e22) (Blk.of_new e22) ((Ext.refl no ww20)).size (size_lt_alloc e22)
          obtain ⟨ho24, h⟩ := h
          refine ⟨ho24, ?_⟩
          obtain ⟨a25a, a25n, a25c, ww26, hr, h⟩ := h
          refine ⟨a25a, a25n, a25c, ww26, hr, ?_⟩
          refine elim_some ha4 ?_
          obtain ⟨hcs, h⟩ := h
          refine ⟨hcs, thenW_in fun ww27 e27 => ?_⟩
          replace h := thenW_out h e27
          refine elim_some ha4 ?_
          obtain ⟨Armed29, hc28, h⟩ := h
          refine ⟨Armed29, hc28, ?_⟩
          refine bif_of (fun c30 => ?_) (fun c30 => ?_)
          · have h := h.1 (beq_t c30)
            refine elim_some ha4 ?_
            obtain ⟨hcs, h⟩ := h
            refine ⟨hcs, thenW_in fun ww31 e31 => ?_⟩
            replace h := thenW_out h e31
            refine elim_some ha4 ?_
            obtain ⟨hcs, h⟩ := h
            refine ⟨hcs, thenW_in fun ww32 e32 => ?_⟩
            replace h := thenW_out h e32
            exact h
          · have h := h.2 (beq_f c30)
            refine elim_some ha4 ?_
            obtain ⟨Armed34, hc33, h⟩ := h
            refine ⟨Armed34, hc33, ?_⟩
            refine bif_of (fun c35 => ?_) (fun c35 => ?_)
            · have h := h.1 (of_decide_eq_true c35)
              refine elim_some ha4 ?_
              obtain ⟨Armed37, hc36, h⟩ := h
              refine ⟨Armed37, hc36, ?_⟩
              obtain ⟨hw1, hw2, h⟩ := h
              try rw [w64 hw1 hw2]
              refine elim_some ha4 ?_
              obtain ⟨hcs, h⟩ := h
              refine ⟨hcs, thenW_in fun ww38 e38 => ?_⟩
              replace h := thenW_out h e38
              refine elim_some ha4 ?_
              obtain ⟨Count40, hc39, h⟩ := h
              refine ⟨Count40, hc39, ?_⟩
              obtain ⟨hw1, hw2, h⟩ := h
              try rw [w64 hw1 hw2]
              refine elim_some ha4 ?_
              obtain ⟨hcs, h⟩ := h
              refine ⟨hcs, thenW_in fun ww41 e41 => ?_⟩
              replace h := thenW_out h e41
              exact h
            · have h := h.2 (Int.not_lt.1 (of_decide_eq_false c35))
              refine elim_some ha4 ?_
              obtain ⟨Count43, hc42, h⟩ := h
              refine ⟨Count43, hc42, ?_⟩
              obtain ⟨hw1, hw2, h⟩ := h
              try rw [w64 hw1 hw2]
              refine elim_some ha4 ?_
              obtain ⟨hcs, h⟩ := h
              refine ⟨hcs, thenW_in fun ww44 e44 => ?_⟩
              replace h := thenW_out h e44
              exact h

theorem cachetteref09_Disk_Write.go (d1 : Option Addr) (i2 : Int) (b3a : Option Addr) (b3n : Nat) (b3c : Nat) {R : Value → World → Prop} {w : World} (h : cachetteref09_Disk_Write.N d1 i2 b3a b3n b3c R w) : Calls Try.prog 32 #[.pointer d1, .int .i64 i2, .slice b3a b3n b3c] w fun e w' => ∃ v, e = .returned v ∧ R v w' := cachetteref09_Disk_Write.ok d1 i2 b3a b3n b3c (cachetteref09_Disk_Write.up d1 i2 b3a b3n b3c h)
theorem cachetteref09_Disk_Write.run (d1 : Option Addr) (i2 : Int) (b3a : Option Addr) (b3n : Nat) (b3c : Nat) {V : Value} {Q : World → Prop} {w : World} (h : cachetteref09_Disk_Write.N d1 i2 b3a b3n b3c (fun v w' => v = V ∧ Q w') w) : Calls Try.prog 32 #[.pointer d1, .int .i64 i2, .slice b3a b3n b3c] w (Ret V Q) := (cachetteref09_Disk_Write.go d1 i2 b3a b3n b3c h).mono fun e w' ⟨v, he, hv, hq⟩ => ⟨by rw [he, hv], hq⟩

/-- (*cachetteref09.Disk).Sync -/
def cachetteref09_Disk_Sync.M (d1 : Option Addr) (R : Value → World → Prop) (w : World) : Prop :=
  d1.elim False fun a2 =>
  ∃ (IsDown3 : Bool), w.cell? (a2.add 4) = some (.bool IsDown3) ∧
  bif IsDown3 then (
  R (.int .i64 19) w) else (
  thenW (w.drew) fun ww4 =>
  d1.elim False fun a5 =>
  ∃ (Good6a : Option Addr) (Good6n : Nat) (Good6c : Nat), ww4.cell? (a5.add 1) = some (.slice Good6a Good6n Good6c) ∧
  d1.elim False fun a7 =>
  ∃ (Pend8a : Option Addr) (Pend8n : Nat) (Pend8c : Nat), ww4.cell? (a7.add 2) = some (.slice Pend8a Pend8n Pend8c) ∧
  ∃ (a9a : Option Addr) (a9n : Nat) (a9c : Nat) (ww10 : World), (Builtin.append_ #[49, 49] 49 #[.slice Good6a Good6n Good6c, .slice Pend8a Pend8n Pend8c]).run Try.prog ww4 = .ok (.slice a9a a9n a9c) ww10 ∧
  d1.elim False fun a11 =>
  canStore ww10 ((a11.add 1).add 0) ∧
  thenW (ww10.setCell ((a11.add 1).add 0) (.slice a9a a9n a9c)) fun ww12 =>
  d1.elim False fun a13 =>
  canStore ww12 ((a13.add 2).add 0) ∧
  thenW (ww12.setCell ((a13.add 2).add 0) (.slice none 0 0)) fun ww14 =>
  R (.int .i64 0) ww14)

theorem cachetteref09_Disk_Sync.eq (d1 : Option Addr) (R : Value → World → Prop) (w : World) : mfunc Try.prog [] 33 [.pointer d1] R w = cachetteref09_Disk_Sync.M d1 R w := by kernel_rfl
theorem cachetteref09_Disk_Sync.ok (d1 : Option Addr) {R : Value → World → Prop} {w : World} (h : cachetteref09_Disk_Sync.M d1 R w) : Calls Try.prog 33 #[.pointer d1] w fun e w' => ∃ v, e = .returned v ∧ R v w' :=
  mfunc_ok follows (H := []) (args := [.pointer d1]) (by rw [cachetteref09_Disk_Sync.eq]; exact h)

def cachetteref09_Disk_Sync.N (d1 : Option Addr) (R : Value → World → Prop) (w : World) : Prop :=
  ∃ a2 : Addr, d1 = some a2 ∧
  ∃ (IsDown4 : Bool), w.cell? (a2.add 4) = some (.bool IsDown4) ∧
  (IsDown4 = true →
    R (.int .i64 19) w) ∧
  (IsDown4 = false →
    ∃ (Good8a : Option Addr) (Good8n : Nat) (Good8c : Nat), w.cell? (a2.add 1) = some (.slice Good8a Good8n Good8c) ∧
    ∃ (Pend10a : Option Addr) (Pend10n : Nat) (Pend10c : Nat), w.cell? (a2.add 2) = some (.slice Pend10a Pend10n Pend10c) ∧
    ∀ (ww6 : World), Ext no w ww6 →
    ∃ (a11a : Option Addr) (a11n : Nat) (a11c : Nat) (ww12 : World), (Builtin.append_ #[49, 49] 49 #[.slice Good8a Good8n Good8c, .slice Pend10a Pend10n Pend10c]).run Try.prog ww6 = .ok (.slice a11a a11n a11c) ww12 ∧
    canStore ww12 ((a2.add 1).add 0) ∧
    thenW (ww12.setCell ((a2.add 1).add 0) (.slice a11a a11n a11c)) fun ww13 =>
    canStore ww13 ((a2.add 2).add 0) ∧
    thenW (ww13.setCell ((a2.add 2).add 0) (.slice none 0 0)) fun ww14 =>
    R (.int .i64 0) ww14)

theorem cachetteref09_Disk_Sync.up (d1 : Option Addr) {R : Value → World → Prop} {w : World} (h : cachetteref09_Disk_Sync.N d1 R w) : cachetteref09_Disk_Sync.M d1 R w := by
  unfold cachetteref09_Disk_Sync.M
  unfold cachetteref09_Disk_Sync.N at h
  obtain ⟨a2, ha2, h⟩ := h
  refine elim_some ha2 ?_
  obtain ⟨IsDown4, hc3, h⟩ := h
  refine ⟨IsDown4, hc3, ?_⟩
  refine bif_of (fun c5 => ?_) (fun c5 => ?_)
  · have h := h.1 c5
    exact h
  · have h := h.2 c5
    refine thenW_in fun ww6 e6 => ?_
    have hx6 := (Ext.refl no w).x_drew e6
    refine elim_some ha2 ?_
    obtain ⟨Good8a, Good8n, Good8c, hc7, h⟩ := h
    refine ⟨Good8a, Good8n, Good8c, (hx6).cell hc7 id, ?_⟩
    refine elim_some ha2 ?_
    obtain ⟨Pend10a, Pend10n, Pend10c, hc9, h⟩ := h
    refine ⟨Pend10a, Pend10n, Pend10c, (hx6).cell hc9 id, ?_⟩
    have h := h ww6 hx6
    obtain ⟨a11a, a11n, a11c, ww12, hr, h⟩ := h
    refine ⟨a11a, a11n, a11c, ww12, hr, ?_⟩
    refine elim_some ha2 ?_
    obtain ⟨hcs, h⟩ := h
    refine ⟨hcs, thenW_in fun ww13 e13 => ?_⟩
    replace h := thenW_out h e13
    refine elim_some ha2 ?_
    obtain ⟨hcs, h⟩ := h
    refine ⟨hcs, thenW_in fun ww14 e14 => ?_⟩
    replace h := thenW_out h e14
    exact h

theorem cachetteref09_Disk_Sync.go (d1 : Option Addr) {R : Value → World → Prop} {w : World} (h : cachetteref09_Disk_Sync.N d1 R w) : Calls Try.prog 33 #[.pointer d1] w fun e w' => ∃ v, e = .returned v ∧ R v w' := cachetteref09_Disk_Sync.ok d1 (cachetteref09_Disk_Sync.up d1 h)
theorem cachetteref09_Disk_Sync.run (d1 : Option Addr) {V : Value} {Q : World → Prop} {w : World} (h : cachetteref09_Disk_Sync.N d1 (fun v w' => v = V ∧ Q w') w) : Calls Try.prog 33 #[.pointer d1] w (Ret V Q) := (cachetteref09_Disk_Sync.go d1 h).mono fun e w' ⟨v, he, hv, hq⟩ => ⟨by rw [he, hv], hq⟩

/-- (*cachetteref09.Disk).Arm -/
def cachetteref09_Disk_Arm.M (d1 : Option Addr) (n2 : Int) (R : Value → World → Prop) (w : World) : Prop :=
  d1.elim False fun a3 =>
  ∃ (IsDown4 : Bool), w.cell? (a3.add 4) = some (.bool IsDown4) ∧
  bif IsDown4 then (
  R (.int .i64 19) w) else (
  bif decide (n2 < 0) then (
  R (.int .i64 1) w) else (
  d1.elim False fun a5 =>
  canStore w ((a5.add 3).add 0) ∧
  thenW (w.setCell ((a5.add 3).add 0) (.int .i64 n2)) fun ww6 =>
  R (.int .i64 0) ww6))

theorem cachetteref09_Disk_Arm.eq (d1 : Option Addr) (n2 : Int) (R : Value → World → Prop) (w : World) : mfunc Try.prog [] 34 [.pointer d1, .int .i64 n2] R w = cachetteref09_Disk_Arm.M d1 n2 R w := by kernel_rfl
theorem cachetteref09_Disk_Arm.ok (d1 : Option Addr) (n2 : Int) {R : Value → World → Prop} {w : World} (h : cachetteref09_Disk_Arm.M d1 n2 R w) : Calls Try.prog 34 #[.pointer d1, .int .i64 n2] w fun e w' => ∃ v, e = .returned v ∧ R v w' :=
  mfunc_ok follows (H := []) (args := [.pointer d1, .int .i64 n2]) (by rw [cachetteref09_Disk_Arm.eq]; exact h)

def cachetteref09_Disk_Arm.N (d1 : Option Addr) (n2 : Int) (R : Value → World → Prop) (w : World) : Prop :=
  ∃ a3 : Addr, d1 = some a3 ∧
  ∃ (IsDown5 : Bool), w.cell? (a3.add 4) = some (.bool IsDown5) ∧
  (IsDown5 = true →
    R (.int .i64 19) w) ∧
  (IsDown5 = false →
    (n2 < 0 →
      R (.int .i64 1) w) ∧
    ((0 : Int) ≤ n2 →
      canStore w ((a3.add 3).add 0) ∧
      thenW (w.setCell ((a3.add 3).add 0) (.int .i64 n2)) fun ww8 =>
      R (.int .i64 0) ww8))

theorem cachetteref09_Disk_Arm.up (d1 : Option Addr) (n2 : Int) {R : Value → World → Prop} {w : World} (h : cachetteref09_Disk_Arm.N d1 n2 R w) : cachetteref09_Disk_Arm.M d1 n2 R w := by
  unfold cachetteref09_Disk_Arm.M
  unfold cachetteref09_Disk_Arm.N at h
  obtain ⟨a3, ha3, h⟩ := h
  refine elim_some ha3 ?_
  obtain ⟨IsDown5, hc4, h⟩ := h
  refine ⟨IsDown5, hc4, ?_⟩
  refine bif_of (fun c6 => ?_) (fun c6 => ?_)
  · have h := h.1 c6
    exact h
  · have h := h.2 c6
    refine bif_of (fun c7 => ?_) (fun c7 => ?_)
    · have h := h.1 (of_decide_eq_true c7)
      exact h
    · have h := h.2 (Int.not_lt.1 (of_decide_eq_false c7))
      refine elim_some ha3 ?_
      obtain ⟨hcs, h⟩ := h
      refine ⟨hcs, thenW_in fun ww8 e8 => ?_⟩
      replace h := thenW_out h e8
      exact h

theorem cachetteref09_Disk_Arm.go (d1 : Option Addr) (n2 : Int) {R : Value → World → Prop} {w : World} (h : cachetteref09_Disk_Arm.N d1 n2 R w) : Calls Try.prog 34 #[.pointer d1, .int .i64 n2] w fun e w' => ∃ v, e = .returned v ∧ R v w' := cachetteref09_Disk_Arm.ok d1 n2 (cachetteref09_Disk_Arm.up d1 n2 h)
theorem cachetteref09_Disk_Arm.run (d1 : Option Addr) (n2 : Int) {V : Value} {Q : World → Prop} {w : World} (h : cachetteref09_Disk_Arm.N d1 n2 (fun v w' => v = V ∧ Q w') w) : Calls Try.prog 34 #[.pointer d1, .int .i64 n2] w (Ret V Q) := (cachetteref09_Disk_Arm.go d1 n2 h).mono fun e w' ⟨v, he, hv, hq⟩ => ⟨by rw [he, hv], hq⟩

/-- (*cachetteref09.Disk).Restart -/
def cachetteref09_Disk_Restart.M (d1 : Option Addr) (keep2a : Option Addr) (keep2n : Nat) (keep2c : Nat) (R : Value → World → Prop) (w : World) : Prop :=
  ∃ (I0 : Nat → List Value → World → Prop) (m4 : Nat), I0 m4 [.int .i64 0] w ∧ ∀ (m5 : Nat) (ww6 : World) (i3 : Int), I0 m5 [.int .i64 i3] ww6 →
  d1.elim False fun a7 =>
  ∃ (Pend8a : Option Addr) (Pend8n : Nat) (Pend8c : Nat), ww6.cell? (a7.add 2) = some (.slice Pend8a Pend8n Pend8c) ∧
  bif decide (i3 < (Pend8n : Int)) then (
  bif decide (i3 ≥ (keep2n : Int)) then (
  ∃ m9, m9 < m5 ∧ I0 m9 [.int .i64 (IntKind.i64.wrap (i3 + 1))] ww6) else (
  keep2a.elim False fun a10 =>
  0 ≤ (i3 : Int) ∧ (i3 : Int) < (keep2n : Int) ∧
  ∃ (x11 : Bool), ww6.cell? (a10.add (Int.toNat i3 * 1)) = some (.bool x11) ∧
  bif !x11 then (
  ∃ m12, m12 < m5 ∧ I0 m12 [.int .i64 (IntKind.i64.wrap (i3 + 1))] ww6) else (
  d1.elim False fun a13 =>
  ∃ (Pend14a : Option Addr) (Pend14n : Nat) (Pend14c : Nat), ww6.cell? (a13.add 2) = some (.slice Pend14a Pend14n Pend14c) ∧
  Pend14a.elim False fun a15 =>
  0 ≤ (i3 : Int) ∧ (i3 : Int) < (Pend14n : Int) ∧
  ∃ (xI16 : Int) (xB17a : Option Addr) (xB17n : Nat) (xB17c : Nat) (xTorn18 : Bool), cellsAt ww6 (a15.add (Int.toNat i3 * 3)) [.int .i64 xI16, .slice xB17a xB17n xB17c, .bool xTorn18] 0 ∧
  thenW (ww6.alloc (.cells #[.int .i64 0, .slice none 0 0, .bool false] 71)) fun ww19 =>
  canStore ww19 ((blk ww6.heap.size).add 0) ∧
  thenW (ww19.setCell ((blk ww6.heap.size).add 0) (.int .i64 xI16)) fun ww20 =>
  canStore ww20 ((blk ww6.heap.size).add 1) ∧
  thenW (ww20.setCell ((blk ww6.heap.size).add 1) (.slice xB17a xB17n xB17c)) fun ww21 =>
  canStore ww21 ((blk ww6.heap.size).add 2) ∧
  thenW (ww21.setCell ((blk ww6.heap.size).add 2) (.bool xTorn18)) fun ww22 =>
  d1.elim False fun a23 =>
  ∃ (Midst24 : Bool), ww22.cell? (a23.add 5) = some (.bool Midst24) ∧
  bif Midst24 then (
  d1.elim False fun a25 =>
  ∃ (Pend26a : Option Addr) (Pend26n : Nat) (Pend26c : Nat), ww22.cell? (a25.add 2) = some (.slice Pend26a Pend26n Pend26c) ∧
  canStore ww22 (((blk ww6.heap.size).add 2).add 0) ∧
  thenW (ww22.setCell (((blk ww6.heap.size).add 2).add 0) (.bool (i3 == (IntKind.i64.wrap ((Pend26n : Int) - 1))))) fun ww27 =>
  thenW (ww27.drew) fun ww28 =>
  d1.elim False fun a29 =>
  ∃ (Good30a : Option Addr) (Good30n : Nat) (Good30c : Nat), ww28.cell? (a29.add 1) = some (.slice Good30a Good30n Good30c) ∧
  ∃ (xI31 : Int) (xB32a : Option Addr) (xB32n : Nat) (xB32c : Nat) (xTorn33 : Bool), cellsAt ww28 (blk ww6.heap.size) [.int .i64 xI31, .slice xB32a xB32n xB32c, .bool xTorn33] 0 ∧
  thenW (ww28.alloc (.cells #[.int .i64 xI31, .slice xB32a xB32n xB32c, .bool xTorn33] 71)) fun ww34 =>
  ww34.cell? (a29.add 1) = some (.slice Good30a Good30n Good30c) ∧
  ∃ (a35a : Option Addr) (a35n : Nat) (a35c : Nat) (ww36 : World), (Builtin.append_ #[49, 49] 49 #[.slice Good30a Good30n Good30c, .slice (some (blk ww28.heap.size)) 1 1]).run Try.prog ww34 = .ok (.slice a35a a35n a35c) ww36 ∧
  d1.elim False fun a37 =>
  canStore ww36 ((a37.add 1).add 0) ∧
  thenW (ww36.setCell ((a37.add 1).add 0) (.slice a35a a35n a35c)) fun ww38 =>
  ∃ m39, m39 < m5 ∧ I0 m39 [.int .i64 (IntKind.i64.wrap (i3 + 1))] ww38) else (
  canStore ww22 (((blk ww6.heap.size).add 2).add 0) ∧
  thenW (ww22.setCell (((blk ww6.heap.size).add 2).add 0) (.bool false)) fun ww40 =>
  thenW (ww40.drew) fun ww41 =>
  d1.elim False fun a42 =>
  ∃ (Good43a : Option Addr) (Good43n : Nat) (Good43c : Nat), ww41.cell? (a42.add 1) = some (.slice Good43a Good43n Good43c) ∧
  ∃ (xI44 : Int) (xB45a : Option Addr) (xB45n : Nat) (xB45c : Nat) (xTorn46 : Bool), cellsAt ww41 (blk ww6.heap.size) [.int .i64 xI44, .slice xB45a xB45n xB45c, .bool xTorn46] 0 ∧
  thenW (ww41.alloc (.cells #[.int .i64 xI44, .slice xB45a xB45n xB45c, .bool xTorn46] 71)) fun ww47 =>
  ww47.cell? (a42.add 1) = some (.slice Good43a Good43n Good43c) ∧
  ∃ (a48a : Option Addr) (a48n : Nat) (a48c : Nat) (ww49 : World), (Builtin.append_ #[49, 49] 49 #[.slice Good43a Good43n Good43c, .slice (some (blk ww41.heap.size)) 1 1]).run Try.prog ww47 = .ok (.slice a48a a48n a48c) ww49 ∧
  d1.elim False fun a50 =>
  canStore ww49 ((a50.add 1).add 0) ∧
  thenW (ww49.setCell ((a50.add 1).add 0) (.slice a48a a48n a48c)) fun ww51 =>
  ∃ m52, m52 < m5 ∧ I0 m52 [.int .i64 (IntKind.i64.wrap (i3 + 1))] ww51)))) else (
  d1.elim False fun a53 =>
  canStore ww6 ((a53.add 2).add 0) ∧
  thenW (ww6.setCell ((a53.add 2).add 0) (.slice none 0 0)) fun ww54 =>
  d1.elim False fun a55 =>
  canStore ww54 ((a55.add 3).add 0) ∧
  thenW (ww54.setCell ((a55.add 3).add 0) (.int .i64 (-1))) fun ww56 =>
  d1.elim False fun a57 =>
  canStore ww56 ((a57.add 4).add 0) ∧
  thenW (ww56.setCell ((a57.add 4).add 0) (.bool false)) fun ww58 =>
  d1.elim False fun a59 =>
  canStore ww58 ((a59.add 5).add 0) ∧
  thenW (ww58.setCell ((a59.add 5).add 0) (.bool false)) fun ww60 =>
  R (.tuple #[]) ww60)

theorem cachetteref09_Disk_Restart.eq (d1 : Option Addr) (keep2a : Option Addr) (keep2n : Nat) (keep2c : Nat) (R : Value → World → Prop) (w : World) : mfunc Try.prog [(0, [0, 1], [(4, (.one (.int .i64)))])] 35 [.pointer d1, .slice keep2a keep2n keep2c] R w = cachetteref09_Disk_Restart.M d1 keep2a keep2n keep2c R w := by kernel_rfl
theorem cachetteref09_Disk_Restart.ok (d1 : Option Addr) (keep2a : Option Addr) (keep2n : Nat) (keep2c : Nat) {R : Value → World → Prop} {w : World} (h : cachetteref09_Disk_Restart.M d1 keep2a keep2n keep2c R w) : Calls Try.prog 35 #[.pointer d1, .slice keep2a keep2n keep2c] w fun e w' => ∃ v, e = .returned v ∧ R v w' :=
  mfunc_ok follows (H := [(0, [0, 1], [(4, (.one (.int .i64)))])]) (args := [.pointer d1, .slice keep2a keep2n keep2c]) (by rw [cachetteref09_Disk_Restart.eq]; exact h)

def cachetteref09_Disk_Restart.N (d1 : Option Addr) (keep2a : Option Addr) (keep2n : Nat) (keep2c : Nat) (R : Value → World → Prop) (w : World) : Prop :=
  ∃ (I0 : Nat → List Value → World → Prop) (m4 : Nat), I0 m4 [.int .i64 0] w ∧ ∀ (m5 : Nat) (ww6 : World) (i3 : Int), I0 m5 [.int .i64 i3] ww6 →
  ∃ a7 : Addr, d1 = some a7 ∧
  ∃ (Pend9a : Option Addr) (Pend9n : Nat) (Pend9c : Nat), ww6.cell? (a7.add 2) = some (.slice Pend9a Pend9n Pend9c) ∧
  (i3 < (Pend9n : Int) →
    (i3 ≥ (keep2n : Int) →
      (-9223372036854775808 : Int) ≤ (i3 + 1) ∧ (i3 + 1) < 9223372036854775808 ∧
      ∃ m12, m12 < m5 ∧ I0 m12 [.int .i64 (i3 + 1)] ww6) ∧
    (i3 < (keep2n : Int) →
      ∃ a13 : Addr, keep2a = some a13 ∧
      0 ≤ (i3 : Int) ∧ (i3 : Int) < (keep2n : Int) ∧
      ∃ (x15 : Bool), ww6.cell? (a13.add (Int.toNat i3 * 1)) = some (.bool x15) ∧
      (x15 = false →
        (-9223372036854775808 : Int) ≤ (i3 + 1) ∧ (i3 + 1) < 9223372036854775808 ∧
        ∃ m17, m17 < m5 ∧ I0 m17 [.int .i64 (i3 + 1)] ww6) ∧
      (x15 = true →
        ∃ (Pend19a : Option Addr) (Pend19n : Nat) (Pend19c : Nat), ww6.cell? (a7.add 2) = some (.slice Pend19a Pend19n Pend19c) ∧
        ∃ a20 : Addr, Pend19a = some a20 ∧
        0 ≤ (i3 : Int) ∧ (i3 : Int) < (Pend19n : Int) ∧
        ∃ (xI22 : Int) (xB23a : Option Addr) (xB23n : Nat) (xB23c : Nat) (xTorn24 : Bool), cellsAt ww6 (a20.add (Int.toNat i3 * 3)) [.int .i64 xI22, .slice xB23a xB23n xB23c, .bool xTorn24] 0 ∧
        ∃ (Midst30 : Bool), ww6.cell? (a7.add 5) = some (.bool Midst30) ∧
        (Midst30 = true →
          ∃ (Pend33a : Option Addr) (Pend33n : Nat) (Pend33c : Nat), ww6.cell? (a7.add 2) = some (.slice Pend33a Pend33n Pend33c) ∧
          (-9223372036854775808 : Int) ≤ ((Pend33n : Int) - 1) ∧ ((Pend33n : Int) - 1) < 9223372036854775808 ∧
          ∃ (Good37a : Option Addr) (Good37n : Nat) (Good37c : Nat), ww6.cell? (a7.add 1) = some (.slice Good37a Good37n Good37c) ∧
          ∀ (ww38 : World) (q39 : Nat), Ext no ww6 ww38 → Blk ww38 q39 71 [.int .i64 xI22, .slice xB23a xB23n xB23c, .bool (i3 == ((Pend33n : Int) - 1))] → ww6.heap.size ≤ q39 → q39 < ww38.heap.size →
          ww38.cell? (a7.add 1) = some (.slice Good37a Good37n Good37c) ∧
          ∃ (a42a : Option Addr) (a42n : Nat) (a42c : Nat) (ww43 : World), (Builtin.append_ #[49, 49] 49 #[.slice Good37a Good37n Good37c, .slice (some (blk q39)) 1 1]).run Try.prog ww38 = .ok (.slice a42a a42n a42c) ww43 ∧
          canStore ww43 ((a7.add 1).add 0) ∧
          thenW (ww43.setCell ((a7.add 1).add 0) (.slice a42a a42n a42c)) fun ww44 =>
          (-9223372036854775808 : Int) ≤ (i3 + 1) ∧ (i3 + 1) < 9223372036854775808 ∧
          ∃ m45, m45 < m5 ∧ I0 m45 [.int .i64 (i3 + 1)] ww44) ∧
        (Midst30 = false →
          ∃ (Good49a : Option Addr) (Good49n : Nat) (Good49c : Nat), ww6.cell? (a7.add 1) = some (.slice Good49a Good49n Good49c) ∧
          ∀ (ww50 : World) (q51 : Nat), Ext no ww6 ww50 → Blk ww50 q51 71 [.int .i64 xI22, .slice xB23a xB23n xB23c, .bool false] → ww6.heap.size ≤ q51 → q51 < ww50.heap.size →
          ww50.cell? (a7.add 1) = some (.slice Good49a Good49n Good49c) ∧
          ∃ (a54a : Option Addr) (a54n : Nat) (a54c : Nat) (ww55 : World), (Builtin.append_ #[49, 49] 49 #[.slice Good49a Good49n Good49c, .slice (some (blk q51)) 1 1]).run Try.prog ww50 = .ok (.slice a54a a54n a54c) ww55 ∧
          canStore ww55 ((a7.add 1).add 0) ∧
          thenW (ww55.setCell ((a7.add 1).add 0) (.slice a54a a54n a54c)) fun ww56 =>
          (-9223372036854775808 : Int) ≤ (i3 + 1) ∧ (i3 + 1) < 9223372036854775808 ∧
          ∃ m57, m57 < m5 ∧ I0 m57 [.int .i64 (i3 + 1)] ww56)))) ∧
  ((Pend9n : Int) ≤ i3 →
    canStore ww6 ((a7.add 2).add 0) ∧
    thenW (ww6.setCell ((a7.add 2).add 0) (.slice none 0 0)) fun ww58 =>
    canStore ww58 ((a7.add 3).add 0) ∧
    thenW (ww58.setCell ((a7.add 3).add 0) (.int .i64 (-1))) fun ww59 =>
    canStore ww59 ((a7.add 4).add 0) ∧
    thenW (ww59.setCell ((a7.add 4).add 0) (.bool false)) fun ww60 =>
    canStore ww60 ((a7.add 5).add 0) ∧
    thenW (ww60.setCell ((a7.add 5).add 0) (.bool false)) fun ww61 =>
    R (.tuple #[]) ww61)

theorem cachetteref09_Disk_Restart.up (d1 : Option Addr) (keep2a : Option Addr) (keep2n : Nat) (keep2c : Nat) {R : Value → World → Prop} {w : World} (h : cachetteref09_Disk_Restart.N d1 keep2a keep2n keep2c R w) : cachetteref09_Disk_Restart.M d1 keep2a keep2n keep2c R w := by
  unfold cachetteref09_Disk_Restart.M
  unfold cachetteref09_Disk_Restart.N at h
  obtain ⟨I0, m4, h0, h⟩ := h
  refine ⟨I0, m4, h0, fun m5 ww6 i3 hI => ?_⟩
  have h := h m5 ww6 i3 hI
  obtain ⟨a7, ha7, h⟩ := h
  refine elim_some ha7 ?_
  obtain ⟨Pend9a, Pend9n, Pend9c, hc8, h⟩ := h
  refine ⟨Pend9a, Pend9n, Pend9c, hc8, ?_⟩
  refine bif_of (fun c10 => ?_) (fun c10 => ?_)
  · have h := h.1 (of_decide_eq_true c10)
    refine bif_of (fun c11 => ?_) (fun c11 => ?_)
    · have h := h.1 (of_decide_eq_true c11)
      obtain ⟨hw1, hw2, h⟩ := h
      try rw [w64 hw1 hw2]
      obtain ⟨m12, hk, h⟩ := h
      exact ⟨m12, hk, h⟩
    · have h := h.2 (Int.not_le.1 (of_decide_eq_false c11))
      obtain ⟨a13, ha13, h⟩ := h
      refine elim_some ha13 ?_
      obtain ⟨hq1, hq2, h⟩ := h
      refine ⟨hq1, hq2, ?_⟩
      obtain ⟨x15, hc14, h⟩ := h
      refine ⟨x15, hc14, ?_⟩
      refine bif_of (fun c16 => ?_) (fun c16 => ?_)
      · have h := h.1 (not_t c16)
        obtain ⟨hw1, hw2, h⟩ := h
        try rw [w64 hw1 hw2]
        obtain ⟨m17, hk, h⟩ := h
        exact ⟨m17, hk, h⟩
      · have h := h.2 (not_f c16)
        refine elim_some ha7 ?_
        obtain ⟨Pend19a, Pend19n, Pend19c, hc18, h⟩ := h
        refine ⟨Pend19a, Pend19n, Pend19c, hc18, ?_⟩
        obtain ⟨a20, ha20, h⟩ := h
        refine elim_some ha20 ?_
        obtain ⟨hq1, hq2, h⟩ := h
        refine ⟨hq1, hq2, ?_⟩
        obtain ⟨xI22, xB23a, xB23n, xB23c, xTorn24, hc21, h⟩ := h
        refine ⟨xI22, xB23a, xB23n, xB23c, xTorn24, hc21, ?_⟩
        refine thenW_in fun ww25 e25 => ?_
        have hb1 := Blk.of_new e25
        have hg1 := ((Ext.refl no ww6)).size
        have hx25 := (Ext.refl no ww6).x_alloc e25
        refine ⟨hb1.cani 0 rfl rfl, thenW_in fun ww26 e26 => ?_⟩
        have hx26 := hx25.x_set (q := ww6.heap.size) (i := 0) rfl (.inr hg1) e26
        have hb1 := hb1.seti 0 rfl e26
        refine ⟨hb1.cani 1 rfl rfl, thenW_in fun ww27 e27 => ?_⟩
        have hx27 := hx26.x_set (q := ww6.heap.size) (i := 1) rfl (.inr hg1) e27
        have hb1 := hb1.seti 1 rfl e27
        refine ⟨hb1.cani 2 rfl rfl, thenW_in fun ww28 e28 => ?_⟩
        have hx28 := hx27.x_set (q := ww6.heap.size) (i := 2) rfl (.inr hg1) e28
        have hb1 := hb1.seti 2 rfl e28
        refine elim_some ha7 ?_
        obtain ⟨Midst30, hc29, h⟩ := h
        refine ⟨Midst30, (hx28).cell hc29 id, ?_⟩
        refine bif_of (fun c31 => ?_) (fun c31 => ?_)
        · have h := h.1 c31
          refine elim_some ha7 ?_
          obtain ⟨Pend33a, Pend33n, Pend33c, hc32, h⟩ := h
          refine ⟨Pend33a, Pend33n, Pend33c, (hx28).cell hc32 id, ?_⟩
          obtain ⟨hw1, hw2, h⟩ := h
          try rw [w64 hw1 hw2]
          refine ⟨hb1.cani 2 rfl rfl, thenW_in fun ww34 e34 => ?_⟩
          have hx34 := hx28.x_set (q := ww6.heap.size) (i := 2) rfl (.inr hg1) e34
          have hb1 := hb1.seti 2 rfl e34
          refine thenW_in fun ww35 e35 => ?_
          have hx35 := hx34.x_drew e35
          have hb1 := hb1.x_drew e35
          refine elim_some ha7 ?_
          obtain ⟨Good37a, Good37n, Good37c, hc36, h⟩ := h
          refine ⟨Good37a, Good37n, Good37c, (hx35).cell hc36 id, ?_⟩
          refine ⟨xI22, xB23a, xB23n, xB23c, (i3 == ((Pend33n : Int) - 1)), ⟨hb1.celli 0 rfl rfl, hb1.celli 1 rfl rfl, hb1.celli 2 rfl rfl, trivial⟩, ?_⟩
          refine thenW_in fun ww38 e38 => ?_
          have h := h ww38 ww35.heap.size (hx35.x_alloc e38) (Blk.of_new e38) (hx35).size (size_lt_alloc e38)
          obtain ⟨ho41, h⟩ := h
          refine ⟨ho41, ?_⟩
          obtain ⟨a42a, a42n, a42c, ww43, hr, h⟩ := h
          refine ⟨a42a, a42n, a42c, ww43, hr, ?_⟩
          refine elim_some ha7 ?_
          obtain ⟨hcs, h⟩ := h
          refine ⟨hcs, thenW_in fun ww44 e44 => ?_⟩
          replace h := thenW_out h e44
          obtain ⟨hw1, hw2, h⟩ := h
          try rw [w64 hw1 hw2]
          obtain ⟨m45, hk, h⟩ := h
          exact ⟨m45, hk, h⟩
        · have h := h.2 c31
          refine ⟨hb1.cani 2 rfl rfl, thenW_in fun ww46 e46 => ?_⟩
          have hx46 := hx28.x_set (q := ww6.heap.size) (i := 2) rfl (.inr hg1) e46
          have hb1 := hb1.seti 2 rfl e46
          refine thenW_in fun ww47 e47 => ?_
          have hx47 := hx46.x_drew e47
          have hb1 := hb1.x_drew e47
          refine elim_some ha7 ?_
          obtain ⟨Good49a, Good49n, Good49c, hc48, h⟩ := h
          refine ⟨Good49a, Good49n, Good49c, (hx47).cell hc48 id, ?_⟩
          refine ⟨xI22, xB23a, xB23n, xB23c, false, ⟨hb1.celli 0 rfl rfl, hb1.celli 1 rfl rfl, hb1.celli 2 rfl rfl, trivial⟩, ?_⟩
          refine thenW_in fun ww50 e50 => ?_
          have h := h ww50 ww47.heap.size (hx47.x_alloc e50) (Blk.of_new e50) (hx47).size (size_lt_alloc e50)
          obtain ⟨ho53, h⟩ := h
          refine ⟨ho53, ?_⟩
          obtain ⟨a54a, a54n, a54c, ww55, hr, h⟩ := h
          refine ⟨a54a, a54n, a54c, ww55, hr, ?_⟩
          refine elim_some ha7 ?_
          obtain ⟨hcs, h⟩ := h
          refine ⟨hcs, thenW_in fun ww56 e56 => ?_⟩
          replace h := thenW_out h e56
          obtain ⟨hw1, hw2, h⟩ := h
          try rw [w64 hw1 hw2]
          obtain ⟨m57, hk, h⟩ := h
          exact ⟨m57, hk, h⟩
  · have h := h.2 (Int.not_lt.1 (of_decide_eq_false c10))
    refine elim_some ha7 ?_
    obtain ⟨hcs, h⟩ := h
    refine ⟨hcs, thenW_in fun ww58 e58 => ?_⟩
    replace h := thenW_out h e58
    refine elim_some ha7 ?_
    obtain ⟨hcs, h⟩ := h
    refine ⟨hcs, thenW_in fun ww59 e59 => ?_⟩
    replace h := thenW_out h e59
    refine elim_some ha7 ?_
    obtain ⟨hcs, h⟩ := h
    refine ⟨hcs, thenW_in fun ww60 e60 => ?_⟩
    replace h := thenW_out h e60
    refine elim_some ha7 ?_
    obtain ⟨hcs, h⟩ := h
    refine ⟨hcs, thenW_in fun ww61 e61 => ?_⟩
    replace h := thenW_out h e61
    exact h

theorem cachetteref09_Disk_Restart.go (d1 : Option Addr) (keep2a : Option Addr) (keep2n : Nat) (keep2c : Nat) {R : Value → World → Prop} {w : World} (h : cachetteref09_Disk_Restart.N d1 keep2a keep2n keep2c R w) : Calls Try.prog 35 #[.pointer d1, .slice keep2a keep2n keep2c] w fun e w' => ∃ v, e = .returned v ∧ R v w' := cachetteref09_Disk_Restart.ok d1 keep2a keep2n keep2c (cachetteref09_Disk_Restart.up d1 keep2a keep2n keep2c h)
theorem cachetteref09_Disk_Restart.run (d1 : Option Addr) (keep2a : Option Addr) (keep2n : Nat) (keep2c : Nat) {V : Value} {Q : World → Prop} {w : World} (h : cachetteref09_Disk_Restart.N d1 keep2a keep2n keep2c (fun v w' => v = V ∧ Q w') w) : Calls Try.prog 35 #[.pointer d1, .slice keep2a keep2n keep2c] w (Ret V Q) := (cachetteref09_Disk_Restart.go d1 keep2a keep2n keep2c h).mono fun e w' ⟨v, he, hv, hq⟩ => ⟨by rw [he, hv], hq⟩

/-- cachettelaw09.Sector -/
def cachettelaw09_Sector.M (byv1 : Int) (short2 : Bool) (R : Value → World → Prop) (w : World) : Prop :=
  bif short2 then (
  ∃ (m3a : Option Addr) (m3n : Nat) (m3c : Nat) (ww4 : World), (Instr.makeSlice 33 (.int .i64 (IntKind.i64.wrap ((64 : Int) - 1))) (.int .i64 (IntKind.i64.wrap ((64 : Int) - 1)))).run Try.prog w = .ok (.slice m3a m3n m3c) ww4 ∧
  ∃ (I0 : Nat → List Value → World → Prop) (m6 : Nat), I0 m6 [.int .i64 0] ww4 ∧ ∀ (m7 : Nat) (ww8 : World) (i5 : Int), I0 m7 [.int .i64 i5] ww8 →
  bif decide (i5 < (IntKind.i64.wrap ((64 : Int) - 1))) then (
  m3a.elim False fun a9 =>
  0 ≤ (i5 : Int) ∧ (i5 : Int) < (m3n : Int) ∧
  canStore ww8 ((a9.add (Int.toNat i5 * 1)).add 0) ∧
  thenW (ww8.setCell ((a9.add (Int.toNat i5 * 1)).add 0) (.int .u8 byv1)) fun ww10 =>
  ∃ m11, m11 < m7 ∧ I0 m11 [.int .i64 (IntKind.i64.wrap (i5 + 1))] ww10) else (
  R (.slice m3a m3n m3c) ww8)) else (
  ∃ (m12a : Option Addr) (m12n : Nat) (m12c : Nat) (ww13 : World), (Instr.makeSlice 33 (.int .i64 64) (.int .i64 64)).run Try.prog w = .ok (.slice m12a m12n m12c) ww13 ∧
  ∃ (I0 : Nat → List Value → World → Prop) (m15 : Nat), I0 m15 [.int .i64 0] ww13 ∧ ∀ (m16 : Nat) (ww17 : World) (i14 : Int), I0 m16 [.int .i64 i14] ww17 →
  bif decide (i14 < 64) then (
  m12a.elim False fun a18 =>
  0 ≤ (i14 : Int) ∧ (i14 : Int) < (m12n : Int) ∧
  canStore ww17 ((a18.add (Int.toNat i14 * 1)).add 0) ∧
  thenW (ww17.setCell ((a18.add (Int.toNat i14 * 1)).add 0) (.int .u8 byv1)) fun ww19 =>
  ∃ m20, m20 < m16 ∧ I0 m20 [.int .i64 (IntKind.i64.wrap (i14 + 1))] ww19) else (
  R (.slice m12a m12n m12c) ww17))

theorem cachettelaw09_Sector.eq (byv1 : Int) (short2 : Bool) (R : Value → World → Prop) (w : World) : mfunc Try.prog [(0, [0, 5, 6], [(7, (.one (.int .i64)))])] 11 [.int .u8 byv1, .bool short2] R w = cachettelaw09_Sector.M byv1 short2 R w := by kernel_rfl
theorem cachettelaw09_Sector.ok (byv1 : Int) (short2 : Bool) {R : Value → World → Prop} {w : World} (h : cachettelaw09_Sector.M byv1 short2 R w) : Calls Try.prog 11 #[.int .u8 byv1, .bool short2] w fun e w' => ∃ v, e = .returned v ∧ R v w' :=
  mfunc_ok follows (H := [(0, [0, 5, 6], [(7, (.one (.int .i64)))])]) (args := [.int .u8 byv1, .bool short2]) (by rw [cachettelaw09_Sector.eq]; exact h)

def cachettelaw09_Sector.N (byv1 : Int) (short2 : Bool) (R : Value → World → Prop) (w : World) : Prop :=
  (short2 = true →
    (-9223372036854775808 : Int) ≤ ((64 : Int) - 1) ∧ ((64 : Int) - 1) < 9223372036854775808 ∧
    ∃ (m4a : Option Addr) (m4n : Nat) (m4c : Nat) (ww5 : World), (Instr.makeSlice 33 (.int .i64 ((64 : Int) - 1)) (.int .i64 ((64 : Int) - 1))).run Try.prog w = .ok (.slice m4a m4n m4c) ww5 ∧
    ∃ (I0 : Nat → List Value → World → Prop) (m7 : Nat), I0 m7 [.int .i64 0] ww5 ∧ ∀ (m8 : Nat) (ww9 : World) (i6 : Int), I0 m8 [.int .i64 i6] ww9 →
    (i6 < ((64 : Int) - 1) →
      ∃ a11 : Addr, m4a = some a11 ∧
      0 ≤ (i6 : Int) ∧ (i6 : Int) < (m4n : Int) ∧
      canStore ww9 ((a11.add (Int.toNat i6 * 1)).add 0) ∧
      thenW (ww9.setCell ((a11.add (Int.toNat i6 * 1)).add 0) (.int .u8 byv1)) fun ww12 =>
      (-9223372036854775808 : Int) ≤ (i6 + 1) ∧ (i6 + 1) < 9223372036854775808 ∧
      ∃ m13, m13 < m8 ∧ I0 m13 [.int .i64 (i6 + 1)] ww12) ∧
    (((64 : Int) - 1) ≤ i6 →
      R (.slice m4a m4n m4c) ww9)) ∧
  (short2 = false →
    ∃ (m14a : Option Addr) (m14n : Nat) (m14c : Nat) (ww15 : World), (Instr.makeSlice 33 (.int .i64 64) (.int .i64 64)).run Try.prog w = .ok (.slice m14a m14n m14c) ww15 ∧
    ∃ (I0 : Nat → List Value → World → Prop) (m17 : Nat), I0 m17 [.int .i64 0] ww15 ∧ ∀ (m18 : Nat) (ww19 : World) (i16 : Int), I0 m18 [.int .i64 i16] ww19 →
    (i16 < 64 →
      ∃ a21 : Addr, m14a = some a21 ∧
      0 ≤ (i16 : Int) ∧ (i16 : Int) < (m14n : Int) ∧
      canStore ww19 ((a21.add (Int.toNat i16 * 1)).add 0) ∧
      thenW (ww19.setCell ((a21.add (Int.toNat i16 * 1)).add 0) (.int .u8 byv1)) fun ww22 =>
      (-9223372036854775808 : Int) ≤ (i16 + 1) ∧ (i16 + 1) < 9223372036854775808 ∧
      ∃ m23, m23 < m18 ∧ I0 m23 [.int .i64 (i16 + 1)] ww22) ∧
    ((64 : Int) ≤ i16 →
      R (.slice m14a m14n m14c) ww19))

theorem cachettelaw09_Sector.up (byv1 : Int) (short2 : Bool) {R : Value → World → Prop} {w : World} (h : cachettelaw09_Sector.N byv1 short2 R w) : cachettelaw09_Sector.M byv1 short2 R w := by
  unfold cachettelaw09_Sector.M
  unfold cachettelaw09_Sector.N at h
  refine bif_of (fun c3 => ?_) (fun c3 => ?_)
  · have h := h.1 c3
    obtain ⟨hw1, hw2, h⟩ := h
    try rw [w64 hw1 hw2]
    obtain ⟨m4a, m4n, m4c, ww5, hr, h⟩ := h
    refine ⟨m4a, m4n, m4c, ww5, hr, ?_⟩
    obtain ⟨I0, m7, h0, h⟩ := h
    refine ⟨I0, m7, h0, fun m8 ww9 i6 hI => ?_⟩
    have h := h m8 ww9 i6 hI
    refine bif_of (fun c10 => ?_) (fun c10 => ?_)
    · have h := h.1 (of_decide_eq_true c10)
      obtain ⟨a11, ha11, h⟩ := h
      refine elim_some ha11 ?_
      obtain ⟨hq1, hq2, h⟩ := h
      refine ⟨hq1, hq2, ?_⟩
      obtain ⟨hcs, h⟩ := h
      refine ⟨hcs, thenW_in fun ww12 e12 => ?_⟩
      replace h := thenW_out h e12
      obtain ⟨hw1, hw2, h⟩ := h
      try rw [w64 hw1 hw2]
      obtain ⟨m13, hk, h⟩ := h
      exact ⟨m13, hk, h⟩
    · have h := h.2 (Int.not_lt.1 (of_decide_eq_false c10))
      exact h
  · have h := h.2 c3
    obtain ⟨m14a, m14n, m14c, ww15, hr, h⟩ := h
    refine ⟨m14a, m14n, m14c, ww15, hr, ?_⟩
    obtain ⟨I0, m17, h0, h⟩ := h
    refine ⟨I0, m17, h0, fun m18 ww19 i16 hI => ?_⟩
    have h := h m18 ww19 i16 hI
    refine bif_of (fun c20 => ?_) (fun c20 => ?_)
    · have h := h.1 (of_decide_eq_true c20)
      obtain ⟨a21, ha21, h⟩ := h
      refine elim_some ha21 ?_
      obtain ⟨hq1, hq2, h⟩ := h
      refine ⟨hq1, hq2, ?_⟩
      obtain ⟨hcs, h⟩ := h
      refine ⟨hcs, thenW_in fun ww22 e22 => ?_⟩
      replace h := thenW_out h e22
      obtain ⟨hw1, hw2, h⟩ := h
      try rw [w64 hw1 hw2]
      obtain ⟨m23, hk, h⟩ := h
      exact ⟨m23, hk, h⟩
    · have h := h.2 (Int.not_lt.1 (of_decide_eq_false c20))
      exact h

theorem cachettelaw09_Sector.go (byv1 : Int) (short2 : Bool) {R : Value → World → Prop} {w : World} (h : cachettelaw09_Sector.N byv1 short2 R w) : Calls Try.prog 11 #[.int .u8 byv1, .bool short2] w fun e w' => ∃ v, e = .returned v ∧ R v w' := cachettelaw09_Sector.ok byv1 short2 (cachettelaw09_Sector.up byv1 short2 h)
theorem cachettelaw09_Sector.run (byv1 : Int) (short2 : Bool) {V : Value} {Q : World → Prop} {w : World} (h : cachettelaw09_Sector.N byv1 short2 (fun v w' => v = V ∧ Q w') w) : Calls Try.prog 11 #[.int .u8 byv1, .bool short2] w (Ret V Q) := (cachettelaw09_Sector.go byv1 short2 h).mono fun e w' ⟨v, he, hv, hq⟩ => ⟨by rw [he, hv], hq⟩

/-- cachettelaw09.light -/
def cachettelaw09_light.M (l1a : Option Addr) (l1n : Nat) (l1c : Nat) (R : Value → World → Prop) (w : World) : Prop :=
  bif decide ((l1n : Int) > 60) then (
  R (.bool false) w) else (
  ∃ (I0 : Nat → List Value → World → Prop) (m3 : Nat), I0 m3 [.int .i64 0] w ∧ ∀ (m4 : Nat) (ww5 : World) (i2 : Int), I0 m4 [.int .i64 i2] ww5 →
  bif decide (i2 < (l1n : Int)) then (
  l1a.elim False fun a6 =>
  0 ≤ (i2 : Int) ∧ (i2 : Int) < (l1n : Int) ∧
  ∃ (Keep7a : Option Addr) (Keep7n : Nat) (Keep7c : Nat), ww5.cell? ((a6.add (Int.toNat i2 * 5)).add 4) = some (.slice Keep7a Keep7n Keep7c) ∧
  bif decide ((Keep7n : Int) > 60) then (
  R (.bool false) ww5) else (
  ∃ m8, m8 < m4 ∧ I0 m8 [.int .i64 (IntKind.i64.wrap (i2 + 1))] ww5)) else (
  R (.bool true) ww5))

theorem cachettelaw09_light.eq (l1a : Option Addr) (l1n : Nat) (l1c : Nat) (R : Value → World → Prop) (w : World) : mfunc Try.prog [(0, [0], [(3, (.one (.int .i64)))])] 7 [.slice l1a l1n l1c] R w = cachettelaw09_light.M l1a l1n l1c R w := by kernel_rfl
theorem cachettelaw09_light.ok (l1a : Option Addr) (l1n : Nat) (l1c : Nat) {R : Value → World → Prop} {w : World} (h : cachettelaw09_light.M l1a l1n l1c R w) : Calls Try.prog 7 #[.slice l1a l1n l1c] w fun e w' => ∃ v, e = .returned v ∧ R v w' :=
  mfunc_ok follows (H := [(0, [0], [(3, (.one (.int .i64)))])]) (args := [.slice l1a l1n l1c]) (by rw [cachettelaw09_light.eq]; exact h)

def cachettelaw09_light.N (l1a : Option Addr) (l1n : Nat) (l1c : Nat) (R : Value → World → Prop) (w : World) : Prop :=
  ((l1n : Int) > 60 →
    R (.bool false) w) ∧
  ((l1n : Int) ≤ 60 →
    ∃ (I0 : Nat → List Value → World → Prop) (m4 : Nat), I0 m4 [.int .i64 0] w ∧ ∀ (m5 : Nat) (ww6 : World) (i3 : Int), I0 m5 [.int .i64 i3] ww6 →
    (i3 < (l1n : Int) →
      ∃ a8 : Addr, l1a = some a8 ∧
      0 ≤ (i3 : Int) ∧ (i3 : Int) < (l1n : Int) ∧
      ∃ (Keep10a : Option Addr) (Keep10n : Nat) (Keep10c : Nat), ww6.cell? ((a8.add (Int.toNat i3 * 5)).add 4) = some (.slice Keep10a Keep10n Keep10c) ∧
      ((Keep10n : Int) > 60 →
        R (.bool false) ww6) ∧
      ((Keep10n : Int) ≤ 60 →
        (-9223372036854775808 : Int) ≤ (i3 + 1) ∧ (i3 + 1) < 9223372036854775808 ∧
        ∃ m12, m12 < m5 ∧ I0 m12 [.int .i64 (i3 + 1)] ww6)) ∧
    ((l1n : Int) ≤ i3 →
      R (.bool true) ww6))

theorem cachettelaw09_light.up (l1a : Option Addr) (l1n : Nat) (l1c : Nat) {R : Value → World → Prop} {w : World} (h : cachettelaw09_light.N l1a l1n l1c R w) : cachettelaw09_light.M l1a l1n l1c R w := by
  unfold cachettelaw09_light.M
  unfold cachettelaw09_light.N at h
  refine bif_of (fun c2 => ?_) (fun c2 => ?_)
  · have h := h.1 (of_decide_eq_true c2)
    exact h
  · have h := h.2 (Int.not_lt.1 (of_decide_eq_false c2))
    obtain ⟨I0, m4, h0, h⟩ := h
    refine ⟨I0, m4, h0, fun m5 ww6 i3 hI => ?_⟩
    have h := h m5 ww6 i3 hI
    refine bif_of (fun c7 => ?_) (fun c7 => ?_)
    · have h := h.1 (of_decide_eq_true c7)
      obtain ⟨a8, ha8, h⟩ := h
      refine elim_some ha8 ?_
      obtain ⟨hq1, hq2, h⟩ := h
      refine ⟨hq1, hq2, ?_⟩
      obtain ⟨Keep10a, Keep10n, Keep10c, hc9, h⟩ := h
      refine ⟨Keep10a, Keep10n, Keep10c, hc9, ?_⟩
      refine bif_of (fun c11 => ?_) (fun c11 => ?_)
      · have h := h.1 (of_decide_eq_true c11)
        exact h
      · have h := h.2 (Int.not_lt.1 (of_decide_eq_false c11))
        obtain ⟨hw1, hw2, h⟩ := h
        try rw [w64 hw1 hw2]
        obtain ⟨m12, hk, h⟩ := h
        exact ⟨m12, hk, h⟩
    · have h := h.2 (Int.not_lt.1 (of_decide_eq_false c7))
      exact h

theorem cachettelaw09_light.go (l1a : Option Addr) (l1n : Nat) (l1c : Nat) {R : Value → World → Prop} {w : World} (h : cachettelaw09_light.N l1a l1n l1c R w) : Calls Try.prog 7 #[.slice l1a l1n l1c] w fun e w' => ∃ v, e = .returned v ∧ R v w' := cachettelaw09_light.ok l1a l1n l1c (cachettelaw09_light.up l1a l1n l1c h)
theorem cachettelaw09_light.run (l1a : Option Addr) (l1n : Nat) (l1c : Nat) {V : Value} {Q : World → Prop} {w : World} (h : cachettelaw09_light.N l1a l1n l1c (fun v w' => v = V ∧ Q w') w) : Calls Try.prog 7 #[.slice l1a l1n l1c] w (Ret V Q) := (cachettelaw09_light.go l1a l1n l1c h).mono fun e w' ⟨v, he, hv, hq⟩ => ⟨by rw [he, hv], hq⟩

/-- cachettelaw09.alive -/
def cachettelaw09_alive.M  (R : Value → World → Prop) (w : World) : Prop :=
  Calls Try.prog 9 #[.int .i64 2] w fun ee3 ww4 => ∃ (new1 : Option Addr) (new2 : Int), ee3 = .returned (.tuple #[.pointer new1, .int .i64 new2]) ∧
  Calls Try.prog 11 #[.int .u8 1, .bool false] ww4 fun ee6 ww7 => ∃ (sector5a : Option Addr) (sector5n : Nat) (sector5c : Nat), ee6 = .returned (.slice sector5a sector5n sector5c) ∧
  Calls Try.prog 10 #[.pointer new1, .int .i64 0, .slice sector5a sector5n sector5c] ww7 fun ee9 ww10 => ∃ (write8 : Int), ee9 = .returned (.int .i64 write8) ∧
  Calls Try.prog 12 #[.pointer new1] ww10 fun ee12 ww13 => ∃ (sync11 : Int), ee12 = .returned (.int .i64 sync11) ∧
  Calls Try.prog 11 #[.int .u8 2, .bool false] ww13 fun ee15 ww16 => ∃ (sector14a : Option Addr) (sector14n : Nat) (sector14c : Nat), ee15 = .returned (.slice sector14a sector14n sector14c) ∧
  Calls Try.prog 10 #[.pointer new1, .int .i64 0, .slice sector14a sector14n sector14c] ww16 fun ee18 ww19 => ∃ (write17 : Int), ee18 = .returned (.int .i64 write17) ∧
  thenW (ww19.alloc (.cells #[.bool false] 4)) fun ww20 =>
  Calls Try.prog 15 #[.pointer new1, .slice (some (blk ww19.heap.size)) 1 1] ww20 fun ee22 ww23 => ∃ (restart21 : Int), ee22 = .returned (.int .i64 restart21) ∧
  Calls Try.prog 16 #[.pointer new1, .int .i64 0] ww23 fun ee26 ww27 => ∃ (read24a : Option Addr) (read24n : Nat) (read24c : Nat) (read25 : Int), ee26 = .returned (.tuple #[.slice read24a read24n read24c, .int .i64 read25]) ∧
  bif new2 == 0 then (
  bif read25 == 0 then (
  bif (read24n : Int) == 64 then (
  read24a.elim False fun a28 =>
  0 ≤ (0 : Int) ∧ (0 : Int) < (read24n : Int) ∧
  ∃ (x29 : Int), ww27.cell? (a28.add (Int.toNat 0 * 1)) = some (.int .u8 x29) ∧
  R (.bool (x29 == 1)) ww27) else (
  R (.bool false) ww27)) else (
  R (.bool false) ww27)) else (
  R (.bool false) ww27)

theorem cachettelaw09_alive.eq  (R : Value → World → Prop) (w : World) : mfunc Try.prog [] 8 [] R w = cachettelaw09_alive.M  R w := by kernel_rfl
theorem cachettelaw09_alive.ok  {R : Value → World → Prop} {w : World} (h : cachettelaw09_alive.M  R w) : Calls Try.prog 8 #[] w fun e w' => ∃ v, e = .returned v ∧ R v w' :=
  mfunc_ok follows (H := []) (args := []) (by rw [cachettelaw09_alive.eq]; exact h)

def cachettelaw09_alive.N  (R : Value → World → Prop) (w : World) : Prop :=
  Calls Try.prog 9 #[.int .i64 2] w fun ee3 ww4 => ∃ (new1 : Option Addr) (new2 : Int), ee3 = .returned (.tuple #[.pointer new1, .int .i64 new2]) ∧
  Calls Try.prog 11 #[.int .u8 1, .bool false] ww4 fun ee6 ww7 => ∃ (sector5a : Option Addr) (sector5n : Nat) (sector5c : Nat), ee6 = .returned (.slice sector5a sector5n sector5c) ∧
  Calls Try.prog 10 #[.pointer new1, .int .i64 0, .slice sector5a sector5n sector5c] ww7 fun ee9 ww10 => ∃ (write8 : Int), ee9 = .returned (.int .i64 write8) ∧
  Calls Try.prog 12 #[.pointer new1] ww10 fun ee12 ww13 => ∃ (sync11 : Int), ee12 = .returned (.int .i64 sync11) ∧
  Calls Try.prog 11 #[.int .u8 2, .bool false] ww13 fun ee15 ww16 => ∃ (sector14a : Option Addr) (sector14n : Nat) (sector14c : Nat), ee15 = .returned (.slice sector14a sector14n sector14c) ∧
  Calls Try.prog 10 #[.pointer new1, .int .i64 0, .slice sector14a sector14n sector14c] ww16 fun ee18 ww19 => ∃ (write17 : Int), ee18 = .returned (.int .i64 write17) ∧
  ∀ (ww20 : World) (q21 : Nat), Ext no ww19 ww20 → Blk ww20 q21 4 [.bool false] → ww19.heap.size ≤ q21 → q21 < ww20.heap.size →
  Calls Try.prog 15 #[.pointer new1, .slice (some (blk q21)) 1 1] ww20 fun ee23 ww24 => ∃ (restart22 : Int), ee23 = .returned (.int .i64 restart22) ∧
  Calls Try.prog 16 #[.pointer new1, .int .i64 0] ww24 fun ee27 ww28 => ∃ (read25a : Option Addr) (read25n : Nat) (read25c : Nat) (read26 : Int), ee27 = .returned (.tuple #[.slice read25a read25n read25c, .int .i64 read26]) ∧
  (new2 = 0 →
    (read26 = 0 →
      ((read25n : Int) = 64 →
        ∃ a32 : Addr, read25a = some a32 ∧
        (0 : Int) < (read25n : Int) ∧
        ∃ (x34 : Int), ww28.cell? (a32.add (Int.toNat 0 * 1)) = some (.int .u8 x34) ∧
        R (.bool (x34 == 1)) ww28) ∧
      ((read25n : Int) ≠ 64 →
        R (.bool false) ww28)) ∧
    (read26 ≠ 0 →
      R (.bool false) ww28)) ∧
  (new2 ≠ 0 →
    R (.bool false) ww28)

theorem cachettelaw09_alive.up  {R : Value → World → Prop} {w : World} (h : cachettelaw09_alive.N  R w) : cachettelaw09_alive.M  R w := by
  unfold cachettelaw09_alive.M
  unfold cachettelaw09_alive.N at h
  refine h.mono fun ee3 ww4 h => ?_
  obtain ⟨new1, new2, he, h⟩ := h
  refine ⟨new1, new2, he, ?_⟩
  refine h.mono fun ee6 ww7 h => ?_
  obtain ⟨sector5a, sector5n, sector5c, he, h⟩ := h
  refine ⟨sector5a, sector5n, sector5c, he, ?_⟩
  refine h.mono fun ee9 ww10 h => ?_
  obtain ⟨write8, he, h⟩ := h
  refine ⟨write8, he, ?_⟩
  refine h.mono fun ee12 ww13 h => ?_
  obtain ⟨sync11, he, h⟩ := h
  refine ⟨sync11, he, ?_⟩
  refine h.mono fun ee15 ww16 h => ?_
  obtain ⟨sector14a, sector14n, sector14c, he, h⟩ := h
  refine ⟨sector14a, sector14n, sector14c, he, ?_⟩
  refine h.mono fun ee18 ww19 h => ?_
  obtain ⟨write17, he, h⟩ := h
  refine ⟨write17, he, ?_⟩
  refine thenW_in fun ww20 e20 => ?_
  have h := h ww20 ww19.heap.size ((Ext.refl no ww19).x_alloc e20) (Blk.of_new e20) ((Ext.refl no ww19)).size (size_lt_alloc e20)
  refine h.mono fun ee23 ww24 h => ?_
  obtain ⟨restart22, he, h⟩ := h
  refine ⟨restart22, he, ?_⟩
  refine h.mono fun ee27 ww28 h => ?_
  obtain ⟨read25a, read25n, read25c, read26, he, h⟩ := h
  refine ⟨read25a, read25n, read25c, read26, he, ?_⟩
  refine bif_of (fun c29 => ?_) (fun c29 => ?_)
  · have h := h.1 (beq_t c29)
    refine bif_of (fun c30 => ?_) (fun c30 => ?_)
    · have h := h.1 (beq_t c30)
      refine bif_of (fun c31 => ?_) (fun c31 => ?_)
      · have h := h.1 (beq_t c31)
        obtain ⟨a32, ha32, h⟩ := h
        refine elim_some ha32 ?_
        obtain ⟨hq2, h⟩ := h
        refine ⟨by decide, hq2, ?_⟩
        obtain ⟨x34, hc33, h⟩ := h
        refine ⟨x34, hc33, ?_⟩
        exact h
      · have h := h.2 (beq_f c31)
        exact h
    · have h := h.2 (beq_f c30)
      exact h
  · have h := h.2 (beq_f c29)
    exact h

theorem cachettelaw09_alive.go  {R : Value → World → Prop} {w : World} (h : cachettelaw09_alive.N  R w) : Calls Try.prog 8 #[] w fun e w' => ∃ v, e = .returned v ∧ R v w' := cachettelaw09_alive.ok  (cachettelaw09_alive.up  h)
theorem cachettelaw09_alive.run  {V : Value} {Q : World → Prop} {w : World} (h : cachettelaw09_alive.N  (fun v w' => v = V ∧ Q w') w) : Calls Try.prog 8 #[] w (Ret V Q) := (cachettelaw09_alive.go  h).mono fun e w' ⟨v, he, hv, hq⟩ => ⟨by rw [he, hv], hq⟩

/-- cachettelaw09.step -/
def cachettelaw09_step.M (d1 : Option Addr) (m2 : Option Addr) (oKind3 : Int) (oN4 : Int) (oBy5 : Int) (oShort6 : Bool) (oKeep7a : Option Addr) (oKeep7n : Nat) (oKeep7c : Nat) (R : Value → World → Prop) (w : World) : Prop :=
  thenW (w.alloc (.cells #[.int .i64 oKind3, .int .i64 oN4, .int .u8 oBy5, .bool oShort6, .slice oKeep7a oKeep7n oKeep7c] 31)) fun ww8 =>
  ∃ (Kind9 : Int), ww8.cell? ((blk w.heap.size).add 0) = some (.int .i64 Kind9) ∧
  bif Kind9 == 0 then (
  ∃ (By10 : Int), ww8.cell? ((blk w.heap.size).add 2) = some (.int .u8 By10) ∧
  ∃ (Short11 : Bool), ww8.cell? ((blk w.heap.size).add 3) = some (.bool Short11) ∧
  Calls Try.prog 11 #[.int .u8 By10, .bool Short11] ww8 fun ee13 ww14 => ∃ (sector12a : Option Addr) (sector12n : Nat) (sector12c : Nat), ee13 = .returned (.slice sector12a sector12n sector12c) ∧
  thenW (ww14.drew) fun ww15 =>
  ∃ (N16 : Int), ww15.cell? ((blk w.heap.size).add 1) = some (.int .i64 N16) ∧
  ∃ (N17 : Int), ww15.cell? ((blk w.heap.size).add 1) = some (.int .i64 N17) ∧
  Calls Try.prog 10 #[.pointer d1, .int .i64 N16, .slice sector12a sector12n sector12c] ww15 fun ee19 ww20 => ∃ (write18 : Int), ee19 = .returned (.int .i64 write18) ∧
  ww20.cell? ((blk w.heap.size).add 1) = some (.int .i64 N17) ∧
  Calls Try.prog 32 #[.pointer m2, .int .i64 N17, .slice sector12a sector12n sector12c] ww20 fun ee22 ww23 => ∃ (write21 : Int), ee22 = .returned (.int .i64 write21) ∧
  R (.bool (write18 == write21)) ww23) else (
  bif Kind9 == 1 then (
  ∃ (N24 : Int), ww8.cell? ((blk w.heap.size).add 1) = some (.int .i64 N24) ∧
  Calls Try.prog 16 #[.pointer d1, .int .i64 N24] ww8 fun ee27 ww28 => ∃ (read25a : Option Addr) (read25n : Nat) (read25c : Nat) (read26 : Int), ee27 = .returned (.tuple #[.slice read25a read25n read25c, .int .i64 read26]) ∧
  ∃ (N29 : Int), ww28.cell? ((blk w.heap.size).add 1) = some (.int .i64 N29) ∧
  Calls Try.prog 22 #[.pointer m2, .int .i64 N29] ww28 fun ee32 ww33 => ∃ (read30a : Option Addr) (read30n : Nat) (read30c : Nat) (read31 : Int), ee32 = .returned (.tuple #[.slice read30a read30n read30c, .int .i64 read31]) ∧
  Calls Try.prog 17 #[.slice read25a read25n read25c, .slice read30a read30n read30c] ww33 fun ee35 ww36 => ∃ (same34 : Bool), ee35 = .returned (.bool same34) ∧
  bif same34 then (
  R (.bool (read26 == read31)) ww36) else (
  R (.bool false) ww36)) else (
  bif Kind9 == 2 then (
  Calls Try.prog 12 #[.pointer d1] ww8 fun ee38 ww39 => ∃ (sync37 : Int), ee38 = .returned (.int .i64 sync37) ∧
  Calls Try.prog 33 #[.pointer m2] ww39 fun ee41 ww42 => ∃ (sync40 : Int), ee41 = .returned (.int .i64 sync40) ∧
  R (.bool (sync37 == sync40)) ww42) else (
  bif Kind9 == 3 then (
  thenW (ww8.drew) fun ww43 =>
  ∃ (N44 : Int), ww43.cell? ((blk w.heap.size).add 1) = some (.int .i64 N44) ∧
  ∃ (N45 : Int), ww43.cell? ((blk w.heap.size).add 1) = some (.int .i64 N45) ∧
  Calls Try.prog 14 #[.pointer d1, .int .i64 N44] ww43 fun ee47 ww48 => ∃ (arm46 : Int), ee47 = .returned (.int .i64 arm46) ∧
  ww48.cell? ((blk w.heap.size).add 1) = some (.int .i64 N45) ∧
  Calls Try.prog 34 #[.pointer m2, .int .i64 N45] ww48 fun ee50 ww51 => ∃ (arm49 : Int), ee50 = .returned (.int .i64 arm49) ∧
  R (.bool (arm46 == arm49)) ww51) else (
  bif Kind9 == 4 then (
  ∃ (Keep52a : Option Addr) (Keep52n : Nat) (Keep52c : Nat), ww8.cell? ((blk w.heap.size).add 4) = some (.slice Keep52a Keep52n Keep52c) ∧
  Calls Try.prog 35 #[.pointer m2, .slice Keep52a Keep52n Keep52c] ww8 fun ee53 ww54 => ee53 = .returned (.tuple #[]) ∧
  ∃ (Keep55a : Option Addr) (Keep55n : Nat) (Keep55c : Nat), ww54.cell? ((blk w.heap.size).add 4) = some (.slice Keep55a Keep55n Keep55c) ∧
  Calls Try.prog 15 #[.pointer d1, .slice Keep55a Keep55n Keep55c] ww54 fun ee57 ww58 => ∃ (restart56 : Int), ee57 = .returned (.int .i64 restart56) ∧
  R (.bool (restart56 == 0)) ww58) else (
  R (.bool true) ww8)))))

theorem cachettelaw09_step.eq (d1 : Option Addr) (m2 : Option Addr) (oKind3 : Int) (oN4 : Int) (oBy5 : Int) (oShort6 : Bool) (oKeep7a : Option Addr) (oKeep7n : Nat) (oKeep7c : Nat) (R : Value → World → Prop) (w : World) : mfunc Try.prog [] 21 [.pointer d1, .pointer m2, .agg #[.int .i64 oKind3, .int .i64 oN4, .int .u8 oBy5, .bool oShort6, .slice oKeep7a oKeep7n oKeep7c]] R w = cachettelaw09_step.M d1 m2 oKind3 oN4 oBy5 oShort6 oKeep7a oKeep7n oKeep7c R w := by kernel_rfl
theorem cachettelaw09_step.ok (d1 : Option Addr) (m2 : Option Addr) (oKind3 : Int) (oN4 : Int) (oBy5 : Int) (oShort6 : Bool) (oKeep7a : Option Addr) (oKeep7n : Nat) (oKeep7c : Nat) {R : Value → World → Prop} {w : World} (h : cachettelaw09_step.M d1 m2 oKind3 oN4 oBy5 oShort6 oKeep7a oKeep7n oKeep7c R w) : Calls Try.prog 21 #[.pointer d1, .pointer m2, .agg #[.int .i64 oKind3, .int .i64 oN4, .int .u8 oBy5, .bool oShort6, .slice oKeep7a oKeep7n oKeep7c]] w fun e w' => ∃ v, e = .returned v ∧ R v w' :=
  mfunc_ok follows (H := []) (args := [.pointer d1, .pointer m2, .agg #[.int .i64 oKind3, .int .i64 oN4, .int .u8 oBy5, .bool oShort6, .slice oKeep7a oKeep7n oKeep7c]]) (by rw [cachettelaw09_step.eq]; exact h)

def cachettelaw09_step.N (d1 : Option Addr) (m2 : Option Addr) (oKind3 : Int) (oN4 : Int) (oBy5 : Int) (oShort6 : Bool) (oKeep7a : Option Addr) (oKeep7n : Nat) (oKeep7c : Nat) (R : Value → World → Prop) (w : World) : Prop :=
  (oKind3 = 0 →
    ∀ (ww8 : World) (p10 : Nat), Ext no w ww8 → Priv w ww8 [p10] →
    Calls Try.prog 11 #[.int .u8 oBy5, .bool oShort6] ww8 fun ee12 ww13 => ∃ (sector11a : Option Addr) (sector11n : Nat) (sector11c : Nat), ee12 = .returned (.slice sector11a sector11n sector11c) ∧
    Keep [p10] ww8 ww13 ∧
    ∀ (ww14 : World), Ext no ww13 ww14 →
    Calls Try.prog 10 #[.pointer d1, .int .i64 oN4, .slice sector11a sector11n sector11c] ww14 fun ee16 ww17 => ∃ (write15 : Int), ee16 = .returned (.int .i64 write15) ∧
    Keep [p10] ww14 ww17 ∧
    Calls Try.prog 32 #[.pointer m2, .int .i64 oN4, .slice sector11a sector11n sector11c] ww17 fun ee19 ww20 => ∃ (write18 : Int), ee19 = .returned (.int .i64 write18) ∧
    R (.bool (write15 == write18)) ww20) ∧
  (oKind3 ≠ 0 →
    (oKind3 = 1 →
      ∀ (ww8 : World) (p22 : Nat), Ext no w ww8 → Priv w ww8 [p22] →
      Calls Try.prog 16 #[.pointer d1, .int .i64 oN4] ww8 fun ee25 ww26 => ∃ (read23a : Option Addr) (read23n : Nat) (read23c : Nat) (read24 : Int), ee25 = .returned (.tuple #[.slice read23a read23n read23c, .int .i64 read24]) ∧
      Keep [p22] ww8 ww26 ∧
      Calls Try.prog 22 #[.pointer m2, .int .i64 oN4] ww26 fun ee29 ww30 => ∃ (read27a : Option Addr) (read27n : Nat) (read27c : Nat) (read28 : Int), ee29 = .returned (.tuple #[.slice read27a read27n read27c, .int .i64 read28]) ∧
      Calls Try.prog 17 #[.slice read23a read23n read23c, .slice read27a read27n read27c] ww30 fun ee32 ww33 => ∃ (same31 : Bool), ee32 = .returned (.bool same31) ∧
      (same31 = true →
        R (.bool (read24 == read28)) ww33) ∧
      (same31 = false →
        R (.bool false) ww33)) ∧
    (oKind3 ≠ 1 →
      (oKind3 = 2 →
        ∀ (ww8 : World), Ext no w ww8 →
        Calls Try.prog 12 #[.pointer d1] ww8 fun ee38 ww39 => ∃ (sync37 : Int), ee38 = .returned (.int .i64 sync37) ∧
        Calls Try.prog 33 #[.pointer m2] ww39 fun ee41 ww42 => ∃ (sync40 : Int), ee41 = .returned (.int .i64 sync40) ∧
        R (.bool (sync37 == sync40)) ww42) ∧
      (oKind3 ≠ 2 →
        (oKind3 = 3 →
          ∀ (ww44 : World) (p45 : Nat), Ext no w ww44 → Priv w ww44 [p45] →
          Calls Try.prog 14 #[.pointer d1, .int .i64 oN4] ww44 fun ee47 ww48 => ∃ (arm46 : Int), ee47 = .returned (.int .i64 arm46) ∧
          Keep [p45] ww44 ww48 ∧
          Calls Try.prog 34 #[.pointer m2, .int .i64 oN4] ww48 fun ee50 ww51 => ∃ (arm49 : Int), ee50 = .returned (.int .i64 arm49) ∧
          R (.bool (arm46 == arm49)) ww51) ∧
        (oKind3 ≠ 3 →
          (oKind3 = 4 →
            ∀ (ww8 : World) (p53 : Nat), Ext no w ww8 → Priv w ww8 [p53] →
            Calls Try.prog 35 #[.pointer m2, .slice oKeep7a oKeep7n oKeep7c] ww8 fun ee54 ww55 => ee54 = .returned (.tuple #[]) ∧
            Keep [p53] ww8 ww55 ∧
            Calls Try.prog 15 #[.pointer d1, .slice oKeep7a oKeep7n oKeep7c] ww55 fun ee57 ww58 => ∃ (restart56 : Int), ee57 = .returned (.int .i64 restart56) ∧
            R (.bool (restart56 == 0)) ww58) ∧
          (oKind3 ≠ 4 →
            ∀ (ww8 : World), Ext no w ww8 →
            R (.bool true) ww8)))))

theorem cachettelaw09_step.up (d1 : Option Addr) (m2 : Option Addr) (oKind3 : Int) (oN4 : Int) (oBy5 : Int) (oShort6 : Bool) (oKeep7a : Option Addr) (oKeep7n : Nat) (oKeep7c : Nat) {R : Value → World → Prop} {w : World} (h : cachettelaw09_step.N d1 m2 oKind3 oN4 oBy5 oShort6 oKeep7a oKeep7n oKeep7c R w) : cachettelaw09_step.M d1 m2 oKind3 oN4 oBy5 oShort6 oKeep7a oKeep7n oKeep7c R w := by
  unfold cachettelaw09_step.M
  unfold cachettelaw09_step.N at h
  refine thenW_in fun ww8 e8 => ?_
  have hb1 := Blk.of_new e8
  have hg1 := ((Ext.refl no w)).size
  have hx8 := (Ext.refl no w).x_alloc e8
  refine ⟨oKind3, hb1.celli 0 rfl rfl, ?_⟩
  refine bif_of (fun c9 => ?_) (fun c9 => ?_)
  · have h := h.1 (beq_t c9)
    refine ⟨oBy5, hb1.celli 2 rfl rfl, ?_⟩
    refine ⟨oShort6, hb1.celli 3 rfl rfl, ?_⟩
    have h := h ww8 (w.heap.size) hx8 (Priv.cons hg1 hb1.lt Priv.nil)
    refine h.mono fun ee12 ww13 h => ?_
    obtain ⟨sector11a, sector11n, sector11c, he, hk, h⟩ := h
    refine ⟨sector11a, sector11n, sector11c, he, ?_⟩
    have hb1 := hk.blk hb1 (by simp)
    refine thenW_in fun ww14 e14 => ?_
    have hx14 := (Ext.refl no ww13).x_drew e14
    have hb1 := hb1.x_drew e14
    refine ⟨oN4, hb1.celli 1 rfl rfl, ?_⟩
    refine ⟨oN4, hb1.celli 1 rfl rfl, ?_⟩
    have h := h ww14 hx14
    refine h.mono fun ee16 ww17 h => ?_
    obtain ⟨write15, he, hk, h⟩ := h
    refine ⟨write15, he, ?_⟩
    have hb1 := hk.blk hb1 (by simp)
    refine ⟨hb1.celli 1 rfl rfl, ?_⟩
    refine h.mono fun ee19 ww20 h => ?_
    obtain ⟨write18, he, h⟩ := h
    refine ⟨write18, he, ?_⟩
    exact h
  · have h := h.2 (beq_f c9)
    refine bif_of (fun c21 => ?_) (fun c21 => ?_)
    · have h := h.1 (beq_t c21)
      refine ⟨oN4, hb1.celli 1 rfl rfl, ?_⟩
      have h := h ww8 (w.heap.size) hx8 (Priv.cons hg1 hb1.lt Priv.nil)
      refine h.mono fun ee25 ww26 h => ?_
      obtain ⟨read23a, read23n, read23c, read24, he, hk, h⟩ := h
      refine ⟨read23a, read23n, read23c, read24, he, ?_⟩
      have hb1 := hk.blk hb1 (by simp)
      refine ⟨oN4, hb1.celli 1 rfl rfl, ?_⟩
      refine h.mono fun ee29 ww30 h => ?_
      obtain ⟨read27a, read27n, read27c, read28, he, h⟩ := h
      refine ⟨read27a, read27n, read27c, read28, he, ?_⟩
      refine h.mono fun ee32 ww33 h => ?_
      obtain ⟨same31, he, h⟩ := h
      refine ⟨same31, he, ?_⟩
      refine bif_of (fun c34 => ?_) (fun c34 => ?_)
      · have h := h.1 c34
        exact h
      · have h := h.2 c34
        exact h
    · have h := h.2 (beq_f c21)
      refine bif_of (fun c35 => ?_) (fun c35 => ?_)
      · have h := h.1 (beq_t c35)
        have h := h ww8 hx8
        refine h.mono fun ee38 ww39 h => ?_
        obtain ⟨sync37, he, h⟩ := h
        refine ⟨sync37, he, ?_⟩
        refine h.mono fun ee41 ww42 h => ?_
        obtain ⟨sync40, he, h⟩ := h
        refine ⟨sync40, he, ?_⟩
        exact h
      · have h := h.2 (beq_f c35)
        refine bif_of (fun c43 => ?_) (fun c43 => ?_)
        · have h := h.1 (beq_t c43)
          refine thenW_in fun ww44 e44 => ?_
          have hx44 := hx8.x_drew e44
          have hb1 := hb1.x_drew e44
          refine ⟨oN4, hb1.celli 1 rfl rfl, ?_⟩
          refine ⟨oN4, hb1.celli 1 rfl rfl, ?_⟩
          have h := h ww44 (w.heap.size) hx44 (Priv.cons hg1 hb1.lt Priv.nil)
          refine h.mono fun ee47 ww48 h => ?_
          obtain ⟨arm46, he, hk, h⟩ := h
          refine ⟨arm46, he, ?_⟩
          have hb1 := hk.blk hb1 (by simp)
          refine ⟨hb1.celli 1 rfl rfl, ?_⟩
          refine h.mono fun ee50 ww51 h => ?_
          obtain ⟨arm49, he, h⟩ := h
          refine ⟨arm49, he, ?_⟩
          exact h
        · have h := h.2 (beq_f c43)
          refine bif_of (fun c52 => ?_) (fun c52 => ?_)
          · have h := h.1 (beq_t c52)
            refine ⟨oKeep7a, oKeep7n, oKeep7c, hb1.celli 4 rfl rfl, ?_⟩
            have h := h ww8 (w.heap.size) hx8 (Priv.cons hg1 hb1.lt Priv.nil)
            refine h.mono fun ee54 ww55 h => ?_
            obtain ⟨he, hk, h⟩ := h
            refine ⟨he, ?_⟩
            have hb1 := hk.blk hb1 (by simp)
            refine ⟨oKeep7a, oKeep7n, oKeep7c, hb1.celli 4 rfl rfl, ?_⟩
            refine h.mono fun ee57 ww58 h => ?_
            obtain ⟨restart56, he, h⟩ := h
            refine ⟨restart56, he, ?_⟩
            exact h
          · have h := h.2 (beq_f c52)
            have h := h ww8 hx8
            exact h

theorem cachettelaw09_step.go (d1 : Option Addr) (m2 : Option Addr) (oKind3 : Int) (oN4 : Int) (oBy5 : Int) (oShort6 : Bool) (oKeep7a : Option Addr) (oKeep7n : Nat) (oKeep7c : Nat) {R : Value → World → Prop} {w : World} (h : cachettelaw09_step.N d1 m2 oKind3 oN4 oBy5 oShort6 oKeep7a oKeep7n oKeep7c R w) : Calls Try.prog 21 #[.pointer d1, .pointer m2, .agg #[.int .i64 oKind3, .int .i64 oN4, .int .u8 oBy5, .bool oShort6, .slice oKeep7a oKeep7n oKeep7c]] w fun e w' => ∃ v, e = .returned v ∧ R v w' := cachettelaw09_step.ok d1 m2 oKind3 oN4 oBy5 oShort6 oKeep7a oKeep7n oKeep7c (cachettelaw09_step.up d1 m2 oKind3 oN4 oBy5 oShort6 oKeep7a oKeep7n oKeep7c h)
theorem cachettelaw09_step.run (d1 : Option Addr) (m2 : Option Addr) (oKind3 : Int) (oN4 : Int) (oBy5 : Int) (oShort6 : Bool) (oKeep7a : Option Addr) (oKeep7n : Nat) (oKeep7c : Nat) {V : Value} {Q : World → Prop} {w : World} (h : cachettelaw09_step.N d1 m2 oKind3 oN4 oBy5 oShort6 oKeep7a oKeep7n oKeep7c (fun v w' => v = V ∧ Q w') w) : Calls Try.prog 21 #[.pointer d1, .pointer m2, .agg #[.int .i64 oKind3, .int .i64 oN4, .int .u8 oBy5, .bool oShort6, .slice oKeep7a oKeep7n oKeep7c]] w (Ret V Q) := (cachettelaw09_step.go d1 m2 oKind3 oN4 oBy5 oShort6 oKeep7a oKeep7n oKeep7c h).mono fun e w' ⟨v, he, hv, hq⟩ => ⟨by rw [he, hv], hq⟩

/-- cachettelaw09.DiskCopies -/
def cachettelaw09_DiskCopies.M (l1a : Option Addr) (l1n : Nat) (l1c : Nat) (more2a : Option Addr) (more2n : Nat) (more2c : Nat) (R : Value → World → Prop) (w : World) : Prop :=
  Calls Try.prog 7 #[.slice l1a l1n l1c] w fun ee4 ww5 => ∃ (light3 : Bool), ee4 = .returned (.bool light3) ∧
  bif !light3 then (
  Calls Try.prog 8 #[] ww5 fun ee7 ww8 => ∃ (alive6 : Bool), ee7 = .returned (.bool alive6) ∧
  R (.bool alive6) ww8) else (
  Calls Try.prog 7 #[.slice more2a more2n more2c] ww5 fun ee10 ww11 => ∃ (light9 : Bool), ee10 = .returned (.bool light9) ∧
  bif !light9 then (
  Calls Try.prog 8 #[] ww11 fun ee13 ww14 => ∃ (alive12 : Bool), ee13 = .returned (.bool alive12) ∧
  R (.bool alive12) ww14) else (
  Calls Try.prog 9 #[.int .i64 6] ww11 fun ee17 ww18 => ∃ (new15 : Option Addr) (new16 : Int), ee17 = .returned (.tuple #[.pointer new15, .int .i64 new16]) ∧
  Calls Try.prog 20 #[.int .i64 6] ww18 fun ee21 ww22 => ∃ (new19 : Option Addr) (new20 : Int), ee21 = .returned (.tuple #[.pointer new19, .int .i64 new20]) ∧
  bif new16 != 0 then (
  R (.bool false) ww22) else (
  ∃ (I0 : Nat → List Value → World → Prop) (m24 : Nat), I0 m24 [.int .i64 0] ww22 ∧ ∀ (m25 : Nat) (ww26 : World) (i23 : Int), I0 m25 [.int .i64 i23] ww26 →
  bif decide (i23 < (l1n : Int)) then (
  l1a.elim False fun a27 =>
  0 ≤ (i23 : Int) ∧ (i23 : Int) < (l1n : Int) ∧
  ∃ (xKind28 : Int) (xN29 : Int) (xBy30 : Int) (xShort31 : Bool) (xKeep32a : Option Addr) (xKeep32n : Nat) (xKeep32c : Nat), cellsAt ww26 (a27.add (Int.toNat i23 * 5)) [.int .i64 xKind28, .int .i64 xN29, .int .u8 xBy30, .bool xShort31, .slice xKeep32a xKeep32n xKeep32c] 0 ∧
  Calls Try.prog 21 #[.pointer new15, .pointer new19, .agg #[.int .i64 xKind28, .int .i64 xN29, .int .u8 xBy30, .bool xShort31, .slice xKeep32a xKeep32n xKeep32c]] ww26 fun ee34 ww35 => ∃ (step33 : Bool), ee34 = .returned (.bool step33) ∧
  ∃ m36, m36 < m25 ∧ I0 m36 [.int .i64 (IntKind.i64.wrap (i23 + 1))] ww35) else (
  Calls Try.prog 13 #[.pointer new15] ww26 fun ee38 ww39 => ∃ (copy37 : Option Addr), ee38 = .returned (.pointer copy37) ∧
  Calls Try.prog 19 #[.pointer new15] ww39 fun ee41 ww42 => ∃ (pending40 : Int), ee41 = .returned (.int .i64 pending40) ∧
  ∃ (I2 : Nat → List Value → World → Prop) (m44 : Nat), I2 m44 [.int .i64 0] ww42 ∧ ∀ (m45 : Nat) (ww46 : World) (i43 : Int), I2 m45 [.int .i64 i43] ww46 →
  bif decide (i43 < (more2n : Int)) then (
  thenW (ww46.alloc (.cells #[.int .i64 0, .slice none 0 0, .slice none 0 0, .int .i64 0, .bool false, .bool false, .int .i64 0] 51)) fun ww47 =>
  more2a.elim False fun a48 =>
  0 ≤ (i43 : Int) ∧ (i43 : Int) < (more2n : Int) ∧
  ∃ (xKind49 : Int) (xN50 : Int) (xBy51 : Int) (xShort52 : Bool) (xKeep53a : Option Addr) (xKeep53n : Nat) (xKeep53c : Nat), cellsAt ww47 (a48.add (Int.toNat i43 * 5)) [.int .i64 xKind49, .int .i64 xN50, .int .u8 xBy51, .bool xShort52, .slice xKeep53a xKeep53n xKeep53c] 0 ∧
  Calls Try.prog 21 #[.pointer copy37, .pointer (some (blk ww46.heap.size)), .agg #[.int .i64 xKind49, .int .i64 xN50, .int .u8 xBy51, .bool xShort52, .slice xKeep53a xKeep53n xKeep53c]] ww47 fun ee55 ww56 => ∃ (step54 : Bool), ee55 = .returned (.bool step54) ∧
  ∃ m57, m57 < m45 ∧ I2 m57 [.int .i64 (IntKind.i64.wrap (i43 + 1))] ww56) else (
  Calls Try.prog 16 #[.pointer new15, .int .i64 0] ww46 fun ee60 ww61 => ∃ (read58a : Option Addr) (read58n : Nat) (read58c : Nat) (read59 : Int), ee60 = .returned (.tuple #[.slice read58a read58n read58c, .int .i64 read59]) ∧
  bif read59 == 0 then (
  bif decide ((read58n : Int) > 0) then (
  read58a.elim False fun a62 =>
  0 ≤ (0 : Int) ∧ (0 : Int) < (read58n : Int) ∧
  ∃ (x63 : Int), ww61.cell? (a62.add (Int.toNat 0 * 1)) = some (.int .u8 x63) ∧
  read58a.elim False fun a64 =>
  0 ≤ (0 : Int) ∧ (0 : Int) < (read58n : Int) ∧
  canStore ww61 ((a64.add (Int.toNat 0 * 1)).add 0) ∧
  thenW (ww61.setCell ((a64.add (Int.toNat 0 * 1)).add 0) (.int .u8 (IntKind.u8.wrap (x63 + 1)))) fun ww65 =>
  Calls Try.prog 16 #[.pointer new15, .int .i64 0] ww65 fun ee68 ww69 => ∃ (read66a : Option Addr) (read66n : Nat) (read66c : Nat) (read67 : Int), ee68 = .returned (.tuple #[.slice read66a read66n read66c, .int .i64 read67]) ∧
  Calls Try.prog 22 #[.pointer new19, .int .i64 0] ww69 fun ee72 ww73 => ∃ (read70a : Option Addr) (read70n : Nat) (read70c : Nat) (read71 : Int), ee72 = .returned (.tuple #[.slice read70a read70n read70c, .int .i64 read71]) ∧
  thenW (ww73.drew) fun ww74 =>
  bif read67 == read71 then (
  Calls Try.prog 17 #[.slice read66a read66n read66c, .slice read70a read70n read70c] ww74 fun ee76 ww77 => ∃ (same75 : Bool), ee76 = .returned (.bool same75) ∧
  bif same75 then (
  Calls Try.prog 19 #[.pointer new15] ww77 fun ee79 ww80 => ∃ (pending78 : Int), ee79 = .returned (.int .i64 pending78) ∧
  bif pending78 == pending40 then (
  new19.elim False fun a81 =>
  ∃ (IsDown82 : Bool), ww80.cell? (a81.add 4) = some (.bool IsDown82) ∧
  Calls Try.prog 18 #[.pointer new15] ww80 fun ee84 ww85 => ∃ (down83 : Bool), ee84 = .returned (.bool down83) ∧
  ww85.cell? (a81.add 4) = some (.bool IsDown82) ∧
  bif down83 == IsDown82 then (
  Calls Try.prog 8 #[] ww85 fun ee87 ww88 => ∃ (alive86 : Bool), ee87 = .returned (.bool alive86) ∧
  R (.bool alive86) ww88) else (
  R (.bool false) ww85)) else (
  R (.bool false) ww80)) else (
  R (.bool false) ww77)) else (
  R (.bool false) ww74)) else (
  Calls Try.prog 16 #[.pointer new15, .int .i64 0] ww61 fun ee91 ww92 => ∃ (read89a : Option Addr) (read89n : Nat) (read89c : Nat) (read90 : Int), ee91 = .returned (.tuple #[.slice read89a read89n read89c, .int .i64 read90]) ∧
  Calls Try.prog 22 #[.pointer new19, .int .i64 0] ww92 fun ee95 ww96 => ∃ (read93a : Option Addr) (read93n : Nat) (read93c : Nat) (read94 : Int), ee95 = .returned (.tuple #[.slice read93a read93n read93c, .int .i64 read94]) ∧
  thenW (ww96.drew) fun ww97 =>
  bif read90 == read94 then (
  Calls Try.prog 17 #[.slice read89a read89n read89c, .slice read93a read93n read93c] ww97 fun ee99 ww100 => ∃ (same98 : Bool), ee99 = .returned (.bool same98) ∧
  bif same98 then (
  Calls Try.prog 19 #[.pointer new15] ww100 fun ee102 ww103 => ∃ (pending101 : Int), ee102 = .returned (.int .i64 pending101) ∧
  bif pending101 == pending40 then (
  new19.elim False fun a104 =>
  ∃ (IsDown105 : Bool), ww103.cell? (a104.add 4) = some (.bool IsDown105) ∧
  Calls Try.prog 18 #[.pointer new15] ww103 fun ee107 ww108 => ∃ (down106 : Bool), ee107 = .returned (.bool down106) ∧
  ww108.cell? (a104.add 4) = some (.bool IsDown105) ∧
  bif down106 == IsDown105 then (
  Calls Try.prog 8 #[] ww108 fun ee110 ww111 => ∃ (alive109 : Bool), ee110 = .returned (.bool alive109) ∧
  R (.bool alive109) ww111) else (
  R (.bool false) ww108)) else (
  R (.bool false) ww103)) else (
  R (.bool false) ww100)) else (
  R (.bool false) ww97))) else (
  Calls Try.prog 16 #[.pointer new15, .int .i64 0] ww61 fun ee114 ww115 => ∃ (read112a : Option Addr) (read112n : Nat) (read112c : Nat) (read113 : Int), ee114 = .returned (.tuple #[.slice read112a read112n read112c, .int .i64 read113]) ∧
  Calls Try.prog 22 #[.pointer new19, .int .i64 0] ww115 fun ee118 ww119 => ∃ (read116a : Option Addr) (read116n : Nat) (read116c : Nat) (read117 : Int), ee118 = .returned (.tuple #[.slice read116a read116n read116c, .int .i64 read117]) ∧
  thenW (ww119.drew) fun ww120 =>
  bif read113 == read117 then (
  Calls Try.prog 17 #[.slice read112a read112n read112c, .slice read116a read116n read116c] ww120 fun ee122 ww123 => ∃ (same121 : Bool), ee122 = .returned (.bool same121) ∧
  bif same121 then (
  Calls Try.prog 19 #[.pointer new15] ww123 fun ee125 ww126 => ∃ (pending124 : Int), ee125 = .returned (.int .i64 pending124) ∧
  bif pending124 == pending40 then (
  new19.elim False fun a127 =>
  ∃ (IsDown128 : Bool), ww126.cell? (a127.add 4) = some (.bool IsDown128) ∧
  Calls Try.prog 18 #[.pointer new15] ww126 fun ee130 ww131 => ∃ (down129 : Bool), ee130 = .returned (.bool down129) ∧
  ww131.cell? (a127.add 4) = some (.bool IsDown128) ∧
  bif down129 == IsDown128 then (
  Calls Try.prog 8 #[] ww131 fun ee133 ww134 => ∃ (alive132 : Bool), ee133 = .returned (.bool alive132) ∧
  R (.bool alive132) ww134) else (
  R (.bool false) ww131)) else (
  R (.bool false) ww126)) else (
  R (.bool false) ww123)) else (
  R (.bool false) ww120)))))))

theorem cachettelaw09_DiskCopies.eq (l1a : Option Addr) (l1n : Nat) (l1c : Nat) (more2a : Option Addr) (more2n : Nat) (more2c : Nat) (R : Value → World → Prop) (w : World) : mfunc Try.prog [(0, [0, 1, 5, 7], [(9, (.one (.int .i64)))]), (2, [1, 5, 7, 10, 11], [(12, (.one (.int .i64)))])] 4 [.slice l1a l1n l1c, .slice more2a more2n more2c] R w = cachettelaw09_DiskCopies.M l1a l1n l1c more2a more2n more2c R w := by kernel_rfl
theorem cachettelaw09_DiskCopies.ok (l1a : Option Addr) (l1n : Nat) (l1c : Nat) (more2a : Option Addr) (more2n : Nat) (more2c : Nat) {R : Value → World → Prop} {w : World} (h : cachettelaw09_DiskCopies.M l1a l1n l1c more2a more2n more2c R w) : Calls Try.prog 4 #[.slice l1a l1n l1c, .slice more2a more2n more2c] w fun e w' => ∃ v, e = .returned v ∧ R v w' :=
  mfunc_ok follows (H := [(0, [0, 1, 5, 7], [(9, (.one (.int .i64)))]), (2, [1, 5, 7, 10, 11], [(12, (.one (.int .i64)))])]) (args := [.slice l1a l1n l1c, .slice more2a more2n more2c]) (by rw [cachettelaw09_DiskCopies.eq]; exact h)

def cachettelaw09_DiskCopies.N (l1a : Option Addr) (l1n : Nat) (l1c : Nat) (more2a : Option Addr) (more2n : Nat) (more2c : Nat) (R : Value → World → Prop) (w : World) : Prop :=
  Calls Try.prog 7 #[.slice l1a l1n l1c] w fun ee4 ww5 => ∃ (light3 : Bool), ee4 = .returned (.bool light3) ∧
  (light3 = false →
    Calls Try.prog 8 #[] ww5 fun ee8 ww9 => ∃ (alive7 : Bool), ee8 = .returned (.bool alive7) ∧
    R (.bool alive7) ww9) ∧
  (light3 = true →
    Calls Try.prog 7 #[.slice more2a more2n more2c] ww5 fun ee11 ww12 => ∃ (light10 : Bool), ee11 = .returned (.bool light10) ∧
    (light10 = false →
      Calls Try.prog 8 #[] ww12 fun ee15 ww16 => ∃ (alive14 : Bool), ee15 = .returned (.bool alive14) ∧
      R (.bool alive14) ww16) ∧
    (light10 = true →
      Calls Try.prog 9 #[.int .i64 6] ww12 fun ee19 ww20 => ∃ (new17 : Option Addr) (new18 : Int), ee19 = .returned (.tuple #[.pointer new17, .int .i64 new18]) ∧
      Calls Try.prog 20 #[.int .i64 6] ww20 fun ee23 ww24 => ∃ (new21 : Option Addr) (new22 : Int), ee23 = .returned (.tuple #[.pointer new21, .int .i64 new22]) ∧
      (new18 ≠ 0 →
        R (.bool false) ww24) ∧
      (new18 = 0 →
        ∃ (I0 : Nat → List Value → World → Prop) (m27 : Nat), I0 m27 [.int .i64 0] ww24 ∧ ∀ (m28 : Nat) (ww29 : World) (i26 : Int), I0 m28 [.int .i64 i26] ww29 →
        (i26 < (l1n : Int) →
          ∃ a31 : Addr, l1a = some a31 ∧
          0 ≤ (i26 : Int) ∧ (i26 : Int) < (l1n : Int) ∧
          ∃ (xKind33 : Int) (xN34 : Int) (xBy35 : Int) (xShort36 : Bool) (xKeep37a : Option Addr) (xKeep37n : Nat) (xKeep37c : Nat), cellsAt ww29 (a31.add (Int.toNat i26 * 5)) [.int .i64 xKind33, .int .i64 xN34, .int .u8 xBy35, .bool xShort36, .slice xKeep37a xKeep37n xKeep37c] 0 ∧
          Calls Try.prog 21 #[.pointer new17, .pointer new21, .agg #[.int .i64 xKind33, .int .i64 xN34, .int .u8 xBy35, .bool xShort36, .slice xKeep37a xKeep37n xKeep37c]] ww29 fun ee39 ww40 => ∃ (step38 : Bool), ee39 = .returned (.bool step38) ∧
          (-9223372036854775808 : Int) ≤ (i26 + 1) ∧ (i26 + 1) < 9223372036854775808 ∧
          ∃ m41, m41 < m28 ∧ I0 m41 [.int .i64 (i26 + 1)] ww40) ∧
        ((l1n : Int) ≤ i26 →
          Calls Try.prog 13 #[.pointer new17] ww29 fun ee43 ww44 => ∃ (copy42 : Option Addr), ee43 = .returned (.pointer copy42) ∧
          Calls Try.prog 19 #[.pointer new17] ww44 fun ee46 ww47 => ∃ (pending45 : Int), ee46 = .returned (.int .i64 pending45) ∧
          ∃ (I2 : Nat → List Value → World → Prop) (m49 : Nat), I2 m49 [.int .i64 0] ww47 ∧ ∀ (m50 : Nat) (ww51 : World) (i48 : Int), I2 m50 [.int .i64 i48] ww51 →
          (i48 < (more2n : Int) →
            ∀ (ww53 : World) (q54 : Nat), Ext no ww51 ww53 → Blk ww53 q54 51 [.int .i64 0, .slice none 0 0, .slice none 0 0, .int .i64 0, .bool false, .bool false, .int .i64 0] → ww51.heap.size ≤ q54 → q54 < ww53.heap.size →
            ∃ a55 : Addr, more2a = some a55 ∧
            0 ≤ (i48 : Int) ∧ (i48 : Int) < (more2n : Int) ∧
            ∃ (xKind57 : Int) (xN58 : Int) (xBy59 : Int) (xShort60 : Bool) (xKeep61a : Option Addr) (xKeep61n : Nat) (xKeep61c : Nat), cellsAt ww53 (a55.add (Int.toNat i48 * 5)) [.int .i64 xKind57, .int .i64 xN58, .int .u8 xBy59, .bool xShort60, .slice xKeep61a xKeep61n xKeep61c] 0 ∧
            Calls Try.prog 21 #[.pointer copy42, .pointer (some (blk q54)), .agg #[.int .i64 xKind57, .int .i64 xN58, .int .u8 xBy59, .bool xShort60, .slice xKeep61a xKeep61n xKeep61c]] ww53 fun ee63 ww64 => ∃ (step62 : Bool), ee63 = .returned (.bool step62) ∧
            (-9223372036854775808 : Int) ≤ (i48 + 1) ∧ (i48 + 1) < 9223372036854775808 ∧
            ∃ m65, m65 < m50 ∧ I2 m65 [.int .i64 (i48 + 1)] ww64) ∧
          ((more2n : Int) ≤ i48 →
            Calls Try.prog 16 #[.pointer new17, .int .i64 0] ww51 fun ee68 ww69 => ∃ (read66a : Option Addr) (read66n : Nat) (read66c : Nat) (read67 : Int), ee68 = .returned (.tuple #[.slice read66a read66n read66c, .int .i64 read67]) ∧
            (read67 = 0 →
              ((read66n : Int) > 0 →
                ∃ a72 : Addr, read66a = some a72 ∧
                (0 : Int) < (read66n : Int) ∧
                ∃ (x74 : Int), ww69.cell? (a72.add (Int.toNat 0 * 1)) = some (.int .u8 x74) ∧
                (0 : Int) < (read66n : Int) ∧
                canStore ww69 ((a72.add (Int.toNat 0 * 1)).add 0) ∧
                thenW (ww69.setCell ((a72.add (Int.toNat 0 * 1)).add 0) (.int .u8 (IntKind.u8.wrap (x74 + 1)))) fun ww75 =>
                Calls Try.prog 16 #[.pointer new17, .int .i64 0] ww75 fun ee78 ww79 => ∃ (read76a : Option Addr) (read76n : Nat) (read76c : Nat) (read77 : Int), ee78 = .returned (.tuple #[.slice read76a read76n read76c, .int .i64 read77]) ∧
                Calls Try.prog 22 #[.pointer new21, .int .i64 0] ww79 fun ee82 ww83 => ∃ (read80a : Option Addr) (read80n : Nat) (read80c : Nat) (read81 : Int), ee82 = .returned (.tuple #[.slice read80a read80n read80c, .int .i64 read81]) ∧
                (read77 = read81 →
                  ∀ (ww84 : World), Ext no ww83 ww84 →
                  Calls Try.prog 17 #[.slice read76a read76n read76c, .slice read80a read80n read80c] ww84 fun ee87 ww88 => ∃ (same86 : Bool), ee87 = .returned (.bool same86) ∧
                  (same86 = true →
                    Calls Try.prog 19 #[.pointer new17] ww88 fun ee91 ww92 => ∃ (pending90 : Int), ee91 = .returned (.int .i64 pending90) ∧
                    (pending90 = pending45 →
                      ∃ a94 : Addr, new21 = some a94 ∧
                      ∃ (IsDown96 : Bool), ww92.cell? (a94.add 4) = some (.bool IsDown96) ∧
                      Calls Try.prog 18 #[.pointer new17] ww92 fun ee98 ww99 => ∃ (down97 : Bool), ee98 = .returned (.bool down97) ∧
                      ww99.cell? (a94.add 4) = some (.bool IsDown96) ∧
                      (down97 = IsDown96 →
                        Calls Try.prog 8 #[] ww99 fun ee103 ww104 => ∃ (alive102 : Bool), ee103 = .returned (.bool alive102) ∧
                        R (.bool alive102) ww104) ∧
                      (down97 ≠ IsDown96 →
                        R (.bool false) ww99)) ∧
                    (pending90 ≠ pending45 →
                      R (.bool false) ww92)) ∧
                  (same86 = false →
                    R (.bool false) ww88)) ∧
                (read77 ≠ read81 →
                  ∀ (ww84 : World), Ext no ww83 ww84 →
                  R (.bool false) ww84)) ∧
              ((read66n : Int) ≤ 0 →
                Calls Try.prog 16 #[.pointer new17, .int .i64 0] ww69 fun ee107 ww108 => ∃ (read105a : Option Addr) (read105n : Nat) (read105c : Nat) (read106 : Int), ee107 = .returned (.tuple #[.slice read105a read105n read105c, .int .i64 read106]) ∧
                Calls Try.prog 22 #[.pointer new21, .int .i64 0] ww108 fun ee111 ww112 => ∃ (read109a : Option Addr) (read109n : Nat) (read109c : Nat) (read110 : Int), ee111 = .returned (.tuple #[.slice read109a read109n read109c, .int .i64 read110]) ∧
                (read106 = read110 →
                  ∀ (ww113 : World), Ext no ww112 ww113 →
                  Calls Try.prog 17 #[.slice read105a read105n read105c, .slice read109a read109n read109c] ww113 fun ee116 ww117 => ∃ (same115 : Bool), ee116 = .returned (.bool same115) ∧
                  (same115 = true →
                    Calls Try.prog 19 #[.pointer new17] ww117 fun ee120 ww121 => ∃ (pending119 : Int), ee120 = .returned (.int .i64 pending119) ∧
                    (pending119 = pending45 →
                      ∃ a123 : Addr, new21 = some a123 ∧
                      ∃ (IsDown125 : Bool), ww121.cell? (a123.add 4) = some (.bool IsDown125) ∧
                      Calls Try.prog 18 #[.pointer new17] ww121 fun ee127 ww128 => ∃ (down126 : Bool), ee127 = .returned (.bool down126) ∧
                      ww128.cell? (a123.add 4) = some (.bool IsDown125) ∧
                      (down126 = IsDown125 →
                        Calls Try.prog 8 #[] ww128 fun ee132 ww133 => ∃ (alive131 : Bool), ee132 = .returned (.bool alive131) ∧
                        R (.bool alive131) ww133) ∧
                      (down126 ≠ IsDown125 →
                        R (.bool false) ww128)) ∧
                    (pending119 ≠ pending45 →
                      R (.bool false) ww121)) ∧
                  (same115 = false →
                    R (.bool false) ww117)) ∧
                (read106 ≠ read110 →
                  ∀ (ww113 : World), Ext no ww112 ww113 →
                  R (.bool false) ww113))) ∧
            (read67 ≠ 0 →
              Calls Try.prog 16 #[.pointer new17, .int .i64 0] ww69 fun ee136 ww137 => ∃ (read134a : Option Addr) (read134n : Nat) (read134c : Nat) (read135 : Int), ee136 = .returned (.tuple #[.slice read134a read134n read134c, .int .i64 read135]) ∧
              Calls Try.prog 22 #[.pointer new21, .int .i64 0] ww137 fun ee140 ww141 => ∃ (read138a : Option Addr) (read138n : Nat) (read138c : Nat) (read139 : Int), ee140 = .returned (.tuple #[.slice read138a read138n read138c, .int .i64 read139]) ∧
              (read135 = read139 →
                ∀ (ww142 : World), Ext no ww141 ww142 →
                Calls Try.prog 17 #[.slice read134a read134n read134c, .slice read138a read138n read138c] ww142 fun ee145 ww146 => ∃ (same144 : Bool), ee145 = .returned (.bool same144) ∧
                (same144 = true →
                  Calls Try.prog 19 #[.pointer new17] ww146 fun ee149 ww150 => ∃ (pending148 : Int), ee149 = .returned (.int .i64 pending148) ∧
                  (pending148 = pending45 →
                    ∃ a152 : Addr, new21 = some a152 ∧
                    ∃ (IsDown154 : Bool), ww150.cell? (a152.add 4) = some (.bool IsDown154) ∧
                    Calls Try.prog 18 #[.pointer new17] ww150 fun ee156 ww157 => ∃ (down155 : Bool), ee156 = .returned (.bool down155) ∧
                    ww157.cell? (a152.add 4) = some (.bool IsDown154) ∧
                    (down155 = IsDown154 →
                      Calls Try.prog 8 #[] ww157 fun ee161 ww162 => ∃ (alive160 : Bool), ee161 = .returned (.bool alive160) ∧
                      R (.bool alive160) ww162) ∧
                    (down155 ≠ IsDown154 →
                      R (.bool false) ww157)) ∧
                  (pending148 ≠ pending45 →
                    R (.bool false) ww150)) ∧
                (same144 = false →
                  R (.bool false) ww146)) ∧
              (read135 ≠ read139 →
                ∀ (ww142 : World), Ext no ww141 ww142 →
                R (.bool false) ww142)))))))

theorem cachettelaw09_DiskCopies.up (l1a : Option Addr) (l1n : Nat) (l1c : Nat) (more2a : Option Addr) (more2n : Nat) (more2c : Nat) {R : Value → World → Prop} {w : World} (h : cachettelaw09_DiskCopies.N l1a l1n l1c more2a more2n more2c R w) : cachettelaw09_DiskCopies.M l1a l1n l1c more2a more2n more2c R w := by
  unfold cachettelaw09_DiskCopies.M
  unfold cachettelaw09_DiskCopies.N at h
  refine h.mono fun ee4 ww5 h => ?_
  obtain ⟨light3, he, h⟩ := h
  refine ⟨light3, he, ?_⟩
  refine bif_of (fun c6 => ?_) (fun c6 => ?_)
  · have h := h.1 (not_t c6)
    refine h.mono fun ee8 ww9 h => ?_
    obtain ⟨alive7, he, h⟩ := h
    refine ⟨alive7, he, ?_⟩
    exact h
  · have h := h.2 (not_f c6)
    refine h.mono fun ee11 ww12 h => ?_
    obtain ⟨light10, he, h⟩ := h
    refine ⟨light10, he, ?_⟩
    refine bif_of (fun c13 => ?_) (fun c13 => ?_)
    · have h := h.1 (not_t c13)
      refine h.mono fun ee15 ww16 h => ?_
      obtain ⟨alive14, he, h⟩ := h
      refine ⟨alive14, he, ?_⟩
      exact h
    · have h := h.2 (not_f c13)
      refine h.mono fun ee19 ww20 h => ?_
      obtain ⟨new17, new18, he, h⟩ := h
      refine ⟨new17, new18, he, ?_⟩
      refine h.mono fun ee23 ww24 h => ?_
      obtain ⟨new21, new22, he, h⟩ := h
      refine ⟨new21, new22, he, ?_⟩
      refine bif_of (fun c25 => ?_) (fun c25 => ?_)
      · have h := h.1 (bne_t c25)
        exact h
      · have h := h.2 (bne_f c25)
        obtain ⟨I0, m27, h0, h⟩ := h
        refine ⟨I0, m27, h0, fun m28 ww29 i26 hI => ?_⟩
        have h := h m28 ww29 i26 hI
        refine bif_of (fun c30 => ?_) (fun c30 => ?_)
        · have h := h.1 (of_decide_eq_true c30)
          obtain ⟨a31, ha31, h⟩ := h
          refine elim_some ha31 ?_
          obtain ⟨hq1, hq2, h⟩ := h
          refine ⟨hq1, hq2, ?_⟩
          obtain ⟨xKind33, xN34, xBy35, xShort36, xKeep37a, xKeep37n, xKeep37c, hc32, h⟩ := h
          refine ⟨xKind33, xN34, xBy35, xShort36, xKeep37a, xKeep37n, xKeep37c, hc32, ?_⟩
          refine h.mono fun ee39 ww40 h => ?_
          obtain ⟨step38, he, h⟩ := h
          refine ⟨step38, he, ?_⟩
          obtain ⟨hw1, hw2, h⟩ := h
          try rw [w64 hw1 hw2]
          obtain ⟨m41, hk, h⟩ := h
          exact ⟨m41, hk, h⟩
        · have h := h.2 (Int.not_lt.1 (of_decide_eq_false c30))
          refine h.mono fun ee43 ww44 h => ?_
          obtain ⟨copy42, he, h⟩ := h
          refine ⟨copy42, he, ?_⟩
          refine h.mono fun ee46 ww47 h => ?_
          obtain ⟨pending45, he, h⟩ := h
          refine ⟨pending45, he, ?_⟩
          obtain ⟨I2, m49, h0, h⟩ := h
          refine ⟨I2, m49, h0, fun m50 ww51 i48 hI => ?_⟩
          have h := h m50 ww51 i48 hI
          refine bif_of (fun c52 => ?_) (fun c52 => ?_)
          · have h := h.1 (of_decide_eq_true c52)
            refine thenW_in fun ww53 e53 => ?_
            have h := h ww53 ww51.heap.size ((Ext.refl no ww51).x_alloc e53) (Blk.of_new e53) ((Ext.refl no ww51)).size (size_lt_alloc e53)
            obtain ⟨a55, ha55, h⟩ := h
            refine elim_some ha55 ?_
            obtain ⟨hq1, hq2, h⟩ := h
            refine ⟨hq1, hq2, ?_⟩
            obtain ⟨xKind57, xN58, xBy59, xShort60, xKeep61a, xKeep61n, xKeep61c, hc56, h⟩ := h
            refine ⟨xKind57, xN58, xBy59, xShort60, xKeep61a, xKeep61n, xKeep61c, hc56, ?_⟩
            refine h.mono fun ee63 ww64 h => ?_
            obtain ⟨step62, he, h⟩ := h
            refine ⟨step62, he, ?_⟩
            obtain ⟨hw1, hw2, h⟩ := h
            try rw [w64 hw1 hw2]
            obtain ⟨m65, hk, h⟩ := h
            exact ⟨m65, hk, h⟩
          · have h := h.2 (Int.not_lt.1 (of_decide_eq_false c52))
            refine h.mono fun ee68 ww69 h => ?_
            obtain ⟨read66a, read66n, read66c, read67, he, h⟩ := h
            refine ⟨read66a, read66n, read66c, read67, he, ?_⟩
            refine bif_of (fun c70 => ?_) (fun c70 => ?_)
            · have h := h.1 (beq_t c70)
              refine bif_of (fun c71 => ?_) (fun c71 => ?_)
              · have h := h.1 (of_decide_eq_true c71)
                obtain ⟨a72, ha72, h⟩ := h
                refine elim_some ha72 ?_
                obtain ⟨hq2, h⟩ := h
                refine ⟨by decide, hq2, ?_⟩
                obtain ⟨x74, hc73, h⟩ := h
                refine ⟨x74, hc73, ?_⟩
                refine elim_some ha72 ?_
                obtain ⟨hq2, h⟩ := h
                refine ⟨by decide, hq2, ?_⟩
                obtain ⟨hcs, h⟩ := h
                refine ⟨hcs, thenW_in fun ww75 e75 => ?_⟩
                replace h := thenW_out h e75
                refine h.mono fun ee78 ww79 h => ?_
                obtain ⟨read76a, read76n, read76c, read77, he, h⟩ := h
                refine ⟨read76a, read76n, read76c, read77, he, ?_⟩
                refine h.mono fun ee82 ww83 h => ?_
                obtain ⟨read80a, read80n, read80c, read81, he, h⟩ := h
                refine ⟨read80a, read80n, read80c, read81, he, ?_⟩
                refine thenW_in fun ww84 e84 => ?_
                have hx84 := (Ext.refl no ww83).x_drew e84
                refine bif_of (fun c85 => ?_) (fun c85 => ?_)
                · have h := h.1 (beq_t c85)
                  have h := h ww84 hx84
                  refine h.mono fun ee87 ww88 h => ?_
                  obtain ⟨same86, he, h⟩ := h
                  refine ⟨same86, he, ?_⟩
                  refine bif_of (fun c89 => ?_) (fun c89 => ?_)
                  · have h := h.1 c89
                    refine h.mono fun ee91 ww92 h => ?_
                    obtain ⟨pending90, he, h⟩ := h
                    refine ⟨pending90, he, ?_⟩
                    refine bif_of (fun c93 => ?_) (fun c93 => ?_)
                    · have h := h.1 (beq_t c93)
                      obtain ⟨a94, ha94, h⟩ := h
                      refine elim_some ha94 ?_
                      obtain ⟨IsDown96, hc95, h⟩ := h
                      refine ⟨IsDown96, hc95, ?_⟩
                      refine h.mono fun ee98 ww99 h => ?_
                      obtain ⟨down97, he, h⟩ := h
                      refine ⟨down97, he, ?_⟩
                      obtain ⟨ho100, h⟩ := h
                      refine ⟨ho100, ?_⟩
                      refine bif_of (fun c101 => ?_) (fun c101 => ?_)
                      · have h := h.1 (bbeq_t c101)
                        refine h.mono fun ee103 ww104 h => ?_
                        obtain ⟨alive102, he, h⟩ := h
                        refine ⟨alive102, he, ?_⟩
                        exact h
                      · have h := h.2 (bbeq_f c101)
                        exact h
                    · have h := h.2 (beq_f c93)
                      exact h
                  · have h := h.2 c89
                    exact h
                · have h := h.2 (beq_f c85)
                  have h := h ww84 hx84
                  exact h
              · have h := h.2 (Int.not_lt.1 (of_decide_eq_false c71))
                refine h.mono fun ee107 ww108 h => ?_
                obtain ⟨read105a, read105n, read105c, read106, he, h⟩ := h
                refine ⟨read105a, read105n, read105c, read106, he, ?_⟩
                refine h.mono fun ee111 ww112 h => ?_
                obtain ⟨read109a, read109n, read109c, read110, he, h⟩ := h
                refine ⟨read109a, read109n, read109c, read110, he, ?_⟩
                refine thenW_in fun ww113 e113 => ?_
                have hx113 := (Ext.refl no ww112).x_drew e113
                refine bif_of (fun c114 => ?_) (fun c114 => ?_)
                · have h := h.1 (beq_t c114)
                  have h := h ww113 hx113
                  refine h.mono fun ee116 ww117 h => ?_
                  obtain ⟨same115, he, h⟩ := h
                  refine ⟨same115, he, ?_⟩
                  refine bif_of (fun c118 => ?_) (fun c118 => ?_)
                  · have h := h.1 c118
                    refine h.mono fun ee120 ww121 h => ?_
                    obtain ⟨pending119, he, h⟩ := h
                    refine ⟨pending119, he, ?_⟩
                    refine bif_of (fun c122 => ?_) (fun c122 => ?_)
                    · have h := h.1 (beq_t c122)
                      obtain ⟨a123, ha123, h⟩ := h
                      refine elim_some ha123 ?_
                      obtain ⟨IsDown125, hc124, h⟩ := h
                      refine ⟨IsDown125, hc124, ?_⟩
                      refine h.mono fun ee127 ww128 h => ?_
                      obtain ⟨down126, he, h⟩ := h
                      refine ⟨down126, he, ?_⟩
                      obtain ⟨ho129, h⟩ := h
                      refine ⟨ho129, ?_⟩
                      refine bif_of (fun c130 => ?_) (fun c130 => ?_)
                      · have h := h.1 (bbeq_t c130)
                        refine h.mono fun ee132 ww133 h => ?_
                        obtain ⟨alive131, he, h⟩ := h
                        refine ⟨alive131, he, ?_⟩
                        exact h
                      · have h := h.2 (bbeq_f c130)
                        exact h
                    · have h := h.2 (beq_f c122)
                      exact h
                  · have h := h.2 c118
                    exact h
                · have h := h.2 (beq_f c114)
                  have h := h ww113 hx113
                  exact h
            · have h := h.2 (beq_f c70)
              refine h.mono fun ee136 ww137 h => ?_
              obtain ⟨read134a, read134n, read134c, read135, he, h⟩ := h
              refine ⟨read134a, read134n, read134c, read135, he, ?_⟩
              refine h.mono fun ee140 ww141 h => ?_
              obtain ⟨read138a, read138n, read138c, read139, he, h⟩ := h
              refine ⟨read138a, read138n, read138c, read139, he, ?_⟩
              refine thenW_in fun ww142 e142 => ?_
              have hx142 := (Ext.refl no ww141).x_drew e142
              refine bif_of (fun c143 => ?_) (fun c143 => ?_)
              · have h := h.1 (beq_t c143)
                have h := h ww142 hx142
                refine h.mono fun ee145 ww146 h => ?_
                obtain ⟨same144, he, h⟩ := h
                refine ⟨same144, he, ?_⟩
                refine bif_of (fun c147 => ?_) (fun c147 => ?_)
                · have h := h.1 c147
                  refine h.mono fun ee149 ww150 h => ?_
                  obtain ⟨pending148, he, h⟩ := h
                  refine ⟨pending148, he, ?_⟩
                  refine bif_of (fun c151 => ?_) (fun c151 => ?_)
                  · have h := h.1 (beq_t c151)
                    obtain ⟨a152, ha152, h⟩ := h
                    refine elim_some ha152 ?_
                    obtain ⟨IsDown154, hc153, h⟩ := h
                    refine ⟨IsDown154, hc153, ?_⟩
                    refine h.mono fun ee156 ww157 h => ?_
                    obtain ⟨down155, he, h⟩ := h
                    refine ⟨down155, he, ?_⟩
                    obtain ⟨ho158, h⟩ := h
                    refine ⟨ho158, ?_⟩
                    refine bif_of (fun c159 => ?_) (fun c159 => ?_)
                    · have h := h.1 (bbeq_t c159)
                      refine h.mono fun ee161 ww162 h => ?_
                      obtain ⟨alive160, he, h⟩ := h
                      refine ⟨alive160, he, ?_⟩
                      exact h
                    · have h := h.2 (bbeq_f c159)
                      exact h
                  · have h := h.2 (beq_f c151)
                    exact h
                · have h := h.2 c147
                  exact h
              · have h := h.2 (beq_f c143)
                have h := h ww142 hx142
                exact h

theorem cachettelaw09_DiskCopies.go (l1a : Option Addr) (l1n : Nat) (l1c : Nat) (more2a : Option Addr) (more2n : Nat) (more2c : Nat) {R : Value → World → Prop} {w : World} (h : cachettelaw09_DiskCopies.N l1a l1n l1c more2a more2n more2c R w) : Calls Try.prog 4 #[.slice l1a l1n l1c, .slice more2a more2n more2c] w fun e w' => ∃ v, e = .returned v ∧ R v w' := cachettelaw09_DiskCopies.ok l1a l1n l1c more2a more2n more2c (cachettelaw09_DiskCopies.up l1a l1n l1c more2a more2n more2c h)
theorem cachettelaw09_DiskCopies.run (l1a : Option Addr) (l1n : Nat) (l1c : Nat) (more2a : Option Addr) (more2n : Nat) (more2c : Nat) {V : Value} {Q : World → Prop} {w : World} (h : cachettelaw09_DiskCopies.N l1a l1n l1c more2a more2n more2c (fun v w' => v = V ∧ Q w') w) : Calls Try.prog 4 #[.slice l1a l1n l1c, .slice more2a more2n more2c] w (Ret V Q) := (cachettelaw09_DiskCopies.go l1a l1n l1c more2a more2n more2c h).mono fun e w' ⟨v, he, hv, hq⟩ => ⟨by rw [he, hv], hq⟩

end Go.Proofs.Ytgelicciggjpaaa

/- copy onto a row of one's own; append(x, make(..)...) onto a row without room; slices.overlaps of two blocks. -/
set_option linter.unusedSimpArgs false
set_option linter.unusedVariables false
set_option linter.unusedSectionVars false
namespace Go.Mx
open Go
section
variable {P : Program} {w w' : World} {b o sz : Nat} {t e : TypeId} {cur cs : List Value}
theorem setCells_setAll : ∀ {cs cur : List Value} {o : Nat} {w : World}, Blk w b t cur → o + cs.length ≤ cur.length → Blk (w.setCells b o cs) b t (setAll cur o cs) ∧ Ext (fun x => x = b) w (w.setCells b o cs)
  | [], cur, o, w, hb, _ => ⟨hb, Ext.refl _ _⟩
  | v :: r, cur, o, w, hb, hl => by
    simp only [List.length_cons] at hl
    have hb2 := hb.set o v
    have X := (Ext.refl (fun x => x = b) w).setCell (a := ⟨b, o, none⟩) (.inl rfl) v
    obtain ⟨h1, h2⟩ := setCells_setAll (cs := r) (o := o + 1) hb2 (by rw [List.length_set]; omega)
    exact ⟨h1, X.trans h2⟩
theorem run_copy_gen {dT sT ty elem : TypeId} {dLen dCap sLen sCap n : Nat} {a : Addr} {i : TypeInfo} (hu : P.underlying dT = some (.slice elem)) (hi : P.info? elem = some i) (hs : i.size = sz) (hm : Nat.min sLen dLen = n) (hn : cs.length = n * sz)
    (hsrc : ∀ j v, cs[j]? = some v → w.cell? (a.add j) = some v) (hb : Blk w b t cur) (hl : o + cs.length ≤ cur.length) (h1 : ∀ v ∈ cs, v.oneCell' = true) :
    (Builtin.copy_ #[dT, sT] ty #[.slice (some ⟨b, o, none⟩) dLen dCap, .slice (some a) sLen sCap]).run P w = .ok (goInt n) (w.setCells b o cs) := by
  have hfc := run_firstCells_some (P := P) w sz n a sLen sCap cs hn hsrc
  have hcan : ∀ j, j < cs.length → canStore w ⟨b, o + j, none⟩ := fun j hj => hb.can (v := cur[o + j]'(by omega)) (List.getElem?_eq_getElem (by omega))
  have hst := run_storeCells_cells (P := P) b o cs 0 w (fun j hj => by obtain ⟨⟨u, hu⟩, _⟩ := hcan j hj; simp [hu]) (fun j hj => by simpa using (hcan j hj).2) h1
  simp only [Nat.add_zero] at hst
  simp [Builtin.copy_, run_underlying hu, Builtin.lenOf, sizeOf, typeInfo, hi, hs, hm, hfc, hst]
theorem setAll_mid {u x y v : List Value} (h : v.length = x.length) : setAll (u ++ x ++ y) u.length v = u ++ v ++ y := by
  have := setAll_shift (vs := v) (u := u) (cs := x ++ y) (k := 0)
  rw [Nat.add_zero] at this
  rw [List.append_assoc, this, setAll_head h, List.append_assoc]
end
end Go.Mx

/- Disk: sectors and writes as lists; a disk in memory; what the small functions answer. -/
set_option linter.unusedVariables false
set_option linter.unusedSimpArgs false
set_option maxRecDepth 20000
set_option maxHeartbeats 4000000
namespace Go.Proofs.Ytgelicciggjpaaa
open Go Go.Mx Go.Proofs
open W (OwnB)
theorem inf61 : (Try.prog.info? 61).map (fun i => (i.zero, i.size, i.bytes)) = some (some (.agg (List.toArray (List.replicate 64 (.int .u8 0) ++ [.bool false]))), 65, 65) := by kernel_rfl
theorem inf63 : (Try.prog.info? 63).map (fun i => (i.zero, i.size, i.bytes)) = some (some (.agg (List.toArray ([.int .i64 0] ++ List.replicate 64 (.int .u8 0) ++ [.bool false]))), 66, 80) := by kernel_rfl
/-- a sector. -/
structure Sec where
  b : List UInt8
  torn : Bool
  h : b.length = 64
def Sec.C (s : Sec) : List Value := bytesV s.b ++ [.bool s.torn]
theorem bytesV_length (b : List UInt8) : (bytesV b).length = b.length := by unfold bytesV; simp
theorem Sec.len (s : Sec) : s.C.length = 65 := by unfold Sec.C; rw [List.length_append, bytesV_length, s.h]; rfl
def Sec.z : Sec := ⟨List.replicate 64 0, false, by simp⟩
/-- a write that is pending. -/
structure Wt where
  i : Int
  s : Sec
def Wt.C (x : Wt) : List Value := .int .i64 x.i :: x.s.C
theorem Wt.len (x : Wt) : x.C.length = 66 := by unfold Wt.C; rw [List.length_cons, x.s.len]
theorem bytesV_one {b : List UInt8} : ∀ u ∈ bytesV b, u.oneCell' = true := fun u hu => by
  unfold bytesV at hu
  obtain ⟨x, _, rfl⟩ := List.mem_map.1 hu
  rfl
theorem Sec.one (s : Sec) : ∀ u ∈ s.C, u.oneCell' = true := fun u hu => by
  rcases List.mem_append.1 hu with h | h
  · exact bytesV_one u h
  · simp at h; subst h; rfl
theorem Wt.one (x : Wt) : ∀ u ∈ x.C, u.oneCell' = true := fun u hu => by
  rcases List.mem_cons.1 hu with rfl | h
  · rfl
  · exact x.s.one u h
theorem sz65 : szB Try.prog 61 65 = true := by kernel_rfl
theorem sz66 : szB Try.prog 63 66 = true := by kernel_rfl
/-- a disk. -/
structure DS where
  good : List Sec
  pend : List Wt
  left : Int
  armed : Bool
  down : Bool
  count : Int
def stI (b : Bool) : Int := if b then 1 else 0
def DS.V (d : DS) (ga : Option Addr) (gc : Nat) (pa : Option Addr) (pc : Nat) : List Value := [.slice ga d.good.length gc, .slice pa d.pend.length pc, .int .i64 d.left, .bool d.armed, .int .i64 (stI d.down), .int .i64 d.count]
abbrev SRw (w : World) (o : Own) (g : Nat) (a : Option Addr) (c : Nat) (l : List Sec) : Prop := Grows 61 65 w o g a l.length c (l.flatMap Sec.C)
abbrev WRw (w : World) (o : Own) (g : Nat) (a : Option Addr) (c : Nat) (l : List Wt) : Prop := Grows 63 66 w o g a l.length c (l.flatMap Wt.C)
/-- a disk in memory, with all that is its own. -/
structure DG (w : World) (o : Own) (g : Nat) (d : DS) : Prop where
  mem : ∃ ga gc pa pc, Blk w g 58 (d.V ga gc pa pc) ∧ SRw w o g ga gc d.good ∧ WRw w o g pa pc d.pend
  tg : o g = some g
structure DS.ok (d : DS) (m : Nat) : Prop where
  n1 : 1 ≤ d.good.length
  n2 : d.good.length ≤ 400
  at_ : ∀ x ∈ d.pend, 0 ≤ x.i ∧ x.i < d.good.length
  pl : d.pend.length ≤ m
  cl : 0 ≤ d.count ∧ d.count ≤ m
  left : 0 ≤ d.left ∧ d.left < 9223372036854775808
def isD (d : DS) : Int := if d.down then 19 else 0
def hasD (d : DS) (i : Int) : Int := if d.down then 19 else if i < 0 ∨ (d.good.length : Int) ≤ i then 2 else 0
def lastP (i : Int) : Sec → List Wt → Sec
  | s, [] => s
  | s, x :: r => lastP i (if x.i = i then x.s else s) r
def readS (d : DS) (i : Int) : Sec := lastP i (d.good[i.toNat]?.getD Sec.z) d.pend
def readD (d : DS) (i : Int) : List UInt8 × Int := if hasD d i = 0 then (if (readS d i).torn then ([], 5) else ((readS d i).b, 0)) else ([], hasD d i)
def writeD (d : DS) (i : Int) (b : List UInt8) : DS × Int :=
  if hasD d i = 0 then
    (if h : b.length = 64 then
      (if d.armed then
        (if d.left = 0 then ({ d with pend := d.pend ++ [⟨i, ⟨b, true, h⟩⟩], down := true }, 19)
         else ({ d with pend := d.pend ++ [⟨i, ⟨b, false, h⟩⟩], left := d.left - 1, count := d.count + 1 }, 0))
       else ({ d with pend := d.pend ++ [⟨i, ⟨b, false, h⟩⟩], count := d.count + 1 }, 0))
     else (d, 1))
  else (d, hasD d i)
def settleL (k : Nat → Bool) : Nat → List Sec → List Wt → List Sec
  | _, g, [] => g
  | t, g, x :: r => settleL k (t + 1) (if k t then g.set x.i.toNat x.s else g) r
def settleD (d : DS) (k : Nat → Bool) : DS := { d with good := settleL k 0 d.good d.pend, pend := [] }
def syncD (d : DS) : DS × Int := if d.down then (d, 19) else (settleD d fun _ => true, 0)
def armD (d : DS) (n : Int) : DS × Int := if d.down then (d, 19) else if n < 0 then (d, 1) else ({ d with left := n, armed := true }, 0)
def keepF (l : List Bool) (t : Nat) : Bool := l[t]?.getD false
def restartD (d : DS) (l : List Bool) : DS := { settleD d (keepF l) with down := false, armed := false }
section
variable {K : Nat → Prop} {w w' w1 : World} {o o' o1 : Own} {g g2 : Nat} {d : DS} {i : Int}
theorem DG.step (h : DG w o g d) (s : Step K w o w' o') (hk : ¬ K g) : DG w' o' g d := by
  obtain ⟨⟨ga, gc, pa, pc, hb, hg, hp⟩, tg⟩ := h
  exact ⟨⟨ga, gc, pa, pc, s.blk hb tg hk, hg.step s hk, hp.step s hk⟩, by rw [s.own hb.lt]; exact tg⟩
theorem DG.lt (h : DG w o g d) : g < w.heap.size := by
  obtain ⟨⟨ga, gc, pa, pc, hb, hg, hp⟩, tg⟩ := h
  exact hb.lt
/-- the disk's numbers turned. -/
theorem DG.turn {ga pa : Option Addr} {gc pc : Nat} {d2 : DS} {cs0 : List Value} (hg : SRw w o g ga gc d2.good) (hp : WRw w o g pa pc d2.pend) (tg : o g = some g) (hb0 : Blk w g 58 cs0) (ok : Tags w o) (X : Ext (fun b => b = g) w w')
    (hb : Blk w' g 58 (d2.V ga gc pa pc)) : Step (fun j => j = g) w o w' (grow w o) ∧ DG w' (grow w o) g d2 := by
  have s : Step (fun j => j = g) w o w' (grow w o) := Step.of_ext X ok fun b hb _ => by subst hb; exact tg
  refine ⟨s, ⟨ga, gc, pa, pc, hb, ?_, ?_⟩, by rw [s.own hb0.lt]; exact tg⟩
  · exact hg.keep X (hg.ne hb0 (by decide)) fun b hb => s.own hb
  · exact hp.keep X (hp.ne hb0 (by decide)) fun b hb => s.own hb
theorem is_spec (h : DG w o g d) : Calls Try.prog 26 #[.pointer (some (blk g))] w (Ret (.int .i64 (isD d)) fun w' => w' = w) := by
  obtain ⟨⟨ga, gc, pa, pc, hb, hg, hp⟩, tg⟩ := h
  refine disk_Disk_is.run _ ?_
  unfold disk_Disk_is.N
  refine ⟨fun h => (by cases h), fun _ => ⟨_, rfl, stI d.down, hb.celli 4 rfl rfl, fun h => ⟨?_, rfl⟩, fun h => ⟨?_, rfl⟩⟩⟩
  all_goals unfold stI at h; unfold isD
  · cases hd : d.down
    · rw [hd] at h; cases h
    · rfl
  · cases hd : d.down
    · rfl
    · rw [hd] at h; exact absurd rfl h
theorem has_spec (h : DG w o g d) (i : Int) : Calls Try.prog 25 #[.pointer (some (blk g)), .int .i64 i] w (Ret (.int .i64 (hasD d i)) fun w' => w' = w) := by
  refine disk_Disk_has.run _ _ ?_
  unfold disk_Disk_has.N
  refine (is_spec h).mono fun e w5 ⟨he, hw⟩ => ⟨_, he, fun hn => ?_, fun h0 => ?_⟩
  · subst hw
    refine ⟨?_, rfl⟩
    unfold isD at hn ⊢; unfold hasD
    cases hd : d.down
    · rw [hd] at hn; exact absurd rfl hn
    · rfl
  · subst hw
    have hd : d.down = false := by
      unfold isD at h0
      cases hd : d.down
      · rfl
      · rw [hd] at h0; cases h0
    obtain ⟨⟨ga, gc, pa, pc, hb, hg, hp⟩, tg⟩ := h
    unfold hasD
    rw [hd]
    refine ⟨fun hi => ⟨?_, rfl⟩, fun hi => ⟨_, rfl, ga, _, gc, hb.celli 0 rfl rfl, fun hn => ⟨?_, rfl⟩, fun hn => ⟨?_, rfl⟩⟩⟩
    · rw [if_neg (by decide), if_pos (.inl hi)]
    · rw [if_neg (by decide), if_pos (.inr hn)]
    · rw [if_neg (by decide), if_neg (by omega)]
theorem Down_spec (h : DG w o g d) : Calls Try.prog 18 #[.pointer (some (blk g))] w (Ret (.bool d.down) fun w' => w' = w) := by
  obtain ⟨⟨ga, gc, pa, pc, hb, hg, hp⟩, tg⟩ := h
  refine disk_Disk_Down.run _ ?_
  unfold disk_Disk_Down.N
  refine ⟨fun _ => ⟨_, rfl, stI d.down, hb.celli 4 rfl rfl, ?_, rfl⟩, fun h => (by cases h)⟩
  unfold stI
  cases d.down <;> rfl
theorem Pending_spec (h : DG w o g d) : Calls Try.prog 19 #[.pointer (some (blk g))] w (Ret (.int .i64 d.pend.length) fun w' => w' = w) := by
  obtain ⟨⟨ga, gc, pa, pc, hb, hg, hp⟩, tg⟩ := h
  refine disk_Disk_Pending.run _ ?_
  unfold disk_Disk_Pending.N
  exact ⟨fun h => (by cases h), fun _ => ⟨_, rfl, pa, _, pc, hb.celli 1 rfl rfl, rfl, rfl⟩⟩
theorem Arm_spec (h : DG w o g d) (ok : Tags w o) (n : Int) : Calls Try.prog 14 #[.pointer (some (blk g)), .int .i64 n] w (Ret (.int .i64 (armD d n).2) fun w' => ∃ o', Step (fun j => j = g) w o w' o' ∧ DG w' o' g (armD d n).1) := by
  refine disk_Disk_Arm.run _ _ ?_
  unfold disk_Disk_Arm.N
  refine (is_spec h).mono fun e w5 ⟨he, hw⟩ => ⟨_, he, fun hn => ?_, fun h0 => ?_⟩
  · subst hw
    unfold isD at hn ⊢; unfold armD
    cases hd : d.down
    · rw [hd] at hn; exact absurd rfl hn
    · exact ⟨rfl, o, Step.refl _ ok, h⟩
  · subst hw
    have hd : d.down = false := by
      unfold isD at h0
      cases hd : d.down
      · rfl
      · rw [hd] at h0; cases h0
    have h' := h
    obtain ⟨⟨ga, gc, pa, pc, hb, hg, hp⟩, tg⟩ := h
    have hA : armD d n = if n < 0 then (d, 1) else ({ d with left := n, armed := true }, 0) := by unfold armD; rw [if_neg (by rw [hd]; decide)]
    rw [hA]
    refine ⟨fun hi => ?_, fun hi => ⟨_, rfl, hb.cani 2 rfl rfl, thenW_in fun w9 e9 => ?_⟩⟩
    · rw [if_pos hi]
      exact ⟨rfl, o, Step.refl _ ok, h'⟩
    · rw [if_neg (by omega)]
      have X9 := (Ext.refl (fun b => b = g) w5).x_set (q := g) (i := 2) rfl (.inl rfl) e9
      have b9 := hb.seti 2 (v := .int .i64 n) rfl e9
      refine ⟨b9.cani 3 rfl rfl, thenW_in fun w10 e10 => ?_⟩
      have X10 := X9.x_set (q := g) (i := 3) rfl (.inl rfl) e10
      have b10 := b9.seti 3 (v := .bool true) rfl e10
      obtain ⟨s, D⟩ := DG.turn (d2 := { d with left := n, armed := true }) hg hp tg hb ok X10 b10
      exact ⟨rfl, _, s, D⟩
end
end Go.Proofs.Ytgelicciggjpaaa

/- Disk: Read and Write. -/
set_option linter.unusedVariables false
set_option linter.unusedSimpArgs false
set_option maxRecDepth 20000
set_option maxHeartbeats 4000000
namespace Go.Proofs.Ytgelicciggjpaaa
open Go Go.Mx Go.Proofs
open W (OwnB)
theorem inf5 : (Try.prog.info? 5).map (fun i => (i.zero, i.size, i.bytes)) = some (some (.int .u8 0), 1, 1) := by kernel_rfl
section
variable {K : Nat → Prop} {w w' w1 : World} {o o' o1 : Own} {g g2 m : Nat} {d : DS} {i : Int}
/-- bytes that are read: a fresh array, the reader's. -/
def RdD (w : World) (o : Own) (r : List UInt8 × Int) (a : Option Addr) (n c : Nat) (w' : World) (o' : Own) : Prop :=
  n = r.1.length ∧ n ≤ c ∧ Step no w o w' o' ∧ (r.2 ≠ 0 → a = none ∧ r.1 = []) ∧ (r.2 = 0 → ∃ q t, a = some (blk q) ∧ Blk w' q 61 (bytesV r.1 ++ [.bool t]) ∧ r.1.length = 64 ∧ w.heap.size ≤ q ∧ o' q = some q)
theorem lastP_snoc (i : Int) (x : Wt) : ∀ (l : List Wt) (s : Sec), lastP i s (l ++ [x]) = if x.i = i then x.s else lastP i s l
  | [], _ => rfl
  | y :: r, s => lastP_snoc i x r _
theorem hasD_0 (h : hasD d i = 0) : d.down = false ∧ 0 ≤ i ∧ i < d.good.length := by
  unfold hasD at h
  cases hd : d.down
  · rw [hd, if_neg (by decide)] at h
    by_cases hi : i < 0 ∨ (d.good.length : Int) ≤ i
    · rw [if_pos hi] at h; cases h
    · exact ⟨rfl, by omega, by omega⟩
  · rw [hd, if_pos rfl] at h; cases h
theorem Sec.arr (s : Sec) : szB Try.prog 61 s.C.toArray.size = true := by rw [List.size_toArray, s.len]; exact sz65
theorem Wt.arr (x : Wt) : szB Try.prog 63 x.C.toArray.size = true := by rw [List.size_toArray, x.len]; exact sz66
theorem setAll_all {vs cs : List Value} (h : vs.length = cs.length) : setAll cs 0 vs = vs := by
  have := setAll_head (cs := []) h
  simpa using this
/-- a whole value stored into a block of its size. -/
theorem stores_all {q : Nat} {t : TypeId} {cs vs : List Value} {Φ : World → Prop} (hb : Blk w q t cs) (hl : vs.length = cs.length) (h1 : ∀ v ∈ vs, v.oneCell' = true) (h : ∀ w', Ext (fun b => b = q) w w' → Blk w' q t vs → Φ w') : storesK (blk q) vs 0 w Φ := by
  have := storesK_blk (k := 0) (j := 0) hb (vs := vs) (by omega) h1 (Φ := Φ) fun w' X hb' => h w' X (by rwa [Nat.zero_add, setAll_all hl] at hb')
  exact this
theorem dRead_spec (h : DG w o g d) (ok : Tags w o) (i : Int) (hpl : d.pend.length < 1000000) :
    Calls Try.prog 16 #[.pointer (some (blk g)), .int .i64 i] w (fun x w' => ∃ a n c o', x = .returned (.tuple #[.slice a n c, .int .i64 (readD d i).2]) ∧ RdD w o (readD d i) a n c w' o') := by
  refine (disk_Disk_Read.go _ _ (R := fun v w' => ∃ a n c o', v = (.tuple #[.slice a n c, .int .i64 (readD d i).2]) ∧ RdD w o (readD d i) a n c w' o') ?_).mono fun x w' ⟨v, he, a, n, c, o', hv, hR⟩ => ⟨a, n, c, o', by rw [he, hv], hR⟩
  unfold disk_Disk_Read.N
  refine (has_spec h i).mono fun e w5 ⟨he, hw⟩ => ⟨_, he, fun hn => ?_, fun h0 => ?_⟩
  · subst hw
    unfold readD
    rw [if_neg hn]
    exact ⟨none, 0, 0, o, rfl, rfl, Nat.le_refl _, Step.refl _ ok, fun _ => ⟨rfl, rfl⟩, fun h => absurd h hn⟩
  subst hw
  obtain ⟨hd, hi0, hi1⟩ := hasD_0 h0
  have h' := h
  obtain ⟨⟨ga, gc, pa, pc, hb, hg, hp⟩, tg⟩ := h
  have hgt : d.good[i.toNat]? = some d.good[i.toNat] := List.getElem?_eq_getElem (by omega)
  have hrd : readS d i = lastP i (d.good[i.toNat]'(by omega)) d.pend := by unfold readS; rw [hgt]; rfl
  generalize hs0 : d.good[i.toNat]'(by omega) = s0 at *
  have hgr := hg.row
  obtain ⟨ad, rfl⟩ := hgr.faddr Sec.len (by decide) (i := i.toNat) (by omega)
  refine ⟨_, rfl, some ad, _, gc, hb.celli 0 rfl rfl, ad, rfl, hi0, hi1, s0.C.toArray, s0.arr, hgr.floads Sec.len hgt, fun w13 q14 X13 hb13 hq hq' => ⟨s0.arr, stores_all hb13 (by rw [s0.len]; simp) s0.one fun w15 X15 hb15 => ?_⟩⟩
  have s13 := (Step.of_no X13 ok).tag (j := q14) hq hq'
  have M13 : Mine [q14] w13 (tag (grow w5 o) q14 q14) := fun p hp => by rw [show p = q14 by simpa using hp]; exact ⟨hq', tag_self⟩
  have s15' := Step.stores X15 s13.ok M13 (by simp)
  have s15 : Step no w5 o w15 _ := s13.trans' s15' fun j hj => .inr (by simp at hj; omega)
  have hbk : ∀ {w1 : World} {o1 : Own}, Step no w5 o w1 o1 → Blk w1 g 58 (d.V (some ad) gc pa pc) := fun s => s.blk hb tg id
  refine ⟨pa, _, pc, (hbk s15).celli 1 rfl rfl, fun k vs w1 => ∃ (t : Nat) (o1 : Own), vs = [.int .i64 t] ∧ k + t = d.pend.length ∧ Step no w5 o w1 o1 ∧ Mine [q14] w1 o1 ∧ Blk w1 q14 61 (lastP i s0 (d.pend.take t)).C, d.pend.length, ⟨0, _, rfl, rfl, s15, M13.step s15', hb15⟩, ?_⟩
  rintro k w21 t0 ⟨t, o21, hi, hk, s21, M21, hb21⟩
  simp only [List.cons.injEq, Value.int.injEq, true_and, and_true] at hi
  subst hi
  refine ⟨fun ht => ?_, fun ht => ?_⟩
  · have htl : t < d.pend.length := by omega
    have hgp : d.pend[t]? = some d.pend[t] := List.getElem?_eq_getElem htl
    have htk : d.pend.take (t + 1) = d.pend.take t ++ [d.pend[t]] := by rw [List.take_add_one, hgp]; rfl
    generalize d.pend[t] = x at *
    have hpr := (hp.step s21 id).row
    obtain ⟨pd, rfl⟩ := hpr.faddr Wt.len (by decide) htl
    refine ⟨pd, rfl, by omega, by omega, x.C.toArray, x.arr, by rw [Int.toNat_natCast]; exact hpr.floads Wt.len hgp, fun w26 q27 X26 hb26 hq2 hq2' => ⟨x.arr, stores_all hb26 (by rw [x.len]; simp) x.one fun w28 X28 hb28 => ?_⟩⟩
    have s26 := (Step.of_no X26 s21.ok).tag (j := q27) hq2 hq2'
    have M26 : Mine [q27] w26 (tag (grow w21 o21) q27 q27) := fun p hp => by rw [show p = q27 by simpa using hp]; exact ⟨hq2', tag_self⟩
    have s28' := Step.stores X28 s26.ok M26 (by simp)
    have s28 : Step no w21 o21 w28 _ := s26.trans' s28' fun j hj => .inr (by simp at hj; omega)
    have hq14 := M21.lt (p := q14) (by simp)
    have M28 := M21.step s28
    have hb14 := s28.blk hb21 (M21 q14 (by simp)).2 id
    have s528 := s21.trans s28
    refine ⟨x.i, hb28.celli 0 rfl rfl, fun hxi => ⟨x.s.C.toArray, x.s.arr, ?_, x.s.arr, stores_all hb14 (by rw [x.s.len, Sec.len]) x.s.one fun w34 X34 hb34 => ⟨by omega, by omega, ?_⟩⟩, fun hxi => ⟨by omega, by omega, k - 1, by omega, t + 1, _, rfl, by omega, s528, M28, ?_⟩⟩
    · exact cellsAt_blk hb28 _ 0 fun n v hv => by rw [show 1 + 0 + n = n + 1 by omega]; exact hv
    · have s34' := Step.stores X34 s528.ok M28 (by simp)
      exact ⟨k - 1, by omega, t + 1, _, rfl, by omega, s528.trans' s34' fun j hj => .inr (by simp at hj; omega), M28.step s34', by rw [htk, lastP_snoc, if_pos hxi]; exact hb34⟩
    · rw [htk, lastP_snoc, if_neg hxi]; exact hb14
  · rw [List.take_of_length_le (by omega), ← hrd] at hb21
    have hcell : w21.cell? ((blk q14).add 64) = some (.bool (readS d i).torn) := hb21.celli 64 rfl (by
      unfold Sec.C
      rw [List.getElem?_append_right (by rw [bytesV_length, (readS d i).h]; omega), bytesV_length, (readS d i).h]; rfl)
    refine ⟨_, hcell, fun htn => ?_, fun htn => ?_⟩
    · unfold readD
      rw [if_pos h0, if_pos htn]
      exact ⟨none, 0, 0, o21, rfl, rfl, Nat.le_refl _, s21, fun _ => ⟨rfl, rfl⟩, fun h => absurd h (by decide)⟩
    · unfold readD
      rw [if_pos h0, if_neg (by rw [htn]; decide)]
      exact ⟨some (blk q14), 64, 64, o21, rfl, (readS d i).h.symm, Nat.le_refl _, s21, fun h => absurd rfl h, fun _ => ⟨q14, _, rfl, hb21, (readS d i).h, hq, (M21 q14 (by simp)).2⟩⟩
end
end Go.Proofs.Ytgelicciggjpaaa

/- Disk: Write. -/
set_option linter.unusedVariables false
set_option linter.unusedSimpArgs false
set_option maxRecDepth 20000
set_option maxHeartbeats 4000000
namespace Go.Proofs.Ytgelicciggjpaaa
open Go Go.Mx Go.Proofs
open W (OwnB)
section
variable {K : Nat → Prop} {w w' w1 : World} {o o' o1 : Own} {g g2 m : Nat} {d : DS} {i : Int} {a : Option Addr} {c : Nat} {l : List Wt}
theorem Wts.one {l : List Wt} : ∀ u ∈ l.flatMap Wt.C, u.oneCell' = true := fun u hu => by
  obtain ⟨x, _, h⟩ := List.mem_flatMap.1 hu
  exact x.one u h
theorem WRw.push (h : WRw w o g a c l) (ok : Tags w o) (hg : g < w.heap.size) (hl : l.length < 1000000) {xa : Option Addr} {xc : Nat} {r : List Wt} (hr : RowAt w xa (r.flatMap Wt.C)) (hrl : r.length < 1000000) :
    ∃ a' n' c' w' o', (Builtin.append_ #[55, 55] 55 #[.slice a l.length c, .slice xa r.length xc]).run Try.prog w = .ok (.slice a' n' c') w' ∧ n' = (l ++ r).length ∧ Step (fun j => j = g) w o w' o' ∧ WRw w' o' g a' c' (l ++ r) ∧ Ext (fun b => ∃ ad, a = some ad ∧ b = ad.block) w w' := by
  obtain ⟨i, hi, hz, hsz, hby⟩ := info_of inf63
  obtain ⟨a', c', w', o', hrun, s2, hrow, hk, _⟩ := Grows.push (ty := 55) Try.underlying55 hi hz hsz hby rfl (by decide) h ok hg (xa := xa) (m := r.length) (xc := xc) (news := r.flatMap Wt.C) (flat_length Wt.len r) hr Wts.one (by omega) (by omega)
  exact ⟨a', _, c', w', o', hrun, by simp, s2, by unfold WRw; rw [List.length_append, List.flatMap_append]; exact hrow, ⟨s2.ext.os, s2.ext.tape, s2.ext.output, s2.ext.size, fun b hb hn => hk b hb fun ad ha hb' => hn ⟨ad, ha, hb'⟩⟩⟩
theorem last_set (l : List Wt) (x y : Wt) (k : Nat) (v : Value) (hk : k < 66) (h : x.C.set k v = y.C) : ((l ++ [x]).flatMap Wt.C).set (l.length * 66 + k) v = (l ++ [y]).flatMap Wt.C := by
  rw [List.flatMap_append, List.set_append_right _ _ (by rw [flat_length Wt.len]; omega), flat_length Wt.len, List.flatMap_append]
  congr 1
  rw [show l.length * 66 + k - l.length * 66 = k by omega]
  simpa using h
/-- a write is pending. -/
theorem pend_spec (h : DG w o g d) (ok : Tags w o) (hpl : d.pend.length < 100000) (x : Wt) {q : Nat} (hb : Blk w q 63 x.C) :
    ∃ pa n pc, w.cell? ((blk g).add 1) = some (.slice pa n pc) ∧ ∃ a' n' c' w' o', (Builtin.append_ #[55, 55] 55 #[.slice pa n pc, .slice (some (blk q)) 1 1]).run Try.prog w = .ok (.slice a' n' c') w' ∧ Step (fun j => j = g) w o w' o' ∧
      canStore w' ((blk g).add 1) ∧ ∀ w2, w2 = w'.setCell ((blk g).add 1) (.slice a' n' c') → Step (fun j => j = g) w o w2 (grow w' o') ∧ DG w2 (grow w' o') g { d with pend := d.pend ++ [x] } := by
  obtain ⟨⟨ga, gc, pa, pc, hbk, hg, hp⟩, tg⟩ := h
  obtain ⟨a', n', c', w', o', hrun, hn, s2, hp2, X2⟩ := hp.push ok hbk.lt (by omega) (xa := some (blk q)) (xc := 1) (r := [x]) (by simpa using RowAt.of_blk hb) (by simp)
  subst hn
  have hb2 : Blk w' g 58 (d.V ga gc pa pc) := hbk.ext X2 fun ⟨ad, h1, h2⟩ => hp.ne hbk (by decide) ad h1 h2.symm
  have hg2 : SRw w' o' g ga gc d.good := hg.keep X2 (fun ad ha ⟨ad', h1, h2⟩ => hg.apart hp (by decide) ad ad' ha h1 h2) fun b hb => s2.own hb
  have tg2 : o' g = some g := by rw [s2.own hbk.lt]; exact tg
  refine ⟨pa, _, pc, hbk.celli 1 rfl rfl, a', _, c', w', o', hrun, s2, hb2.cani 1 rfl rfl, fun w3 e3 => ?_⟩
  have X3 := (Ext.refl (fun b => b = g) w').x_set (q := g) (i := 1) rfl (.inl rfl) e3
  have b3 := hb2.seti 1 (v := .slice a' (d.pend ++ [x]).length c') rfl e3
  obtain ⟨s3, D3⟩ := DG.turn (d2 := { d with pend := d.pend ++ [x] }) hg2 hp2 tg2 hb2 s2.ok X3 b3
  exact ⟨s2.trans s3, D3⟩
/-- the last one that is pending is torn. -/
theorem tear_spec {x y : Wt} (h : DG w o g { d with pend := d.pend ++ [x] }) (ok : Tags w o) (hpl : d.pend.length < 100000) (hxy : x.C.set 65 (.bool true) = y.C) :
    ∃ pa n pc, w.cell? ((blk g).add 1) = some (.slice pa n pc) ∧ n = d.pend.length + 1 ∧ ∃ ad, pa = some ad ∧ ∀ w2, Ext no w w2 → canStore w2 (ad.add (d.pend.length * 66 + 65)) ∧ ∀ w3, w3 = w2.setCell (ad.add (d.pend.length * 66 + 65)) (.bool true) → ∃ o', Step (fun j => j = g) w o w3 o' ∧ DG w3 o' g { d with pend := d.pend ++ [y] } := by
  have hh := h
  obtain ⟨⟨ga, gc, pa, pc, hbk, hg, hp⟩, tg⟩ := h
  have hl : (d.pend ++ [x]).length = d.pend.length + 1 := by simp
  have hne : (d.pend ++ [x]).flatMap Wt.C ≠ [] := fun e => by
    have := congrArg List.length e
    rw [flat_length Wt.len, hl] at this; simp at this
  obtain ⟨b, cur, ha, hb, hle, hob, hbl, hput⟩ := Grows.put (j := d.pend.length * 66 + 65) (vs := [.bool true]) hp ok hne
  subst ha
  have hj : d.pend.length * 66 + 65 < cur.length := by
    have : ((d.pend ++ [x]).flatMap Wt.C).length = (d.pend.length + 1) * 66 := by rw [flat_length Wt.len, hl]
    have hle' : ((d.pend ++ [x]).flatMap Wt.C).length ≤ cur.length := hle
    omega
  refine ⟨_, _, pc, hbk.celli 1 rfl rfl, hl, blk b, rfl, fun w2 X => ⟨?_, fun w3 e3 => ?_⟩⟩
  · have hb2 := hb.ext X (fun h => h)
    exact hb2.cana (List.getElem?_eq_getElem hj)
  · have hb2 := hb.ext X (fun h => h)
    rw [add_blk] at e3
    have X3 : Ext (fun q => q = b) w w3 := (X.mono fun _ h _ => h.elim : Ext (fun q => q = b) w w2).x_set (q := b) (i := d.pend.length * 66 + 65) rfl (.inl rfl) e3
    have b3 := hb2.seti (d.pend.length * 66 + 65) (v := .bool true) rfl e3
    obtain ⟨s3, h3⟩ := hput w3 X3 b3
    have hset : setAll ((d.pend ++ [x]).flatMap Wt.C) (d.pend.length * 66 + 65) [.bool true] = (d.pend ++ [y]).flatMap Wt.C := last_set d.pend x y 65 _ (by decide) hxy
    refine ⟨_, s3, ⟨ga, gc, some (blk b), pc, ?_, ?_, ?_⟩, by rw [s3.own hbk.lt]; exact tg⟩
    · have hgb : g ≠ b := fun e => hp.ne hbk (by decide) _ rfl (by rw [e])
      have := hbk.ext X3 hgb
      have e : (DS.V { d with pend := d.pend ++ [y] } ga gc (some (blk b)) pc) = (DS.V { d with pend := d.pend ++ [x] } ga gc (some (blk b)) pc) := by unfold DS.V; simp
      rw [e]; exact this
    · exact hg.keep X3 (fun ad ha h2 => hg.apart hp (by decide) ad (blk b) ha rfl h2) fun b hb => s3.own hb
    · unfold WRw
      rw [← hset, show (d.pend ++ [y]).length = (d.pend ++ [x]).length by simp]
      exact h3
theorem zeros_write (i : Int) (b : List UInt8) (t : Bool) (h : b.length = 64) : setAll ([Value.int .i64 i] ++ List.replicate 64 (.int .u8 0) ++ [.bool t]) 1 (bytesV b) = Wt.C ⟨i, ⟨b, t, h⟩⟩ := by
  have := setAll_mid (u := [Value.int .i64 i]) (x := List.replicate 64 (.int .u8 0)) (y := [.bool t]) (v := bytesV b) (by rw [bytesV_length, h]; simp)
  rw [show ([Value.int .i64 i] : List Value).length = 1 from rfl] at this
  rw [this]; rfl
theorem dWrite_spec (h : DG w o g d) (ok : Tags w o) (hd : d.ok m) (hm : m < 100000) (i : Int) {ba : Option Addr} {bc : Nat} {b : List UInt8} (hb : RowAt w ba (bytesV b)) :
    Calls Try.prog 10 #[.pointer (some (blk g)), .int .i64 i, .slice ba b.length bc] w (Ret (.int .i64 (writeD d i b).2) fun w' => ∃ o', Step (fun j => j = g) w o w' o' ∧ DG w' o' g (writeD d i b).1) := by
  refine disk_Disk_Write.run _ _ _ _ _ ?_
  unfold disk_Disk_Write.N
  refine (has_spec h i).mono fun e w6 ⟨he, hw⟩ => ⟨_, he, fun hn => ?_, fun h0 => ?_⟩
  · subst hw
    unfold writeD
    rw [if_neg hn]
    exact ⟨rfl, o, Step.refl _ ok, h⟩
  subst hw
  refine ⟨fun hn => ?_, fun h64 w9 q10 X9 hb9 hq hq' => ?_⟩
  · unfold writeD
    rw [if_pos h0, dif_neg (by omega)]
    exact ⟨rfl, o, Step.refl _ ok, h⟩
  have hbl : b.length = 64 := by omega
  have hpl := hd.pl
  have s9 := (Step.of_no X9 ok).tag (j := q10) hq hq'
  have M9 : Mine [q10] w9 (tag (grow w6 o) q10 q10) := fun p hp => by rw [show p = q10 by simpa using hp]; exact ⟨hq', tag_self⟩
  refine putsK_ok (k := 0) hb9 (by simp) fun w76 X76 hb76 => ?_
  rw [Nat.zero_add, setAll_all (by simp)] at hb76
  have s76' := Step.stores X76 s9.ok M9 (by simp)
  have s76 : Step no w6 o w76 _ := s9.trans' s76' fun j hj => .inr (by simp at hj; omega)
  have M76 := M9.step s76'
  have hb6 : RowAt w76 ba (bytesV b) := (hb.no X9).ext' X76 fun hne ad ha (e : ad.block = q10) => by have := hb.lt hne ha; omega
  obtain ⟨bd, rfl⟩ := hb6.addr fun e => by have := congrArg List.length e; rw [bytesV_length, hbl] at this; cases this
  obtain ⟨u8, hu, hz, hsz, hby⟩ := info_of inf5
  have hcl : (bytesV b).length = 64 := by rw [bytesV_length, hbl]
  have hcopy := run_copy_gen (P := Try.prog) (dT := 33) (sT := 33) (ty := 3) (dLen := 64) (dCap := 64) (sLen := b.length) (sCap := bc) (n := 64) (sz := 1) (o := 1) (a := bd) Try.underlying33 hu hsz (by rw [hbl]; rfl) (by rw [hcl]) (fun j v hv => hb6.at_ hv) hb76 (by rw [hcl]; simp) bytesV_one
  obtain ⟨hb78, X78⟩ := setCells_setAll (cs := bytesV b) (o := 1) hb76 (by rw [hcl]; simp)
  generalize w76.setCells q10 1 (bytesV b) = w78 at *
  have s78' := Step.stores X78 s76.ok M76 (by simp)
  have s78 : Step no w6 o w78 _ := s76.trans' s78' fun j hj => .inr (by simp at hj; omega)
  rw [zeros_write i b false hbl] at hb78
  refine ⟨_, w78, hcopy, ?_⟩
  have D78 := h.step s78 id
  obtain ⟨x, hx⟩ : ∃ x : Wt, x = ⟨i, ⟨b, false, hbl⟩⟩ := ⟨_, rfl⟩
  rw [← hx] at hb78
  have hcell1 : ∃ pa n pc, w78.cell? ((blk g).add 1) = some (.slice pa n pc) := by
    obtain ⟨⟨ga, gc, pa, pc, hbk, _, _⟩, _⟩ := D78
    exact ⟨pa, _, pc, hbk.celli 1 rfl rfl⟩
  obtain ⟨pa, pn, pc, hc78⟩ := hcell1
  refine ⟨blk g, rfl, pa, pn, pc, hc78, x.C.toArray, x.arr, cellsAt_blk (k := 0) hb78 _ 0 fun n v hv => by rw [show 0 + 0 + n = n by omega]; exact hv, x.arr, fun w85 q86 X85 hb85 hq2 hq2' => ?_⟩
  have s85' := Step.of_no X85 s78.ok
  have s85 := s78.trans s85'
  have D85 := D78.step s85' id
  obtain ⟨pa2, pn2, pc2, hc85, a', n', c', w89, o89, hrun, s89, hcan, hst⟩ := pend_spec D85 s85.ok (by omega) x hb85
  have e2 : (Value.slice pa pn pc) = .slice pa2 pn2 pc2 := by
    have := X85.cell hc78 id
    rw [hc85] at this
    exact (Option.some.inj this).symm
  cases e2
  refine ⟨hc85, a', n', c', w89, hrun, hcan, thenW_in fun w90 e90 => ?_⟩
  obtain ⟨s90', D90⟩ := hst w90 e90
  have s90 : Step (fun j => j = g) w6 o w90 _ := s85.none.trans s90'
  have hW : writeD d i b = if d.armed then (if d.left = 0 then ({ d with pend := d.pend ++ [⟨i, ⟨b, true, hbl⟩⟩], down := true }, 19) else ({ d with pend := d.pend ++ [x], left := d.left - 1, count := d.count + 1 }, 0)) else ({ d with pend := d.pend ++ [x], count := d.count + 1 }, 0) := by
    unfold writeD; rw [if_pos h0, dif_pos hbl, ← hx]
  have hx' : ∀ y : Wt, y = ⟨i, ⟨b, true, hbl⟩⟩ → x.C.set 65 (.bool true) = y.C := fun y hy => by
    subst hx; subst hy
    show (Value.int .i64 i :: (bytesV b ++ [.bool false])).set 65 (.bool true) = Value.int .i64 i :: (bytesV b ++ [.bool true])
    rw [List.set_cons_succ, List.set_append_right _ _ (by rw [hcl]; omega), hcl]; rfl
  have hcl := hd.cl
  have hleft := hd.left
  have D90' := D90
  obtain ⟨⟨ga, gc, pa3, pc3, hbk, hg3, hp3⟩, tg⟩ := D90
  refine ⟨d.armed, hbk.celli 3 rfl rfl, fun har => ⟨d.left, hbk.celli 2 rfl rfl, fun hl0 => ?_, fun hl0 => ?_⟩, fun har => ?_⟩
  · rw [hW, if_pos har, if_pos hl0]
    refine ⟨hbk.cani 4 rfl rfl, thenW_in fun w97 e97 => ?_⟩
    have X97 := (Ext.refl (fun b => b = g) w90).x_set (q := g) (i := 4) rfl (.inl rfl) e97
    have b97 := hbk.seti 4 (v := .int .i64 1) rfl e97
    obtain ⟨s97, D97⟩ := DG.turn (d2 := { d with pend := d.pend ++ [x], down := true }) hg3 hp3 tg hbk s90'.ok X97 b97
    obtain ⟨pa4, pn4, pc4, hc97, hpn, ad, hpa, hfin⟩ := tear_spec (d := { d with down := true }) (x := x) (y := ⟨i, ⟨b, true, hbl⟩⟩) D97 s97.ok (by show d.pend.length < _; omega) (hx' _ rfl)
    subst hpn; subst hpa
    refine ⟨_, _, _, hc97, _, _, _, hc97, by show _ ≤ ((d.pend.length + 1 : Nat) : Int) - 1; omega, by show ((d.pend.length + 1 : Nat) : Int) - 1 < _; omega, ad, rfl, by show _ ≤ ((d.pend.length + 1 : Nat) : Int) - 1; omega, by show ((d.pend.length + 1 : Nat) : Int) - 1 < ((d.pend.length + 1 : Nat) : Int); omega, fun w98 X98 => ?_⟩
    obtain ⟨hcs, hst3⟩ := hfin w98 X98
    have e5 : (((ad.add (Int.toNat (((d.pend.length + 1 : Nat) : Int) - 1) * 66)).add 1).add 64).add 0 = ad.add (d.pend.length * 66 + 65) := by
      rw [add_add, add_add, add_add]; congr 1; omega
    show canStore w98 ((((ad.add (Int.toNat (((d.pend.length + 1 : Nat) : Int) - 1) * 66)).add 1).add 64).add 0) ∧ thenW (w98.setCell ((((ad.add (Int.toNat (((d.pend.length + 1 : Nat) : Int) - 1) * 66)).add 1).add 64).add 0) (.bool true)) _
    rw [e5]
    refine ⟨hcs, thenW_in fun w104 e104 => ?_⟩
    obtain ⟨o104, s104, D104⟩ := hst3 w104 e104
    exact ⟨rfl, _, (s90.trans s97).trans s104, D104⟩
  · rw [hW, if_pos har, if_neg hl0]
    refine ⟨d.left, hbk.celli 2 rfl rfl, by omega, by omega, hbk.cani 2 rfl rfl, thenW_in fun w107 e107 => ?_⟩
    have X107 := (Ext.refl (fun b => b = g) w90).x_set (q := g) (i := 2) rfl (.inl rfl) e107
    have b107 := hbk.seti 2 (v := .int .i64 (d.left - 1)) rfl e107
    refine ⟨d.count, b107.celli 5 rfl rfl, by omega, by omega, b107.cani 5 rfl rfl, thenW_in fun w110 e110 => ?_⟩
    have X110 := X107.x_set (q := g) (i := 5) rfl (.inl rfl) e110
    have b110 := b107.seti 5 (v := .int .i64 (d.count + 1)) rfl e110
    obtain ⟨s97, D97⟩ := DG.turn (d2 := { d with pend := d.pend ++ [x], left := d.left - 1, count := d.count + 1 }) hg3 hp3 tg hbk s90'.ok X110 b110
    exact ⟨rfl, _, s90.trans s97, D97⟩
  · rw [hW, if_neg (by rw [har]; decide)]
    refine ⟨d.count, hbk.celli 5 rfl rfl, by omega, by omega, hbk.cani 5 rfl rfl, thenW_in fun w113 e113 => ?_⟩
    have X113 := (Ext.refl (fun b => b = g) w90).x_set (q := g) (i := 5) rfl (.inl rfl) e113
    have b113 := hbk.seti 5 (v := .int .i64 (d.count + 1)) rfl e113
    obtain ⟨s97, D97⟩ := DG.turn (d2 := { d with pend := d.pend ++ [x], count := d.count + 1 }) hg3 hp3 tg hbk s90'.ok X113 b113
    exact ⟨rfl, _, s90.trans s97, D97⟩
end
end Go.Proofs.Ytgelicciggjpaaa
