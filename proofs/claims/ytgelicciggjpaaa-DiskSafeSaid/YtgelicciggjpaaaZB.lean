/- Disk: predicates. -/
import Derived.Test.YtgelicciggjpaaaZA
import Derived.Lib.Overlaps
import Derived.Lib.AppendZerosOnto
import Derived.Laws.IdiomCopy
import Derived.Laws.Externs
set_option linter.unusedVariables false
set_option linter.unusedSimpArgs false
set_option maxRecDepth 20000
set_option maxHeartbeats 2000000
namespace Go.Proofs.Ytgelicciggjpaaa
open Go Go.Mx Go.Proofs
/-- disk.New -/
def disk_New.M (n1 : Int) (R : Value → World → Prop) (w : World) : Prop :=
  bif decide (n1 < 1) then (
  R (.tuple #[.pointer none, .int .i64 1]) w) else (
  bif decide (n1 > 400) then (
  R (.tuple #[.pointer none, .int .i64 1]) w) else (
  ∃ (m2a : Option Addr) (m2n : Nat) (m2c : Nat) (ww3 : World), (Instr.makeSlice 54 (.int .i64 n1) (.int .i64 n1)).run Try.prog w = .ok (.slice m2a m2n m2c) ww3 ∧
  thenW (ww3.alloc (.cells #[.slice m2a m2n m2c, .slice none 0 0, .int .i64 0, .bool false, .int .i64 0, .int .i64 0] 58)) fun ww4 =>
  R (.tuple #[.pointer (some (blk ww3.heap.size)), .int .i64 0]) ww4))

theorem disk_New.eq (n1 : Int) (R : Value → World → Prop) (w : World) : mfunc Try.prog [] 9 [.int .i64 n1] R w = disk_New.M n1 R w := by kernel_rfl
theorem disk_New.ok (n1 : Int) {R : Value → World → Prop} {w : World} (h : disk_New.M n1 R w) : Calls Try.prog 9 #[.int .i64 n1] w fun e w' => ∃ v, e = .returned v ∧ R v w' :=
  mfunc_ok follows (H := []) (args := [.int .i64 n1]) (by rw [disk_New.eq]; exact h)

def disk_New.N (n1 : Int) (R : Value → World → Prop) (w : World) : Prop :=
  (n1 < 1 →
    R (.tuple #[.pointer none, .int .i64 1]) w) ∧
  ((1 : Int) ≤ n1 →
    (n1 > 400 →
      R (.tuple #[.pointer none, .int .i64 1]) w) ∧
    (n1 ≤ 400 →
      ∃ (m4a : Option Addr) (m4n : Nat) (m4c : Nat) (ww5 : World), (Instr.makeSlice 54 (.int .i64 n1) (.int .i64 n1)).run Try.prog w = .ok (.slice m4a m4n m4c) ww5 ∧
      ∀ (ww6 : World) (q7 : Nat), Ext no ww5 ww6 → Blk ww6 q7 58 [.slice m4a m4n m4c, .slice none 0 0, .int .i64 0, .bool false, .int .i64 0, .int .i64 0] → ww5.heap.size ≤ q7 → q7 < ww6.heap.size →
      R (.tuple #[.pointer (some (blk q7)), .int .i64 0]) ww6))

theorem disk_New.up (n1 : Int) {R : Value → World → Prop} {w : World} (h : disk_New.N n1 R w) : disk_New.M n1 R w := by
  unfold disk_New.M
  unfold disk_New.N at h
  refine bif_of (fun c2 => ?_) (fun c2 => ?_)
  · have h := h.1 (of_decide_eq_true c2)
    exact h
  · have h := h.2 (Int.not_lt.1 (of_decide_eq_false c2))
    refine bif_of (fun c3 => ?_) (fun c3 => ?_)
    · have h := h.1 (of_decide_eq_true c3)
      exact h
    · have h := h.2 (Int.not_lt.1 (of_decide_eq_false c3))
      obtain ⟨m4a, m4n, m4c, ww5, hr, h⟩ := h
      refine ⟨m4a, m4n, m4c, ww5, hr, ?_⟩
      refine thenW_in fun ww6 e6 => ?_
      have h := h ww6 ww5.heap.size ((Ext.refl no ww5).x_alloc e6) (Blk.of_new e6) ((Ext.refl no ww5)).size (size_lt_alloc e6)
      exact h

theorem disk_New.go (n1 : Int) {R : Value → World → Prop} {w : World} (h : disk_New.N n1 R w) : Calls Try.prog 9 #[.int .i64 n1] w fun e w' => ∃ v, e = .returned v ∧ R v w' := disk_New.ok n1 (disk_New.up n1 h)
theorem disk_New.run (n1 : Int) {V : Value} {Q : World → Prop} {w : World} (h : disk_New.N n1 (fun v w' => v = V ∧ Q w') w) : Calls Try.prog 9 #[.int .i64 n1] w (Ret V Q) := (disk_New.go n1 h).mono fun e w' ⟨v, he, hv, hq⟩ => ⟨by rw [he, hv], hq⟩

/-- (*disk.Disk).is -/
def disk_Disk_is.M (d1 : Option Addr) (R : Value → World → Prop) (w : World) : Prop :=
  bif Option.isNone d1 then (
  R (.int .i64 23) w) else (
  d1.elim False fun a2 =>
  ∃ (state3 : Int), w.cell? (a2.add 4) = some (.int .i64 state3) ∧
  bif state3 == 1 then (
  R (.int .i64 19) w) else (
  R (.int .i64 0) w))

theorem disk_Disk_is.eq (d1 : Option Addr) (R : Value → World → Prop) (w : World) : mfunc Try.prog [] 26 [.pointer d1] R w = disk_Disk_is.M d1 R w := by kernel_rfl
theorem disk_Disk_is.ok (d1 : Option Addr) {R : Value → World → Prop} {w : World} (h : disk_Disk_is.M d1 R w) : Calls Try.prog 26 #[.pointer d1] w fun e w' => ∃ v, e = .returned v ∧ R v w' :=
  mfunc_ok follows (H := []) (args := [.pointer d1]) (by rw [disk_Disk_is.eq]; exact h)

def disk_Disk_is.N (d1 : Option Addr) (R : Value → World → Prop) (w : World) : Prop :=
  (d1 = none →
    R (.int .i64 23) w) ∧
  (d1 ≠ none →
    ∃ a3 : Addr, d1 = some a3 ∧
    ∃ (state5 : Int), w.cell? (a3.add 4) = some (.int .i64 state5) ∧
    (state5 = 1 →
      R (.int .i64 19) w) ∧
    (state5 ≠ 1 →
      R (.int .i64 0) w))

theorem disk_Disk_is.up (d1 : Option Addr) {R : Value → World → Prop} {w : World} (h : disk_Disk_is.N d1 R w) : disk_Disk_is.M d1 R w := by
  unfold disk_Disk_is.M
  unfold disk_Disk_is.N at h
  refine bif_of (fun c2 => ?_) (fun c2 => ?_)
  · have h := h.1 (isNone_t c2)
    exact h
  · have h := h.2 (isNone_f c2)
    obtain ⟨a3, ha3, h⟩ := h
    refine elim_some ha3 ?_
    obtain ⟨state5, hc4, h⟩ := h
    refine ⟨state5, hc4, ?_⟩
    refine bif_of (fun c6 => ?_) (fun c6 => ?_)
    · have h := h.1 (beq_t c6)
      exact h
    · have h := h.2 (beq_f c6)
      exact h

theorem disk_Disk_is.go (d1 : Option Addr) {R : Value → World → Prop} {w : World} (h : disk_Disk_is.N d1 R w) : Calls Try.prog 26 #[.pointer d1] w fun e w' => ∃ v, e = .returned v ∧ R v w' := disk_Disk_is.ok d1 (disk_Disk_is.up d1 h)
theorem disk_Disk_is.run (d1 : Option Addr) {V : Value} {Q : World → Prop} {w : World} (h : disk_Disk_is.N d1 (fun v w' => v = V ∧ Q w') w) : Calls Try.prog 26 #[.pointer d1] w (Ret V Q) := (disk_Disk_is.go d1 h).mono fun e w' ⟨v, he, hv, hq⟩ => ⟨by rw [he, hv], hq⟩

/-- (*disk.Disk).has -/
def disk_Disk_has.M (d1 : Option Addr) (i2 : Int) (R : Value → World → Prop) (w : World) : Prop :=
  Calls Try.prog 26 #[.pointer d1] w fun ee4 ww5 => ∃ (isv3 : Int), ee4 = .returned (.int .i64 isv3) ∧
  bif isv3 != 0 then (
  R (.int .i64 isv3) ww5) else (
  bif decide (i2 < 0) then (
  R (.int .i64 2) ww5) else (
  d1.elim False fun a6 =>
  ∃ (good7a : Option Addr) (good7n : Nat) (good7c : Nat), ww5.cell? (a6.add 0) = some (.slice good7a good7n good7c) ∧
  bif decide (i2 ≥ (good7n : Int)) then (
  R (.int .i64 2) ww5) else (
  R (.int .i64 0) ww5)))

theorem disk_Disk_has.eq (d1 : Option Addr) (i2 : Int) (R : Value → World → Prop) (w : World) : mfunc Try.prog [] 25 [.pointer d1, .int .i64 i2] R w = disk_Disk_has.M d1 i2 R w := by kernel_rfl
theorem disk_Disk_has.ok (d1 : Option Addr) (i2 : Int) {R : Value → World → Prop} {w : World} (h : disk_Disk_has.M d1 i2 R w) : Calls Try.prog 25 #[.pointer d1, .int .i64 i2] w fun e w' => ∃ v, e = .returned v ∧ R v w' :=
  mfunc_ok follows (H := []) (args := [.pointer d1, .int .i64 i2]) (by rw [disk_Disk_has.eq]; exact h)

def disk_Disk_has.N (d1 : Option Addr) (i2 : Int) (R : Value → World → Prop) (w : World) : Prop :=
  Calls Try.prog 26 #[.pointer d1] w fun ee4 ww5 => ∃ (isv3 : Int), ee4 = .returned (.int .i64 isv3) ∧
  (isv3 ≠ 0 →
    R (.int .i64 isv3) ww5) ∧
  (isv3 = 0 →
    (i2 < 0 →
      R (.int .i64 2) ww5) ∧
    ((0 : Int) ≤ i2 →
      ∃ a8 : Addr, d1 = some a8 ∧
      ∃ (good10a : Option Addr) (good10n : Nat) (good10c : Nat), ww5.cell? (a8.add 0) = some (.slice good10a good10n good10c) ∧
      (i2 ≥ (good10n : Int) →
        R (.int .i64 2) ww5) ∧
      (i2 < (good10n : Int) →
        R (.int .i64 0) ww5)))

theorem disk_Disk_has.up (d1 : Option Addr) (i2 : Int) {R : Value → World → Prop} {w : World} (h : disk_Disk_has.N d1 i2 R w) : disk_Disk_has.M d1 i2 R w := by
  unfold disk_Disk_has.M
  unfold disk_Disk_has.N at h
  refine h.mono fun ee4 ww5 h => ?_
  obtain ⟨isv3, he, h⟩ := h
  refine ⟨isv3, he, ?_⟩
  refine bif_of (fun c6 => ?_) (fun c6 => ?_)
  · have h := h.1 (bne_t c6)
    exact h
  · have h := h.2 (bne_f c6)
    refine bif_of (fun c7 => ?_) (fun c7 => ?_)
    · have h := h.1 (of_decide_eq_true c7)
      exact h
    · have h := h.2 (Int.not_lt.1 (of_decide_eq_false c7))
      obtain ⟨a8, ha8, h⟩ := h
      refine elim_some ha8 ?_
      obtain ⟨good10a, good10n, good10c, hc9, h⟩ := h
      refine ⟨good10a, good10n, good10c, hc9, ?_⟩
      refine bif_of (fun c11 => ?_) (fun c11 => ?_)
      · have h := h.1 (of_decide_eq_true c11)
        exact h
      · have h := h.2 (Int.not_le.1 (of_decide_eq_false c11))
        exact h

theorem disk_Disk_has.go (d1 : Option Addr) (i2 : Int) {R : Value → World → Prop} {w : World} (h : disk_Disk_has.N d1 i2 R w) : Calls Try.prog 25 #[.pointer d1, .int .i64 i2] w fun e w' => ∃ v, e = .returned v ∧ R v w' := disk_Disk_has.ok d1 i2 (disk_Disk_has.up d1 i2 h)
theorem disk_Disk_has.run (d1 : Option Addr) (i2 : Int) {V : Value} {Q : World → Prop} {w : World} (h : disk_Disk_has.N d1 i2 (fun v w' => v = V ∧ Q w') w) : Calls Try.prog 25 #[.pointer d1, .int .i64 i2] w (Ret V Q) := (disk_Disk_has.go d1 i2 h).mono fun e w' ⟨v, he, hv, hq⟩ => ⟨by rw [he, hv], hq⟩

/-- (*disk.Disk).Read -/
def disk_Disk_Read.M (d1 : Option Addr) (i2 : Int) (R : Value → World → Prop) (w : World) : Prop :=
  Calls Try.prog 25 #[.pointer d1, .int .i64 i2] w fun ee4 ww5 => ∃ (has3 : Int), ee4 = .returned (.int .i64 has3) ∧
  bif has3 != 0 then (
  R (.tuple #[.slice none 0 0, .int .i64 has3]) ww5) else (
  d1.elim False fun a6 =>
  ∃ (good7a : Option Addr) (good7n : Nat) (good7c : Nat), ww5.cell? (a6.add 0) = some (.slice good7a good7n good7c) ∧
  good7a.elim False fun a8 =>
  0 ≤ (i2 : Int) ∧ (i2 : Int) < (good7n : Int) ∧
  ∃ x9 : Array Value, szB Try.prog 61 x9.size = true ∧ cellsAt ww5 (a8.add (Int.toNat i2 * 65)) x9.toList 0 ∧
  thenW (ww5.alloc (.cells (List.toArray (List.replicate 64 (.int .u8 0) ++ [.bool false])) 61)) fun ww10 =>
  bif szB Try.prog 61 x9.size then storesK (blk ww5.heap.size) x9.toList 0 ww10 fun ww11 =>
  d1.elim False fun a12 =>
  ∃ (pend13a : Option Addr) (pend13n : Nat) (pend13c : Nat), ww11.cell? (a12.add 1) = some (.slice pend13a pend13n pend13c) ∧
  ∃ (I0 : Nat → List Value → World → Prop) (m15 : Nat), I0 m15 [.int .i64 0] ww11 ∧ ∀ (m16 : Nat) (ww17 : World) (t14 : Int), I0 m16 [.int .i64 t14] ww17 →
  bif decide (t14 < (pend13n : Int)) then (
  pend13a.elim False fun a18 =>
  0 ≤ (t14 : Int) ∧ (t14 : Int) < (pend13n : Int) ∧
  ∃ x19 : Array Value, szB Try.prog 63 x19.size = true ∧ cellsAt ww17 (a18.add (Int.toNat t14 * 66)) x19.toList 0 ∧
  thenW (ww17.alloc (.cells (List.toArray ([.int .i64 0] ++ List.replicate 64 (.int .u8 0) ++ [.bool false])) 63)) fun ww20 =>
  bif szB Try.prog 63 x19.size then storesK (blk ww17.heap.size) x19.toList 0 ww20 fun ww21 =>
  ∃ (i22 : Int), ww21.cell? ((blk ww17.heap.size).add 0) = some (.int .i64 i22) ∧
  bif i22 == i2 then (
  ∃ s23 : Array Value, szB Try.prog 61 s23.size = true ∧ cellsAt ww21 ((blk ww17.heap.size).add 1) s23.toList 0 ∧
  bif szB Try.prog 61 s23.size then storesK (blk ww5.heap.size) s23.toList 0 ww21 fun ww24 =>
  ∃ m25, m25 < m16 ∧ I0 m25 [.int .i64 (IntKind.i64.wrap (t14 + 1))] ww24
  else False) else (
  ∃ m26, m26 < m16 ∧ I0 m26 [.int .i64 (IntKind.i64.wrap (t14 + 1))] ww21)
  else False) else (
  ∃ (torn27 : Bool), ww17.cell? ((blk ww5.heap.size).add 64) = some (.bool torn27) ∧
  bif torn27 then (
  R (.tuple #[.slice none 0 0, .int .i64 5]) ww17) else (
  R (.tuple #[.slice (some (if 64 = 0 then ((blk ww5.heap.size).add 0) else ((blk ww5.heap.size).add 0).add (0 * 1))) (64 - 0) (64 - 0), .int .i64 0]) ww17))
  else False)

theorem disk_Disk_Read.eq (d1 : Option Addr) (i2 : Int) (R : Value → World → Prop) (w : World) : mfunc Try.prog [(0, [1, 7, 26, 27], [(28, (.one (.int .i64)))])] 16 [.pointer d1, .int .i64 i2] R w = disk_Disk_Read.M d1 i2 R w := by kernel_rfl
theorem disk_Disk_Read.ok (d1 : Option Addr) (i2 : Int) {R : Value → World → Prop} {w : World} (h : disk_Disk_Read.M d1 i2 R w) : Calls Try.prog 16 #[.pointer d1, .int .i64 i2] w fun e w' => ∃ v, e = .returned v ∧ R v w' :=
  mfunc_ok follows (H := [(0, [1, 7, 26, 27], [(28, (.one (.int .i64)))])]) (args := [.pointer d1, .int .i64 i2]) (by rw [disk_Disk_Read.eq]; exact h)

def disk_Disk_Read.N (d1 : Option Addr) (i2 : Int) (R : Value → World → Prop) (w : World) : Prop :=
  Calls Try.prog 25 #[.pointer d1, .int .i64 i2] w fun ee4 ww5 => ∃ (has3 : Int), ee4 = .returned (.int .i64 has3) ∧
  (has3 ≠ 0 →
    R (.tuple #[.slice none 0 0, .int .i64 has3]) ww5) ∧
  (has3 = 0 →
    ∃ a7 : Addr, d1 = some a7 ∧
    ∃ (good9a : Option Addr) (good9n : Nat) (good9c : Nat), ww5.cell? (a7.add 0) = some (.slice good9a good9n good9c) ∧
    ∃ a10 : Addr, good9a = some a10 ∧
    0 ≤ (i2 : Int) ∧ (i2 : Int) < (good9n : Int) ∧
    ∃ x12 : Array Value, szB Try.prog 61 x12.size = true ∧ cellsAt ww5 (a10.add (Int.toNat i2 * 65)) x12.toList 0 ∧
    ∀ (ww13 : World) (q14 : Nat), Ext no ww5 ww13 → Blk ww13 q14 61 (List.replicate 64 (.int .u8 0) ++ [.bool false]) → ww5.heap.size ≤ q14 → q14 < ww13.heap.size →
    szB Try.prog 61 x12.size = true ∧
    storesK (blk q14) x12.toList 0 ww13 fun ww15 =>
    ∃ (pend17a : Option Addr) (pend17n : Nat) (pend17c : Nat), ww15.cell? (a7.add 1) = some (.slice pend17a pend17n pend17c) ∧
    ∃ (I0 : Nat → List Value → World → Prop) (m19 : Nat), I0 m19 [.int .i64 0] ww15 ∧ ∀ (m20 : Nat) (ww21 : World) (t18 : Int), I0 m20 [.int .i64 t18] ww21 →
    (t18 < (pend17n : Int) →
      ∃ a23 : Addr, pend17a = some a23 ∧
      0 ≤ (t18 : Int) ∧ (t18 : Int) < (pend17n : Int) ∧
      ∃ x25 : Array Value, szB Try.prog 63 x25.size = true ∧ cellsAt ww21 (a23.add (Int.toNat t18 * 66)) x25.toList 0 ∧
      ∀ (ww26 : World) (q27 : Nat), Ext no ww21 ww26 → Blk ww26 q27 63 ([.int .i64 0] ++ List.replicate 64 (.int .u8 0) ++ [.bool false]) → ww21.heap.size ≤ q27 → q27 < ww26.heap.size →
      szB Try.prog 63 x25.size = true ∧
      storesK (blk q27) x25.toList 0 ww26 fun ww28 =>
      ∃ (i30 : Int), ww28.cell? ((blk q27).add 0) = some (.int .i64 i30) ∧
      (i30 = i2 →
        ∃ s33 : Array Value, szB Try.prog 61 s33.size = true ∧ cellsAt ww28 ((blk q27).add 1) s33.toList 0 ∧
        szB Try.prog 61 s33.size = true ∧
        storesK (blk q14) s33.toList 0 ww28 fun ww34 =>
        (-9223372036854775808 : Int) ≤ (t18 + 1) ∧ (t18 + 1) < 9223372036854775808 ∧
        ∃ m35, m35 < m20 ∧ I0 m35 [.int .i64 (t18 + 1)] ww34) ∧
      (i30 ≠ i2 →
        (-9223372036854775808 : Int) ≤ (t18 + 1) ∧ (t18 + 1) < 9223372036854775808 ∧
        ∃ m36, m36 < m20 ∧ I0 m36 [.int .i64 (t18 + 1)] ww28)) ∧
    ((pend17n : Int) ≤ t18 →
      ∃ (torn38 : Bool), ww21.cell? ((blk q14).add 64) = some (.bool torn38) ∧
      (torn38 = true →
        R (.tuple #[.slice none 0 0, .int .i64 5]) ww21) ∧
      (torn38 = false →
        R (.tuple #[.slice (some (if 64 = 0 then ((blk q14).add 0) else ((blk q14).add 0).add (0 * 1))) (64 - 0) (64 - 0), .int .i64 0]) ww21)))

theorem disk_Disk_Read.up (d1 : Option Addr) (i2 : Int) {R : Value → World → Prop} {w : World} (h : disk_Disk_Read.N d1 i2 R w) : disk_Disk_Read.M d1 i2 R w := by
  unfold disk_Disk_Read.M
  unfold disk_Disk_Read.N at h
  refine h.mono fun ee4 ww5 h => ?_
  obtain ⟨has3, he, h⟩ := h
  refine ⟨has3, he, ?_⟩
  refine bif_of (fun c6 => ?_) (fun c6 => ?_)
  · have h := h.1 (bne_t c6)
    exact h
  · have h := h.2 (bne_f c6)
    obtain ⟨a7, ha7, h⟩ := h
    refine elim_some ha7 ?_
    obtain ⟨good9a, good9n, good9c, hc8, h⟩ := h
    refine ⟨good9a, good9n, good9c, hc8, ?_⟩
    obtain ⟨a10, ha10, h⟩ := h
    refine elim_some ha10 ?_
    obtain ⟨hq1, hq2, h⟩ := h
    refine ⟨hq1, hq2, ?_⟩
    obtain ⟨x12, hz, hc11, h⟩ := h
    refine ⟨x12, hz, hc11, ?_⟩
    refine thenW_in fun ww13 e13 => ?_
    have h := h ww13 ww5.heap.size ((Ext.refl no ww5).x_alloc e13) (Blk.of_new e13) ((Ext.refl no ww5)).size (size_lt_alloc e13)
    obtain ⟨hsz, h⟩ := h
    refine bif_tt hsz ?_
    refine storesK_ext h fun ww15 X15 h => ?_
    refine elim_some ha7 ?_
    obtain ⟨pend17a, pend17n, pend17c, hc16, h⟩ := h
    refine ⟨pend17a, pend17n, pend17c, hc16, ?_⟩
    obtain ⟨I0, m19, h0, h⟩ := h
    refine ⟨I0, m19, h0, fun m20 ww21 t18 hI => ?_⟩
    have h := h m20 ww21 t18 hI
    refine bif_of (fun c22 => ?_) (fun c22 => ?_)
    · have h := h.1 (of_decide_eq_true c22)
      obtain ⟨a23, ha23, h⟩ := h
      refine elim_some ha23 ?_
      obtain ⟨hq1, hq2, h⟩ := h
      refine ⟨hq1, hq2, ?_⟩
      obtain ⟨x25, hz, hc24, h⟩ := h
      refine ⟨x25, hz, hc24, ?_⟩
      refine thenW_in fun ww26 e26 => ?_
      have h := h ww26 ww21.heap.size ((Ext.refl no ww21).x_alloc e26) (Blk.of_new e26) ((Ext.refl no ww21)).size (size_lt_alloc e26)
      obtain ⟨hsz, h⟩ := h
      refine bif_tt hsz ?_
      refine storesK_ext h fun ww28 X28 h => ?_
      obtain ⟨i30, hc29, h⟩ := h
      refine ⟨i30, hc29, ?_⟩
      refine bif_of (fun c31 => ?_) (fun c31 => ?_)
      · have h := h.1 (beq_t c31)
        obtain ⟨s33, hz, hc32, h⟩ := h
        refine ⟨s33, hz, hc32, ?_⟩
        obtain ⟨hsz, h⟩ := h
        refine bif_tt hsz ?_
        refine storesK_ext h fun ww34 X34 h => ?_
        obtain ⟨hw1, hw2, h⟩ := h
        try rw [w64 hw1 hw2]
        obtain ⟨m35, hk, h⟩ := h
        exact ⟨m35, hk, h⟩
      · have h := h.2 (beq_f c31)
        obtain ⟨hw1, hw2, h⟩ := h
        try rw [w64 hw1 hw2]
        obtain ⟨m36, hk, h⟩ := h
        exact ⟨m36, hk, h⟩
    · have h := h.2 (Int.not_lt.1 (of_decide_eq_false c22))
      obtain ⟨torn38, hc37, h⟩ := h
      refine ⟨torn38, hc37, ?_⟩
      refine bif_of (fun c39 => ?_) (fun c39 => ?_)
      · have h := h.1 c39
        exact h
      · have h := h.2 c39
        exact h

theorem disk_Disk_Read.go (d1 : Option Addr) (i2 : Int) {R : Value → World → Prop} {w : World} (h : disk_Disk_Read.N d1 i2 R w) : Calls Try.prog 16 #[.pointer d1, .int .i64 i2] w fun e w' => ∃ v, e = .returned v ∧ R v w' := disk_Disk_Read.ok d1 i2 (disk_Disk_Read.up d1 i2 h)
theorem disk_Disk_Read.run (d1 : Option Addr) (i2 : Int) {V : Value} {Q : World → Prop} {w : World} (h : disk_Disk_Read.N d1 i2 (fun v w' => v = V ∧ Q w') w) : Calls Try.prog 16 #[.pointer d1, .int .i64 i2] w (Ret V Q) := (disk_Disk_Read.go d1 i2 h).mono fun e w' ⟨v, he, hv, hq⟩ => ⟨by rw [he, hv], hq⟩

/-- (*disk.Disk).settle -/
def disk_Disk_settle.M (d1 : Option Addr) (keep2k : Nat) (keep2f : Array Value) (keep2g : Array Value) (R : Value → World → Prop) (w : World) : Prop :=
  d1.elim False fun a3 =>
  ∃ (pend4a : Option Addr) (pend4n : Nat) (pend4c : Nat), w.cell? (a3.add 1) = some (.slice pend4a pend4n pend4c) ∧
  ∃ (I0 : Nat → List Value → World → Prop) (m6 : Nat), I0 m6 [.int .i64 0] w ∧ ∀ (m7 : Nat) (ww8 : World) (t5 : Int), I0 m7 [.int .i64 t5] ww8 →
  bif decide (t5 < (pend4n : Int)) then (
  pend4a.elim False fun a9 =>
  0 ≤ (t5 : Int) ∧ (t5 : Int) < (pend4n : Int) ∧
  ∃ x10 : Array Value, szB Try.prog 63 x10.size = true ∧ cellsAt ww8 (a9.add (Int.toNat t5 * 66)) x10.toList 0 ∧
  thenW (ww8.alloc (.cells (List.toArray ([.int .i64 0] ++ List.replicate 64 (.int .u8 0) ++ [.bool false])) 63)) fun ww11 =>
  bif szB Try.prog 63 x10.size then storesK (blk ww8.heap.size) x10.toList 0 ww11 fun ww12 =>
  bif enters Try.prog keep2k then Calls Try.prog keep2k (keep2f.toList ++ ([.int .i64 t5] : List Value) ++ keep2g.toList).toArray ww12 (fun ee14 ww15 => ∃ (r13 : Bool), ee14 = .returned (.bool r13) ∧
  bif r13 then (
  thenW (ww15.drew) fun ww17 =>
  d1.elim False fun a18 =>
  ∃ (good19a : Option Addr) (good19n : Nat) (good19c : Nat), ww17.cell? (a18.add 0) = some (.slice good19a good19n good19c) ∧
  ∃ (i20 : Int), ww17.cell? ((blk ww8.heap.size).add 0) = some (.int .i64 i20) ∧
  ∃ s21 : Array Value, szB Try.prog 61 s21.size = true ∧ cellsAt ww17 ((blk ww8.heap.size).add 1) s21.toList 0 ∧
  good19a.elim False fun a22 =>
  0 ≤ (i20 : Int) ∧ (i20 : Int) < (good19n : Int) ∧
  bif szB Try.prog 61 s21.size then storesK (a22.add (Int.toNat i20 * 65)) s21.toList 0 ww17 fun ww23 =>
  ∃ m24, m24 < m7 ∧ I0 m24 [.int .i64 (IntKind.i64.wrap (t5 + 1))] ww23
  else False) else (
  ∃ m25, m25 < m7 ∧ I0 m25 [.int .i64 (IntKind.i64.wrap (t5 + 1))] ww15)) else (∃ (r13 : Bool) (ww16 : World), (externCall keep2k (keep2f.toList ++ ([.int .i64 t5] : List Value) ++ keep2g.toList).toArray).run Try.prog ww12 = .ok (.bool r13) ww16 ∧
  bif r13 then (
  thenW (ww16.drew) fun ww26 =>
  d1.elim False fun a27 =>
  ∃ (good28a : Option Addr) (good28n : Nat) (good28c : Nat), ww26.cell? (a27.add 0) = some (.slice good28a good28n good28c) ∧
  ∃ (i29 : Int), ww26.cell? ((blk ww8.heap.size).add 0) = some (.int .i64 i29) ∧
  ∃ s30 : Array Value, szB Try.prog 61 s30.size = true ∧ cellsAt ww26 ((blk ww8.heap.size).add 1) s30.toList 0 ∧
  good28a.elim False fun a31 =>
  0 ≤ (i29 : Int) ∧ (i29 : Int) < (good28n : Int) ∧
  bif szB Try.prog 61 s30.size then storesK (a31.add (Int.toNat i29 * 65)) s30.toList 0 ww26 fun ww32 =>
  ∃ m33, m33 < m7 ∧ I0 m33 [.int .i64 (IntKind.i64.wrap (t5 + 1))] ww32
  else False) else (
  ∃ m34, m34 < m7 ∧ I0 m34 [.int .i64 (IntKind.i64.wrap (t5 + 1))] ww16))
  else False) else (
  d1.elim False fun a35 =>
  canStore ww8 ((a35.add 1).add 0) ∧
  thenW (ww8.setCell ((a35.add 1).add 0) (.slice none 0 0)) fun ww36 =>
  R (.tuple #[]) ww36)

theorem disk_Disk_settle.eq (d1 : Option Addr) (keep2k : Nat) (keep2f : Array Value) (keep2g : Array Value) (R : Value → World → Prop) (w : World) : mfunc Try.prog [(0, [0, 1, 9, 10], [(11, (.one (.int .i64)))])] 27 [.pointer d1, .func (.func keep2k) keep2f keep2g] R w = disk_Disk_settle.M d1 keep2k keep2f keep2g R w := by kernel_rfl
theorem disk_Disk_settle.ok (d1 : Option Addr) (keep2k : Nat) (keep2f : Array Value) (keep2g : Array Value) {R : Value → World → Prop} {w : World} (h : disk_Disk_settle.M d1 keep2k keep2f keep2g R w) : Calls Try.prog 27 #[.pointer d1, .func (.func keep2k) keep2f keep2g] w fun e w' => ∃ v, e = .returned v ∧ R v w' :=
  mfunc_ok follows (H := [(0, [0, 1, 9, 10], [(11, (.one (.int .i64)))])]) (args := [.pointer d1, .func (.func keep2k) keep2f keep2g]) (by rw [disk_Disk_settle.eq]; exact h)

def disk_Disk_settle.N (d1 : Option Addr) (keep2k : Nat) (keep2f : Array Value) (keep2g : Array Value) (R : Value → World → Prop) (w : World) : Prop :=
  ∃ a3 : Addr, d1 = some a3 ∧
  ∃ (pend5a : Option Addr) (pend5n : Nat) (pend5c : Nat), w.cell? (a3.add 1) = some (.slice pend5a pend5n pend5c) ∧
  ∃ (I0 : Nat → List Value → World → Prop) (m7 : Nat), I0 m7 [.int .i64 0] w ∧ ∀ (m8 : Nat) (ww9 : World) (t6 : Int), I0 m8 [.int .i64 t6] ww9 →
  (t6 < (pend5n : Int) →
    ∃ a11 : Addr, pend5a = some a11 ∧
    0 ≤ (t6 : Int) ∧ (t6 : Int) < (pend5n : Int) ∧
    ∃ x13 : Array Value, szB Try.prog 63 x13.size = true ∧ cellsAt ww9 (a11.add (Int.toNat t6 * 66)) x13.toList 0 ∧
    ∀ (ww14 : World) (q15 : Nat), Ext no ww9 ww14 → Blk ww14 q15 63 ([.int .i64 0] ++ List.replicate 64 (.int .u8 0) ++ [.bool false]) → ww9.heap.size ≤ q15 → q15 < ww14.heap.size →
    szB Try.prog 63 x13.size = true ∧
    storesK (blk q15) x13.toList 0 ww14 fun ww16 =>
    enters Try.prog keep2k = true ∧ Calls Try.prog keep2k (keep2f.toList ++ ([.int .i64 t6] : List Value) ++ keep2g.toList).toArray ww16 (fun ee18 ww19 => ∃ (r17 : Bool), ee18 = .returned (.bool r17) ∧
    (r17 = true →
      ∃ (good23a : Option Addr) (good23n : Nat) (good23c : Nat), ww19.cell? (a3.add 0) = some (.slice good23a good23n good23c) ∧
      ∃ (i25 : Int), ww19.cell? ((blk q15).add 0) = some (.int .i64 i25) ∧
      ∃ s27 : Array Value, szB Try.prog 61 s27.size = true ∧ cellsAt ww19 ((blk q15).add 1) s27.toList 0 ∧
      ∃ a28 : Addr, good23a = some a28 ∧
      0 ≤ (i25 : Int) ∧ (i25 : Int) < (good23n : Int) ∧
      ∀ (ww21 : World), Ext no ww19 ww21 →
      szB Try.prog 61 s27.size = true ∧
      storesK (a28.add (Int.toNat i25 * 65)) s27.toList 0 ww21 fun ww29 =>
      (-9223372036854775808 : Int) ≤ (t6 + 1) ∧ (t6 + 1) < 9223372036854775808 ∧
      ∃ m30, m30 < m8 ∧ I0 m30 [.int .i64 (t6 + 1)] ww29) ∧
    (r17 = false →
      (-9223372036854775808 : Int) ≤ (t6 + 1) ∧ (t6 + 1) < 9223372036854775808 ∧
      ∃ m31, m31 < m8 ∧ I0 m31 [.int .i64 (t6 + 1)] ww19))) ∧
  ((pend5n : Int) ≤ t6 →
    canStore ww9 ((a3.add 1).add 0) ∧
    thenW (ww9.setCell ((a3.add 1).add 0) (.slice none 0 0)) fun ww32 =>
    R (.tuple #[]) ww32)

theorem disk_Disk_settle.up (d1 : Option Addr) (keep2k : Nat) (keep2f : Array Value) (keep2g : Array Value) {R : Value → World → Prop} {w : World} (h : disk_Disk_settle.N d1 keep2k keep2f keep2g R w) : disk_Disk_settle.M d1 keep2k keep2f keep2g R w := by
  unfold disk_Disk_settle.M
  unfold disk_Disk_settle.N at h
  obtain ⟨a3, ha3, h⟩ := h
  refine elim_some ha3 ?_
  obtain ⟨pend5a, pend5n, pend5c, hc4, h⟩ := h
  refine ⟨pend5a, pend5n, pend5c, hc4, ?_⟩
  obtain ⟨I0, m7, h0, h⟩ := h
  refine ⟨I0, m7, h0, fun m8 ww9 t6 hI => ?_⟩
  have h := h m8 ww9 t6 hI
  refine bif_of (fun c10 => ?_) (fun c10 => ?_)
  · have h := h.1 (of_decide_eq_true c10)
    obtain ⟨a11, ha11, h⟩ := h
    refine elim_some ha11 ?_
    obtain ⟨hq1, hq2, h⟩ := h
    refine ⟨hq1, hq2, ?_⟩
    obtain ⟨x13, hz, hc12, h⟩ := h
    refine ⟨x13, hz, hc12, ?_⟩
    refine thenW_in fun ww14 e14 => ?_
    have h := h ww14 ww9.heap.size ((Ext.refl no ww9).x_alloc e14) (Blk.of_new e14) ((Ext.refl no ww9)).size (size_lt_alloc e14)
    obtain ⟨hsz, h⟩ := h
    refine bif_tt hsz ?_
    refine storesK_ext h fun ww16 X16 h => ?_
    obtain ⟨hen, h⟩ := h
    refine bif_tt hen ?_
    refine h.mono fun ee18 ww19 h => ?_
    obtain ⟨r17, he, h⟩ := h
    refine ⟨r17, he, ?_⟩
    refine bif_of (fun c20 => ?_) (fun c20 => ?_)
    · have h := h.1 c20
      refine thenW_in fun ww21 e21 => ?_
      have hx21 := (Ext.refl no ww19).x_drew e21
      refine elim_some ha3 ?_
      obtain ⟨good23a, good23n, good23c, hc22, h⟩ := h
      refine ⟨good23a, good23n, good23c, (hx21).cell hc22 id, ?_⟩
      obtain ⟨i25, hc24, h⟩ := h
      refine ⟨i25, (hx21).cell hc24 id, ?_⟩
      obtain ⟨s27, hz, hc26, h⟩ := h
      refine ⟨s27, hz, cellsAt_no (hx21) hc26, ?_⟩
      obtain ⟨a28, ha28, h⟩ := h
      refine elim_some ha28 ?_
      obtain ⟨hq1, hq2, h⟩ := h
      refine ⟨hq1, hq2, ?_⟩
      have h := h ww21 hx21
      obtain ⟨hsz, h⟩ := h
      refine bif_tt hsz ?_
      refine storesK_ext h fun ww29 X29 h => ?_
      obtain ⟨hw1, hw2, h⟩ := h
      try rw [w64 hw1 hw2]
      obtain ⟨m30, hk, h⟩ := h
      exact ⟨m30, hk, h⟩
    · have h := h.2 c20
      obtain ⟨hw1, hw2, h⟩ := h
      try rw [w64 hw1 hw2]
      obtain ⟨m31, hk, h⟩ := h
      exact ⟨m31, hk, h⟩
  · have h := h.2 (Int.not_lt.1 (of_decide_eq_false c10))
    refine elim_some ha3 ?_
    obtain ⟨hcs, h⟩ := h
    refine ⟨hcs, thenW_in fun ww32 e32 => ?_⟩
    replace h := thenW_out h e32
    exact h

theorem disk_Disk_settle.go (d1 : Option Addr) (keep2k : Nat) (keep2f : Array Value) (keep2g : Array Value) {R : Value → World → Prop} {w : World} (h : disk_Disk_settle.N d1 keep2k keep2f keep2g R w) : Calls Try.prog 27 #[.pointer d1, .func (.func keep2k) keep2f keep2g] w fun e w' => ∃ v, e = .returned v ∧ R v w' := disk_Disk_settle.ok d1 keep2k keep2f keep2g (disk_Disk_settle.up d1 keep2k keep2f keep2g h)
theorem disk_Disk_settle.run (d1 : Option Addr) (keep2k : Nat) (keep2f : Array Value) (keep2g : Array Value) {V : Value} {Q : World → Prop} {w : World} (h : disk_Disk_settle.N d1 keep2k keep2f keep2g (fun v w' => v = V ∧ Q w') w) : Calls Try.prog 27 #[.pointer d1, .func (.func keep2k) keep2f keep2g] w (Ret V Q) := (disk_Disk_settle.go d1 keep2k keep2f keep2g h).mono fun e w' ⟨v, he, hv, hq⟩ => ⟨by rw [he, hv], hq⟩

/-- (*disk.Disk).Write -/
def disk_Disk_Write.M (d1 : Option Addr) (i2 : Int) (b3a : Option Addr) (b3n : Nat) (b3c : Nat) (R : Value → World → Prop) (w : World) : Prop :=
  Calls Try.prog 25 #[.pointer d1, .int .i64 i2] w fun ee5 ww6 => ∃ (has4 : Int), ee5 = .returned (.int .i64 has4) ∧
  bif has4 != 0 then (
  R (.int .i64 has4) ww6) else (
  bif (b3n : Int) != 64 then (
  R (.int .i64 1) ww6) else (
  thenW (ww6.alloc (.cells (List.toArray ([.int .i64 0] ++ List.replicate 64 (.int .u8 0) ++ [.bool false])) 63)) fun ww7 =>
  canStore ww7 ((blk ww6.heap.size).add 0) ∧
  thenW (ww7.setCell ((blk ww6.heap.size).add 0) (.int .i64 i2)) fun ww8 =>
  canStore ww8 ((blk ww6.heap.size).add 1) ∧
  thenW (ww8.setCell ((blk ww6.heap.size).add 1) (.int .u8 0)) fun ww9 =>
  canStore ww9 ((blk ww6.heap.size).add 2) ∧
  thenW (ww9.setCell ((blk ww6.heap.size).add 2) (.int .u8 0)) fun ww10 =>
  canStore ww10 ((blk ww6.heap.size).add 3) ∧
  thenW (ww10.setCell ((blk ww6.heap.size).add 3) (.int .u8 0)) fun ww11 =>
  canStore ww11 ((blk ww6.heap.size).add 4) ∧
  thenW (ww11.setCell ((blk ww6.heap.size).add 4) (.int .u8 0)) fun ww12 =>
  canStore ww12 ((blk ww6.heap.size).add 5) ∧
  thenW (ww12.setCell ((blk ww6.heap.size).add 5) (.int .u8 0)) fun ww13 =>
  canStore ww13 ((blk ww6.heap.size).add 6) ∧
  thenW (ww13.setCell ((blk ww6.heap.size).add 6) (.int .u8 0)) fun ww14 =>
  canStore ww14 ((blk ww6.heap.size).add 7) ∧
  thenW (ww14.setCell ((blk ww6.heap.size).add 7) (.int .u8 0)) fun ww15 =>
  canStore ww15 ((blk ww6.heap.size).add 8) ∧
  thenW (ww15.setCell ((blk ww6.heap.size).add 8) (.int .u8 0)) fun ww16 =>
  canStore ww16 ((blk ww6.heap.size).add 9) ∧
  thenW (ww16.setCell ((blk ww6.heap.size).add 9) (.int .u8 0)) fun ww17 =>
  canStore ww17 ((blk ww6.heap.size).add 10) ∧
  thenW (ww17.setCell ((blk ww6.heap.size).add 10) (.int .u8 0)) fun ww18 =>
  canStore ww18 ((blk ww6.heap.size).add 11) ∧
  thenW (ww18.setCell ((blk ww6.heap.size).add 11) (.int .u8 0)) fun ww19 =>
  canStore ww19 ((blk ww6.heap.size).add 12) ∧
  thenW (ww19.setCell ((blk ww6.heap.size).add 12) (.int .u8 0)) fun ww20 =>
  canStore ww20 ((blk ww6.heap.size).add 13) ∧
  thenW (ww20.setCell ((blk ww6.heap.size).add 13) (.int .u8 0)) fun ww21 =>
  canStore ww21 ((blk ww6.heap.size).add 14) ∧
  thenW (ww21.setCell ((blk ww6.heap.size).add 14) (.int .u8 0)) fun ww22 =>
  canStore ww22 ((blk ww6.heap.size).add 15) ∧
  thenW (ww22.setCell ((blk ww6.heap.size).add 15) (.int .u8 0)) fun ww23 =>
  canStore ww23 ((blk ww6.heap.size).add 16) ∧
  thenW (ww23.setCell ((blk ww6.heap.size).add 16) (.int .u8 0)) fun ww24 =>
  canStore ww24 ((blk ww6.heap.size).add 17) ∧
  thenW (ww24.setCell ((blk ww6.heap.size).add 17) (.int .u8 0)) fun ww25 =>
  canStore ww25 ((blk ww6.heap.size).add 18) ∧
  thenW (ww25.setCell ((blk ww6.heap.size).add 18) (.int .u8 0)) fun ww26 =>
  canStore ww26 ((blk ww6.heap.size).add 19) ∧
  thenW (ww26.setCell ((blk ww6.heap.size).add 19) (.int .u8 0)) fun ww27 =>
  canStore ww27 ((blk ww6.heap.size).add 20) ∧
  thenW (ww27.setCell ((blk ww6.heap.size).add 20) (.int .u8 0)) fun ww28 =>
  canStore ww28 ((blk ww6.heap.size).add 21) ∧
  thenW (ww28.setCell ((blk ww6.heap.size).add 21) (.int .u8 0)) fun ww29 =>
  canStore ww29 ((blk ww6.heap.size).add 22) ∧
  thenW (ww29.setCell ((blk ww6.heap.size).add 22) (.int .u8 0)) fun ww30 =>
  canStore ww30 ((blk ww6.heap.size).add 23) ∧
  thenW (ww30.setCell ((blk ww6.heap.size).add 23) (.int .u8 0)) fun ww31 =>
  canStore ww31 ((blk ww6.heap.size).add 24) ∧
  thenW (ww31.setCell ((blk ww6.heap.size).add 24) (.int .u8 0)) fun ww32 =>
  canStore ww32 ((blk ww6.heap.size).add 25) ∧
  thenW (ww32.setCell ((blk ww6.heap.size).add 25) (.int .u8 0)) fun ww33 =>
  canStore ww33 ((blk ww6.heap.size).add 26) ∧
  thenW (ww33.setCell ((blk ww6.heap.size).add 26) (.int .u8 0)) fun ww34 =>
  canStore ww34 ((blk ww6.heap.size).add 27) ∧
  thenW (ww34.setCell ((blk ww6.heap.size).add 27) (.int .u8 0)) fun ww35 =>
  canStore ww35 ((blk ww6.heap.size).add 28) ∧
  thenW (ww35.setCell ((blk ww6.heap.size).add 28) (.int .u8 0)) fun ww36 =>
  canStore ww36 ((blk ww6.heap.size).add 29) ∧
  thenW (ww36.setCell ((blk ww6.heap.size).add 29) (.int .u8 0)) fun ww37 =>
  canStore ww37 ((blk ww6.heap.size).add 30) ∧
  thenW (ww37.setCell ((blk ww6.heap.size).add 30) (.int .u8 0)) fun ww38 =>
  canStore ww38 ((blk ww6.heap.size).add 31) ∧
  thenW (ww38.setCell ((blk ww6.heap.size).add 31) (.int .u8 0)) fun ww39 =>
  canStore ww39 ((blk ww6.heap.size).add 32) ∧
  thenW (ww39.setCell ((blk ww6.heap.size).add 32) (.int .u8 0)) fun ww40 =>
  canStore ww40 ((blk ww6.heap.size).add 33) ∧
  thenW (ww40.setCell ((blk ww6.heap.size).add 33) (.int .u8 0)) fun ww41 =>
  canStore ww41 ((blk ww6.heap.size).add 34) ∧
  thenW (ww41.setCell ((blk ww6.heap.size).add 34) (.int .u8 0)) fun ww42 =>
  canStore ww42 ((blk ww6.heap.size).add 35) ∧
  thenW (ww42.setCell ((blk ww6.heap.size).add 35) (.int .u8 0)) fun ww43 =>
  canStore ww43 ((blk ww6.heap.size).add 36) ∧
  thenW (ww43.setCell ((blk ww6.heap.size).add 36) (.int .u8 0)) fun ww44 =>
  canStore ww44 ((blk ww6.heap.size).add 37) ∧
  thenW (ww44.setCell ((blk ww6.heap.size).add 37) (.int .u8 0)) fun ww45 =>
  canStore ww45 ((blk ww6.heap.size).add 38) ∧
  thenW (ww45.setCell ((blk ww6.heap.size).add 38) (.int .u8 0)) fun ww46 =>
  canStore ww46 ((blk ww6.heap.size).add 39) ∧
  thenW (ww46.setCell ((blk ww6.heap.size).add 39) (.int .u8 0)) fun ww47 =>
  canStore ww47 ((blk ww6.heap.size).add 40) ∧
  thenW (ww47.setCell ((blk ww6.heap.size).add 40) (.int .u8 0)) fun ww48 =>
  canStore ww48 ((blk ww6.heap.size).add 41) ∧
  thenW (ww48.setCell ((blk ww6.heap.size).add 41) (.int .u8 0)) fun ww49 =>
  canStore ww49 ((blk ww6.heap.size).add 42) ∧
  thenW (ww49.setCell ((blk ww6.heap.size).add 42) (.int .u8 0)) fun ww50 =>
  canStore ww50 ((blk ww6.heap.size).add 43) ∧
  thenW (ww50.setCell ((blk ww6.heap.size).add 43) (.int .u8 0)) fun ww51 =>
  canStore ww51 ((blk ww6.heap.size).add 44) ∧
  thenW (ww51.setCell ((blk ww6.heap.size).add 44) (.int .u8 0)) fun ww52 =>
  canStore ww52 ((blk ww6.heap.size).add 45) ∧
  thenW (ww52.setCell ((blk ww6.heap.size).add 45) (.int .u8 0)) fun ww53 =>
  canStore ww53 ((blk ww6.heap.size).add 46) ∧
  thenW (ww53.setCell ((blk ww6.heap.size).add 46) (.int .u8 0)) fun ww54 =>
  canStore ww54 ((blk ww6.heap.size).add 47) ∧
  thenW (ww54.setCell ((blk ww6.heap.size).add 47) (.int .u8 0)) fun ww55 =>
  canStore ww55 ((blk ww6.heap.size).add 48) ∧
  thenW (ww55.setCell ((blk ww6.heap.size).add 48) (.int .u8 0)) fun ww56 =>
  canStore ww56 ((blk ww6.heap.size).add 49) ∧
  thenW (ww56.setCell ((blk ww6.heap.size).add 49) (.int .u8 0)) fun ww57 =>
  canStore ww57 ((blk ww6.heap.size).add 50) ∧
  thenW (ww57.setCell ((blk ww6.heap.size).add 50) (.int .u8 0)) fun ww58 =>
  canStore ww58 ((blk ww6.heap.size).add 51) ∧
  thenW (ww58.setCell ((blk ww6.heap.size).add 51) (.int .u8 0)) fun ww59 =>
  canStore ww59 ((blk ww6.heap.size).add 52) ∧
  thenW (ww59.setCell ((blk ww6.heap.size).add 52) (.int .u8 0)) fun ww60 =>
  canStore ww60 ((blk ww6.heap.size).add 53) ∧
  thenW (ww60.setCell ((blk ww6.heap.size).add 53) (.int .u8 0)) fun ww61 =>
  canStore ww61 ((blk ww6.heap.size).add 54) ∧
  thenW (ww61.setCell ((blk ww6.heap.size).add 54) (.int .u8 0)) fun ww62 =>
  canStore ww62 ((blk ww6.heap.size).add 55) ∧
  thenW (ww62.setCell ((blk ww6.heap.size).add 55) (.int .u8 0)) fun ww63 =>
  canStore ww63 ((blk ww6.heap.size).add 56) ∧
  thenW (ww63.setCell ((blk ww6.heap.size).add 56) (.int .u8 0)) fun ww64 =>
  canStore ww64 ((blk ww6.heap.size).add 57) ∧
  thenW (ww64.setCell ((blk ww6.heap.size).add 57) (.int .u8 0)) fun ww65 =>
  canStore ww65 ((blk ww6.heap.size).add 58) ∧
  thenW (ww65.setCell ((blk ww6.heap.size).add 58) (.int .u8 0)) fun ww66 =>
  canStore ww66 ((blk ww6.heap.size).add 59) ∧
  thenW (ww66.setCell ((blk ww6.heap.size).add 59) (.int .u8 0)) fun ww67 =>
  canStore ww67 ((blk ww6.heap.size).add 60) ∧
  thenW (ww67.setCell ((blk ww6.heap.size).add 60) (.int .u8 0)) fun ww68 =>
  canStore ww68 ((blk ww6.heap.size).add 61) ∧
  thenW (ww68.setCell ((blk ww6.heap.size).add 61) (.int .u8 0)) fun ww69 =>
  canStore ww69 ((blk ww6.heap.size).add 62) ∧
  thenW (ww69.setCell ((blk ww6.heap.size).add 62) (.int .u8 0)) fun ww70 =>
  canStore ww70 ((blk ww6.heap.size).add 63) ∧
  thenW (ww70.setCell ((blk ww6.heap.size).add 63) (.int .u8 0)) fun ww71 =>
  canStore ww71 ((blk ww6.heap.size).add 64) ∧
  thenW (ww71.setCell ((blk ww6.heap.size).add 64) (.int .u8 0)) fun ww72 =>
  canStore ww72 ((blk ww6.heap.size).add 65) ∧
  thenW (ww72.setCell ((blk ww6.heap.size).add 65) (.bool false)) fun ww73 =>
  ∃ (c74 : Int) (ww75 : World), (Builtin.copy_ #[33, 33] 3 #[.slice (some (if 64 = 0 then (((blk ww6.heap.size).add 1).add 0) else (((blk ww6.heap.size).add 1).add 0).add (0 * 1))) (64 - 0) (64 - 0), .slice b3a b3n b3c]).run Try.prog ww73 = .ok (.int .i64 c74) ww75 ∧
  thenW (ww75.drew) fun ww76 =>
  d1.elim False fun a77 =>
  ∃ (pend78a : Option Addr) (pend78n : Nat) (pend78c : Nat), ww76.cell? (a77.add 1) = some (.slice pend78a pend78n pend78c) ∧
  ∃ x79 : Array Value, szB Try.prog 63 x79.size = true ∧ cellsAt ww76 (blk ww6.heap.size) x79.toList 0 ∧
  mslit Try.prog 55 1 [(0, Value.agg x79)] ww76 fun (big80 : Value) (ww81 : World) =>
  ww81.cell? (a77.add 1) = some (.slice pend78a pend78n pend78c) ∧
  ∃ (a82a : Option Addr) (a82n : Nat) (a82c : Nat) (ww83 : World), (Builtin.append_ #[55, 55] 55 #[.slice pend78a pend78n pend78c, big80]).run Try.prog ww81 = .ok (.slice a82a a82n a82c) ww83 ∧
  d1.elim False fun a84 =>
  canStore ww83 ((a84.add 1).add 0) ∧
  thenW (ww83.setCell ((a84.add 1).add 0) (.slice a82a a82n a82c)) fun ww85 =>
  d1.elim False fun a86 =>
  ∃ (armed87 : Bool), ww85.cell? (a86.add 3) = some (.bool armed87) ∧
  bif armed87 then (
  d1.elim False fun a88 =>
  ∃ (left89 : Int), ww85.cell? (a88.add 2) = some (.int .i64 left89) ∧
  bif left89 == 0 then (
  d1.elim False fun a90 =>
  canStore ww85 ((a90.add 4).add 0) ∧
  thenW (ww85.setCell ((a90.add 4).add 0) (.int .i64 1)) fun ww91 =>
  thenW (ww91.drew) fun ww92 =>
  d1.elim False fun a93 =>
  ∃ (pend94a : Option Addr) (pend94n : Nat) (pend94c : Nat), ww92.cell? (a93.add 1) = some (.slice pend94a pend94n pend94c) ∧
  d1.elim False fun a95 =>
  ∃ (pend96a : Option Addr) (pend96n : Nat) (pend96c : Nat), ww92.cell? (a95.add 1) = some (.slice pend96a pend96n pend96c) ∧
  pend94a.elim False fun a97 =>
  0 ≤ ((IntKind.i64.wrap ((pend96n : Int) - 1)) : Int) ∧ ((IntKind.i64.wrap ((pend96n : Int) - 1)) : Int) < (pend94n : Int) ∧
  canStore ww92 ((((a97.add (Int.toNat (IntKind.i64.wrap ((pend96n : Int) - 1)) * 66)).add 1).add 64).add 0) ∧
  thenW (ww92.setCell ((((a97.add (Int.toNat (IntKind.i64.wrap ((pend96n : Int) - 1)) * 66)).add 1).add 64).add 0) (.bool true)) fun ww98 =>
  R (.int .i64 19) ww98) else (
  d1.elim False fun a99 =>
  ∃ (left100 : Int), ww85.cell? (a99.add 2) = some (.int .i64 left100) ∧
  d1.elim False fun a101 =>
  canStore ww85 ((a101.add 2).add 0) ∧
  thenW (ww85.setCell ((a101.add 2).add 0) (.int .i64 (IntKind.i64.wrap (left100 - 1)))) fun ww102 =>
  d1.elim False fun a103 =>
  ∃ (count104 : Int), ww102.cell? (a103.add 5) = some (.int .i64 count104) ∧
  d1.elim False fun a105 =>
  canStore ww102 ((a105.add 5).add 0) ∧
  thenW (ww102.setCell ((a105.add 5).add 0) (.int .i64 (IntKind.i64.wrap (count104 + 1)))) fun ww106 =>
  R (.int .i64 0) ww106)) else (
  d1.elim False fun a107 =>
  ∃ (count108 : Int), ww85.cell? (a107.add 5) = some (.int .i64 count108) ∧
  d1.elim False fun a109 =>
  canStore ww85 ((a109.add 5).add 0) ∧
  thenW (ww85.setCell ((a109.add 5).add 0) (.int .i64 (IntKind.i64.wrap (count108 + 1)))) fun ww110 =>
  R (.int .i64 0) ww110)))

theorem disk_Disk_Write.eq (d1 : Option Addr) (i2 : Int) (b3a : Option Addr) (b3n : Nat) (b3c : Nat) (R : Value → World → Prop) (w : World) : mfunc Try.prog [] 10 [.pointer d1, .int .i64 i2, .slice b3a b3n b3c] R w = disk_Disk_Write.M d1 i2 b3a b3n b3c R w := by kernel_rfl
theorem disk_Disk_Write.ok (d1 : Option Addr) (i2 : Int) (b3a : Option Addr) (b3n : Nat) (b3c : Nat) {R : Value → World → Prop} {w : World} (h : disk_Disk_Write.M d1 i2 b3a b3n b3c R w) : Calls Try.prog 10 #[.pointer d1, .int .i64 i2, .slice b3a b3n b3c] w fun e w' => ∃ v, e = .returned v ∧ R v w' :=
  mfunc_ok follows (H := []) (args := [.pointer d1, .int .i64 i2, .slice b3a b3n b3c]) (by rw [disk_Disk_Write.eq]; exact h)

def disk_Disk_Write.N (d1 : Option Addr) (i2 : Int) (b3a : Option Addr) (b3n : Nat) (b3c : Nat) (R : Value → World → Prop) (w : World) : Prop :=
  Calls Try.prog 25 #[.pointer d1, .int .i64 i2] w fun ee5 ww6 => ∃ (has4 : Int), ee5 = .returned (.int .i64 has4) ∧
  (has4 ≠ 0 →
    R (.int .i64 has4) ww6) ∧
  (has4 = 0 →
    ((b3n : Int) ≠ 64 →
      R (.int .i64 1) ww6) ∧
    ((b3n : Int) = 64 →
      ∀ (ww9 : World) (q10 : Nat), Ext no ww6 ww9 → Blk ww9 q10 63 ([.int .i64 0] ++ List.replicate 64 (.int .u8 0) ++ [.bool false]) → ww6.heap.size ≤ q10 → q10 < ww9.heap.size →
      putsK ww9 (blk q10) ([.int .i64 i2] ++ List.replicate 64 (.int .u8 0) ++ [.bool false]) 0 fun ww76 =>
      ∃ (c77 : Int) (ww78 : World), (Builtin.copy_ #[33, 33] 3 #[.slice (some (if 64 = 0 then (((blk q10).add 1).add 0) else (((blk q10).add 1).add 0).add (0 * 1))) (64 - 0) (64 - 0), .slice b3a b3n b3c]).run Try.prog ww76 = .ok (.int .i64 c77) ww78 ∧
      ∃ a80 : Addr, d1 = some a80 ∧
      ∃ (pend82a : Option Addr) (pend82n : Nat) (pend82c : Nat), ww78.cell? (a80.add 1) = some (.slice pend82a pend82n pend82c) ∧
      ∃ x84 : Array Value, szB Try.prog 63 x84.size = true ∧ cellsAt ww78 (blk q10) x84.toList 0 ∧
      szB Try.prog 63 x84.size = true ∧
      ∀ (ww85 : World) (q86 : Nat), Ext no ww78 ww85 → Blk ww85 q86 63 x84.toList → ww78.heap.size ≤ q86 → q86 < ww85.heap.size →
      ww85.cell? (a80.add 1) = some (.slice pend82a pend82n pend82c) ∧
      ∃ (a88a : Option Addr) (a88n : Nat) (a88c : Nat) (ww89 : World), (Builtin.append_ #[55, 55] 55 #[.slice pend82a pend82n pend82c, .slice (some (blk q86)) 1 1]).run Try.prog ww85 = .ok (.slice a88a a88n a88c) ww89 ∧
      canStore ww89 ((a80.add 1).add 0) ∧
      thenW (ww89.setCell ((a80.add 1).add 0) (.slice a88a a88n a88c)) fun ww90 =>
      ∃ (armed92 : Bool), ww90.cell? (a80.add 3) = some (.bool armed92) ∧
      (armed92 = true →
        ∃ (left95 : Int), ww90.cell? (a80.add 2) = some (.int .i64 left95) ∧
        (left95 = 0 →
          canStore ww90 ((a80.add 4).add 0) ∧
          thenW (ww90.setCell ((a80.add 4).add 0) (.int .i64 1)) fun ww97 =>
          ∃ (pend100a : Option Addr) (pend100n : Nat) (pend100c : Nat), ww97.cell? (a80.add 1) = some (.slice pend100a pend100n pend100c) ∧
          ∃ (pend102a : Option Addr) (pend102n : Nat) (pend102c : Nat), ww97.cell? (a80.add 1) = some (.slice pend102a pend102n pend102c) ∧
          (-9223372036854775808 : Int) ≤ ((pend102n : Int) - 1) ∧ ((pend102n : Int) - 1) < 9223372036854775808 ∧
          ∃ a103 : Addr, pend100a = some a103 ∧
          0 ≤ (((pend102n : Int) - 1) : Int) ∧ (((pend102n : Int) - 1) : Int) < (pend100n : Int) ∧
          ∀ (ww98 : World), Ext no ww97 ww98 →
          canStore ww98 ((((a103.add (Int.toNat ((pend102n : Int) - 1) * 66)).add 1).add 64).add 0) ∧
          thenW (ww98.setCell ((((a103.add (Int.toNat ((pend102n : Int) - 1) * 66)).add 1).add 64).add 0) (.bool true)) fun ww104 =>
          R (.int .i64 19) ww104) ∧
        (left95 ≠ 0 →
          ∃ (left106 : Int), ww90.cell? (a80.add 2) = some (.int .i64 left106) ∧
          (-9223372036854775808 : Int) ≤ (left106 - 1) ∧ (left106 - 1) < 9223372036854775808 ∧
          canStore ww90 ((a80.add 2).add 0) ∧
          thenW (ww90.setCell ((a80.add 2).add 0) (.int .i64 (left106 - 1))) fun ww107 =>
          ∃ (count109 : Int), ww107.cell? (a80.add 5) = some (.int .i64 count109) ∧
          (-9223372036854775808 : Int) ≤ (count109 + 1) ∧ (count109 + 1) < 9223372036854775808 ∧
          canStore ww107 ((a80.add 5).add 0) ∧
          thenW (ww107.setCell ((a80.add 5).add 0) (.int .i64 (count109 + 1))) fun ww110 =>
          R (.int .i64 0) ww110)) ∧
      (armed92 = false →
        ∃ (count112 : Int), ww90.cell? (a80.add 5) = some (.int .i64 count112) ∧
        (-9223372036854775808 : Int) ≤ (count112 + 1) ∧ (count112 + 1) < 9223372036854775808 ∧
        canStore ww90 ((a80.add 5).add 0) ∧
        thenW (ww90.setCell ((a80.add 5).add 0) (.int .i64 (count112 + 1))) fun ww113 =>
        R (.int .i64 0) ww113)))

theorem disk_Disk_Write.up (d1 : Option Addr) (i2 : Int) (b3a : Option Addr) (b3n : Nat) (b3c : Nat) {R : Value → World → Prop} {w : World} (h : disk_Disk_Write.N d1 i2 b3a b3n b3c R w) : disk_Disk_Write.M d1 i2 b3a b3n b3c R w := by
  unfold disk_Disk_Write.M
  unfold disk_Disk_Write.N at h
  refine h.mono fun ee5 ww6 h => ?_
  obtain ⟨has4, he, h⟩ := h
  refine ⟨has4, he, ?_⟩
  refine bif_of (fun c7 => ?_) (fun c7 => ?_)
  · have h := h.1 (bne_t c7)
    exact h
  · have h := h.2 (bne_f c7)
    refine bif_of (fun c8 => ?_) (fun c8 => ?_)
    · have h := h.1 (bne_t c8)
      exact h
    · have h := h.2 (bne_f c8)
      refine thenW_in fun ww9 e9 => ?_
      have h := h ww9 ww6.heap.size ((Ext.refl no ww6).x_alloc e9) (Blk.of_new e9) ((Ext.refl no ww6)).size (size_lt_alloc e9)
      try rw [show (([.int .i64 i2] ++ List.replicate 64 (.int .u8 0) ++ [.bool false])) = [.int .i64 i2, .int .u8 0, .int .u8 0, .int .u8 0, .int .u8 0, .int .u8 0, .int .u8 0, .int .u8 0, .int .u8 0, .int .u8 0, .int .u8 0, .int .u8 0, .int .u8 0, .int .u8 0, .int .u8 0, .int .u8 0, .int .u8 0, .int .u8 0, .int .u8 0, .int .u8 0, .int .u8 0, .int .u8 0, .int .u8 0, .int .u8 0, .int .u8 0, .int .u8 0, .int .u8 0, .int .u8 0, .int .u8 0, .int .u8 0, .int .u8 0, .int .u8 0, .int .u8 0, .int .u8 0, .int .u8 0, .int .u8 0, .int .u8 0, .int .u8 0, .int .u8 0, .int .u8 0, .int .u8 0, .int .u8 0, .int .u8 0, .int .u8 0, .int .u8 0, .int .u8 0, .int .u8 0, .int .u8 0, .int .u8 0, .int .u8 0, .int .u8 0, .int .u8 0, .int .u8 0, .int .u8 0, .int .u8 0, .int .u8 0, .int .u8 0, .int .u8 0, .int .u8 0, .int .u8 0, .int .u8 0, .int .u8 0, .int .u8 0, .int .u8 0, .int .u8 0, .bool false] from rfl] at h
      obtain ⟨hcs, h⟩ := h
      refine ⟨hcs, thenW_in fun ww11 e11 => ?_⟩
      replace h := thenW_out h e11
      obtain ⟨hcs, h⟩ := h
      refine ⟨hcs, thenW_in fun ww12 e12 => ?_⟩
      replace h := thenW_out h e12
      obtain ⟨hcs, h⟩ := h
      refine ⟨hcs, thenW_in fun ww13 e13 => ?_⟩
      replace h := thenW_out h e13
      obtain ⟨hcs, h⟩ := h
      refine ⟨hcs, thenW_in fun ww14 e14 => ?_⟩
      replace h := thenW_out h e14
      obtain ⟨hcs, h⟩ := h
      refine ⟨hcs, thenW_in fun ww15 e15 => ?_⟩
      replace h := thenW_out h e15
      obtain ⟨hcs, h⟩ := h
      refine ⟨hcs, thenW_in fun ww16 e16 => ?_⟩
      replace h := thenW_out h e16
      obtain ⟨hcs, h⟩ := h
      refine ⟨hcs, thenW_in fun ww17 e17 => ?_⟩
      replace h := thenW_out h e17
      obtain ⟨hcs, h⟩ := h
      refine ⟨hcs, thenW_in fun ww18 e18 => ?_⟩
      replace h := thenW_out h e18
      obtain ⟨hcs, h⟩ := h
      refine ⟨hcs, thenW_in fun ww19 e19 => ?_⟩
      replace h := thenW_out h e19
      obtain ⟨hcs, h⟩ := h
      refine ⟨hcs, thenW_in fun ww20 e20 => ?_⟩
      replace h := thenW_out h e20
      obtain ⟨hcs, h⟩ := h
      refine ⟨hcs, thenW_in fun ww21 e21 => ?_⟩
      replace h := thenW_out h e21
      obtain ⟨hcs, h⟩ := h
      refine ⟨hcs, thenW_in fun ww22 e22 => ?_⟩
      replace h := thenW_out h e22
      obtain ⟨hcs, h⟩ := h
      refine ⟨hcs, thenW_in fun ww23 e23 => ?_⟩
      replace h := thenW_out h e23
      obtain ⟨hcs, h⟩ := h
      refine ⟨hcs, thenW_in fun ww24 e24 => ?_⟩
      replace h := thenW_out h e24
      obtain ⟨hcs, h⟩ := h
      refine ⟨hcs, thenW_in fun ww25 e25 => ?_⟩
      replace h := thenW_out h e25
      obtain ⟨hcs, h⟩ := h
      refine ⟨hcs, thenW_in fun ww26 e26 => ?_⟩
      replace h := thenW_out h e26
      obtain ⟨hcs, h⟩ := h
      refine ⟨hcs, thenW_in fun ww27 e27 => ?_⟩
      replace h := thenW_out h e27
      obtain ⟨hcs, h⟩ := h
      refine ⟨hcs, thenW_in fun ww28 e28 => ?_⟩
      replace h := thenW_out h e28
      obtain ⟨hcs, h⟩ := h
      refine ⟨hcs, thenW_in fun ww29 e29 => ?_⟩
      replace h := thenW_out h e29
      obtain ⟨hcs, h⟩ := h
      refine ⟨hcs, thenW_in fun ww30 e30 => ?_⟩
      replace h := thenW_out h e30
      obtain ⟨hcs, h⟩ := h
      refine ⟨hcs, thenW_in fun ww31 e31 => ?_⟩
      replace h := thenW_out h e31
      obtain ⟨hcs, h⟩ := h
      refine ⟨hcs, thenW_in fun ww32 e32 => ?_⟩
      replace h := thenW_out h e32
      obtain ⟨hcs, h⟩ := h
      refine ⟨hcs, thenW_in fun ww33 e33 => ?_⟩
      replace h := thenW_out h e33
      obtain ⟨hcs, h⟩ := h
      refine ⟨hcs, thenW_in fun ww34 e34 => ?_⟩
      replace h := thenW_out h e34
      obtain ⟨hcs, h⟩ := h
      refine ⟨hcs, thenW_in fun ww35 e35 => ?_⟩
      replace h := thenW_out h e35
      obtain ⟨hcs, h⟩ := h
      refine ⟨hcs, thenW_in fun ww36 e36 => ?_⟩
      replace h := thenW_out h e36
      obtain ⟨hcs, h⟩ := h
      refine ⟨hcs, thenW_in fun ww37 e37 => ?_⟩
      replace h := thenW_out h e37
      obtain ⟨hcs, h⟩ := h
      refine ⟨hcs, thenW_in fun ww38 e38 => ?_⟩
      replace h := thenW_out h e38
      obtain ⟨hcs, h⟩ := h
      refine ⟨hcs, thenW_in fun ww39 e39 => ?_⟩
      replace h := thenW_out h e39
      obtain ⟨hcs, h⟩ := h
      refine ⟨hcs, thenW_in fun ww40 e40 => ?_⟩
      replace h := thenW_out h e40
      obtain ⟨hcs, h⟩ := h
      refine ⟨hcs, thenW_in fun ww41 e41 => ?_⟩
      replace h := thenW_out h e41
      obtain ⟨hcs, h⟩ := h
      refine ⟨hcs, thenW_in fun ww42 e42 => ?_⟩
      replace h := thenW_out h e42
      obtain ⟨hcs, h⟩ := h
      refine ⟨hcs, thenW_in fun ww43 e43 => ?_⟩
      replace h := thenW_out h e43
      obtain ⟨hcs, h⟩ := h
      refine ⟨hcs, thenW_in fun ww44 e44 => ?_⟩
      replace h := thenW_out h e44
      obtain ⟨hcs, h⟩ := h
      refine ⟨hcs, thenW_in fun ww45 e45 => ?_⟩
      replace h := thenW_out h e45
      obtain ⟨hcs, h⟩ := h
      refine ⟨hcs, thenW_in fun ww46 e46 => ?_⟩
      replace h := thenW_out h e46
      obtain ⟨hcs, h⟩ := h
      refine ⟨hcs, thenW_in fun ww47 e47 => ?_⟩
      replace h := thenW_out h e47
      obtain ⟨hcs, h⟩ := h
      refine ⟨hcs, thenW_in fun ww48 e48 => ?_⟩
      replace h := thenW_out h e48
      obtain ⟨hcs, h⟩ := h
      refine ⟨hcs, thenW_in fun ww49 e49 => ?_⟩
      replace h := thenW_out h e49
      obtain ⟨hcs, h⟩ := h
      refine ⟨hcs, thenW_in fun ww50 e50 => ?_⟩
      replace h := thenW_out h e50
      obtain ⟨hcs, h⟩ := h
      refine ⟨hcs, thenW_in fun ww51 e51 => ?_⟩
      replace h := thenW_out h e51
      obtain ⟨hcs, h⟩ := h
      refine ⟨hcs, thenW_in fun ww52 e52 => ?_⟩
      replace h := thenW_out h e52
      obtain ⟨hcs, h⟩ := h
      refine ⟨hcs, thenW_in fun ww53 e53 => ?_⟩
      replace h := thenW_out h e53
      obtain ⟨hcs, h⟩ := h
      refine ⟨hcs, thenW_in fun ww54 e54 => ?_⟩
      replace h := thenW_out h e54
      obtain ⟨hcs, h⟩ := h
      refine ⟨hcs, thenW_in fun ww55 e55 => ?_⟩
      replace h := thenW_out h e55
      obtain ⟨hcs, h⟩ := h
      refine ⟨hcs, thenW_in fun ww56 e56 => ?_⟩
      replace h := thenW_out h e56
      obtain ⟨hcs, h⟩ := h
      refine ⟨hcs, thenW_in fun ww57 e57 => ?_⟩
      replace h := thenW_out h e57
      obtain ⟨hcs, h⟩ := h
      refine ⟨hcs, thenW_in fun ww58 e58 => ?_⟩
      replace h := thenW_out h e58
      obtain ⟨hcs, h⟩ := h
      refine ⟨hcs, thenW_in fun ww59 e59 => ?_⟩
      replace h := thenW_out h e59
      obtain ⟨hcs, h⟩ := h
      refine ⟨hcs, thenW_in fun ww60 e60 => ?_⟩
      replace h := thenW_out h e60
      obtain ⟨hcs, h⟩ := h
      refine ⟨hcs, thenW_in fun ww61 e61 => ?_⟩
      replace h := thenW_out h e61
      obtain ⟨hcs, h⟩ := h
      refine ⟨hcs, thenW_in fun ww62 e62 => ?_⟩
      replace h := thenW_out h e62
      obtain ⟨hcs, h⟩ := h
      refine ⟨hcs, thenW_in fun ww63 e63 => ?_⟩
      replace h := thenW_out h e63
      obtain ⟨hcs, h⟩ := h
      refine ⟨hcs, thenW_in fun ww64 e64 => ?_⟩
      replace h := thenW_out h e64
      obtain ⟨hcs, h⟩ := h
      refine ⟨hcs, thenW_in fun ww65 e65 => ?_⟩
      replace h := thenW_out h e65
      obtain ⟨hcs, h⟩ := h
      refine ⟨hcs, thenW_in fun ww66 e66 => ?_⟩
      replace h := thenW_out h e66
      obtain ⟨hcs, h⟩ := h
      refine ⟨hcs, thenW_in fun ww67 e67 => ?_⟩
      replace h := thenW_out h e67
      obtain ⟨hcs, h⟩ := h
      refine ⟨hcs, thenW_in fun ww68 e68 => ?_⟩
      replace h := thenW_out h e68
      obtain ⟨hcs, h⟩ := h
      refine ⟨hcs, thenW_in fun ww69 e69 => ?_⟩
      replace h := thenW_out h e69
      obtain ⟨hcs, h⟩ := h
      refine ⟨hcs, thenW_in fun ww70 e70 => ?_⟩
      replace h := thenW_out h e70
      obtain ⟨hcs, h⟩ := h
      refine ⟨hcs, thenW_in fun ww71 e71 => ?_⟩
      replace h := thenW_out h e71
      obtain ⟨hcs, h⟩ := h
      refine ⟨hcs, thenW_in fun ww72 e72 => ?_⟩
      replace h := thenW_out h e72
      obtain ⟨hcs, h⟩ := h
      refine ⟨hcs, thenW_in fun ww73 e73 => ?_⟩
      replace h := thenW_out h e73
      obtain ⟨hcs, h⟩ := h
      refine ⟨hcs, thenW_in fun ww74 e74 => ?_⟩
      replace h := thenW_out h e74
      obtain ⟨hcs, h⟩ := h
      refine ⟨hcs, thenW_in fun ww75 e75 => ?_⟩
      replace h := thenW_out h e75
      obtain ⟨hcs, h⟩ := h
      refine ⟨hcs, thenW_in fun ww76 e76 => ?_⟩
      replace h := thenW_out h e76
      obtain ⟨c77, ww78, hr, h⟩ := h
      refine ⟨c77, ww78, hr, ?_⟩
      refine thenW_in fun ww79 e79 => ?_
      have hx79 := (Ext.refl no ww78).x_drew e79
      obtain ⟨a80, ha80, h⟩ := h
      refine elim_some ha80 ?_
      obtain ⟨pend82a, pend82n, pend82c, hc81, h⟩ := h
      refine ⟨pend82a, pend82n, pend82c, (hx79).cell hc81 id, ?_⟩
      obtain ⟨x84, hz, hc83, h⟩ := h
      refine ⟨x84, hz, cellsAt_no (hx79) hc83, ?_⟩
      obtain ⟨hzl, h⟩ := h
      refine mslit_big Try.underlying55 (by kernel_rfl) hzl ?_
      refine thenW_in fun ww85 e85 => ?_
      have h := h ww85 ww79.heap.size (hx79.x_alloc e85) (Blk.of_new e85) (hx79).size (size_lt_alloc e85)
      obtain ⟨ho87, h⟩ := h
      refine ⟨ho87, ?_⟩
      obtain ⟨a88a, a88n, a88c, ww89, hr, h⟩ := h
      refine ⟨a88a, a88n, a88c, ww89, hr, ?_⟩
      refine elim_some ha80 ?_
      obtain ⟨hcs, h⟩ := h
      refine ⟨hcs, thenW_in fun ww90 e90 => ?_⟩
      replace h := thenW_out h e90
      refine elim_some ha80 ?_
      obtain ⟨armed92, hc91, h⟩ := h
      refine ⟨armed92, hc91, ?_⟩
      refine bif_of (fun c93 => ?_) (fun c93 => ?_)
      · have h := h.1 c93
        refine elim_some ha80 ?_
        obtain ⟨left95, hc94, h⟩ := h
        refine ⟨left95, hc94, ?_⟩
        refine bif_of (fun c96 => ?_) (fun c96 => ?_)
        · have h := h.1 (beq_t c96)
          refine elim_some ha80 ?_
          obtain ⟨hcs, h⟩ := h
          refine ⟨hcs, thenW_in fun ww97 e97 => ?_⟩
          replace h := thenW_out h e97
          refine thenW_in fun ww98 e98 => ?_
          have hx98 := (Ext.refl no ww97).x_drew e98
          refine elim_some ha80 ?_
          obtain ⟨pend100a, pend100n, pend100c, hc99, h⟩ := h
          refine ⟨pend100a, pend100n, pend100c, (hx98).cell hc99 id, ?_⟩
          refine elim_some ha80 ?_
          obtain ⟨pend102a, pend102n, pend102c, hc101, h⟩ := h
          refine ⟨pend102a, pend102n, pend102c, (hx98).cell hc101 id, ?_⟩
          obtain ⟨hw1, hw2, h⟩ := h
          try rw [w64 hw1 hw2]
          obtain ⟨a103, ha103, h⟩ := h
          refine elim_some ha103 ?_
          obtain ⟨hq1, hq2, h⟩ := h
          refine ⟨hq1, hq2, ?_⟩
          have h := h ww98 hx98
          obtain ⟨hcs, h⟩ := h
          refine ⟨hcs, thenW_in fun ww104 e104 => ?_⟩
          replace h := thenW_out h e104
          exact h
        · have h := h.2 (beq_f c96)
          refine elim_some ha80 ?_
          obtain ⟨left106, hc105, h⟩ := h
          refine ⟨left106, hc105, ?_⟩
          obtain ⟨hw1, hw2, h⟩ := h
          try rw [w64 hw1 hw2]
          refine elim_some ha80 ?_
          obtain ⟨hcs, h⟩ := h
          refine ⟨hcs, thenW_in fun ww107 e107 => ?_⟩
          replace h := thenW_out h e107
          refine elim_some ha80 ?_
          obtain ⟨count109, hc108, h⟩ := h
          refine ⟨count109, hc108, ?_⟩
          obtain ⟨hw1, hw2, h⟩ := h
          try rw [w64 hw1 hw2]
          refine elim_some ha80 ?_
          obtain ⟨hcs, h⟩ := h
          refine ⟨hcs, thenW_in fun ww110 e110 => ?_⟩
          replace h := thenW_out h e110
          exact h
      · have h := h.2 c93
        refine elim_some ha80 ?_
        obtain ⟨count112, hc111, h⟩ := h
        refine ⟨count112, hc111, ?_⟩
        obtain ⟨hw1, hw2, h⟩ := h
        try rw [w64 hw1 hw2]
        refine elim_some ha80 ?_
        obtain ⟨hcs, h⟩ := h
        refine ⟨hcs, thenW_in fun ww113 e113 => ?_⟩
        replace h := thenW_out h e113
        exact h

theorem disk_Disk_Write.go (d1 : Option Addr) (i2 : Int) (b3a : Option Addr) (b3n : Nat) (b3c : Nat) {R : Value → World → Prop} {w : World} (h : disk_Disk_Write.N d1 i2 b3a b3n b3c R w) : Calls Try.prog 10 #[.pointer d1, .int .i64 i2, .slice b3a b3n b3c] w fun e w' => ∃ v, e = .returned v ∧ R v w' := disk_Disk_Write.ok d1 i2 b3a b3n b3c (disk_Disk_Write.up d1 i2 b3a b3n b3c h)
theorem disk_Disk_Write.run (d1 : Option Addr) (i2 : Int) (b3a : Option Addr) (b3n : Nat) (b3c : Nat) {V : Value} {Q : World → Prop} {w : World} (h : disk_Disk_Write.N d1 i2 b3a b3n b3c (fun v w' => v = V ∧ Q w') w) : Calls Try.prog 10 #[.pointer d1, .int .i64 i2, .slice b3a b3n b3c] w (Ret V Q) := (disk_Disk_Write.go d1 i2 b3a b3n b3c h).mono fun e w' ⟨v, he, hv, hq⟩ => ⟨by rw [he, hv], hq⟩

/-- (*disk.Disk).Copy -/
def disk_Disk_Copy.M (d1 : Option Addr) (R : Value → World → Prop) (w : World) : Prop :=
  bif Option.isNone d1 then (
  R (.pointer none) w) else (
  d1.elim False fun a2 =>
  ∃ (xGood3a : Option Addr) (xGood3n : Nat) (xGood3c : Nat) (xPend4a : Option Addr) (xPend4n : Nat) (xPend4c : Nat) (xLeft5 : Int) (xArmed6 : Bool) (xState7 : Int) (xCount8 : Int), cellsAt w a2 [.slice xGood3a xGood3n xGood3c, .slice xPend4a xPend4n xPend4c, .int .i64 xLeft5, .bool xArmed6, .int .i64 xState7, .int .i64 xCount8] 0 ∧
  thenW (w.alloc (.cells #[.slice none 0 0, .slice none 0 0, .int .i64 0, .bool false, .int .i64 0, .int .i64 0] 58)) fun ww9 =>
  canStore ww9 ((blk w.heap.size).add 0) ∧
  thenW (ww9.setCell ((blk w.heap.size).add 0) (.slice xGood3a xGood3n xGood3c)) fun ww10 =>
  canStore ww10 ((blk w.heap.size).add 1) ∧
  thenW (ww10.setCell ((blk w.heap.size).add 1) (.slice xPend4a xPend4n xPend4c)) fun ww11 =>
  canStore ww11 ((blk w.heap.size).add 2) ∧
  thenW (ww11.setCell ((blk w.heap.size).add 2) (.int .i64 xLeft5)) fun ww12 =>
  canStore ww12 ((blk w.heap.size).add 3) ∧
  thenW (ww12.setCell ((blk w.heap.size).add 3) (.bool xArmed6)) fun ww13 =>
  canStore ww13 ((blk w.heap.size).add 4) ∧
  thenW (ww13.setCell ((blk w.heap.size).add 4) (.int .i64 xState7)) fun ww14 =>
  canStore ww14 ((blk w.heap.size).add 5) ∧
  thenW (ww14.setCell ((blk w.heap.size).add 5) (.int .i64 xCount8)) fun ww15 =>
  thenW (ww15.drew) fun ww16 =>
  d1.elim False fun a17 =>
  ∃ (good18a : Option Addr) (good18n : Nat) (good18c : Nat), ww16.cell? (a17.add 0) = some (.slice good18a good18n good18c) ∧
  d1.elim False fun a19 =>
  ∃ (pend20a : Option Addr) (pend20n : Nat) (pend20c : Nat), ww16.cell? (a19.add 1) = some (.slice pend20a pend20n pend20c) ∧
  Calls Try.prog 29 #[.slice good18a good18n good18c] ww16 fun ee22 ww23 => ∃ (clone21a : Option Addr) (clone21n : Nat) (clone21c : Nat), ee22 = .returned (.slice clone21a clone21n clone21c) ∧
  ww23.cell? (a19.add 1) = some (.slice pend20a pend20n pend20c) ∧
  Calls Try.prog 30 #[.slice pend20a pend20n pend20c] ww23 fun ee25 ww26 => ∃ (clone24a : Option Addr) (clone24n : Nat) (clone24c : Nat), ee25 = .returned (.slice clone24a clone24n clone24c) ∧
  canStore ww26 (((blk w.heap.size).add 0).add 0) ∧
  thenW (ww26.setCell (((blk w.heap.size).add 0).add 0) (.slice clone21a clone21n clone21c)) fun ww27 =>
  canStore ww27 (((blk w.heap.size).add 1).add 0) ∧
  thenW (ww27.setCell (((blk w.heap.size).add 1).add 0) (.slice clone24a clone24n clone24c)) fun ww28 =>
  R (.pointer (some (blk w.heap.size))) ww28)

theorem disk_Disk_Copy.eq (d1 : Option Addr) (R : Value → World → Prop) (w : World) : mfunc Try.prog [] 13 [.pointer d1] R w = disk_Disk_Copy.M d1 R w := by kernel_rfl
theorem disk_Disk_Copy.ok (d1 : Option Addr) {R : Value → World → Prop} {w : World} (h : disk_Disk_Copy.M d1 R w) : Calls Try.prog 13 #[.pointer d1] w fun e w' => ∃ v, e = .returned v ∧ R v w' :=
  mfunc_ok follows (H := []) (args := [.pointer d1]) (by rw [disk_Disk_Copy.eq]; exact h)

def disk_Disk_Copy.N (d1 : Option Addr) (R : Value → World → Prop) (w : World) : Prop :=
  (d1 = none →
    R (.pointer none) w) ∧
  (d1 ≠ none →
    ∃ a3 : Addr, d1 = some a3 ∧
    ∃ (xGood5a : Option Addr) (xGood5n : Nat) (xGood5c : Nat) (xPend6a : Option Addr) (xPend6n : Nat) (xPend6c : Nat) (xLeft7 : Int) (xArmed8 : Bool) (xState9 : Int) (xCount10 : Int), cellsAt w a3 [.slice xGood5a xGood5n xGood5c, .slice xPend6a xPend6n xPend6c, .int .i64 xLeft7, .bool xArmed8, .int .i64 xState9, .int .i64 xCount10] 0 ∧
    ∀ (ww11 : World) (q12 : Nat), Ext no w ww11 → Blk ww11 q12 58 [.slice none 0 0, .slice none 0 0, .int .i64 0, .bool false, .int .i64 0, .int .i64 0] → w.heap.size ≤ q12 → q12 < ww11.heap.size →
    canStore ww11 ((blk q12).add 0) ∧
    thenW (ww11.setCell ((blk q12).add 0) (.slice xGood5a xGood5n xGood5c)) fun ww13 =>
    canStore ww13 ((blk q12).add 1) ∧
    thenW (ww13.setCell ((blk q12).add 1) (.slice xPend6a xPend6n xPend6c)) fun ww14 =>
    canStore ww14 ((blk q12).add 2) ∧
    thenW (ww14.setCell ((blk q12).add 2) (.int .i64 xLeft7)) fun ww15 =>
    canStore ww15 ((blk q12).add 3) ∧
    thenW (ww15.setCell ((blk q12).add 3) (.bool xArmed8)) fun ww16 =>
    canStore ww16 ((blk q12).add 4) ∧
    thenW (ww16.setCell ((blk q12).add 4) (.int .i64 xState9)) fun ww17 =>
    canStore ww17 ((blk q12).add 5) ∧
    thenW (ww17.setCell ((blk q12).add 5) (.int .i64 xCount10)) fun ww18 =>
    ∃ (good21a : Option Addr) (good21n : Nat) (good21c : Nat), ww18.cell? (a3.add 0) = some (.slice good21a good21n good21c) ∧
    ∃ (pend23a : Option Addr) (pend23n : Nat) (pend23c : Nat), ww18.cell? (a3.add 1) = some (.slice pend23a pend23n pend23c) ∧
    ∀ (ww19 : World), Ext no ww18 ww19 →
    Calls Try.prog 29 #[.slice good21a good21n good21c] ww19 fun ee25 ww26 => ∃ (clone24a : Option Addr) (clone24n : Nat) (clone24c : Nat), ee25 = .returned (.slice clone24a clone24n clone24c) ∧
    ww26.cell? (a3.add 1) = some (.slice pend23a pend23n pend23c) ∧
    Calls Try.prog 30 #[.slice pend23a pend23n pend23c] ww26 fun ee29 ww30 => ∃ (clone28a : Option Addr) (clone28n : Nat) (clone28c : Nat), ee29 = .returned (.slice clone28a clone28n clone28c) ∧
    canStore ww30 (((blk q12).add 0).add 0) ∧
    thenW (ww30.setCell (((blk q12).add 0).add 0) (.slice clone24a clone24n clone24c)) fun ww31 =>
    canStore ww31 (((blk q12).add 1).add 0) ∧
    thenW (ww31.setCell (((blk q12).add 1).add 0) (.slice clone28a clone28n clone28c)) fun ww32 =>
    R (.pointer (some (blk q12))) ww32)

theorem disk_Disk_Copy.up (d1 : Option Addr) {R : Value → World → Prop} {w : World} (h : disk_Disk_Copy.N d1 R w) : disk_Disk_Copy.M d1 R w := by
  unfold disk_Disk_Copy.M
  unfold disk_Disk_Copy.N at h
  refine bif_of (fun c2 => ?_) (fun c2 => ?_)
  · have h := h.1 (isNone_t c2)
    exact h
  · have h := h.2 (isNone_f c2)
    obtain ⟨a3, ha3, h⟩ := h
    refine elim_some ha3 ?_
    obtain ⟨xGood5a, xGood5n, xGood5c, xPend6a, xPend6n, xPend6c, xLeft7, xArmed8, xState9, xCount10, hc4, h⟩ := h
    refine ⟨xGood5a, xGood5n, xGood5c, xPend6a, xPend6n, xPend6c, xLeft7, xArmed8, xState9, xCount10, hc4, ?_⟩
    refine thenW_in fun ww11 e11 => ?_
    have h := h ww11 w.heap.size ((Ext.refl no w).x_alloc e11) (Blk.of_new e11) ((Ext.refl no w)).size (size_lt_alloc e11)
    obtain ⟨hcs, h⟩ := h
    refine ⟨hcs, thenW_in fun ww13 e13 => ?_⟩
    replace h := thenW_out h e13
    obtain ⟨hcs, h⟩ := h
    refine ⟨hcs, thenW_in fun ww14 e14 => ?_⟩
    replace h := thenW_out h e14
    obtain ⟨hcs, h⟩ := h
    refine ⟨hcs, thenW_in fun ww15 e15 => ?_⟩
    replace h := thenW_out h e15
    obtain ⟨hcs, h⟩ := h
    refine ⟨hcs, thenW_in fun ww16 e16 => ?_⟩
    replace h := thenW_out h e16
    obtain ⟨hcs, h⟩ := h
    refine ⟨hcs, thenW_in fun ww17 e17 => ?_⟩
    replace h := thenW_out h e17
    obtain ⟨hcs, h⟩ := h
    refine ⟨hcs, thenW_in fun ww18 e18 => ?_⟩
    replace h := thenW_out h e18
    refine thenW_in fun ww19 e19 => ?_
    have hx19 := (Ext.refl no ww18).x_drew e19
    refine elim_some ha3 ?_
    obtain ⟨good21a, good21n, good21c, hc20, h⟩ := h
    refine ⟨good21a, good21n, good21c, (hx19).cell hc20 id, ?_⟩
    refine elim_some ha3 ?_
    obtain ⟨pend23a, pend23n, pend23c, hc22, h⟩ := h
    refine ⟨pend23a, pend23n, pend23c, (hx19).cell hc22 id, ?_⟩
    have h := h ww19 hx19
    refine h.mono fun ee25 ww26 h => ?_
    obtain ⟨clone24a, clone24n, clone24c, he, h⟩ := h
    refine ⟨clone24a, clone24n, clone24c, he, ?_⟩
    obtain ⟨ho27, h⟩ := h
    refine ⟨ho27, ?_⟩
    refine h.mono fun ee29 ww30 h => ?_
    obtain ⟨clone28a, clone28n, clone28c, he, h⟩ := h
    refine ⟨clone28a, clone28n, clone28c, he, ?_⟩
    obtain ⟨hcs, h⟩ := h
    refine ⟨hcs, thenW_in fun ww31 e31 => ?_⟩
    replace h := thenW_out h e31
    obtain ⟨hcs, h⟩ := h
    refine ⟨hcs, thenW_in fun ww32 e32 => ?_⟩
    replace h := thenW_out h e32
    exact h

theorem disk_Disk_Copy.go (d1 : Option Addr) {R : Value → World → Prop} {w : World} (h : disk_Disk_Copy.N d1 R w) : Calls Try.prog 13 #[.pointer d1] w fun e w' => ∃ v, e = .returned v ∧ R v w' := disk_Disk_Copy.ok d1 (disk_Disk_Copy.up d1 h)
theorem disk_Disk_Copy.run (d1 : Option Addr) {V : Value} {Q : World → Prop} {w : World} (h : disk_Disk_Copy.N d1 (fun v w' => v = V ∧ Q w') w) : Calls Try.prog 13 #[.pointer d1] w (Ret V Q) := (disk_Disk_Copy.go d1 h).mono fun e w' ⟨v, he, hv, hq⟩ => ⟨by rw [he, hv], hq⟩

end Go.Proofs.Ytgelicciggjpaaa

/- Disk: predicates, the others. -/
set_option linter.unusedVariables false
set_option linter.unusedSimpArgs false
set_option maxRecDepth 20000
set_option maxHeartbeats 2000000
namespace Go.Proofs.Ytgelicciggjpaaa
open Go Go.Mx Go.Proofs
/-- (*disk.Disk).Sync -/
def disk_Disk_Sync.M (d1 : Option Addr) (R : Value → World → Prop) (w : World) : Prop :=
  Calls Try.prog 26 #[.pointer d1] w fun ee3 ww4 => ∃ (isv2 : Int), ee3 = .returned (.int .i64 isv2) ∧
  bif isv2 != 0 then (
  R (.int .i64 isv2) ww4) else (
  Calls Try.prog 27 #[.pointer d1, .func (.func 28) #[] #[]] ww4 fun ee5 ww6 => ee5 = .returned (.tuple #[]) ∧
  R (.int .i64 0) ww6)

theorem disk_Disk_Sync.eq (d1 : Option Addr) (R : Value → World → Prop) (w : World) : mfunc Try.prog [] 12 [.pointer d1] R w = disk_Disk_Sync.M d1 R w := by kernel_rfl
theorem disk_Disk_Sync.ok (d1 : Option Addr) {R : Value → World → Prop} {w : World} (h : disk_Disk_Sync.M d1 R w) : Calls Try.prog 12 #[.pointer d1] w fun e w' => ∃ v, e = .returned v ∧ R v w' :=
  mfunc_ok follows (H := []) (args := [.pointer d1]) (by rw [disk_Disk_Sync.eq]; exact h)

def disk_Disk_Sync.N (d1 : Option Addr) (R : Value → World → Prop) (w : World) : Prop :=
  Calls Try.prog 26 #[.pointer d1] w fun ee3 ww4 => ∃ (isv2 : Int), ee3 = .returned (.int .i64 isv2) ∧
  (isv2 ≠ 0 →
    R (.int .i64 isv2) ww4) ∧
  (isv2 = 0 →
    Calls Try.prog 27 #[.pointer d1, .func (.func 28) #[] #[]] ww4 fun ee6 ww7 => ee6 = .returned (.tuple #[]) ∧
    R (.int .i64 0) ww7)

theorem disk_Disk_Sync.up (d1 : Option Addr) {R : Value → World → Prop} {w : World} (h : disk_Disk_Sync.N d1 R w) : disk_Disk_Sync.M d1 R w := by
  unfold disk_Disk_Sync.M
  unfold disk_Disk_Sync.N at h
  refine h.mono fun ee3 ww4 h => ?_
  obtain ⟨isv2, he, h⟩ := h
  refine ⟨isv2, he, ?_⟩
  refine bif_of (fun c5 => ?_) (fun c5 => ?_)
  · have h := h.1 (bne_t c5)
    exact h
  · have h := h.2 (bne_f c5)
    refine h.mono fun ee6 ww7 h => ?_
    obtain ⟨he, h⟩ := h
    refine ⟨he, ?_⟩
    exact h

theorem disk_Disk_Sync.go (d1 : Option Addr) {R : Value → World → Prop} {w : World} (h : disk_Disk_Sync.N d1 R w) : Calls Try.prog 12 #[.pointer d1] w fun e w' => ∃ v, e = .returned v ∧ R v w' := disk_Disk_Sync.ok d1 (disk_Disk_Sync.up d1 h)
theorem disk_Disk_Sync.run (d1 : Option Addr) {V : Value} {Q : World → Prop} {w : World} (h : disk_Disk_Sync.N d1 (fun v w' => v = V ∧ Q w') w) : Calls Try.prog 12 #[.pointer d1] w (Ret V Q) := (disk_Disk_Sync.go d1 h).mono fun e w' ⟨v, he, hv, hq⟩ => ⟨by rw [he, hv], hq⟩

/-- (*disk.Disk).Sync$1 -/
def disk_Disk_Sync_1.M (p1 : Int) (R : Value → World → Prop) (w : World) : Prop :=
  R (.bool true) w

theorem disk_Disk_Sync_1.eq (p1 : Int) (R : Value → World → Prop) (w : World) : mfunc Try.prog [] 28 [.int .i64 p1] R w = disk_Disk_Sync_1.M p1 R w := by kernel_rfl
theorem disk_Disk_Sync_1.ok (p1 : Int) {R : Value → World → Prop} {w : World} (h : disk_Disk_Sync_1.M p1 R w) : Calls Try.prog 28 #[.int .i64 p1] w fun e w' => ∃ v, e = .returned v ∧ R v w' :=
  mfunc_ok follows (H := []) (args := [.int .i64 p1]) (by rw [disk_Disk_Sync_1.eq]; exact h)

def disk_Disk_Sync_1.N (p1 : Int) (R : Value → World → Prop) (w : World) : Prop :=
  R (.bool true) w

theorem disk_Disk_Sync_1.up (p1 : Int) {R : Value → World → Prop} {w : World} (h : disk_Disk_Sync_1.N p1 R w) : disk_Disk_Sync_1.M p1 R w := by
  unfold disk_Disk_Sync_1.M
  unfold disk_Disk_Sync_1.N at h
  exact h

theorem disk_Disk_Sync_1.go (p1 : Int) {R : Value → World → Prop} {w : World} (h : disk_Disk_Sync_1.N p1 R w) : Calls Try.prog 28 #[.int .i64 p1] w fun e w' => ∃ v, e = .returned v ∧ R v w' := disk_Disk_Sync_1.ok p1 (disk_Disk_Sync_1.up p1 h)
theorem disk_Disk_Sync_1.run (p1 : Int) {V : Value} {Q : World → Prop} {w : World} (h : disk_Disk_Sync_1.N p1 (fun v w' => v = V ∧ Q w') w) : Calls Try.prog 28 #[.int .i64 p1] w (Ret V Q) := (disk_Disk_Sync_1.go p1 h).mono fun e w' ⟨v, he, hv, hq⟩ => ⟨by rw [he, hv], hq⟩

/-- (*disk.Disk).Arm -/
def disk_Disk_Arm.M (d1 : Option Addr) (n2 : Int) (R : Value → World → Prop) (w : World) : Prop :=
  Calls Try.prog 26 #[.pointer d1] w fun ee4 ww5 => ∃ (isv3 : Int), ee4 = .returned (.int .i64 isv3) ∧
  bif isv3 != 0 then (
  R (.int .i64 isv3) ww5) else (
  bif decide (n2 < 0) then (
  R (.int .i64 1) ww5) else (
  d1.elim False fun a6 =>
  canStore ww5 ((a6.add 2).add 0) ∧
  thenW (ww5.setCell ((a6.add 2).add 0) (.int .i64 n2)) fun ww7 =>
  d1.elim False fun a8 =>
  canStore ww7 ((a8.add 3).add 0) ∧
  thenW (ww7.setCell ((a8.add 3).add 0) (.bool true)) fun ww9 =>
  R (.int .i64 0) ww9))

theorem disk_Disk_Arm.eq (d1 : Option Addr) (n2 : Int) (R : Value → World → Prop) (w : World) : mfunc Try.prog [] 14 [.pointer d1, .int .i64 n2] R w = disk_Disk_Arm.M d1 n2 R w := by kernel_rfl
theorem disk_Disk_Arm.ok (d1 : Option Addr) (n2 : Int) {R : Value → World → Prop} {w : World} (h : disk_Disk_Arm.M d1 n2 R w) : Calls Try.prog 14 #[.pointer d1, .int .i64 n2] w fun e w' => ∃ v, e = .returned v ∧ R v w' :=
  mfunc_ok follows (H := []) (args := [.pointer d1, .int .i64 n2]) (by rw [disk_Disk_Arm.eq]; exact h)

def disk_Disk_Arm.N (d1 : Option Addr) (n2 : Int) (R : Value → World → Prop) (w : World) : Prop :=
  Calls Try.prog 26 #[.pointer d1] w fun ee4 ww5 => ∃ (isv3 : Int), ee4 = .returned (.int .i64 isv3) ∧
  (isv3 ≠ 0 →
    R (.int .i64 isv3) ww5) ∧
  (isv3 = 0 →
    (n2 < 0 →
      R (.int .i64 1) ww5) ∧
    ((0 : Int) ≤ n2 →
      ∃ a8 : Addr, d1 = some a8 ∧
      canStore ww5 ((a8.add 2).add 0) ∧
      thenW (ww5.setCell ((a8.add 2).add 0) (.int .i64 n2)) fun ww9 =>
      canStore ww9 ((a8.add 3).add 0) ∧
      thenW (ww9.setCell ((a8.add 3).add 0) (.bool true)) fun ww10 =>
      R (.int .i64 0) ww10))

theorem disk_Disk_Arm.up (d1 : Option Addr) (n2 : Int) {R : Value → World → Prop} {w : World} (h : disk_Disk_Arm.N d1 n2 R w) : disk_Disk_Arm.M d1 n2 R w := by
  unfold disk_Disk_Arm.M
  unfold disk_Disk_Arm.N at h
  refine h.mono fun ee4 ww5 h => ?_
  obtain ⟨isv3, he, h⟩ := h
  refine ⟨isv3, he, ?_⟩
  refine bif_of (fun c6 => ?_) (fun c6 => ?_)
  · have h := h.1 (bne_t c6)
    exact h
  · have h := h.2 (bne_f c6)
    refine bif_of (fun c7 => ?_) (fun c7 => ?_)
    · have h := h.1 (of_decide_eq_true c7)
      exact h
    · have h := h.2 (Int.not_lt.1 (of_decide_eq_false c7))
      obtain ⟨a8, ha8, h⟩ := h
      refine elim_some ha8 ?_
      obtain ⟨hcs, h⟩ := h
      refine ⟨hcs, thenW_in fun ww9 e9 => ?_⟩
      replace h := thenW_out h e9
      refine elim_some ha8 ?_
      obtain ⟨hcs, h⟩ := h
      refine ⟨hcs, thenW_in fun ww10 e10 => ?_⟩
      replace h := thenW_out h e10
      exact h

theorem disk_Disk_Arm.go (d1 : Option Addr) (n2 : Int) {R : Value → World → Prop} {w : World} (h : disk_Disk_Arm.N d1 n2 R w) : Calls Try.prog 14 #[.pointer d1, .int .i64 n2] w fun e w' => ∃ v, e = .returned v ∧ R v w' := disk_Disk_Arm.ok d1 n2 (disk_Disk_Arm.up d1 n2 h)
theorem disk_Disk_Arm.run (d1 : Option Addr) (n2 : Int) {V : Value} {Q : World → Prop} {w : World} (h : disk_Disk_Arm.N d1 n2 (fun v w' => v = V ∧ Q w') w) : Calls Try.prog 14 #[.pointer d1, .int .i64 n2] w (Ret V Q) := (disk_Disk_Arm.go d1 n2 h).mono fun e w' ⟨v, he, hv, hq⟩ => ⟨by rw [he, hv], hq⟩

/-- (*disk.Disk).Restart -/
def disk_Disk_Restart.M (d1 : Option Addr) (keep2a : Option Addr) (keep2n : Nat) (keep2c : Nat) (R : Value → World → Prop) (w : World) : Prop :=
  bif Option.isNone d1 then (
  R (.int .i64 23) w) else (
  Calls Try.prog 27 #[.pointer d1, .func (.func 31) #[.slice keep2a keep2n keep2c] #[]] w fun ee3 ww4 => ee3 = .returned (.tuple #[]) ∧
  d1.elim False fun a5 =>
  canStore ww4 ((a5.add 4).add 0) ∧
  thenW (ww4.setCell ((a5.add 4).add 0) (.int .i64 0)) fun ww6 =>
  d1.elim False fun a7 =>
  canStore ww6 ((a7.add 3).add 0) ∧
  thenW (ww6.setCell ((a7.add 3).add 0) (.bool false)) fun ww8 =>
  R (.int .i64 0) ww8)

theorem disk_Disk_Restart.eq (d1 : Option Addr) (keep2a : Option Addr) (keep2n : Nat) (keep2c : Nat) (R : Value → World → Prop) (w : World) : mfunc Try.prog [] 15 [.pointer d1, .slice keep2a keep2n keep2c] R w = disk_Disk_Restart.M d1 keep2a keep2n keep2c R w := by kernel_rfl
theorem disk_Disk_Restart.ok (d1 : Option Addr) (keep2a : Option Addr) (keep2n : Nat) (keep2c : Nat) {R : Value → World → Prop} {w : World} (h : disk_Disk_Restart.M d1 keep2a keep2n keep2c R w) : Calls Try.prog 15 #[.pointer d1, .slice keep2a keep2n keep2c] w fun e w' => ∃ v, e = .returned v ∧ R v w' :=
  mfunc_ok follows (H := []) (args := [.pointer d1, .slice keep2a keep2n keep2c]) (by rw [disk_Disk_Restart.eq]; exact h)

def disk_Disk_Restart.N (d1 : Option Addr) (keep2a : Option Addr) (keep2n : Nat) (keep2c : Nat) (R : Value → World → Prop) (w : World) : Prop :=
  (d1 = none →
    R (.int .i64 23) w) ∧
  (d1 ≠ none →
    Calls Try.prog 27 #[.pointer d1, .func (.func 31) #[.slice keep2a keep2n keep2c] #[]] w fun ee4 ww5 => ee4 = .returned (.tuple #[]) ∧
    ∃ a6 : Addr, d1 = some a6 ∧
    canStore ww5 ((a6.add 4).add 0) ∧
    thenW (ww5.setCell ((a6.add 4).add 0) (.int .i64 0)) fun ww7 =>
    canStore ww7 ((a6.add 3).add 0) ∧
    thenW (ww7.setCell ((a6.add 3).add 0) (.bool false)) fun ww8 =>
    R (.int .i64 0) ww8)

theorem disk_Disk_Restart.up (d1 : Option Addr) (keep2a : Option Addr) (keep2n : Nat) (keep2c : Nat) {R : Value → World → Prop} {w : World} (h : disk_Disk_Restart.N d1 keep2a keep2n keep2c R w) : disk_Disk_Restart.M d1 keep2a keep2n keep2c R w := by
  unfold disk_Disk_Restart.M
  unfold disk_Disk_Restart.N at h
  refine bif_of (fun c3 => ?_) (fun c3 => ?_)
  · have h := h.1 (isNone_t c3)
    exact h
  · have h := h.2 (isNone_f c3)
    refine h.mono fun ee4 ww5 h => ?_
    obtain ⟨he, h⟩ := h
    refine ⟨he, ?_⟩
    obtain ⟨a6, ha6, h⟩ := h
    refine elim_some ha6 ?_
    obtain ⟨hcs, h⟩ := h
    refine ⟨hcs, thenW_in fun ww7 e7 => ?_⟩
    replace h := thenW_out h e7
    refine elim_some ha6 ?_
    obtain ⟨hcs, h⟩ := h
    refine ⟨hcs, thenW_in fun ww8 e8 => ?_⟩
    replace h := thenW_out h e8
    exact h

theorem disk_Disk_Restart.go (d1 : Option Addr) (keep2a : Option Addr) (keep2n : Nat) (keep2c : Nat) {R : Value → World → Prop} {w : World} (h : disk_Disk_Restart.N d1 keep2a keep2n keep2c R w) : Calls Try.prog 15 #[.pointer d1, .slice keep2a keep2n keep2c] w fun e w' => ∃ v, e = .returned v ∧ R v w' := disk_Disk_Restart.ok d1 keep2a keep2n keep2c (disk_Disk_Restart.up d1 keep2a keep2n keep2c h)
theorem disk_Disk_Restart.run (d1 : Option Addr) (keep2a : Option Addr) (keep2n : Nat) (keep2c : Nat) {V : Value} {Q : World → Prop} {w : World} (h : disk_Disk_Restart.N d1 keep2a keep2n keep2c (fun v w' => v = V ∧ Q w') w) : Calls Try.prog 15 #[.pointer d1, .slice keep2a keep2n keep2c] w (Ret V Q) := (disk_Disk_Restart.go d1 keep2a keep2n keep2c h).mono fun e w' ⟨v, he, hv, hq⟩ => ⟨by rw [he, hv], hq⟩

/-- (*disk.Disk).Down -/
def disk_Disk_Down.M (d1 : Option Addr) (R : Value → World → Prop) (w : World) : Prop :=
  bif !(Option.isNone d1) then (
  d1.elim False fun a2 =>
  ∃ (state3 : Int), w.cell? (a2.add 4) = some (.int .i64 state3) ∧
  R (.bool (state3 == 1)) w) else (
  R (.bool false) w)

theorem disk_Disk_Down.eq (d1 : Option Addr) (R : Value → World → Prop) (w : World) : mfunc Try.prog [] 18 [.pointer d1] R w = disk_Disk_Down.M d1 R w := by kernel_rfl
theorem disk_Disk_Down.ok (d1 : Option Addr) {R : Value → World → Prop} {w : World} (h : disk_Disk_Down.M d1 R w) : Calls Try.prog 18 #[.pointer d1] w fun e w' => ∃ v, e = .returned v ∧ R v w' :=
  mfunc_ok follows (H := []) (args := [.pointer d1]) (by rw [disk_Disk_Down.eq]; exact h)

def disk_Disk_Down.N (d1 : Option Addr) (R : Value → World → Prop) (w : World) : Prop :=
  (d1 ≠ none →
    ∃ a3 : Addr, d1 = some a3 ∧
    ∃ (state5 : Int), w.cell? (a3.add 4) = some (.int .i64 state5) ∧
    R (.bool (state5 == 1)) w) ∧
  (d1 = none →
    R (.bool false) w)

theorem disk_Disk_Down.up (d1 : Option Addr) {R : Value → World → Prop} {w : World} (h : disk_Disk_Down.N d1 R w) : disk_Disk_Down.M d1 R w := by
  unfold disk_Disk_Down.M
  unfold disk_Disk_Down.N at h
  refine bif_of (fun c2 => ?_) (fun c2 => ?_)
  · have h := h.1 (isNone_f (not_t c2))
    obtain ⟨a3, ha3, h⟩ := h
    refine elim_some ha3 ?_
    obtain ⟨state5, hc4, h⟩ := h
    refine ⟨state5, hc4, ?_⟩
    exact h
  · have h := h.2 (isNone_t (not_f c2))
    exact h

theorem disk_Disk_Down.go (d1 : Option Addr) {R : Value → World → Prop} {w : World} (h : disk_Disk_Down.N d1 R w) : Calls Try.prog 18 #[.pointer d1] w fun e w' => ∃ v, e = .returned v ∧ R v w' := disk_Disk_Down.ok d1 (disk_Disk_Down.up d1 h)
theorem disk_Disk_Down.run (d1 : Option Addr) {V : Value} {Q : World → Prop} {w : World} (h : disk_Disk_Down.N d1 (fun v w' => v = V ∧ Q w') w) : Calls Try.prog 18 #[.pointer d1] w (Ret V Q) := (disk_Disk_Down.go d1 h).mono fun e w' ⟨v, he, hv, hq⟩ => ⟨by rw [he, hv], hq⟩

/-- (*disk.Disk).Pending -/
def disk_Disk_Pending.M (d1 : Option Addr) (R : Value → World → Prop) (w : World) : Prop :=
  bif Option.isNone d1 then (
  R (.int .i64 0) w) else (
  d1.elim False fun a2 =>
  ∃ (pend3a : Option Addr) (pend3n : Nat) (pend3c : Nat), w.cell? (a2.add 1) = some (.slice pend3a pend3n pend3c) ∧
  R (.int .i64 (pend3n : Int)) w)

theorem disk_Disk_Pending.eq (d1 : Option Addr) (R : Value → World → Prop) (w : World) : mfunc Try.prog [] 19 [.pointer d1] R w = disk_Disk_Pending.M d1 R w := by kernel_rfl
theorem disk_Disk_Pending.ok (d1 : Option Addr) {R : Value → World → Prop} {w : World} (h : disk_Disk_Pending.M d1 R w) : Calls Try.prog 19 #[.pointer d1] w fun e w' => ∃ v, e = .returned v ∧ R v w' :=
  mfunc_ok follows (H := []) (args := [.pointer d1]) (by rw [disk_Disk_Pending.eq]; exact h)

def disk_Disk_Pending.N (d1 : Option Addr) (R : Value → World → Prop) (w : World) : Prop :=
  (d1 = none →
    R (.int .i64 0) w) ∧
  (d1 ≠ none →
    ∃ a3 : Addr, d1 = some a3 ∧
    ∃ (pend5a : Option Addr) (pend5n : Nat) (pend5c : Nat), w.cell? (a3.add 1) = some (.slice pend5a pend5n pend5c) ∧
    R (.int .i64 (pend5n : Int)) w)

theorem disk_Disk_Pending.up (d1 : Option Addr) {R : Value → World → Prop} {w : World} (h : disk_Disk_Pending.N d1 R w) : disk_Disk_Pending.M d1 R w := by
  unfold disk_Disk_Pending.M
  unfold disk_Disk_Pending.N at h
  refine bif_of (fun c2 => ?_) (fun c2 => ?_)
  · have h := h.1 (isNone_t c2)
    exact h
  · have h := h.2 (isNone_f c2)
    obtain ⟨a3, ha3, h⟩ := h
    refine elim_some ha3 ?_
    obtain ⟨pend5a, pend5n, pend5c, hc4, h⟩ := h
    refine ⟨pend5a, pend5n, pend5c, hc4, ?_⟩
    exact h

theorem disk_Disk_Pending.go (d1 : Option Addr) {R : Value → World → Prop} {w : World} (h : disk_Disk_Pending.N d1 R w) : Calls Try.prog 19 #[.pointer d1] w fun e w' => ∃ v, e = .returned v ∧ R v w' := disk_Disk_Pending.ok d1 (disk_Disk_Pending.up d1 h)
theorem disk_Disk_Pending.run (d1 : Option Addr) {V : Value} {Q : World → Prop} {w : World} (h : disk_Disk_Pending.N d1 (fun v w' => v = V ∧ Q w') w) : Calls Try.prog 19 #[.pointer d1] w (Ret V Q) := (disk_Disk_Pending.go d1 h).mono fun e w' ⟨v, he, hv, hq⟩ => ⟨by rw [he, hv], hq⟩

/-- (disk.choice).has -/
def disk_choice_has.M (c1a : Option Addr) (c1n : Nat) (c1c : Nat) (i2 : Int) (R : Value → World → Prop) (w : World) : Prop :=
  bif decide (i2 < (c1n : Int)) then (
  c1a.elim False fun a3 =>
  0 ≤ (i2 : Int) ∧ (i2 : Int) < (c1n : Int) ∧
  ∃ (x4 : Bool), w.cell? (a3.add (Int.toNat i2 * 1)) = some (.bool x4) ∧
  R (.bool x4) w) else (
  R (.bool false) w)

theorem disk_choice_has.eq (c1a : Option Addr) (c1n : Nat) (c1c : Nat) (i2 : Int) (R : Value → World → Prop) (w : World) : mfunc Try.prog [] 31 [.slice c1a c1n c1c, .int .i64 i2] R w = disk_choice_has.M c1a c1n c1c i2 R w := by kernel_rfl
theorem disk_choice_has.ok (c1a : Option Addr) (c1n : Nat) (c1c : Nat) (i2 : Int) {R : Value → World → Prop} {w : World} (h : disk_choice_has.M c1a c1n c1c i2 R w) : Calls Try.prog 31 #[.slice c1a c1n c1c, .int .i64 i2] w fun e w' => ∃ v, e = .returned v ∧ R v w' :=
  mfunc_ok follows (H := []) (args := [.slice c1a c1n c1c, .int .i64 i2]) (by rw [disk_choice_has.eq]; exact h)

def disk_choice_has.N (c1a : Option Addr) (c1n : Nat) (c1c : Nat) (i2 : Int) (R : Value → World → Prop) (w : World) : Prop :=
  (i2 < (c1n : Int) →
    ∃ a4 : Addr, c1a = some a4 ∧
    0 ≤ (i2 : Int) ∧ (i2 : Int) < (c1n : Int) ∧
    ∃ (x6 : Bool), w.cell? (a4.add (Int.toNat i2 * 1)) = some (.bool x6) ∧
    R (.bool x6) w) ∧
  ((c1n : Int) ≤ i2 →
    R (.bool false) w)

theorem disk_choice_has.up (c1a : Option Addr) (c1n : Nat) (c1c : Nat) (i2 : Int) {R : Value → World → Prop} {w : World} (h : disk_choice_has.N c1a c1n c1c i2 R w) : disk_choice_has.M c1a c1n c1c i2 R w := by
  unfold disk_choice_has.M
  unfold disk_choice_has.N at h
  refine bif_of (fun c3 => ?_) (fun c3 => ?_)
  · have h := h.1 (of_decide_eq_true c3)
    obtain ⟨a4, ha4, h⟩ := h
    refine elim_some ha4 ?_
    obtain ⟨hq1, hq2, h⟩ := h
    refine ⟨hq1, hq2, ?_⟩
    obtain ⟨x6, hc5, h⟩ := h
    refine ⟨x6, hc5, ?_⟩
    exact h
  · have h := h.2 (Int.not_lt.1 (of_decide_eq_false c3))
    exact h

theorem disk_choice_has.go (c1a : Option Addr) (c1n : Nat) (c1c : Nat) (i2 : Int) {R : Value → World → Prop} {w : World} (h : disk_choice_has.N c1a c1n c1c i2 R w) : Calls Try.prog 31 #[.slice c1a c1n c1c, .int .i64 i2] w fun e w' => ∃ v, e = .returned v ∧ R v w' := disk_choice_has.ok c1a c1n c1c i2 (disk_choice_has.up c1a c1n c1c i2 h)
theorem disk_choice_has.run (c1a : Option Addr) (c1n : Nat) (c1c : Nat) (i2 : Int) {V : Value} {Q : World → Prop} {w : World} (h : disk_choice_has.N c1a c1n c1c i2 (fun v w' => v = V ∧ Q w') w) : Calls Try.prog 31 #[.slice c1a c1n c1c, .int .i64 i2] w (Ret V Q) := (disk_choice_has.go c1a c1n c1c i2 h).mono fun e w' ⟨v, he, hv, hq⟩ => ⟨by rw [he, hv], hq⟩

/-- slices.Clone[[]disk.sector,disk.sector] -/
def slices_Clone_disk_sector_disk_sector.M (s1a : Option Addr) (s1n : Nat) (s1c : Nat) (R : Value → World → Prop) (w : World) : Prop :=
  bif Option.isNone s1a then (
  R (.slice none 0 0) w) else (
  thenW (w.alloc (.cells #[] 61)) fun ww2 =>
  ∃ (a3a : Option Addr) (a3n : Nat) (a3c : Nat) (ww4 : World), (Builtin.append_ #[54, 54] 54 #[.slice (some (blk w.heap.size)) 0 0, .slice s1a s1n s1c]).run Try.prog ww2 = .ok (.slice a3a a3n a3c) ww4 ∧
  R (.slice a3a a3n a3c) ww4)

theorem slices_Clone_disk_sector_disk_sector.eq (s1a : Option Addr) (s1n : Nat) (s1c : Nat) (R : Value → World → Prop) (w : World) : mfunc Try.prog [] 29 [.slice s1a s1n s1c] R w = slices_Clone_disk_sector_disk_sector.M s1a s1n s1c R w := by kernel_rfl
theorem slices_Clone_disk_sector_disk_sector.ok (s1a : Option Addr) (s1n : Nat) (s1c : Nat) {R : Value → World → Prop} {w : World} (h : slices_Clone_disk_sector_disk_sector.M s1a s1n s1c R w) : Calls Try.prog 29 #[.slice s1a s1n s1c] w fun e w' => ∃ v, e = .returned v ∧ R v w' :=
  mfunc_ok follows (H := []) (args := [.slice s1a s1n s1c]) (by rw [slices_Clone_disk_sector_disk_sector.eq]; exact h)

def slices_Clone_disk_sector_disk_sector.N (s1a : Option Addr) (s1n : Nat) (s1c : Nat) (R : Value → World → Prop) (w : World) : Prop :=
  (s1a = none →
    R (.slice none 0 0) w) ∧
  (s1a ≠ none →
    ∀ (ww3 : World) (q4 : Nat), Ext no w ww3 → Blk ww3 q4 61 [] → w.heap.size ≤ q4 → q4 < ww3.heap.size →
    ∃ (a5a : Option Addr) (a5n : Nat) (a5c : Nat) (ww6 : World), (Builtin.append_ #[54, 54] 54 #[.slice (some (blk q4)) 0 0, .slice s1a s1n s1c]).run Try.prog ww3 = .ok (.slice a5a a5n a5c) ww6 ∧
    R (.slice a5a a5n a5c) ww6)

theorem slices_Clone_disk_sector_disk_sector.up (s1a : Option Addr) (s1n : Nat) (s1c : Nat) {R : Value → World → Prop} {w : World} (h : slices_Clone_disk_sector_disk_sector.N s1a s1n s1c R w) : slices_Clone_disk_sector_disk_sector.M s1a s1n s1c R w := by
  unfold slices_Clone_disk_sector_disk_sector.M
  unfold slices_Clone_disk_sector_disk_sector.N at h
  refine bif_of (fun c2 => ?_) (fun c2 => ?_)
  · have h := h.1 (isNone_t c2)
    exact h
  · have h := h.2 (isNone_f c2)
    refine thenW_in fun ww3 e3 => ?_
    have h := h ww3 w.heap.size ((Ext.refl no w).x_alloc e3) (Blk.of_new e3) ((Ext.refl no w)).size (size_lt_alloc e3)
    obtain ⟨a5a, a5n, a5c, ww6, hr, h⟩ := h
    refine ⟨a5a, a5n, a5c, ww6, hr, ?_⟩
    exact h

theorem slices_Clone_disk_sector_disk_sector.go (s1a : Option Addr) (s1n : Nat) (s1c : Nat) {R : Value → World → Prop} {w : World} (h : slices_Clone_disk_sector_disk_sector.N s1a s1n s1c R w) : Calls Try.prog 29 #[.slice s1a s1n s1c] w fun e w' => ∃ v, e = .returned v ∧ R v w' := slices_Clone_disk_sector_disk_sector.ok s1a s1n s1c (slices_Clone_disk_sector_disk_sector.up s1a s1n s1c h)
theorem slices_Clone_disk_sector_disk_sector.run (s1a : Option Addr) (s1n : Nat) (s1c : Nat) {V : Value} {Q : World → Prop} {w : World} (h : slices_Clone_disk_sector_disk_sector.N s1a s1n s1c (fun v w' => v = V ∧ Q w') w) : Calls Try.prog 29 #[.slice s1a s1n s1c] w (Ret V Q) := (slices_Clone_disk_sector_disk_sector.go s1a s1n s1c h).mono fun e w' ⟨v, he, hv, hq⟩ => ⟨by rw [he, hv], hq⟩

/-- slices.Clone[[]disk.write,disk.write] -/
def slices_Clone_disk_write_disk_write.M (s1a : Option Addr) (s1n : Nat) (s1c : Nat) (R : Value → World → Prop) (w : World) : Prop :=
  bif Option.isNone s1a then (
  R (.slice none 0 0) w) else (
  thenW (w.alloc (.cells #[] 63)) fun ww2 =>
  ∃ (a3a : Option Addr) (a3n : Nat) (a3c : Nat) (ww4 : World), (Builtin.append_ #[55, 55] 55 #[.slice (some (blk w.heap.size)) 0 0, .slice s1a s1n s1c]).run Try.prog ww2 = .ok (.slice a3a a3n a3c) ww4 ∧
  R (.slice a3a a3n a3c) ww4)

theorem slices_Clone_disk_write_disk_write.eq (s1a : Option Addr) (s1n : Nat) (s1c : Nat) (R : Value → World → Prop) (w : World) : mfunc Try.prog [] 30 [.slice s1a s1n s1c] R w = slices_Clone_disk_write_disk_write.M s1a s1n s1c R w := by kernel_rfl
theorem slices_Clone_disk_write_disk_write.ok (s1a : Option Addr) (s1n : Nat) (s1c : Nat) {R : Value → World → Prop} {w : World} (h : slices_Clone_disk_write_disk_write.M s1a s1n s1c R w) : Calls Try.prog 30 #[.slice s1a s1n s1c] w fun e w' => ∃ v, e = .returned v ∧ R v w' :=
  mfunc_ok follows (H := []) (args := [.slice s1a s1n s1c]) (by rw [slices_Clone_disk_write_disk_write.eq]; exact h)

def slices_Clone_disk_write_disk_write.N (s1a : Option Addr) (s1n : Nat) (s1c : Nat) (R : Value → World → Prop) (w : World) : Prop :=
  (s1a = none →
    R (.slice none 0 0) w) ∧
  (s1a ≠ none →
    ∀ (ww3 : World) (q4 : Nat), Ext no w ww3 → Blk ww3 q4 63 [] → w.heap.size ≤ q4 → q4 < ww3.heap.size →
    ∃ (a5a : Option Addr) (a5n : Nat) (a5c : Nat) (ww6 : World), (Builtin.append_ #[55, 55] 55 #[.slice (some (blk q4)) 0 0, .slice s1a s1n s1c]).run Try.prog ww3 = .ok (.slice a5a a5n a5c) ww6 ∧
    R (.slice a5a a5n a5c) ww6)

theorem slices_Clone_disk_write_disk_write.up (s1a : Option Addr) (s1n : Nat) (s1c : Nat) {R : Value → World → Prop} {w : World} (h : slices_Clone_disk_write_disk_write.N s1a s1n s1c R w) : slices_Clone_disk_write_disk_write.M s1a s1n s1c R w := by
  unfold slices_Clone_disk_write_disk_write.M
  unfold slices_Clone_disk_write_disk_write.N at h
  refine bif_of (fun c2 => ?_) (fun c2 => ?_)
  · have h := h.1 (isNone_t c2)
    exact h
  · have h := h.2 (isNone_f c2)
    refine thenW_in fun ww3 e3 => ?_
    have h := h ww3 w.heap.size ((Ext.refl no w).x_alloc e3) (Blk.of_new e3) ((Ext.refl no w)).size (size_lt_alloc e3)
    obtain ⟨a5a, a5n, a5c, ww6, hr, h⟩ := h
    refine ⟨a5a, a5n, a5c, ww6, hr, ?_⟩
    exact h

theorem slices_Clone_disk_write_disk_write.go (s1a : Option Addr) (s1n : Nat) (s1c : Nat) {R : Value → World → Prop} {w : World} (h : slices_Clone_disk_write_disk_write.N s1a s1n s1c R w) : Calls Try.prog 30 #[.slice s1a s1n s1c] w fun e w' => ∃ v, e = .returned v ∧ R v w' := slices_Clone_disk_write_disk_write.ok s1a s1n s1c (slices_Clone_disk_write_disk_write.up s1a s1n s1c h)
theorem slices_Clone_disk_write_disk_write.run (s1a : Option Addr) (s1n : Nat) (s1c : Nat) {V : Value} {Q : World → Prop} {w : World} (h : slices_Clone_disk_write_disk_write.N s1a s1n s1c (fun v w' => v = V ∧ Q w') w) : Calls Try.prog 30 #[.slice s1a s1n s1c] w (Ret V Q) := (slices_Clone_disk_write_disk_write.go s1a s1n s1c h).mono fun e w' ⟨v, he, hv, hq⟩ => ⟨by rw [he, hv], hq⟩

/-- cachettelaw09.Sector -/
def cachettelaw09_Sector.M (byv1 : Int) (short2 : Bool) (R : Value → World → Prop) (w : World) : Prop :=
  bif short2 then (
  ∃ (m3a : Option Addr) (m3n : Nat) (m3c : Nat) (ww4 : World), (Instr.makeSlice 33 (.int .i64 (IntKind.i64.wrap ((64 : Int) - 1))) (.int .i64 (IntKind.i64.wrap ((64 : Int) - 1)))).run Try.prog w = .ok (.slice m3a m3n m3c) ww4 ∧
  ∃ (I0 : Nat → List Value → World → Prop) (m6 : Nat), I0 m6 [.int .i64 0] ww4 ∧ ∀ (m7 : Nat) (ww8 : World) (i5 : Int), I0 m7 [.int .i64 i5] ww8 →
  bif decide (i5 < (IntKind.i64.wrap ((64 : Int) - 1))) then (
  m3a.elim False fun a9 =>
  0 ≤ (i5 : Int) ∧ (i5 : Int) < (m3n : Int) ∧
  canStore ww8 ((a9.add (Int.toNat i5 * 1)).add 0) ∧
  thenW (ww8.setCell ((a9.add (Int.toNat i5 * 1)).add 0) (.int .u8 byv1)) fun ww10 =>
  ∃ m11, m11 < m7 ∧ I0 m11 [.int .i64 (IntKind.i64.wrap (i5 + 1))] ww10) else (
  R (.slice m3a m3n m3c) ww8)) else (
  ∃ (m12a : Option Addr) (m12n : Nat) (m12c : Nat) (ww13 : World), (Instr.makeSlice 33 (.int .i64 64) (.int .i64 64)).run Try.prog w = .ok (.slice m12a m12n m12c) ww13 ∧
  ∃ (I0 : Nat → List Value → World → Prop) (m15 : Nat), I0 m15 [.int .i64 0] ww13 ∧ ∀ (m16 : Nat) (ww17 : World) (i14 : Int), I0 m16 [.int .i64 i14] ww17 →
  bif decide (i14 < 64) then (
  m12a.elim False fun a18 =>
  0 ≤ (i14 : Int) ∧ (i14 : Int) < (m12n : Int) ∧
  canStore ww17 ((a18.add (Int.toNat i14 * 1)).add 0) ∧
  thenW (ww17.setCell ((a18.add (Int.toNat i14 * 1)).add 0) (.int .u8 byv1)) fun ww19 =>
  ∃ m20, m20 < m16 ∧ I0 m20 [.int .i64 (IntKind.i64.wrap (i14 + 1))] ww19) else (
  R (.slice m12a m12n m12c) ww17))

theorem cachettelaw09_Sector.eq (byv1 : Int) (short2 : Bool) (R : Value → World → Prop) (w : World) : mfunc Try.prog [(0, [0, 5, 6], [(7, (.one (.int .i64)))])] 11 [.int .u8 byv1, .bool short2] R w = cachettelaw09_Sector.M byv1 short2 R w := by kernel_rfl
theorem cachettelaw09_Sector.ok (byv1 : Int) (short2 : Bool) {R : Value → World → Prop} {w : World} (h : cachettelaw09_Sector.M byv1 short2 R w) : Calls Try.prog 11 #[.int .u8 byv1, .bool short2] w fun e w' => ∃ v, e = .returned v ∧ R v w' :=
  mfunc_ok follows (H := [(0, [0, 5, 6], [(7, (.one (.int .i64)))])]) (args := [.int .u8 byv1, .bool short2]) (by rw [cachettelaw09_Sector.eq]; exact h)

def cachettelaw09_Sector.N (byv1 : Int) (short2 : Bool) (R : Value → World → Prop) (w : World) : Prop :=
  (short2 = true →
    (-9223372036854775808 : Int) ≤ ((64 : Int) - 1) ∧ ((64 : Int) - 1) < 9223372036854775808 ∧
    ∃ (m4a : Option Addr) (m4n : Nat) (m4c : Nat) (ww5 : World), (Instr.makeSlice 33 (.int .i64 ((64 : Int) - 1)) (.int .i64 ((64 : Int) - 1))).run Try.prog w = .ok (.slice m4a m4n m4c) ww5 ∧
    ∃ (I0 : Nat → List Value → World → Prop) (m7 : Nat), I0 m7 [.int .i64 0] ww5 ∧ ∀ (m8 : Nat) (ww9 : World) (i6 : Int), I0 m8 [.int .i64 i6] ww9 →
    (i6 < ((64 : Int) - 1) →
      ∃ a11 : Addr, m4a = some a11 ∧
      0 ≤ (i6 : Int) ∧ (i6 : Int) < (m4n : Int) ∧
      canStore ww9 ((a11.add (Int.toNat i6 * 1)).add 0) ∧
      thenW (ww9.setCell ((a11.add (Int.toNat i6 * 1)).add 0) (.int .u8 byv1)) fun ww12 =>
      (-9223372036854775808 : Int) ≤ (i6 + 1) ∧ (i6 + 1) < 9223372036854775808 ∧
      ∃ m13, m13 < m8 ∧ I0 m13 [.int .i64 (i6 + 1)] ww12) ∧
    (((64 : Int) - 1) ≤ i6 →
      R (.slice m4a m4n m4c) ww9)) ∧
  (short2 = false →
    ∃ (m14a : Option Addr) (m14n : Nat) (m14c : Nat) (ww15 : World), (Instr.makeSlice 33 (.int .i64 64) (.int .i64 64)).run Try.prog w = .ok (.slice m14a m14n m14c) ww15 ∧
    ∃ (I0 : Nat → List Value → World → Prop) (m17 : Nat), I0 m17 [.int .i64 0] ww15 ∧ ∀ (m18 : Nat) (ww19 : World) (i16 : Int), I0 m18 [.int .i64 i16] ww19 →
    (i16 < 64 →
      ∃ a21 : Addr, m14a = some a21 ∧
      0 ≤ (i16 : Int) ∧ (i16 : Int) < (m14n : Int) ∧
      canStore ww19 ((a21.add (Int.toNat i16 * 1)).add 0) ∧
      thenW (ww19.setCell ((a21.add (Int.toNat i16 * 1)).add 0) (.int .u8 byv1)) fun ww22 =>
      (-9223372036854775808 : Int) ≤ (i16 + 1) ∧ (i16 + 1) < 9223372036854775808 ∧
      ∃ m23, m23 < m18 ∧ I0 m23 [.int .i64 (i16 + 1)] ww22) ∧
    ((64 : Int) ≤ i16 →
      R (.slice m14a m14n m14c) ww19))

theorem cachettelaw09_Sector.up (byv1 : Int) (short2 : Bool) {R : Value → World → Prop} {w : World} (h : cachettelaw09_Sector.N byv1 short2 R w) : cachettelaw09_Sector.M byv1 short2 R w := by
  unfold cachettelaw09_Sector.M
  unfold cachettelaw09_Sector.N at h
  refine bif_of (fun c3 => ?_) (fun c3 => ?_)
  · have h := h.1 c3
    obtain ⟨hw1, hw2, h⟩ := h
    try rw [w64 hw1 hw2]
    obtain ⟨m4a, m4n, m4c, ww5, hr, h⟩ := h
    refine ⟨m4a, m4n, m4c, ww5, hr, ?_⟩
    obtain ⟨I0, m7, h0, h⟩ := h
    refine ⟨I0, m7, h0, fun m8 ww9 i6 hI => ?_⟩
    have h := h m8 ww9 i6 hI
    refine bif_of (fun c10 => ?_) (fun c10 => ?_)
    · have h := h.1 (of_decide_eq_true c10)
      obtain ⟨a11, ha11, h⟩ := h
      refine elim_some ha11 ?_
      obtain ⟨hq1, hq2, h⟩ := h
      refine ⟨hq1, hq2, ?_⟩
      obtain ⟨hcs, h⟩ := h
      refine ⟨hcs, thenW_in fun ww12 e12 => ?_⟩
      replace h := thenW_out h e12
      obtain ⟨hw1, hw2, h⟩ := h
      try rw [w64 hw1 hw2]
      obtain ⟨m13, hk, h⟩ := h
      exact ⟨m13, hk, h⟩
    · have h := h.2 (Int.not_lt.1 (of_decide_eq_false c10))
      exact h
  · have h := h.2 c3
    obtain ⟨m14a, m14n, m14c, ww15, hr, h⟩ := h
    refine ⟨m14a, m14n, m14c, ww15, hr, ?_⟩
    obtain ⟨I0, m17, h0, h⟩ := h
    refine ⟨I0, m17, h0, fun m18 ww19 i16 hI => ?_⟩
    have h := h m18 ww19 i16 hI
    refine bif_of (fun c20 => ?_) (fun c20 => ?_)
    · have h := h.1 (of_decide_eq_true c20)
      obtain ⟨a21, ha21, h⟩ := h
      refine elim_some ha21 ?_
      obtain ⟨hq1, hq2, h⟩ := h
      refine ⟨hq1, hq2, ?_⟩
      obtain ⟨hcs, h⟩ := h
      refine ⟨hcs, thenW_in fun ww22 e22 => ?_⟩
      replace h := thenW_out h e22
      obtain ⟨hw1, hw2, h⟩ := h
      try rw [w64 hw1 hw2]
      obtain ⟨m23, hk, h⟩ := h
      exact ⟨m23, hk, h⟩
    · have h := h.2 (Int.not_lt.1 (of_decide_eq_false c20))
      exact h

theorem cachettelaw09_Sector.go (byv1 : Int) (short2 : Bool) {R : Value → World → Prop} {w : World} (h : cachettelaw09_Sector.N byv1 short2 R w) : Calls Try.prog 11 #[.int .u8 byv1, .bool short2] w fun e w' => ∃ v, e = .returned v ∧ R v w' := cachettelaw09_Sector.ok byv1 short2 (cachettelaw09_Sector.up byv1 short2 h)
theorem cachettelaw09_Sector.run (byv1 : Int) (short2 : Bool) {V : Value} {Q : World → Prop} {w : World} (h : cachettelaw09_Sector.N byv1 short2 (fun v w' => v = V ∧ Q w') w) : Calls Try.prog 11 #[.int .u8 byv1, .bool short2] w (Ret V Q) := (cachettelaw09_Sector.go byv1 short2 h).mono fun e w' ⟨v, he, hv, hq⟩ => ⟨by rw [he, hv], hq⟩

/-- cachettelaw09.light -/
def cachettelaw09_light.M (l1a : Option Addr) (l1n : Nat) (l1c : Nat) (R : Value → World → Prop) (w : World) : Prop :=
  bif decide ((l1n : Int) > 60) then (
  R (.bool false) w) else (
  ∃ (I0 : Nat → List Value → World → Prop) (m3 : Nat), I0 m3 [.int .i64 0] w ∧ ∀ (m4 : Nat) (ww5 : World) (i2 : Int), I0 m4 [.int .i64 i2] ww5 →
  bif decide (i2 < (l1n : Int)) then (
  l1a.elim False fun a6 =>
  0 ≤ (i2 : Int) ∧ (i2 : Int) < (l1n : Int) ∧
  ∃ (Keep7a : Option Addr) (Keep7n : Nat) (Keep7c : Nat), ww5.cell? ((a6.add (Int.toNat i2 * 5)).add 4) = some (.slice Keep7a Keep7n Keep7c) ∧
  bif decide ((Keep7n : Int) > 60) then (
  R (.bool false) ww5) else (
  ∃ m8, m8 < m4 ∧ I0 m8 [.int .i64 (IntKind.i64.wrap (i2 + 1))] ww5)) else (
  R (.bool true) ww5))

theorem cachettelaw09_light.eq (l1a : Option Addr) (l1n : Nat) (l1c : Nat) (R : Value → World → Prop) (w : World) : mfunc Try.prog [(0, [0], [(3, (.one (.int .i64)))])] 7 [.slice l1a l1n l1c] R w = cachettelaw09_light.M l1a l1n l1c R w := by kernel_rfl
theorem cachettelaw09_light.ok (l1a : Option Addr) (l1n : Nat) (l1c : Nat) {R : Value → World → Prop} {w : World} (h : cachettelaw09_light.M l1a l1n l1c R w) : Calls Try.prog 7 #[.slice l1a l1n l1c] w fun e w' => ∃ v, e = .returned v ∧ R v w' :=
  mfunc_ok follows (H := [(0, [0], [(3, (.one (.int .i64)))])]) (args := [.slice l1a l1n l1c]) (by rw [cachettelaw09_light.eq]; exact h)

def cachettelaw09_light.N (l1a : Option Addr) (l1n : Nat) (l1c : Nat) (R : Value → World → Prop) (w : World) : Prop :=
  ((l1n : Int) > 60 →
    R (.bool false) w) ∧
  ((l1n : Int) ≤ 60 →
    ∃ (I0 : Nat → List Value → World → Prop) (m4 : Nat), I0 m4 [.int .i64 0] w ∧ ∀ (m5 : Nat) (ww6 : World) (i3 : Int), I0 m5 [.int .i64 i3] ww6 →
    (i3 < (l1n : Int) →
      ∃ a8 : Addr, l1a = some a8 ∧
      0 ≤ (i3 : Int) ∧ (i3 : Int) < (l1n : Int) ∧
      ∃ (Keep10a : Option Addr) (Keep10n : Nat) (Keep10c : Nat), ww6.cell? ((a8.add (Int.toNat i3 * 5)).add 4) = some (.slice Keep10a Keep10n Keep10c) ∧
      ((Keep10n : Int) > 60 →
        R (.bool false) ww6) ∧
      ((Keep10n : Int) ≤ 60 →
        (-9223372036854775808 : Int) ≤ (i3 + 1) ∧ (i3 + 1) < 9223372036854775808 ∧
        ∃ m12, m12 < m5 ∧ I0 m12 [.int .i64 (i3 + 1)] ww6)) ∧
    ((l1n : Int) ≤ i3 →
      R (.bool true) ww6))

theorem cachettelaw09_light.up (l1a : Option Addr) (l1n : Nat) (l1c : Nat) {R : Value → World → Prop} {w : World} (h : cachettelaw09_light.N l1a l1n l1c R w) : cachettelaw09_light.M l1a l1n l1c R w := by
  unfold cachettelaw09_light.M
  unfold cachettelaw09_light.N at h
  refine bif_of (fun c2 => ?_) (fun c2 => ?_)
  · have h := h.1 (of_decide_eq_true c2)
    exact h
  · have h := h.2 (Int.not_lt.1 (of_decide_eq_false c2))
    obtain ⟨I0, m4, h0, h⟩ := h
    refine ⟨I0, m4, h0, fun m5 ww6 i3 hI => ?_⟩
    have h := h m5 ww6 i3 hI
    refine bif_of (fun c7 => ?_) (fun c7 => ?_)
    · have h := h.1 (of_decide_eq_true c7)
      obtain ⟨a8, ha8, h⟩ := h
      refine elim_some ha8 ?_
      obtain ⟨hq1, hq2, h⟩ := h
      refine ⟨hq1, hq2, ?_⟩
      obtain ⟨Keep10a, Keep10n, Keep10c, hc9, h⟩ := h
      refine ⟨Keep10a, Keep10n, Keep10c, hc9, ?_⟩
      refine bif_of (fun c11 => ?_) (fun c11 => ?_)
      · have h := h.1 (of_decide_eq_true c11)
        exact h
      · have h := h.2 (Int.not_lt.1 (of_decide_eq_false c11))
        obtain ⟨hw1, hw2, h⟩ := h
        try rw [w64 hw1 hw2]
        obtain ⟨m12, hk, h⟩ := h
        exact ⟨m12, hk, h⟩
    · have h := h.2 (Int.not_lt.1 (of_decide_eq_false c7))
      exact h

theorem cachettelaw09_light.go (l1a : Option Addr) (l1n : Nat) (l1c : Nat) {R : Value → World → Prop} {w : World} (h : cachettelaw09_light.N l1a l1n l1c R w) : Calls Try.prog 7 #[.slice l1a l1n l1c] w fun e w' => ∃ v, e = .returned v ∧ R v w' := cachettelaw09_light.ok l1a l1n l1c (cachettelaw09_light.up l1a l1n l1c h)
theorem cachettelaw09_light.run (l1a : Option Addr) (l1n : Nat) (l1c : Nat) {V : Value} {Q : World → Prop} {w : World} (h : cachettelaw09_light.N l1a l1n l1c (fun v w' => v = V ∧ Q w') w) : Calls Try.prog 7 #[.slice l1a l1n l1c] w (Ret V Q) := (cachettelaw09_light.go l1a l1n l1c h).mono fun e w' ⟨v, he, hv, hq⟩ => ⟨by rw [he, hv], hq⟩

/-- cachettelaw09.alive -/
def cachettelaw09_alive.M  (R : Value → World → Prop) (w : World) : Prop :=
  Calls Try.prog 9 #[.int .i64 2] w fun ee3 ww4 => ∃ (new1 : Option Addr) (new2 : Int), ee3 = .returned (.tuple #[.pointer new1, .int .i64 new2]) ∧
  Calls Try.prog 11 #[.int .u8 1, .bool false] ww4 fun ee6 ww7 => ∃ (sector5a : Option Addr) (sector5n : Nat) (sector5c : Nat), ee6 = .returned (.slice sector5a sector5n sector5c) ∧
  Calls Try.prog 10 #[.pointer new1, .int .i64 0, .slice sector5a sector5n sector5c] ww7 fun ee9 ww10 => ∃ (write8 : Int), ee9 = .returned (.int .i64 write8) ∧
  Calls Try.prog 12 #[.pointer new1] ww10 fun ee12 ww13 => ∃ (sync11 : Int), ee12 = .returned (.int .i64 sync11) ∧
  Calls Try.prog 11 #[.int .u8 2, .bool false] ww13 fun ee15 ww16 => ∃ (sector14a : Option Addr) (sector14n : Nat) (sector14c : Nat), ee15 = .returned (.slice sector14a sector14n sector14c) ∧
  Calls Try.prog 10 #[.pointer new1, .int .i64 0, .slice sector14a sector14n sector14c] ww16 fun ee18 ww19 => ∃ (write17 : Int), ee18 = .returned (.int .i64 write17) ∧
  thenW (ww19.alloc (.cells #[.bool false] 4)) fun ww20 =>
  Calls Try.prog 15 #[.pointer new1, .slice (some (blk ww19.heap.size)) 1 1] ww20 fun ee22 ww23 => ∃ (restart21 : Int), ee22 = .returned (.int .i64 restart21) ∧
  Calls Try.prog 16 #[.pointer new1, .int .i64 0] ww23 fun ee26 ww27 => ∃ (read24a : Option Addr) (read24n : Nat) (read24c : Nat) (read25 : Int), ee26 = .returned (.tuple #[.slice read24a read24n read24c, .int .i64 read25]) ∧
  bif new2 == 0 then (
  bif read25 == 0 then (
  bif (read24n : Int) == 64 then (
  read24a.elim False fun a28 =>
  0 ≤ (0 : Int) ∧ (0 : Int) < (read24n : Int) ∧
  ∃ (x29 : Int), ww27.cell? (a28.add (Int.toNat 0 * 1)) = some (.int .u8 x29) ∧
  R (.bool (x29 == 1)) ww27) else (
  R (.bool false) ww27)) else (
  R (.bool false) ww27)) else (
  R (.bool false) ww27)

theorem cachettelaw09_alive.eq  (R : Value → World → Prop) (w : World) : mfunc Try.prog [] 8 [] R w = cachettelaw09_alive.M  R w := by kernel_rfl
theorem cachettelaw09_alive.ok  {R : Value → World → Prop} {w : World} (h : cachettelaw09_alive.M  R w) : Calls Try.prog 8 #[] w fun e w' => ∃ v, e = .returned v ∧ R v w' :=
  mfunc_ok follows (H := []) (args := []) (by rw [cachettelaw09_alive.eq]; exact h)

def cachettelaw09_alive.N  (R : Value → World → Prop) (w : World) : Prop :=
  Calls Try.prog 9 #[.int .i64 2] w fun ee3 ww4 => ∃ (new1 : Option Addr) (new2 : Int), ee3 = .returned (.tuple #[.pointer new1, .int .i64 new2]) ∧
  Calls Try.prog 11 #[.int .u8 1, .bool false] ww4 fun ee6 ww7 => ∃ (sector5a : Option Addr) (sector5n : Nat) (sector5c : Nat), ee6 = .returned (.slice sector5a sector5n sector5c) ∧
  Calls Try.prog 10 #[.pointer new1, .int .i64 0, .slice sector5a sector5n sector5c] ww7 fun ee9 ww10 => ∃ (write8 : Int), ee9 = .returned (.int .i64 write8) ∧
  Calls Try.prog 12 #[.pointer new1] ww10 fun ee12 ww13 => ∃ (sync11 : Int), ee12 = .returned (.int .i64 sync11) ∧
  Calls Try.prog 11 #[.int .u8 2, .bool false] ww13 fun ee15 ww16 => ∃ (sector14a : Option Addr) (sector14n : Nat) (sector14c : Nat), ee15 = .returned (.slice sector14a sector14n sector14c) ∧
  Calls Try.prog 10 #[.pointer new1, .int .i64 0, .slice sector14a sector14n sector14c] ww16 fun ee18 ww19 => ∃ (write17 : Int), ee18 = .returned (.int .i64 write17) ∧
  ∀ (ww20 : World) (q21 : Nat), Ext no ww19 ww20 → Blk ww20 q21 4 [.bool false] → ww19.heap.size ≤ q21 → q21 < ww20.heap.size →
  Calls Try.prog 15 #[.pointer new1, .slice (some (blk q21)) 1 1] ww20 fun ee23 ww24 => ∃ (restart22 : Int), ee23 = .returned (.int .i64 restart22) ∧
  Calls Try.prog 16 #[.pointer new1, .int .i64 0] ww24 fun ee27 ww28 => ∃ (read25a : Option Addr) (read25n : Nat) (read25c : Nat) (read26 : Int), ee27 = .returned (.tuple #[.slice read25a read25n read25c, .int .i64 read26]) ∧
  (new2 = 0 →
    (read26 = 0 →
      ((read25n : Int) = 64 →
        ∃ a32 : Addr, read25a = some a32 ∧
        (0 : Int) < (read25n : Int) ∧
        ∃ (x34 : Int), ww28.cell? (a32.add (Int.toNat 0 * 1)) = some (.int .u8 x34) ∧
        R (.bool (x34 == 1)) ww28) ∧
      ((read25n : Int) ≠ 64 →
        R (.bool false) ww28)) ∧
    (read26 ≠ 0 →
      R (.bool false) ww28)) ∧
  (new2 ≠ 0 →
    R (.bool false) ww28)

theorem cachettelaw09_alive.up  {R : Value → World → Prop} {w : World} (h : cachettelaw09_alive.N  R w) : cachettelaw09_alive.M  R w := by
  unfold cachettelaw09_alive.M
  unfold cachettelaw09_alive.N at h
  refine h.mono fun ee3 ww4 h => ?_
  obtain ⟨new1, new2, he, h⟩ := h
  refine ⟨new1, new2, he, ?_⟩
  refine h.mono fun ee6 ww7 h => ?_
  obtain ⟨sector5a, sector5n, sector5c, he, h⟩ := h
  refine ⟨sector5a, sector5n, sector5c, he, ?_⟩
  refine h.mono fun ee9 ww10 h => ?_
  obtain ⟨write8, he, h⟩ := h
  refine ⟨write8, he, ?_⟩
  refine h.mono fun ee12 ww13 h => ?_
  obtain ⟨sync11, he, h⟩ := h
  refine ⟨sync11, he, ?_⟩
  refine h.mono fun ee15 ww16 h => ?_
  obtain ⟨sector14a, sector14n, sector14c, he, h⟩ := h
  refine ⟨sector14a, sector14n, sector14c, he, ?_⟩
  refine h.mono fun ee18 ww19 h => ?_
  obtain ⟨write17, he, h⟩ := h
  refine ⟨write17, he, ?_⟩
  refine thenW_in fun ww20 e20 => ?_
  have h := h ww20 ww19.heap.size ((Ext.refl no ww19).x_alloc e20) (Blk.of_new e20) ((Ext.refl no ww19)).size (size_lt_alloc e20)
  refine h.mono fun ee23 ww24 h => ?_
  obtain ⟨restart22, he, h⟩ := h
  refine ⟨restart22, he, ?_⟩
  refine h.mono fun ee27 ww28 h => ?_
  obtain ⟨read25a, read25n, read25c, read26, he, h⟩ := h
  refine ⟨read25a, read25n, read25c, read26, he, ?_⟩
  refine bif_of (fun c29 => ?_) (fun c29 => ?_)
  · have h := h.1 (beq_t c29)
    refine bif_of (fun c30 => ?_) (fun c30 => ?_)
    · have h := h.1 (beq_t c30)
      refine bif_of (fun c31 => ?_) (fun c31 => ?_)
      · have h := h.1 (beq_t c31)
        obtain ⟨a32, ha32, h⟩ := h
        refine elim_some ha32 ?_
        obtain ⟨hq2, h⟩ := h
        refine ⟨by decide, hq2, ?_⟩
        obtain ⟨x34, hc33, h⟩ := h
        refine ⟨x34, hc33, ?_⟩
        exact h
      · have h := h.2 (beq_f c31)
        exact h
    · have h := h.2 (beq_f c30)
      exact h
  · have h := h.2 (beq_f c29)
    exact h

theorem cachettelaw09_alive.go  {R : Value → World → Prop} {w : World} (h : cachettelaw09_alive.N  R w) : Calls Try.prog 8 #[] w fun e w' => ∃ v, e = .returned v ∧ R v w' := cachettelaw09_alive.ok  (cachettelaw09_alive.up  h)
theorem cachettelaw09_alive.run  {V : Value} {Q : World → Prop} {w : World} (h : cachettelaw09_alive.N  (fun v w' => v = V ∧ Q w') w) : Calls Try.prog 8 #[] w (Ret V Q) := (cachettelaw09_alive.go  h).mono fun e w' ⟨v, he, hv, hq⟩ => ⟨by rw [he, hv], hq⟩

/-- cachettelaw09.DiskSafe -/
def cachettelaw09_DiskSafe.M (l1a : Option Addr) (l1n : Nat) (l1c : Nat) (more2a : Option Addr) (more2n : Nat) (more2c : Nat) (keep3a : Option Addr) (keep3n : Nat) (keep3c : Nat) (R : Value → World → Prop) (w : World) : Prop :=
  Calls Try.prog 7 #[.slice l1a l1n l1c] w fun ee5 ww6 => ∃ (light4 : Bool), ee5 = .returned (.bool light4) ∧
  bif !light4 then (
  Calls Try.prog 8 #[] ww6 fun ee8 ww9 => ∃ (alive7 : Bool), ee8 = .returned (.bool alive7) ∧
  R (.bool alive7) ww9) else (
  Calls Try.prog 7 #[.slice more2a more2n more2c] ww6 fun ee11 ww12 => ∃ (light10 : Bool), ee11 = .returned (.bool light10) ∧
  bif !light10 then (
  Calls Try.prog 8 #[] ww12 fun ee14 ww15 => ∃ (alive13 : Bool), ee14 = .returned (.bool alive13) ∧
  R (.bool alive13) ww15) else (
  bif decide ((keep3n : Int) > 60) then (
  Calls Try.prog 8 #[] ww12 fun ee17 ww18 => ∃ (alive16 : Bool), ee17 = .returned (.bool alive16) ∧
  R (.bool alive16) ww18) else (
  Calls Try.prog 9 #[.int .i64 6] ww12 fun ee21 ww22 => ∃ (new19 : Option Addr) (new20 : Int), ee21 = .returned (.tuple #[.pointer new19, .int .i64 new20]) ∧
  bif new20 != 0 then (
  R (.bool false) ww22) else (
  ∃ (I0 : Nat → List Value → World → Prop) (m24 : Nat), I0 m24 [.int .i64 0] ww22 ∧ ∀ (m25 : Nat) (ww26 : World) (i23 : Int), I0 m25 [.int .i64 i23] ww26 →
  bif decide (i23 < (l1n : Int)) then (
  l1a.elim False fun a27 =>
  0 ≤ (i23 : Int) ∧ (i23 : Int) < (l1n : Int) ∧
  ∃ (Kind28 : Int), ww26.cell? ((a27.add (Int.toNat i23 * 5)).add 0) = some (.int .i64 Kind28) ∧
  bif Kind28 == 0 then (
  thenW (ww26.drew) fun ww29 =>
  l1a.elim False fun a30 =>
  0 ≤ (i23 : Int) ∧ (i23 : Int) < (l1n : Int) ∧
  ∃ (N31 : Int), ww29.cell? ((a30.add (Int.toNat i23 * 5)).add 1) = some (.int .i64 N31) ∧
  l1a.elim False fun a32 =>
  0 ≤ (i23 : Int) ∧ (i23 : Int) < (l1n : Int) ∧
  ∃ (By33 : Int), ww29.cell? ((a32.add (Int.toNat i23 * 5)).add 2) = some (.int .u8 By33) ∧
  l1a.elim False fun a34 =>
  0 ≤ (i23 : Int) ∧ (i23 : Int) < (l1n : Int) ∧
  ∃ (Short35 : Bool), ww29.cell? ((a34.add (Int.toNat i23 * 5)).add 3) = some (.bool Short35) ∧
  Calls Try.prog 11 #[.int .u8 By33, .bool Short35] ww29 fun ee37 ww38 => ∃ (sector36a : Option Addr) (sector36n : Nat) (sector36c : Nat), ee37 = .returned (.slice sector36a sector36n sector36c) ∧
  ww38.cell? ((a30.add (Int.toNat i23 * 5)).add 1) = some (.int .i64 N31) ∧
  Calls Try.prog 10 #[.pointer new19, .int .i64 N31, .slice sector36a sector36n sector36c] ww38 fun ee40 ww41 => ∃ (write39 : Int), ee40 = .returned (.int .i64 write39) ∧
  ∃ m42, m42 < m25 ∧ I0 m42 [.int .i64 (IntKind.i64.wrap (i23 + 1))] ww41) else (
  ∃ m43, m43 < m25 ∧ I0 m43 [.int .i64 (IntKind.i64.wrap (i23 + 1))] ww26)) else (
  Calls Try.prog 12 #[.pointer new19] ww26 fun ee45 ww46 => ∃ (sync44 : Int), ee45 = .returned (.int .i64 sync44) ∧
  bif sync44 != 0 then (
  R (.bool false) ww46) else (
  Calls Try.prog 13 #[.pointer new19] ww46 fun ee48 ww49 => ∃ (copy47 : Option Addr), ee48 = .returned (.pointer copy47) ∧
  thenW (ww49.alloc (.cells #[.bool false, .bool false, .bool false, .bool false, .bool false, .bool false] 37)) fun ww50 =>
  ∃ (I2 : Nat → List Value → World → Prop) (m52 : Nat), I2 m52 [.int .i64 0] ww50 ∧ ∀ (m53 : Nat) (ww54 : World) (i51 : Int), I2 m53 [.int .i64 i51] ww54 →
  bif decide (i51 < (more2n : Int)) then (
  more2a.elim False fun a55 =>
  0 ≤ (i51 : Int) ∧ (i51 : Int) < (more2n : Int) ∧
  ∃ (Kind56 : Int), ww54.cell? ((a55.add (Int.toNat i51 * 5)).add 0) = some (.int .i64 Kind56) ∧
  bif Kind56 == 3 then (
  more2a.elim False fun a57 =>
  0 ≤ (i51 : Int) ∧ (i51 : Int) < (more2n : Int) ∧
  ∃ (N58 : Int), ww54.cell? ((a57.add (Int.toNat i51 * 5)).add 1) = some (.int .i64 N58) ∧
  Calls Try.prog 14 #[.pointer new19, .int .i64 N58] ww54 fun ee60 ww61 => ∃ (arm59 : Int), ee60 = .returned (.int .i64 arm59) ∧
  more2a.elim False fun a62 =>
  0 ≤ (i51 : Int) ∧ (i51 : Int) < (more2n : Int) ∧
  ∃ (Kind63 : Int), ww61.cell? ((a62.add (Int.toNat i51 * 5)).add 0) = some (.int .i64 Kind63) ∧
  bif Kind63 == 0 then (
  more2a.elim False fun a64 =>
  0 ≤ (i51 : Int) ∧ (i51 : Int) < (more2n : Int) ∧
  ∃ (N65 : Int), ww61.cell? ((a64.add (Int.toNat i51 * 5)).add 1) = some (.int .i64 N65) ∧
  bif decide (N65 ≥ 0) then (
  more2a.elim False fun a66 =>
  0 ≤ (i51 : Int) ∧ (i51 : Int) < (more2n : Int) ∧
  ∃ (N67 : Int), ww61.cell? ((a66.add (Int.toNat i51 * 5)).add 1) = some (.int .i64 N67) ∧
  bif decide (N67 < 6) then (
  more2a.elim False fun a68 =>
  0 ≤ (i51 : Int) ∧ (i51 : Int) < (more2n : Int) ∧
  ∃ (N69 : Int), ww61.cell? ((a68.add (Int.toNat i51 * 5)).add 1) = some (.int .i64 N69) ∧
  0 ≤ (N69 : Int) ∧ (N69 : Int) < (6 : Int) ∧
  canStore ww61 (((blk ww49.heap.size).add (Int.toNat N69 * 1)).add 0) ∧
  thenW (ww61.setCell (((blk ww49.heap.size).add (Int.toNat N69 * 1)).add 0) (.bool true)) fun ww70 =>
  thenW (ww70.drew) fun ww71 =>
  more2a.elim False fun a72 =>
  0 ≤ (i51 : Int) ∧ (i51 : Int) < (more2n : Int) ∧
  ∃ (N73 : Int), ww71.cell? ((a72.add (Int.toNat i51 * 5)).add 1) = some (.int .i64 N73) ∧
  more2a.elim False fun a74 =>
  0 ≤ (i51 : Int) ∧ (i51 : Int) < (more2n : Int) ∧
  ∃ (By75 : Int), ww71.cell? ((a74.add (Int.toNat i51 * 5)).add 2) = some (.int .u8 By75) ∧
  more2a.elim False fun a76 =>
  0 ≤ (i51 : Int) ∧ (i51 : Int) < (more2n : Int) ∧
  ∃ (Short77 : Bool), ww71.cell? ((a76.add (Int.toNat i51 * 5)).add 3) = some (.bool Short77) ∧
  Calls Try.prog 11 #[.int .u8 By75, .bool Short77] ww71 fun ee79 ww80 => ∃ (sector78a : Option Addr) (sector78n : Nat) (sector78c : Nat), ee79 = .returned (.slice sector78a sector78n sector78c) ∧
  ww80.cell? ((a72.add (Int.toNat i51 * 5)).add 1) = some (.int .i64 N73) ∧
  Calls Try.prog 10 #[.pointer new19, .int .i64 N73, .slice sector78a sector78n sector78c] ww80 fun ee82 ww83 => ∃ (write81 : Int), ee82 = .returned (.int .i64 write81) ∧
  ∃ m84, m84 < m53 ∧ I2 m84 [.int .i64 (IntKind.i64.wrap (i51 + 1))] ww83) else (
  thenW (ww61.drew) fun ww85 =>
  more2a.elim False fun a86 =>
  0 ≤ (i51 : Int) ∧ (i51 : Int) < (more2n : Int) ∧
  ∃ (N87 : Int), ww85.cell? ((a86.add (Int.toNat i51 * 5)).add 1) = some (.int .i64 N87) ∧
  more2a.elim False fun a88 =>
  0 ≤ (i51 : Int) ∧ (i51 : Int) < (more2n : Int) ∧
  ∃ (By89 : Int), ww85.cell? ((a88.add (Int.toNat i51 * 5)).add 2) = some (.int .u8 By89) ∧
  more2a.elim False fun a90 =>
  0 ≤ (i51 : Int) ∧ (i51 : Int) < (more2n : Int) ∧
  ∃ (Short91 : Bool), ww85.cell? ((a90.add (Int.toNat i51 * 5)).add 3) = some (.bool Short91) ∧
  Calls Try.prog 11 #[.int .u8 By89, .bool Short91] ww85 fun ee93 ww94 => ∃ (sector92a : Option Addr) (sector92n : Nat) (sector92c : Nat), ee93 = .returned (.slice sector92a sector92n sector92c) ∧
  ww94.cell? ((a86.add (Int.toNat i51 * 5)).add 1) = some (.int .i64 N87) ∧
  Calls Try.prog 10 #[.pointer new19, .int .i64 N87, .slice sector92a sector92n sector92c] ww94 fun ee96 ww97 => ∃ (write95 : Int), ee96 = .returned (.int .i64 write95) ∧
  ∃ m98, m98 < m53 ∧ I2 m98 [.int .i64 (IntKind.i64.wrap (i51 + 1))] ww97)) else (
  thenW (ww61.drew) fun ww99 =>
  more2a.elim False fun a100 =>
  0 ≤ (i51 : Int) ∧ (i51 : Int) < (more2n : Int) ∧
  ∃ (N101 : Int), ww99.cell? ((a100.add (Int.toNat i51 * 5)).add 1) = some (.int .i64 N101) ∧
  more2a.elim False fun a102 =>
  0 ≤ (i51 : Int) ∧ (i51 : Int) < (more2n : Int) ∧
  ∃ (By103 : Int), ww99.cell? ((a102.add (Int.toNat i51 * 5)).add 2) = some (.int .u8 By103) ∧
  more2a.elim False fun a104 =>
  0 ≤ (i51 : Int) ∧ (i51 : Int) < (more2n : Int) ∧
  ∃ (Short105 : Bool), ww99.cell? ((a104.add (Int.toNat i51 * 5)).add 3) = some (.bool Short105) ∧
  Calls Try.prog 11 #[.int .u8 By103, .bool Short105] ww99 fun ee107 ww108 => ∃ (sector106a : Option Addr) (sector106n : Nat) (sector106c : Nat), ee107 = .returned (.slice sector106a sector106n sector106c) ∧
  ww108.cell? ((a100.add (Int.toNat i51 * 5)).add 1) = some (.int .i64 N101) ∧
  Calls Try.prog 10 #[.pointer new19, .int .i64 N101, .slice sector106a sector106n sector106c] ww108 fun ee110 ww111 => ∃ (write109 : Int), ee110 = .returned (.int .i64 write109) ∧
  ∃ m112, m112 < m53 ∧ I2 m112 [.int .i64 (IntKind.i64.wrap (i51 + 1))] ww111)) else (
  ∃ m113, m113 < m53 ∧ I2 m113 [.int .i64 (IntKind.i64.wrap (i51 + 1))] ww61)) else (
  more2a.elim False fun a114 =>
  0 ≤ (i51 : Int) ∧ (i51 : Int) < (more2n : Int) ∧
  ∃ (Kind115 : Int), ww54.cell? ((a114.add (Int.toNat i51 * 5)).add 0) = some (.int .i64 Kind115) ∧
  bif Kind115 == 0 then (
  more2a.elim False fun a116 =>
  0 ≤ (i51 : Int) ∧ (i51 : Int) < (more2n : Int) ∧
  ∃ (N117 : Int), ww54.cell? ((a116.add (Int.toNat i51 * 5)).add 1) = some (.int .i64 N117) ∧
  bif decide (N117 ≥ 0) then (
  more2a.elim False fun a118 =>
  0 ≤ (i51 : Int) ∧ (i51 : Int) < (more2n : Int) ∧
  ∃ (N119 : Int), ww54.cell? ((a118.add (Int.toNat i51 * 5)).add 1) = some (.int .i64 N119) ∧
  bif decide (N119 < 6) then (
  more2a.elim False fun a120 =>
  0 ≤ (i51 : Int) ∧ (i51 : Int) < (more2n : Int) ∧
  ∃ (N121 : Int), ww54.cell? ((a120.add (Int.toNat i51 * 5)).add 1) = some (.int .i64 N121) ∧
  0 ≤ (N121 : Int) ∧ (N121 : Int) < (6 : Int) ∧
  canStore ww54 (((blk ww49.heap.size).add (Int.toNat N121 * 1)).add 0) ∧
  thenW (ww54.setCell (((blk ww49.heap.size).add (Int.toNat N121 * 1)).add 0) (.bool true)) fun ww122 =>
  thenW (ww122.drew) fun ww123 =>
  more2a.elim False fun a124 =>
  0 ≤ (i51 : Int) ∧ (i51 : Int) < (more2n : Int) ∧
  ∃ (N125 : Int), ww123.cell? ((a124.add (Int.toNat i51 * 5)).add 1) = some (.int .i64 N125) ∧
  more2a.elim False fun a126 =>
  0 ≤ (i51 : Int) ∧ (i51 : Int) < (more2n : Int) ∧
  ∃ (By127 : Int), ww123.cell? ((a126.add (Int.toNat i51 * 5)).add 2) = some (.int .u8 By127) ∧
  more2a.elim False fun a128 =>
  0 ≤ (i51 : Int) ∧ (i51 : Int) < (more2n : Int) ∧
  ∃ (Short129 : Bool), ww123.cell? ((a128.add (Int.toNat i51 * 5)).add 3) = some (.bool Short129) ∧
  Calls Try.prog 11 #[.int .u8 By127, .bool Short129] ww123 fun ee131 ww132 => ∃ (sector130a : Option Addr) (sector130n : Nat) (sector130c : Nat), ee131 = .returned (.slice sector130a sector130n sector130c) ∧
  ww132.cell? ((a124.add (Int.toNat i51 * 5)).add 1) = some (.int .i64 N125) ∧
  Calls Try.prog 10 #[.pointer new19, .int .i64 N125, .slice sector130a sector130n sector130c] ww132 fun ee134 ww135 => ∃ (write133 : Int), ee134 = .returned (.int .i64 write133) ∧
  ∃ m136, m136 < m53 ∧ I2 m136 [.int .i64 (IntKind.i64.wrap (i51 + 1))] ww135) else (
  thenW (ww54.drew) fun ww137 =>
  more2a.elim False fun a138 =>
  0 ≤ (i51 : Int) ∧ (i51 : Int) < (more2n : Int) ∧
  ∃ (N139 : Int), ww137.cell? ((a138.add (Int.toNat i51 * 5)).add 1) = some (.int .i64 N139) ∧
  more2a.elim False fun a140 =>
  0 ≤ (i51 : Int) ∧ (i51 : Int) < (more2n : Int) ∧
  ∃ (By141 : Int), ww137.cell? ((a140.add (Int.toNat i51 * 5)).add 2) = some (.int .u8 By141) ∧
  more2a.elim False fun a142 =>
  0 ≤ (i51 : Int) ∧ (i51 : Int) < (more2n : Int) ∧
  ∃ (Short143 : Bool), ww137.cell? ((a142.add (Int.toNat i51 * 5)).add 3) = some (.bool Short143) ∧
  Calls Try.prog 11 #[.int .u8 By141, .bool Short143] ww137 fun ee145 ww146 => ∃ (sector144a : Option Addr) (sector144n : Nat) (sector144c : Nat), ee145 = .returned (.slice sector144a sector144n sector144c) ∧
  ww146.cell? ((a138.add (Int.toNat i51 * 5)).add 1) = some (.int .i64 N139) ∧
  Calls Try.prog 10 #[.pointer new19, .int .i64 N139, .slice sector144a sector144n sector144c] ww146 fun ee148 ww149 => ∃ (write147 : Int), ee148 = .returned (.int .i64 write147) ∧
  ∃ m150, m150 < m53 ∧ I2 m150 [.int .i64 (IntKind.i64.wrap (i51 + 1))] ww149)) else (
  thenW (ww54.drew) fun ww151 =>
  more2a.elim False fun a152 =>
  0 ≤ (i51 : Int) ∧ (i51 : Int) < (more2n : Int) ∧
  ∃ (N153 : Int), ww151.cell? ((a152.add (Int.toNat i51 * 5)).add 1) = some (.int .i64 N153) ∧
  more2a.elim False fun a154 =>
  0 ≤ (i51 : Int) ∧ (i51 : Int) < (more2n : Int) ∧
  ∃ (By155 : Int), ww151.cell? ((a154.add (Int.toNat i51 * 5)).add 2) = some (.int .u8 By155) ∧
  more2a.elim False fun a156 =>
  0 ≤ (i51 : Int) ∧ (i51 : Int) < (more2n : Int) ∧
  ∃ (Short157 : Bool), ww151.cell? ((a156.add (Int.toNat i51 * 5)).add 3) = some (.bool Short157) ∧
  Calls Try.prog 11 #[.int .u8 By155, .bool Short157] ww151 fun ee159 ww160 => ∃ (sector158a : Option Addr) (sector158n : Nat) (sector158c : Nat), ee159 = .returned (.slice sector158a sector158n sector158c) ∧
  ww160.cell? ((a152.add (Int.toNat i51 * 5)).add 1) = some (.int .i64 N153) ∧
  Calls Try.prog 10 #[.pointer new19, .int .i64 N153, .slice sector158a sector158n sector158c] ww160 fun ee162 ww163 => ∃ (write161 : Int), ee162 = .returned (.int .i64 write161) ∧
  ∃ m164, m164 < m53 ∧ I2 m164 [.int .i64 (IntKind.i64.wrap (i51 + 1))] ww163)) else (
  ∃ m165, m165 < m53 ∧ I2 m165 [.int .i64 (IntKind.i64.wrap (i51 + 1))] ww54))) else (
  Calls Try.prog 15 #[.pointer new19, .slice keep3a keep3n keep3c] ww54 fun ee167 ww168 => ∃ (restart166 : Int), ee167 = .returned (.int .i64 restart166) ∧
  ∃ (I4 : Nat → List Value → World → Prop) (m170 : Nat), I4 m170 [.int .i64 0] ww168 ∧ ∀ (m171 : Nat) (ww172 : World) (i169 : Int), I4 m171 [.int .i64 i169] ww172 →
  bif decide (i169 < 6) then (
  Calls Try.prog 16 #[.pointer copy47, .int .i64 i169] ww172 fun ee175 ww176 => ∃ (read173a : Option Addr) (read173n : Nat) (read173c : Nat) (read174 : Int), ee175 = .returned (.tuple #[.slice read173a read173n read173c, .int .i64 read174]) ∧
  Calls Try.prog 16 #[.pointer new19, .int .i64 i169] ww176 fun ee179 ww180 => ∃ (read177a : Option Addr) (read177n : Nat) (read177c : Nat) (read178 : Int), ee179 = .returned (.tuple #[.slice read177a read177n read177c, .int .i64 read178]) ∧
  0 ≤ (i169 : Int) ∧ (i169 : Int) < (6 : Int) ∧
  ∃ (x181 : Bool), ww180.cell? ((blk ww49.heap.size).add (Int.toNat i169 * 1)) = some (.bool x181) ∧
  bif !x181 then (
  bif read174 != read178 then (
  R (.bool false) ww180) else (
  Calls Try.prog 17 #[.slice read173a read173n read173c, .slice read177a read177n read177c] ww180 fun ee183 ww184 => ∃ (same182 : Bool), ee183 = .returned (.bool same182) ∧
  bif !same182 then (
  R (.bool false) ww184) else (
  ∃ m185, m185 < m171 ∧ I4 m185 [.int .i64 (IntKind.i64.wrap (i169 + 1))] ww184))) else (
  ∃ m186, m186 < m171 ∧ I4 m186 [.int .i64 (IntKind.i64.wrap (i169 + 1))] ww180)) else (
  Calls Try.prog 18 #[.pointer new19] ww172 fun ee188 ww189 => ∃ (down187 : Bool), ee188 = .returned (.bool down187) ∧
  bif !down187 then (
  Calls Try.prog 19 #[.pointer new19] ww189 fun ee191 ww192 => ∃ (pending190 : Int), ee191 = .returned (.int .i64 pending190) ∧
  bif pending190 == 0 then (
  Calls Try.prog 8 #[] ww192 fun ee194 ww195 => ∃ (alive193 : Bool), ee194 = .returned (.bool alive193) ∧
  R (.bool alive193) ww195) else (
  R (.bool false) ww192)) else (
  R (.bool false) ww189)))))))))

theorem cachettelaw09_DiskSafe.eq (l1a : Option Addr) (l1n : Nat) (l1c : Nat) (more2a : Option Addr) (more2n : Nat) (more2c : Nat) (keep3a : Option Addr) (keep3n : Nat) (keep3c : Nat) (R : Value → World → Prop) (w : World) : mfunc Try.prog [(0, [0, 1, 2, 7], [(9, (.one (.int .i64)))]), (2, [1, 2, 7, 10, 11], [(12, (.one (.int .i64)))]), (4, [7, 10, 11], [(13, (.one (.int .i64)))])] 3 [.slice l1a l1n l1c, .slice more2a more2n more2c, .slice keep3a keep3n keep3c] R w = cachettelaw09_DiskSafe.M l1a l1n l1c more2a more2n more2c keep3a keep3n keep3c R w := by kernel_rfl
theorem cachettelaw09_DiskSafe.ok (l1a : Option Addr) (l1n : Nat) (l1c : Nat) (more2a : Option Addr) (more2n : Nat) (more2c : Nat) (keep3a : Option Addr) (keep3n : Nat) (keep3c : Nat) {R : Value → World → Prop} {w : World} (h : cachettelaw09_DiskSafe.M l1a l1n l1c more2a more2n more2c keep3a keep3n keep3c R w) : Calls Try.prog 3 #[.slice l1a l1n l1c, .slice more2a more2n more2c, .slice keep3a keep3n keep3c] w fun e w' => ∃ v, e = .returned v ∧ R v w' :=
  mfunc_ok follows (H := [(0, [0, 1, 2, 7], [(9, (.one (.int .i64)))]), (2, [1, 2, 7, 10, 11], [(12, (.one (.int .i64)))]), (4, [7, 10, 11], [(13, (.one (.int .i64)))])]) (args := [.slice l1a l1n l1c, .slice more2a more2n more2c, .slice keep3a keep3n keep3c]) (by rw [cachettelaw09_DiskSafe.eq]; exact h)

def cachettelaw09_DiskSafe.N (l1a : Option Addr) (l1n : Nat) (l1c : Nat) (more2a : Option Addr) (more2n : Nat) (more2c : Nat) (keep3a : Option Addr) (keep3n : Nat) (keep3c : Nat) (R : Value → World → Prop) (w : World) : Prop :=
  Calls Try.prog 7 #[.slice l1a l1n l1c] w fun ee5 ww6 => ∃ (light4 : Bool), ee5 = .returned (.bool light4) ∧
  (light4 = false →
    Calls Try.prog 8 #[] ww6 fun ee9 ww10 => ∃ (alive8 : Bool), ee9 = .returned (.bool alive8) ∧
    R (.bool alive8) ww10) ∧
  (light4 = true →
    Calls Try.prog 7 #[.slice more2a more2n more2c] ww6 fun ee12 ww13 => ∃ (light11 : Bool), ee12 = .returned (.bool light11) ∧
    (light11 = false →
      Calls Try.prog 8 #[] ww13 fun ee16 ww17 => ∃ (alive15 : Bool), ee16 = .returned (.bool alive15) ∧
      R (.bool alive15) ww17) ∧
    (light11 = true →
      ((keep3n : Int) > 60 →
        Calls Try.prog 8 #[] ww13 fun ee20 ww21 => ∃ (alive19 : Bool), ee20 = .returned (.bool alive19) ∧
        R (.bool alive19) ww21) ∧
      ((keep3n : Int) ≤ 60 →
        Calls Try.prog 9 #[.int .i64 6] ww13 fun ee24 ww25 => ∃ (new22 : Option Addr) (new23 : Int), ee24 = .returned (.tuple #[.pointer new22, .int .i64 new23]) ∧
        (new23 ≠ 0 →
          R (.bool false) ww25) ∧
        (new23 = 0 →
          ∃ (I0 : Nat → List Value → World → Prop) (m28 : Nat), I0 m28 [.int .i64 0] ww25 ∧ ∀ (m29 : Nat) (ww30 : World) (i27 : Int), I0 m29 [.int .i64 i27] ww30 →
          (i27 < (l1n : Int) →
            ∃ a32 : Addr, l1a = some a32 ∧
            0 ≤ (i27 : Int) ∧ (i27 : Int) < (l1n : Int) ∧
            ∃ (Kind34 : Int), ww30.cell? ((a32.add (Int.toNat i27 * 5)).add 0) = some (.int .i64 Kind34) ∧
            (Kind34 = 0 →
              0 ≤ (i27 : Int) ∧ (i27 : Int) < (l1n : Int) ∧
              ∃ (N38 : Int), ww30.cell? ((a32.add (Int.toNat i27 * 5)).add 1) = some (.int .i64 N38) ∧
              0 ≤ (i27 : Int) ∧ (i27 : Int) < (l1n : Int) ∧
              ∃ (By40 : Int), ww30.cell? ((a32.add (Int.toNat i27 * 5)).add 2) = some (.int .u8 By40) ∧
              0 ≤ (i27 : Int) ∧ (i27 : Int) < (l1n : Int) ∧
              ∃ (Short42 : Bool), ww30.cell? ((a32.add (Int.toNat i27 * 5)).add 3) = some (.bool Short42) ∧
              ∀ (ww36 : World), Ext no ww30 ww36 →
              Calls Try.prog 11 #[.int .u8 By40, .bool Short42] ww36 fun ee44 ww45 => ∃ (sector43a : Option Addr) (sector43n : Nat) (sector43c : Nat), ee44 = .returned (.slice sector43a sector43n sector43c) ∧
              ww45.cell? ((a32.add (Int.toNat i27 * 5)).add 1) = some (.int .i64 N38) ∧
              Calls Try.prog 10 #[.pointer new22, .int .i64 N38, .slice sector43a sector43n sector43c] ww45 fun ee48 ww49 => ∃ (write47 : Int), ee48 = .returned (.int .i64 write47) ∧
              (-9223372036854775808 : Int) ≤ (i27 + 1) ∧ (i27 + 1) < 9223372036854775808 ∧
              ∃ m50, m50 < m29 ∧ I0 m50 [.int .i64 (i27 + 1)] ww49) ∧
            (Kind34 ≠ 0 →
              (-9223372036854775808 : Int) ≤ (i27 + 1) ∧ (i27 + 1) < 9223372036854775808 ∧
              ∃ m51, m51 < m29 ∧ I0 m51 [.int .i64 (i27 + 1)] ww30)) ∧
          ((l1n : Int) ≤ i27 →
            Calls Try.prog 12 #[.pointer new22] ww30 fun ee53 ww54 => ∃ (sync52 : Int), ee53 = .returned (.int .i64 sync52) ∧
            (sync52 ≠ 0 →
              R (.bool false) ww54) ∧
            (sync52 = 0 →
              Calls Try.prog 13 #[.pointer new22] ww54 fun ee57 ww58 => ∃ (copy56 : Option Addr), ee57 = .returned (.pointer copy56) ∧
              ∀ (ww59 : World) (q60 : Nat), Ext no ww58 ww59 → Blk ww59 q60 37 [.bool false, .bool false, .bool false, .bool false, .bool false, .bool false] → ww58.heap.size ≤ q60 → q60 < ww59.heap.size →
              ∃ (I2 : Nat → List Value → World → Prop) (m62 : Nat), I2 m62 [.int .i64 0] ww59 ∧ ∀ (m63 : Nat) (ww64 : World) (i61 : Int), I2 m63 [.int .i64 i61] ww64 →
              (i61 < (more2n : Int) →
                ∃ a66 : Addr, more2a = some a66 ∧
                0 ≤ (i61 : Int) ∧ (i61 : Int) < (more2n : Int) ∧
                ∃ (Kind68 : Int), ww64.cell? ((a66.add (Int.toNat i61 * 5)).add 0) = some (.int .i64 Kind68) ∧
                (Kind68 = 3 →
                  0 ≤ (i61 : Int) ∧ (i61 : Int) < (more2n : Int) ∧
                  ∃ (N71 : Int), ww64.cell? ((a66.add (Int.toNat i61 * 5)).add 1) = some (.int .i64 N71) ∧
                  Calls Try.prog 14 #[.pointer new22, .int .i64 N71] ww64 fun ee73 ww74 => ∃ (arm72 : Int), ee73 = .returned (.int .i64 arm72) ∧
                  0 ≤ (i61 : Int) ∧ (i61 : Int) < (more2n : Int) ∧
                  ∃ (Kind76 : Int), ww74.cell? ((a66.add (Int.toNat i61 * 5)).add 0) = some (.int .i64 Kind76) ∧
                  (Kind76 = 0 →
                    0 ≤ (i61 : Int) ∧ (i61 : Int) < (more2n : Int) ∧
                    ∃ (N79 : Int), ww74.cell? ((a66.add (Int.toNat i61 * 5)).add 1) = some (.int .i64 N79) ∧
                    (N79 ≥ 0 →
                      0 ≤ (i61 : Int) ∧ (i61 : Int) < (more2n : Int) ∧
                      ∃ (N82 : Int), ww74.cell? ((a66.add (Int.toNat i61 * 5)).add 1) = some (.int .i64 N82) ∧
                      (N82 < 6 →
                        0 ≤ (i61 : Int) ∧ (i61 : Int) < (more2n : Int) ∧
                        ∃ (N85 : Int), ww74.cell? ((a66.add (Int.toNat i61 * 5)).add 1) = some (.int .i64 N85) ∧
                        0 ≤ (N85 : Int) ∧ (N85 : Int) < (6 : Int) ∧
                        canStore ww74 (((blk q60).add (Int.toNat N85 * 1)).add 0) ∧
                        thenW (ww74.setCell (((blk q60).add (Int.toNat N85 * 1)).add 0) (.bool true)) fun ww86 =>
                        0 ≤ (i61 : Int) ∧ (i61 : Int) < (more2n : Int) ∧
                        ∃ (N89 : Int), ww86.cell? ((a66.add (Int.toNat i61 * 5)).add 1) = some (.int .i64 N89) ∧
                        0 ≤ (i61 : Int) ∧ (i61 : Int) < (more2n : Int) ∧
                        ∃ (By91 : Int), ww86.cell? ((a66.add (Int.toNat i61 * 5)).add 2) = some (.int .u8 By91) ∧
                        0 ≤ (i61 : Int) ∧ (i61 : Int) < (more2n : Int) ∧
                        ∃ (Short93 : Bool), ww86.cell? ((a66.add (Int.toNat i61 * 5)).add 3) = some (.bool Short93) ∧
                        ∀ (ww87 : World), Ext no ww86 ww87 →
                        Calls Try.prog 11 #[.int .u8 By91, .bool Short93] ww87 fun ee95 ww96 => ∃ (sector94a : Option Addr) (sector94n : Nat) (sector94c : Nat), ee95 = .returned (.slice sector94a sector94n sector94c) ∧
                        ww96.cell? ((a66.add (Int.toNat i61 * 5)).add 1) = some (.int .i64 N89) ∧
                        Calls Try.prog 10 #[.pointer new22, .int .i64 N89, .slice sector94a sector94n sector94c] ww96 fun ee99 ww100 => ∃ (write98 : Int), ee99 = .returned (.int .i64 write98) ∧
                        (-9223372036854775808 : Int) ≤ (i61 + 1) ∧ (i61 + 1) < 9223372036854775808 ∧
                        ∃ m101, m101 < m63 ∧ I2 m101 [.int .i64 (i61 + 1)] ww100) ∧
                      ((6 : Int) ≤ N82 →
                        0 ≤ (i61 : Int) ∧ (i61 : Int) < (more2n : Int) ∧
                        ∃ (N104 : Int), ww74.cell? ((a66.add (Int.toNat i61 * 5)).add 1) = some (.int .i64 N104) ∧
                        0 ≤ (i61 : Int) ∧ (i61 : Int) < (more2n : Int) ∧
                        ∃ (By106 : Int), ww74.cell? ((a66.add (Int.toNat i61 * 5)).add 2) = some (.int .u8 By106) ∧
                        0 ≤ (i61 : Int) ∧ (i61 : Int) < (more2n : Int) ∧
                        ∃ (Short108 : Bool), ww74.cell? ((a66.add (Int.toNat i61 * 5)).add 3) = some (.bool Short108) ∧
                        ∀ (ww102 : World), Ext no ww74 ww102 →
                        Calls Try.prog 11 #[.int .u8 By106, .bool Short108] ww102 fun ee110 ww111 => ∃ (sector109a : Option Addr) (sector109n : Nat) (sector109c : Nat), ee110 = .returned (.slice sector109a sector109n sector109c) ∧
                        ww111.cell? ((a66.add (Int.toNat i61 * 5)).add 1) = some (.int .i64 N104) ∧
                        Calls Try.prog 10 #[.pointer new22, .int .i64 N104, .slice sector109a sector109n sector109c] ww111 fun ee114 ww115 => ∃ (write113 : Int), ee114 = .returned (.int .i64 write113) ∧
                        (-9223372036854775808 : Int) ≤ (i61 + 1) ∧ (i61 + 1) < 9223372036854775808 ∧
                        ∃ m116, m116 < m63 ∧ I2 m116 [.int .i64 (i61 + 1)] ww115)) ∧
                    (N79 < 0 →
                      0 ≤ (i61 : Int) ∧ (i61 : Int) < (more2n : Int) ∧
                      ∃ (N119 : Int), ww74.cell? ((a66.add (Int.toNat i61 * 5)).add 1) = some (.int .i64 N119) ∧
                      0 ≤ (i61 : Int) ∧ (i61 : Int) < (more2n : Int) ∧
                      ∃ (By121 : Int), ww74.cell? ((a66.add (Int.toNat i61 * 5)).add 2) = some (.int .u8 By121) ∧
                      0 ≤ (i61 : Int) ∧ (i61 : Int) < (more2n : Int) ∧
                      ∃ (Short123 : Bool), ww74.cell? ((a66.add (Int.toNat i61 * 5)).add 3) = some (.bool Short123) ∧
                      ∀ (ww117 : World), Ext no ww74 ww117 →
                      Calls Try.prog 11 #[.int .u8 By121, .bool Short123] ww117 fun ee125 ww126 => ∃ (sector124a : Option Addr) (sector124n : Nat) (sector124c : Nat), ee125 = .returned (.slice sector124a sector124n sector124c) ∧
                      ww126.cell? ((a66.add (Int.toNat i61 * 5)).add 1) = some (.int .i64 N119) ∧
                      Calls Try.prog 10 #[.pointer new22, .int .i64 N119, .slice sector124a sector124n sector124c] ww126 fun ee129 ww130 => ∃ (write128 : Int), ee129 = .returned (.int .i64 write128) ∧
                      (-9223372036854775808 : Int) ≤ (i61 + 1) ∧ (i61 + 1) < 9223372036854775808 ∧
                      ∃ m131, m131 < m63 ∧ I2 m131 [.int .i64 (i61 + 1)] ww130)) ∧
                  (Kind76 ≠ 0 →
                    (-9223372036854775808 : Int) ≤ (i61 + 1) ∧ (i61 + 1) < 9223372036854775808 ∧
                    ∃ m132, m132 < m63 ∧ I2 m132 [.int .i64 (i61 + 1)] ww74)) ∧
                (Kind68 ≠ 3 →
                  0 ≤ (i61 : Int) ∧ (i61 : Int) < (more2n : Int) ∧
                  ∃ (Kind134 : Int), ww64.cell? ((a66.add (Int.toNat i61 * 5)).add 0) = some (.int .i64 Kind134) ∧
                  (Kind134 = 0 →
                    0 ≤ (i61 : Int) ∧ (i61 : Int) < (more2n : Int) ∧
                    ∃ (N137 : Int), ww64.cell? ((a66.add (Int.toNat i61 * 5)).add 1) = some (.int .i64 N137) ∧
                    (N137 ≥ 0 →
                      0 ≤ (i61 : Int) ∧ (i61 : Int) < (more2n : Int) ∧
                      ∃ (N140 : Int), ww64.cell? ((a66.add (Int.toNat i61 * 5)).add 1) = some (.int .i64 N140) ∧
                      (N140 < 6 →
                        0 ≤ (i61 : Int) ∧ (i61 : Int) < (more2n : Int) ∧
                        ∃ (N143 : Int), ww64.cell? ((a66.add (Int.toNat i61 * 5)).add 1) = some (.int .i64 N143) ∧
                        0 ≤ (N143 : Int) ∧ (N143 : Int) < (6 : Int) ∧
                        canStore ww64 (((blk q60).add (Int.toNat N143 * 1)).add 0) ∧
                        thenW (ww64.setCell (((blk q60).add (Int.toNat N143 * 1)).add 0) (.bool true)) fun ww144 =>
                        0 ≤ (i61 : Int) ∧ (i61 : Int) < (more2n : Int) ∧
                        ∃ (N147 : Int), ww144.cell? ((a66.add (Int.toNat i61 * 5)).add 1) = some (.int .i64 N147) ∧
                        0 ≤ (i61 : Int) ∧ (i61 : Int) < (more2n : Int) ∧
                        ∃ (By149 : Int), ww144.cell? ((a66.add (Int.toNat i61 * 5)).add 2) = some (.int .u8 By149) ∧
                        0 ≤ (i61 : Int) ∧ (i61 : Int) < (more2n : Int) ∧
                        ∃ (Short151 : Bool), ww144.cell? ((a66.add (Int.toNat i61 * 5)).add 3) = some (.bool Short151) ∧
                        ∀ (ww145 : World), Ext no ww144 ww145 →
                        Calls Try.prog 11 #[.int .u8 By149, .bool Short151] ww145 fun ee153 ww154 => ∃ (sector152a : Option Addr) (sector152n : Nat) (sector152c : Nat), ee153 = .returned (.slice sector152a sector152n sector152c) ∧
                        ww154.cell? ((a66.add (Int.toNat i61 * 5)).add 1) = some (.int .i64 N147) ∧
                        Calls Try.prog 10 #[.pointer new22, .int .i64 N147, .slice sector152a sector152n sector152c] ww154 fun ee157 ww158 => ∃ (write156 : Int), ee157 = .returned (.int .i64 write156) ∧
                        (-9223372036854775808 : Int) ≤ (i61 + 1) ∧ (i61 + 1) < 9223372036854775808 ∧
                        ∃ m159, m159 < m63 ∧ I2 m159 [.int .i64 (i61 + 1)] ww158) ∧
                      ((6 : Int) ≤ N140 →
                        0 ≤ (i61 : Int) ∧ (i61 : Int) < (more2n : Int) ∧
                        ∃ (N162 : Int), ww64.cell? ((a66.add (Int.toNat i61 * 5)).add 1) = some (.int .i64 N162) ∧
                        0 ≤ (i61 : Int) ∧ (i61 : Int) < (more2n : Int) ∧
                        ∃ (By164 : Int), ww64.cell? ((a66.add (Int.toNat i61 * 5)).add 2) = some (.int .u8 By164) ∧
                        0 ≤ (i61 : Int) ∧ (i61 : Int) < (more2n : Int) ∧
                        ∃ (Short166 : Bool), ww64.cell? ((a66.add (Int.toNat i61 * 5)).add 3) = some (.bool Short166) ∧
                        ∀ (ww160 : World), Ext no ww64 ww160 →
                        Calls Try.prog 11 #[.int .u8 By164, .bool Short166] ww160 fun ee168 ww169 => ∃ (sector167a : Option Addr) (sector167n : Nat) (sector167c : Nat), ee168 = .returned (.slice sector167a sector167n sector167c) ∧
                        ww169.cell? ((a66.add (Int.toNat i61 * 5)).add 1) = some (.int .i64 N162) ∧
                        Calls Try.prog 10 #[.pointer new22, .int .i64 N162, .slice sector167a sector167n sector167c] ww169 fun ee172 ww173 => ∃ (write171 : Int), ee172 = .returned (.int .i64 write171) ∧
                        (-9223372036854775808 : Int) ≤ (i61 + 1) ∧ (i61 + 1) < 9223372036854775808 ∧
                        ∃ m174, m174 < m63 ∧ I2 m174 [.int .i64 (i61 + 1)] ww173)) ∧
                    (N137 < 0 →
                      0 ≤ (i61 : Int) ∧ (i61 : Int) < (more2n : Int) ∧
                      ∃ (N177 : Int), ww64.cell? ((a66.add (Int.toNat i61 * 5)).add 1) = some (.int .i64 N177) ∧
                      0 ≤ (i61 : Int) ∧ (i61 : Int) < (more2n : Int) ∧
                      ∃ (By179 : Int), ww64.cell? ((a66.add (Int.toNat i61 * 5)).add 2) = some (.int .u8 By179) ∧
                      0 ≤ (i61 : Int) ∧ (i61 : Int) < (more2n : Int) ∧
                      ∃ (Short181 : Bool), ww64.cell? ((a66.add (Int.toNat i61 * 5)).add 3) = some (.bool Short181) ∧
                      ∀ (ww175 : World), Ext no ww64 ww175 →
                      Calls Try.prog 11 #[.int .u8 By179, .bool Short181] ww175 fun ee183 ww184 => ∃ (sector182a : Option Addr) (sector182n : Nat) (sector182c : Nat), ee183 = .returned (.slice sector182a sector182n sector182c) ∧
                      ww184.cell? ((a66.add (Int.toNat i61 * 5)).add 1) = some (.int .i64 N177) ∧
                      Calls Try.prog 10 #[.pointer new22, .int .i64 N177, .slice sector182a sector182n sector182c] ww184 fun ee187 ww188 => ∃ (write186 : Int), ee187 = .returned (.int .i64 write186) ∧
                      (-9223372036854775808 : Int) ≤ (i61 + 1) ∧ (i61 + 1) < 9223372036854775808 ∧
                      ∃ m189, m189 < m63 ∧ I2 m189 [.int .i64 (i61 + 1)] ww188)) ∧
                  (Kind134 ≠ 0 →
                    (-9223372036854775808 : Int) ≤ (i61 + 1) ∧ (i61 + 1) < 9223372036854775808 ∧
                    ∃ m190, m190 < m63 ∧ I2 m190 [.int .i64 (i61 + 1)] ww64))) ∧
              ((more2n : Int) ≤ i61 →
                Calls Try.prog 15 #[.pointer new22, .slice keep3a keep3n keep3c] ww64 fun ee192 ww193 => ∃ (restart191 : Int), ee192 = .returned (.int .i64 restart191) ∧
                ∃ (I4 : Nat → List Value → World → Prop) (m195 : Nat), I4 m195 [.int .i64 0] ww193 ∧ ∀ (m196 : Nat) (ww197 : World) (i194 : Int), I4 m196 [.int .i64 i194] ww197 →
                (i194 < 6 →
                  Calls Try.prog 16 #[.pointer copy56, .int .i64 i194] ww197 fun ee201 ww202 => ∃ (read199a : Option Addr) (read199n : Nat) (read199c : Nat) (read200 : Int), ee201 = .returned (.tuple #[.slice read199a read199n read199c, .int .i64 read200]) ∧
                  Calls Try.prog 16 #[.pointer new22, .int .i64 i194] ww202 fun ee205 ww206 => ∃ (read203a : Option Addr) (read203n : Nat) (read203c : Nat) (read204 : Int), ee205 = .returned (.tuple #[.slice read203a read203n read203c, .int .i64 read204]) ∧
                  0 ≤ (i194 : Int) ∧ (i194 : Int) < (6 : Int) ∧
                  ∃ (x208 : Bool), ww206.cell? ((blk q60).add (Int.toNat i194 * 1)) = some (.bool x208) ∧
                  (x208 = false →
                    (read200 ≠ read204 →
                      R (.bool false) ww206) ∧
                    (read200 = read204 →
                      Calls Try.prog 17 #[.slice read199a read199n read199c, .slice read203a read203n read203c] ww206 fun ee212 ww213 => ∃ (same211 : Bool), ee212 = .returned (.bool same211) ∧
                      (same211 = false →
                        R (.bool false) ww213) ∧
                      (same211 = true →
                        (-9223372036854775808 : Int) ≤ (i194 + 1) ∧ (i194 + 1) < 9223372036854775808 ∧
                        ∃ m215, m215 < m196 ∧ I4 m215 [.int .i64 (i194 + 1)] ww213))) ∧
                  (x208 = true →
                    (-9223372036854775808 : Int) ≤ (i194 + 1) ∧ (i194 + 1) < 9223372036854775808 ∧
                    ∃ m216, m216 < m196 ∧ I4 m216 [.int .i64 (i194 + 1)] ww206)) ∧
                ((6 : Int) ≤ i194 →
                  Calls Try.prog 18 #[.pointer new22] ww197 fun ee218 ww219 => ∃ (down217 : Bool), ee218 = .returned (.bool down217) ∧
                  (down217 = false →
                    Calls Try.prog 19 #[.pointer new22] ww219 fun ee222 ww223 => ∃ (pending221 : Int), ee222 = .returned (.int .i64 pending221) ∧
                    (pending221 = 0 →
                      Calls Try.prog 8 #[] ww223 fun ee226 ww227 => ∃ (alive225 : Bool), ee226 = .returned (.bool alive225) ∧
                      R (.bool alive225) ww227) ∧
                    (pending221 ≠ 0 →
                      R (.bool false) ww223)) ∧
                  (down217 = true →
                    R (.bool false) ww219)))))))))

theorem cachettelaw09_DiskSafe.up (l1a : Option Addr) (l1n : Nat) (l1c : Nat) (more2a : Option Addr) (more2n : Nat) (more2c : Nat) (keep3a : Option Addr) (keep3n : Nat) (keep3c : Nat) {R : Value → World → Prop} {w : World} (h : cachettelaw09_DiskSafe.N l1a l1n l1c more2a more2n more2c keep3a keep3n keep3c R w) : cachettelaw09_DiskSafe.M l1a l1n l1c more2a more2n more2c keep3a keep3n keep3c R w := by
  unfold cachettelaw09_DiskSafe.M
  unfold cachettelaw09_DiskSafe.N at h
  refine h.mono fun ee5 ww6 h => ?_
  obtain ⟨light4, he, h⟩ := h
  refine ⟨light4, he, ?_⟩
  refine bif_of (fun c7 => ?_) (fun c7 => ?_)
  · have h := h.1 (not_t c7)
    refine h.mono fun ee9 ww10 h => ?_
    obtain ⟨alive8, he, h⟩ := h
    refine ⟨alive8, he, ?_⟩
    exact h
  · have h := h.2 (not_f c7)
    refine h.mono fun ee12 ww13 h => ?_
    obtain ⟨light11, he, h⟩ := h
    refine ⟨light11, he, ?_⟩
    refine bif_of (fun c14 => ?_) (fun c14 => ?_)
    · have h := h.1 (not_t c14)
      refine h.mono fun ee16 ww17 h => ?_
      obtain ⟨alive15, he, h⟩ := h
      refine ⟨alive15, he, ?_⟩
      exact h
    · have h := h.2 (not_f c14)
      refine bif_of (fun c18 => ?_) (fun c18 => ?_)
      · have h := h.1 (of_decide_eq_true c18)
        refine h.mono fun ee20 ww21 h => ?_
        obtain ⟨alive19, he, h⟩ := h
        refine ⟨alive19, he, ?_⟩
        exact h
      · have h := h.2 (Int.not_lt.1 (of_decide_eq_false c18))
        refine h.mono fun ee24 ww25 h => ?_
        obtain ⟨new22, new23, he, h⟩ := h
        refine ⟨new22, new23, he, ?_⟩
        refine bif_of (fun c26 => ?_) (fun c26 => ?_)
        · have h := h.1 (bne_t c26)
          exact h
        · have h := h.2 (bne_f c26)
          obtain ⟨I0, m28, h0, h⟩ := h
          refine ⟨I0, m28, h0, fun m29 ww30 i27 hI => ?_⟩
          have h := h m29 ww30 i27 hI
          refine bif_of (fun c31 => ?_) (fun c31 => ?_)
          · have h := h.1 (of_decide_eq_true c31)
            obtain ⟨a32, ha32, h⟩ := h
            refine elim_some ha32 ?_
            obtain ⟨hq1, hq2, h⟩ := h
            refine ⟨hq1, hq2, ?_⟩
            obtain ⟨Kind34, hc33, h⟩ := h
            refine ⟨Kind34, hc33, ?_⟩
            refine bif_of (fun c35 => ?_) (fun c35 => ?_)
            · have h := h.1 (beq_t c35)
              refine thenW_in fun ww36 e36 => ?_
              have hx36 := (Ext.refl no ww30).x_drew e36
              refine elim_some ha32 ?_
              obtain ⟨hq1, hq2, h⟩ := h
              refine ⟨hq1, hq2, ?_⟩
              obtain ⟨N38, hc37, h⟩ := h
              refine ⟨N38, (hx36).cell hc37 id, ?_⟩
              refine elim_some ha32 ?_
              obtain ⟨hq1, hq2, h⟩ := h
              refine ⟨hq1, hq2, ?_⟩
              obtain ⟨By40, hc39, h⟩ := h
              refine ⟨By40, (hx36).cell hc39 id, ?_⟩
              refine elim_some ha32 ?_
              obtain ⟨hq1, hq2, h⟩ := h
              refine ⟨hq1, hq2, ?_⟩
              obtain ⟨Short42, hc41, h⟩ := h
              refine ⟨Short42, (hx36).cell hc41 id, ?_⟩
              have h := h ww36 hx36
              refine h.mono fun ee44 ww45 h => ?_
              obtain ⟨sector43a, sector43n, sector43c, he, h⟩ := h
              refine ⟨sector43a, sector43n, sector43c, he, ?_⟩
              obtain ⟨ho46, h⟩ := h
              refine ⟨ho46, ?_⟩
              refine h.mono fun ee48 ww49 h => ?_
              obtain ⟨write47, he, h⟩ := h
              refine ⟨write47, he, ?_⟩
              obtain ⟨hw1, hw2, h⟩ := h
              try rw [w64 hw1 hw2]
              obtain ⟨m50, hk, h⟩ := h
              exact ⟨m50, hk, h⟩
            · have h := h.2 (beq_f c35)
              obtain ⟨hw1, hw2, h⟩ := h
              try rw [w64 hw1 hw2]
              obtain ⟨m51, hk, h⟩ := h
              exact ⟨m51, hk, h⟩
          · have h := h.2 (Int.not_lt.1 (of_decide_eq_false c31))
            refine h.mono fun ee53 ww54 h => ?_
            obtain ⟨sync52, he, h⟩ := h
            refine ⟨sync52, he, ?_⟩
            refine bif_of (fun c55 => ?_) (fun c55 => ?_)
            · have h := h.1 (bne_t c55)
              exact h
            · have h := h.2 (bne_f c55)
              refine h.mono fun ee57 ww58 h => ?_
              obtain ⟨copy56, he, h⟩ := h
              refine ⟨copy56, he, ?_⟩
              refine thenW_in fun ww59 e59 => ?_
              have h := h ww59 ww58.heap.size ((Ext.refl no ww58).x_alloc e59) (Blk.of_new e59) ((Ext.refl no ww58)).size (size_lt_alloc e59)
              obtain ⟨I2, m62, h0, h⟩ := h
              refine ⟨I2, m62, h0, fun m63 ww64 i61 hI => ?_⟩
              have h := h m63 ww64 i61 hI
              refine bif_of (fun c65 => ?_) (fun c65 => ?_)
              · have h := h.1 (of_decide_eq_true c65)
                obtain ⟨a66, ha66, h⟩ := h
                refine elim_some ha66 ?_
                obtain ⟨hq1, hq2, h⟩ := h
                refine ⟨hq1, hq2, ?_⟩
                obtain ⟨Kind68, hc67, h⟩ := h
                refine ⟨Kind68, hc67, ?_⟩
                refine bif_of (fun c69 => ?_) (fun c69 => ?_)
                · have h := h.1 (beq_t c69)
                  refine elim_some ha66 ?_
                  obtain ⟨hq1, hq2, h⟩ := h
                  refine ⟨hq1, hq2, ?_⟩
                  obtain ⟨N71, hc70, h⟩ := h
                  refine ⟨N71, hc70, ?_⟩
                  refine h.mono fun ee73 ww74 h => ?_
                  obtain ⟨arm72, he, h⟩ := h
                  refine ⟨arm72, he, ?_⟩
                  refine elim_some ha66 ?_
                  obtain ⟨hq1, hq2, h⟩ := h
                  refine ⟨hq1, hq2, ?_⟩
                  obtain ⟨Kind76, hc75, h⟩ := h
                  refine ⟨Kind76, hc75, ?_⟩
                  refine bif_of (fun c77 => ?_) (fun c77 => ?_)
                  · have h := h.1 (beq_t c77)
                    refine elim_some ha66 ?_
                    obtain ⟨hq1, hq2, h⟩ := h
                    refine ⟨hq1, hq2, ?_⟩
                    obtain ⟨N79, hc78, h⟩ := h
                    refine ⟨N79, hc78, ?_⟩
                    refine bif_of (fun c80 => ?_) (fun c80 => ?_)
                    · have h := h.1 (of_decide_eq_true c80)
                      refine elim_some ha66 ?_
                      obtain ⟨hq1, hq2, h⟩ := h
                      refine ⟨hq1, hq2, ?_⟩
                      obtain ⟨N82, hc81, h⟩ := h
                      refine ⟨N82, hc81, ?_⟩
                      refine bif_of (fun c83 => ?_) (fun c83 => ?_)
                      · have h := h.1 (of_decide_eq_true c83)
                        refine elim_some ha66 ?_
                        obtain ⟨hq1, hq2, h⟩ := h
                        refine ⟨hq1, hq2, ?_⟩
                        obtain ⟨N85, hc84, h⟩ := h
                        refine ⟨N85, hc84, ?_⟩
                        obtain ⟨hq1, hq2, h⟩ := h
                        refine ⟨hq1, hq2, ?_⟩
                        obtain ⟨hcs, h⟩ := h
                        refine ⟨hcs, thenW_in fun ww86 e86 => ?_⟩
                        replace h := thenW_out h e86
                        refine thenW_in fun ww87 e87 => ?_
                        have hx87 := (Ext.refl no ww86).x_drew e87
                        refine elim_some ha66 ?_
                        obtain ⟨hq1, hq2, h⟩ := h
                        refine ⟨hq1, hq2, ?_⟩
                        obtain ⟨N89, hc88, h⟩ := h
                        refine ⟨N89, (hx87).cell hc88 id, ?_⟩
                        refine elim_some ha66 ?_
                        obtain ⟨hq1, hq2, h⟩ := h
                        refine ⟨hq1, hq2, ?_⟩
                        obtain ⟨By91, hc90, h⟩ := h
                        refine ⟨By91, (hx87).cell hc90 id, ?_⟩
                        refine elim_some ha66 ?_
                        obtain ⟨hq1, hq2, h⟩ := h
                        refine ⟨hq1, hq2, ?_⟩
                        obtain ⟨Short93, hc92, h⟩ := h
                        refine ⟨Short93, (hx87).cell hc92 id, ?_⟩
                        have h := h ww87 hx87
                        refine h.mono fun ee95 ww96 h => ?_
                        obtain ⟨sector94a, sector94n, sector94c, he, h⟩ := h
                        refine ⟨sector94a, sector94n, sector94c, he, ?_⟩
                        obtain ⟨ho97, h⟩ := h
                        refine ⟨ho97, ?_⟩
                        refine h.mono fun ee99 ww100 h => ?_
                        obtain ⟨write98, he, h⟩ := h
                        refine ⟨write98, he, ?_⟩
                        obtain ⟨hw1, hw2, h⟩ := h
                        try rw [w64 hw1 hw2]
                        obtain ⟨m101, hk, h⟩ := h
                        exact ⟨m101, hk, h⟩
                      · have h := h.2 (Int.not_lt.1 (of_decide_eq_false c83))
                        refine thenW_in fun ww102 e102 => ?_
                        have hx102 := (Ext.refl no ww74).x_drew e102
                        refine elim_some ha66 ?_
                        obtain ⟨hq1, hq2, h⟩ := h
                        refine ⟨hq1, hq2, ?_⟩
                        obtain ⟨N104, hc103, h⟩ := h
                        refine ⟨N104, (hx102).cell hc103 id, ?_⟩
                        refine elim_some ha66 ?_
                        obtain ⟨hq1, hq2, h⟩ := h
                        refine ⟨hq1, hq2, ?_⟩
                        obtain ⟨By106, hc105, h⟩ := h
                        refine ⟨By106, (hx102).cell hc105 id, ?_⟩
                        refine elim_some ha66 ?_
                        obtain ⟨hq1, hq2, h⟩ := h
                        refine ⟨hq1, hq2, ?_⟩
                        obtain ⟨Short108, hc107, h⟩ := h
                        refine ⟨Short108, (hx102).cell hc107 id, ?_⟩
                        have h := h ww102 hx102
                        refine h.mono fun ee110 ww111 h => ?_
                        obtain ⟨sector109a, sector109n, sector109c, he, h⟩ := h
                        refine ⟨sector109a, sector109n, sector109c, he, ?_⟩
                        obtain ⟨ho112, h⟩ := h
                        refine ⟨ho112, ?_⟩
                        refine h.mono fun ee114 ww115 h => ?_
                        obtain ⟨write113, he, h⟩ := h
                        refine ⟨write113, he, ?_⟩
                        obtain ⟨hw1, hw2, h⟩ := h
                        try rw [w64 hw1 hw2]
                        obtain ⟨m116, hk, h⟩ := h
                        exact ⟨m116, hk, h⟩
                    · have h := h.2 (Int.not_le.1 (of_decide_eq_false c80))
                      refine thenW_in fun ww117 e117 => ?_
                      have hx117 := (Ext.refl no ww74).x_drew e117
                      refine elim_some ha66 ?_
                      obtain ⟨hq1, hq2, h⟩ := h
                      refine ⟨hq1, hq2, ?_⟩
                      obtain ⟨N119, hc118, h⟩ := h
                      refine ⟨N119, (hx117).cell hc118 id, ?_⟩
                      refine elim_some ha66 ?_
                      obtain ⟨hq1, hq2, h⟩ := h
                      refine ⟨hq1, hq2, ?_⟩
                      obtain ⟨By121, hc120, h⟩ := h
                      refine ⟨By121, (hx117).cell hc120 id, ?_⟩
                      refine elim_some ha66 ?_
                      obtain ⟨hq1, hq2, h⟩ := h
                      refine ⟨hq1, hq2, ?_⟩
                      obtain ⟨Short123, hc122, h⟩ := h
                      refine ⟨Short123, (hx117).cell hc122 id, ?_⟩
                      have h := h ww117 hx117
                      refine h.mono fun ee125 ww126 h => ?_
                      obtain ⟨sector124a, sector124n, sector124c, he, h⟩ := h
                      refine ⟨sector124a, sector124n, sector124c, he, ?_⟩
                      obtain ⟨ho127, h⟩ := h
                      refine ⟨ho127, ?_⟩
                      refine h.mono fun ee129 ww130 h => ?_
                      obtain ⟨write128, he, h⟩ := h
                      refine ⟨write128, he, ?_⟩
                      obtain ⟨hw1, hw2, h⟩ := h
                      try rw [w64 hw1 hw2]
                      obtain ⟨m131, hk, h⟩ := h
                      exact ⟨m131, hk, h⟩
                  · have h := h.2 (beq_f c77)
                    obtain ⟨hw1, hw2, h⟩ := h
                    try rw [w64 hw1 hw2]
                    obtain ⟨m132, hk, h⟩ := h
                    exact ⟨m132, hk, h⟩
                · have h := h.2 (beq_f c69)
                  refine elim_some ha66 ?_
                  obtain ⟨hq1, hq2, h⟩ := h
                  refine ⟨hq1, hq2, ?_⟩
                  obtain ⟨Kind134, hc133, h⟩ := h
                  refine ⟨Kind134, hc133, ?_⟩
                  refine bif_of (fun c135 => ?_) (fun c135 => ?_)
                  · have h := h.1 (beq_t c135)
                    refine elim_some ha66 ?_
                    obtain ⟨hq1, hq2, h⟩ := h
                    refine ⟨hq1, hq2, ?_⟩
                    obtain ⟨N137, hc136, h⟩ := h
                    refine ⟨N137, hc136, ?_⟩
                    refine bif_of (fun c138 => ?_) (fun c138 => ?_)
                    · have h := h.1 (of_decide_eq_true c138)
                      refine elim_some ha66 ?_
                      obtain ⟨hq1, hq2, h⟩ := h
                      refine ⟨hq1, hq2, ?_⟩
                      obtain ⟨N140, hc139, h⟩ := h
                      refine ⟨N140, hc139, ?_⟩
                      refine bif_of (fun c141 => ?_) (fun c141 => ?_)
                      · have h := h.1 (of_decide_eq_true c141)
                        refine elim_some ha66 ?_
                        obtain ⟨hq1, hq2, h⟩ := h
                        refine ⟨hq1, hq2, ?_⟩
                        obtain ⟨N143, hc142, h⟩ := h
                        refine ⟨N143, hc142, ?_⟩
                        obtain ⟨hq1, hq2, h⟩ := h
                        refine ⟨hq1, hq2, ?_⟩
                        obtain ⟨hcs, h⟩ := h
                        refine ⟨hcs, thenW_in fun ww144 e144 => ?_⟩
                        replace h := thenW_out h e144
                        refine thenW_in fun ww145 e145 => ?_
                        have hx145 := (Ext.refl no ww144).x_drew e145
                        refine elim_some ha66 ?_
                        obtain ⟨hq1, hq2, h⟩ := h
                        refine ⟨hq1, hq2, ?_⟩
                        obtain ⟨N147, hc146, h⟩ := h
                        refine ⟨N147, (hx145).cell hc146 id, ?_⟩
                        refine elim_some ha66 ?_
                        obtain ⟨hq1, hq2, h⟩ := h
                        refine ⟨hq1, hq2, ?_⟩
                        obtain ⟨By149, hc148, h⟩ := h
                        refine ⟨By149, (hx145).cell hc148 id, ?_⟩
                        refine elim_some ha66 ?_
                        obtain ⟨hq1, hq2, h⟩ := h
                        refine ⟨hq1, hq2, ?_⟩
                        obtain ⟨Short151, hc150, h⟩ := h
                        refine ⟨Short151, (hx145).cell hc150 id, ?_⟩
                        have h := h ww145 hx145
                        refine h.mono fun ee153 ww154 h => ?_
                        obtain ⟨sector152a, sector152n, sector152c, he, h⟩ := h
                        refine ⟨sector152a, sector152n, sector152c, he, ?_⟩
                        obtain ⟨ho155, h⟩ := h
                        refine ⟨ho155, ?_⟩
                        refine h.mono fun ee157 ww158 h => ?_
                        obtain ⟨write156, he, h⟩ := h
                        refine ⟨write156, he, ?_⟩
                        obtain ⟨hw1, hw2, h⟩ := h
                        try rw [w64 hw1 hw2]
                        obtain ⟨m159, hk, h⟩ := h
                        exact ⟨m159, hk, h⟩
                      · have h := h.2 (Int.not_lt.1 (of_decide_eq_false c141))
                        refine thenW_in fun ww160 e160 => ?_
                        have hx160 := (Ext.refl no ww64).x_drew e160
                        refine elim_some ha66 ?_
                        obtain ⟨hq1, hq2, h⟩ := h
                        refine ⟨hq1, hq2, ?_⟩
                        obtain ⟨N162, hc161, h⟩ := h
                        refine ⟨N162, (hx160).cell hc161 id, ?_⟩
                        refine elim_some ha66 ?_
                        obtain ⟨hq1, hq2, h⟩ := h
                        refine ⟨hq1, hq2, ?_⟩
                        obtain ⟨By164, hc163, h⟩ := h
                        refine ⟨By164, (hx160).cell hc163 id, ?_⟩
                        refine elim_some ha66 ?_
                        obtain ⟨hq1, hq2, h⟩ := h
                        refine ⟨hq1, hq2, ?_⟩
                        obtain ⟨Short166, hc165, h⟩ := h
                        refine ⟨Short166, (hx160).cell hc165 id, ?_⟩
                        have h := h ww160 hx160
                        refine h.mono fun ee168 ww169 h => ?_
                        obtain ⟨sector167a, sector167n, sector167c, he, h⟩ := h
                        refine ⟨sector167a, sector167n, sector167c, he, ?_⟩
                        obtain ⟨ho170, h⟩ := h
                        refine ⟨ho170, ?_⟩
                        refine h.mono fun ee172 ww173 h => ?_
                        obtain ⟨write171, he, h⟩ := h
                        refine ⟨write171, he, ?_⟩
                        obtain ⟨hw1, hw2, h⟩ := h
                        try rw [w64 hw1 hw2]
                        obtain ⟨m174, hk, h⟩ := h
                        exact ⟨m174, hk, h⟩
                    · have h := h.2 (Int.not_le.1 (of_decide_eq_false c138))
                      refine thenW_in fun ww175 e175 => ?_
                      have hx175 := (Ext.refl no ww64).x_drew e175
                      refine elim_some ha66 ?_
                      obtain ⟨hq1, hq2, h⟩ := h
                      refine ⟨hq1, hq2, ?_⟩
                      obtain ⟨N177, hc176, h⟩ := h
                      refine ⟨N177, (hx175).cell hc176 id, ?_⟩
                      refine elim_some ha66 ?_
                      obtain ⟨hq1, hq2, h⟩ := h
                      refine ⟨hq1, hq2, ?_⟩
                      obtain ⟨By179, hc178, h⟩ := h
                      refine ⟨By179, (hx175).cell hc178 id, ?_⟩
                      refine elim_some ha66 ?_
                      obtain ⟨hq1, hq2, h⟩ := h
                      refine ⟨hq1, hq2, ?_⟩
                      obtain ⟨Short181, hc180, h⟩ := h
                      refine ⟨Short181, (hx175).cell hc180 id, ?_⟩
                      have h := h ww175 hx175
                      refine h.mono fun ee183 ww184 h => ?_
                      obtain ⟨sector182a, sector182n, sector182c, he, h⟩ := h
                      refine ⟨sector182a, sector182n, sector182c, he, ?_⟩
                      obtain ⟨ho185, h⟩ := h
                      refine ⟨ho185, ?_⟩
                      refine h.mono fun ee187 ww188 h => ?_
                      obtain ⟨write186, he, h⟩ := h
                      refine ⟨write186, he, ?_⟩
                      obtain ⟨hw1, hw2, h⟩ := h
                      try rw [w64 hw1 hw2]
                      obtain ⟨m189, hk, h⟩ := h
                      exact ⟨m189, hk, h⟩
                  · have h := h.2 (beq_f c135)
                    obtain ⟨hw1, hw2, h⟩ := h
                    try rw [w64 hw1 hw2]
                    obtain ⟨m190, hk, h⟩ := h
                    exact ⟨m190, hk, h⟩
              · have h := h.2 (Int.not_lt.1 (of_decide_eq_false c65))
                refine h.mono fun ee192 ww193 h => ?_
                obtain ⟨restart191, he, h⟩ := h
                refine ⟨restart191, he, ?_⟩
                obtain ⟨I4, m195, h0, h⟩ := h
                refine ⟨I4, m195, h0, fun m196 ww197 i194 hI => ?_⟩
                have h := h m196 ww197 i194 hI
                refine bif_of (fun c198 => ?_) (fun c198 => ?_)
                · have h := h.1 (of_decide_eq_true c198)
                  refine h.mono fun ee201 ww202 h => ?_
                  obtain ⟨read199a, read199n, read199c, read200, he, h⟩ := h
                  refine ⟨read199a, read199n, read199c, read200, he, ?_⟩
                  refine h.mono fun ee205 ww206 h => ?_
                  obtain ⟨read203a, read203n, read203c, read204, he, h⟩ := h
                  refine ⟨read203a, read203n, read203c, read204, he, ?_⟩
                  obtain ⟨hq1, hq2, h⟩ := h
                  refine ⟨hq1, hq2, ?_⟩
                  obtain ⟨x208, hc207, h⟩ := h
                  refine ⟨x208, hc207, ?_⟩
                  refine bif_of (fun c209 => ?_) (fun c209 => ?_)
                  · have h := h.1 (not_t c209)
                    refine bif_of (fun c210 => ?_) (fun c210 => ?_)
                    · have h := h.1 (bne_t c210)
                      exact h
                    · have h := h.2 (bne_f c210)
                      refine h.mono fun ee212 ww213 h => ?_
                      obtain ⟨same211, he, h⟩ := h
                      refine ⟨same211, he, ?_⟩
                      refine bif_of (fun c214 => ?_) (fun c214 => ?_)
                      · have h := h.1 (not_t c214)
                        exact h
                      · have h := h.2 (not_f c214)
                        obtain ⟨hw1, hw2, h⟩ := h
                        try rw [w64 hw1 hw2]
                        obtain ⟨m215, hk, h⟩ := h
                        exact ⟨m215, hk, h⟩
                  · have h := h.2 (not_f c209)
                    obtain ⟨hw1, hw2, h⟩ := h
                    try rw [w64 hw1 hw2]
                    obtain ⟨m216, hk, h⟩ := h
                    exact ⟨m216, hk, h⟩
                · have h := h.2 (Int.not_lt.1 (of_decide_eq_false c198))
                  refine h.mono fun ee218 ww219 h => ?_
                  obtain ⟨down217, he, h⟩ := h
                  refine ⟨down217, he, ?_⟩
                  refine bif_of (fun c220 => ?_) (fun c220 => ?_)
                  · have h := h.1 (not_t c220)
                    refine h.mono fun ee222 ww223 h => ?_
                    obtain ⟨pending221, he, h⟩ := h
                    refine ⟨pending221, he, ?_⟩
                    refine bif_of (fun c224 => ?_) (fun c224 => ?_)
                    · have h := h.1 (beq_t c224)
                      refine h.mono fun ee226 ww227 h => ?_
                      obtain ⟨alive225, he, h⟩ := h
                      refine ⟨alive225, he, ?_⟩
                      exact h
                    · have h := h.2 (beq_f c224)
                      exact h
                  · have h := h.2 (not_f c220)
                    exact h

theorem cachettelaw09_DiskSafe.go (l1a : Option Addr) (l1n : Nat) (l1c : Nat) (more2a : Option Addr) (more2n : Nat) (more2c : Nat) (keep3a : Option Addr) (keep3n : Nat) (keep3c : Nat) {R : Value → World → Prop} {w : World} (h : cachettelaw09_DiskSafe.N l1a l1n l1c more2a more2n more2c keep3a keep3n keep3c R w) : Calls Try.prog 3 #[.slice l1a l1n l1c, .slice more2a more2n more2c, .slice keep3a keep3n keep3c] w fun e w' => ∃ v, e = .returned v ∧ R v w' := cachettelaw09_DiskSafe.ok l1a l1n l1c more2a more2n more2c keep3a keep3n keep3c (cachettelaw09_DiskSafe.up l1a l1n l1c more2a more2n more2c keep3a keep3n keep3c h)
theorem cachettelaw09_DiskSafe.run (l1a : Option Addr) (l1n : Nat) (l1c : Nat) (more2a : Option Addr) (more2n : Nat) (more2c : Nat) (keep3a : Option Addr) (keep3n : Nat) (keep3c : Nat) {V : Value} {Q : World → Prop} {w : World} (h : cachettelaw09_DiskSafe.N l1a l1n l1c more2a more2n more2c keep3a keep3n keep3c (fun v w' => v = V ∧ Q w') w) : Calls Try.prog 3 #[.slice l1a l1n l1c, .slice more2a more2n more2c, .slice keep3a keep3n keep3c] w (Ret V Q) := (cachettelaw09_DiskSafe.go l1a l1n l1c more2a more2n more2c keep3a keep3n keep3c h).mono fun e w' ⟨v, he, hv, hq⟩ => ⟨by rw [he, hv], hq⟩

end Go.Proofs.Ytgelicciggjpaaa

/- copy onto a row of one's own; append(x, make(..)...) onto a row without room; slices.overlaps of two blocks. -/
set_option linter.unusedSimpArgs false
set_option linter.unusedVariables false
set_option linter.unusedSectionVars false
namespace Go.Mx
open Go
section
variable {P : Program} {w w' : World} {b o sz : Nat} {t e : TypeId} {cur cs : List Value}
theorem setCells_setAll : ∀ {cs cur : List Value} {o : Nat} {w : World}, Blk w b t cur → o + cs.length ≤ cur.length → Blk (w.setCells b o cs) b t (setAll cur o cs) ∧ Ext (fun x => x = b) w (w.setCells b o cs)
  | [], cur, o, w, hb, _ => ⟨hb, Ext.refl _ _⟩
  | v :: r, cur, o, w, hb, hl => by
    simp only [List.length_cons] at hl
    have hb2 := hb.set o v
    have X := (Ext.refl (fun x => x = b) w).setCell (a := ⟨b, o, none⟩) (.inl rfl) v
    obtain ⟨h1, h2⟩ := setCells_setAll (cs := r) (o := o + 1) hb2 (by rw [List.length_set]; omega)
    exact ⟨h1, X.trans h2⟩
theorem run_copy_gen {dT sT ty elem : TypeId} {dLen dCap sLen sCap n : Nat} {a : Addr} {i : TypeInfo} (hu : P.underlying dT = some (.slice elem)) (hi : P.info? elem = some i) (hs : i.size = sz) (hm : Nat.min sLen dLen = n) (hn : cs.length = n * sz)
    (hsrc : ∀ j v, cs[j]? = some v → w.cell? (a.add j) = some v) (hb : Blk w b t cur) (hl : o + cs.length ≤ cur.length) (h1 : ∀ v ∈ cs, v.oneCell' = true) :
    (Builtin.copy_ #[dT, sT] ty #[.slice (some ⟨b, o, none⟩) dLen dCap, .slice (some a) sLen sCap]).run P w = .ok (goInt n) (w.setCells b o cs) := by
  have hfc := run_firstCells_some (P := P) w sz n a sLen sCap cs hn hsrc
  have hcan : ∀ j, j < cs.length → canStore w ⟨b, o + j, none⟩ := fun j hj => hb.can (v := cur[o + j]'(by omega)) (List.getElem?_eq_getElem (by omega))
  have hst := run_storeCells_cells (P := P) b o cs 0 w (fun j hj => by obtain ⟨⟨u, hu⟩, _⟩ := hcan j hj; simp [hu]) (fun j hj => by simpa using (hcan j hj).2) h1
  simp only [Nat.add_zero] at hst
  simp [Builtin.copy_, run_underlying hu, Builtin.lenOf, sizeOf, typeInfo, hi, hs, hm, hfc, hst]
theorem setAll_mid {u x y v : List Value} (h : v.length = x.length) : setAll (u ++ x ++ y) u.length v = u ++ v ++ y := by
  have := setAll_shift (vs := v) (u := u) (cs := x ++ y) (k := 0)
  rw [Nat.add_zero] at this
  rw [List.append_assoc, this, setAll_head h, List.append_assoc]
end
end Go.Mx

/- Disk: sectors and writes as lists; a disk in memory; what the small functions answer. -/
set_option linter.unusedVariables false
set_option linter.unusedSimpArgs false
set_option maxRecDepth 20000
set_option maxHeartbeats 4000000
namespace Go.Proofs.Ytgelicciggjpaaa
open Go Go.Mx Go.Proofs
open W (OwnB)
theorem inf61 : (Try.prog.info? 61).map (fun i => (i.zero, i.size, i.bytes)) = some (some (.agg (List.toArray (List.replicate 64 (.int .u8 0) ++ [.bool false]))), 65, 65) := by kernel_rfl
theorem inf63 : (Try.prog.info? 63).map (fun i => (i.zero, i.size, i.bytes)) = some (some (.agg (List.toArray ([.int .i64 0] ++ List.replicate 64 (.int .u8 0) ++ [.bool false]))), 66, 80) := by kernel_rfl
/-- a sector. -/
structure Sec where
  b : List UInt8
  torn : Bool
  h : b.length = 64
def Sec.C (s : Sec) : List Value := bytesV s.b ++ [.bool s.torn]
theorem bytesV_length (b : List UInt8) : (bytesV b).length = b.length := by unfold bytesV; simp
theorem Sec.len (s : Sec) : s.C.length = 65 := by unfold Sec.C; rw [List.length_append, bytesV_length, s.h]; rfl
def Sec.z : Sec := ⟨List.replicate 64 0, false, by simp⟩
/-- a write that is pending. -/
structure Wt where
  i : Int
  s : Sec
def Wt.C (x : Wt) : List Value := .int .i64 x.i :: x.s.C
theorem Wt.len (x : Wt) : x.C.length = 66 := by unfold Wt.C; rw [List.length_cons, x.s.len]
theorem bytesV_one {b : List UInt8} : ∀ u ∈ bytesV b, u.oneCell' = true := fun u hu => by
  unfold bytesV at hu
  obtain ⟨x, _, rfl⟩ := List.mem_map.1 hu
  rfl
theorem Sec.one (s : Sec) : ∀ u ∈ s.C, u.oneCell' = true := fun u hu => by
  rcases List.mem_append.1 hu with h | h
  · exact bytesV_one u h
  · simp at h; subst h; rfl
theorem Wt.one (x : Wt) : ∀ u ∈ x.C, u.oneCell' = true := fun u hu => by
  rcases List.mem_cons.1 hu with rfl | h
  · rfl
  · exact x.s.one u h
theorem sz65 : szB Try.prog 61 65 = true := by kernel_rfl
theorem sz66 : szB Try.prog 63 66 = true := by kernel_rfl
/-- a disk. -/
structure DS where
  good : List Sec
  pend : List Wt
  left : Int
  armed : Bool
  down : Bool
  count : Int
def stI (b : Bool) : Int := if b then 1 else 0
def DS.V (d : DS) (ga : Option Addr) (gc : Nat) (pa : Option Addr) (pc : Nat) : List Value := [.slice ga d.good.length gc, .slice pa d.pend.length pc, .int .i64 d.left, .bool d.armed, .int .i64 (stI d.down), .int .i64 d.count]
abbrev SRw (w : World) (o : Own) (g : Nat) (a : Option Addr) (c : Nat) (l : List Sec) : Prop := Grows 61 65 w o g a l.length c (l.flatMap Sec.C)
abbrev WRw (w : World) (o : Own) (g : Nat) (a : Option Addr) (c : Nat) (l : List Wt) : Prop := Grows 63 66 w o g a l.length c (l.flatMap Wt.C)
/-- a disk in memory, with all that is its own. -/
structure DG (w : World) (o : Own) (g : Nat) (d : DS) : Prop where
  mem : ∃ ga gc pa pc, Blk w g 58 (d.V ga gc pa pc) ∧ SRw w o g ga gc d.good ∧ WRw w o g pa pc d.pend
  tg : o g = some g
structure DS.ok (d : DS) (m : Nat) : Prop where
  n1 : 1 ≤ d.good.length
  n2 : d.good.length ≤ 400
  at_ : ∀ x ∈ d.pend, 0 ≤ x.i ∧ x.i < d.good.length
  pl : d.pend.length ≤ m
  cl : 0 ≤ d.count ∧ d.count ≤ m
  left : 0 ≤ d.left ∧ d.left < 9223372036854775808
def isD (d : DS) : Int := if d.down then 19 else 0
def hasD (d : DS) (i : Int) : Int := if d.down then 19 else if i < 0 ∨ (d.good.length : Int) ≤ i then 2 else 0
def lastP (i : Int) : Sec → List Wt → Sec
  | s, [] => s
  | s, x :: r => lastP i (if x.i = i then x.s else s) r
def readS (d : DS) (i : Int) : Sec := lastP i (d.good[i.toNat]?.getD Sec.z) d.pend
def readD (d : DS) (i : Int) : List UInt8 × Int := if hasD d i = 0 then (if (readS d i).torn then ([], 5) else ((readS d i).b, 0)) else ([], hasD d i)
def writeD (d : DS) (i : Int) (b : List UInt8) : DS × Int :=
  if hasD d i = 0 then
    (if h : b.length = 64 then
      (if d.armed then
        (if d.left = 0 then ({ d with pend := d.pend ++ [⟨i, ⟨b, true, h⟩⟩], down := true }, 19)
         else ({ d with pend := d.pend ++ [⟨i, ⟨b, false, h⟩⟩], left := d.left - 1, count := d.count + 1 }, 0))
       else ({ d with pend := d.pend ++ [⟨i, ⟨b, false, h⟩⟩], count := d.count + 1 }, 0))
     else (d, 1))
  else (d, hasD d i)
def settleL (k : Nat → Bool) : Nat → List Sec → List Wt → List Sec
  | _, g, [] => g
  | t, g, x :: r => settleL k (t + 1) (if k t then g.set x.i.toNat x.s else g) r
def settleD (d : DS) (k : Nat → Bool) : DS := { d with good := settleL k 0 d.good d.pend, pend := [] }
def syncD (d : DS) : DS × Int := if d.down then (d, 19) else (settleD d fun _ => true, 0)
def armD (d : DS) (n : Int) : DS × Int := if d.down then (d, 19) else if n < 0 then (d, 1) else ({ d with left := n, armed := true }, 0)
def keepF (l : List Bool) (t : Nat) : Bool := l[t]?.getD false
def restartD (d : DS) (l : List Bool) : DS := { settleD d (keepF l) with down := false, armed := false }
section
variable {K : Nat → Prop} {w w' w1 : World} {o o' o1 : Own} {g g2 : Nat} {d : DS} {i : Int}
theorem DG.step (h : DG w o g d) (s : Step K w o w' o') (hk : ¬ K g) : DG w' o' g d := by
  obtain ⟨⟨ga, gc, pa, pc, hb, hg, hp⟩, tg⟩ := h
  exact ⟨⟨ga, gc, pa, pc, s.blk hb tg hk, hg.step s hk, hp.step s hk⟩, by rw [s.own hb.lt]; exact tg⟩
theorem DG.lt (h : DG w o g d) : g < w.heap.size := by
  obtain ⟨⟨ga, gc, pa, pc, hb, hg, hp⟩, tg⟩ := h
  exact hb.lt
/-- the disk's numbers turned. -/
theorem DG.turn {ga pa : Option Addr} {gc pc : Nat} {d2 : DS} {cs0 : List Value} (hg : SRw w o g ga gc d2.good) (hp : WRw w o g pa pc d2.pend) (tg : o g = some g) (hb0 : Blk w g 58 cs0) (ok : Tags w o) (X : Ext (fun b => b = g) w w')
    (hb : Blk w' g 58 (d2.V ga gc pa pc)) : Step (fun j => j = g) w o w' (grow w o) ∧ DG w' (grow w o) g d2 := by
  have s : Step (fun j => j = g) w o w' (grow w o) := Step.of_ext X ok fun b hb _ => by subst hb; exact tg
  refine ⟨s, ⟨ga, gc, pa, pc, hb, ?_, ?_⟩, by rw [s.own hb0.lt]; exact tg⟩
  · exact hg.keep X (hg.ne hb0 (by decide)) fun b hb => s.own hb
  · exact hp.keep X (hp.ne hb0 (by decide)) fun b hb => s.own hb
theorem is_spec (h : DG w o g d) : Calls Try.prog 26 #[.pointer (some (blk g))] w (Ret (.int .i64 (isD d)) fun w' => w' = w) := by
  obtain ⟨⟨ga, gc, pa, pc, hb, hg, hp⟩, tg⟩ := h
  refine disk_Disk_is.run _ ?_
  unfold disk_Disk_is.N
  refine ⟨fun h => (by cases h), fun _ => ⟨_, rfl, stI d.down, hb.celli 4 rfl rfl, fun h => ⟨?_, rfl⟩, fun h => ⟨?_, rfl⟩⟩⟩
  all_goals unfold stI at h; unfold isD
  · cases hd : d.down
    · rw [hd] at h; cases h
    · rfl
  · cases hd : d.down
    · rfl
    · rw [hd] at h; exact absurd rfl h
theorem has_spec (h : DG w o g d) (i : Int) : Calls Try.prog 25 #[.pointer (some (blk g)), .int .i64 i] w (Ret (.int .i64 (hasD d i)) fun w' => w' = w) := by
  refine disk_Disk_has.run _ _ ?_
  unfold disk_Disk_has.N
  refine (is_spec h).mono fun e w5 ⟨he, hw⟩ => ⟨_, he, fun hn => ?_, fun h0 => ?_⟩
  · subst hw
    refine ⟨?_, rfl⟩
    unfold isD at hn ⊢; unfold hasD
    cases hd : d.down
    · rw [hd] at hn; exact absurd rfl hn
    · rfl
  · subst hw
    have hd : d.down = false := by
      unfold isD at h0
      cases hd : d.down
      · rfl
      · rw [hd] at h0; cases h0
    obtain ⟨⟨ga, gc, pa, pc, hb, hg, hp⟩, tg⟩ := h
    unfold hasD
    rw [hd]
    refine ⟨fun hi => ⟨?_, rfl⟩, fun hi => ⟨_, rfl, ga, _, gc, hb.celli 0 rfl rfl, fun hn => ⟨?_, rfl⟩, fun hn => ⟨?_, rfl⟩⟩⟩
    · rw [if_neg (by decide), if_pos (.inl hi)]
    · rw [if_neg (by decide), if_pos (.inr hn)]
    · rw [if_neg (by decide), if_neg (by omega)]
theorem Down_spec (h : DG w o g d) : Calls Try.prog 18 #[.pointer (some (blk g))] w (Ret (.bool d.down) fun w' => w' = w) := by
  obtain ⟨⟨ga, gc, pa, pc, hb, hg, hp⟩, tg⟩ := h
  refine disk_Disk_Down.run _ ?_
  unfold disk_Disk_Down.N
  refine ⟨fun _ => ⟨_, rfl, stI d.down, hb.celli 4 rfl rfl, ?_, rfl⟩, fun h => (by cases h)⟩
  unfold stI
  cases d.down <;> rfl
theorem Pending_spec (h : DG w o g d) : Calls Try.prog 19 #[.pointer (some (blk g))] w (Ret (.int .i64 d.pend.length) fun w' => w' = w) := by
  obtain ⟨⟨ga, gc, pa, pc, hb, hg, hp⟩, tg⟩ := h
  refine disk_Disk_Pending.run _ ?_
  unfold disk_Disk_Pending.N
  exact ⟨fun h => (by cases h), fun _ => ⟨_, rfl, pa, _, pc, hb.celli 1 rfl rfl, rfl, rfl⟩⟩
theorem Arm_spec (h : DG w o g d) (ok : Tags w o) (n : Int) : Calls Try.prog 14 #[.pointer (some (blk g)), .int .i64 n] w (Ret (.int .i64 (armD d n).2) fun w' => ∃ o', Step (fun j => j = g) w o w' o' ∧ DG w' o' g (armD d n).1) := by
  refine disk_Disk_Arm.run _ _ ?_
  unfold disk_Disk_Arm.N
  refine (is_spec h).mono fun e w5 ⟨he, hw⟩ => ⟨_, he, fun hn => ?_, fun h0 => ?_⟩
  · subst hw
    unfold isD at hn ⊢; unfold armD
    cases hd : d.down
    · rw [hd] at hn; exact absurd rfl hn
    · exact ⟨rfl, o, Step.refl _ ok, h⟩
  · subst hw
    have hd : d.down = false := by
      unfold isD at h0
      cases hd : d.down
      · rfl
      · rw [hd] at h0; cases h0
    have h' := h
    obtain ⟨⟨ga, gc, pa, pc, hb, hg, hp⟩, tg⟩ := h
    have hA : armD d n = if n < 0 then (d, 1) else ({ d with left := n, armed := true }, 0) := by unfold armD; rw [if_neg (by rw [hd]; decide)]
    rw [hA]
    refine ⟨fun hi => ?_, fun hi => ⟨_, rfl, hb.cani 2 rfl rfl, thenW_in fun w9 e9 => ?_⟩⟩
    · rw [if_pos hi]
      exact ⟨rfl, o, Step.refl _ ok, h'⟩
    · rw [if_neg (by omega)]
      have X9 := (Ext.refl (fun b => b = g) w5).x_set (q := g) (i := 2) rfl (.inl rfl) e9
      have b9 := hb.seti 2 (v := .int .i64 n) rfl e9
      refine ⟨b9.cani 3 rfl rfl, thenW_in fun w10 e10 => ?_⟩
      have X10 := X9.x_set (q := g) (i := 3) rfl (.inl rfl) e10
      have b10 := b9.seti 3 (v := .bool true) rfl e10
      obtain ⟨s, D⟩ := DG.turn (d2 := { d with left := n, armed := true }) hg hp tg hb ok X10 b10
      exact ⟨rfl, _, s, D⟩
end
end Go.Proofs.Ytgelicciggjpaaa

/- Disk: Read and Write. -/
set_option linter.unusedVariables false
set_option linter.unusedSimpArgs false
set_option maxRecDepth 20000
set_option maxHeartbeats 4000000
namespace Go.Proofs.Ytgelicciggjpaaa
open Go Go.Mx Go.Proofs
open W (OwnB)
theorem inf5 : (Try.prog.info? 5).map (fun i => (i.zero, i.size, i.bytes)) = some (some (.int .u8 0), 1, 1) := by kernel_rfl
section
variable {K : Nat → Prop} {w w' w1 : World} {o o' o1 : Own} {g g2 m : Nat} {d : DS} {i : Int}
/-- bytes that are read: a fresh array, the reader's. -/
def RdD (w : World) (o : Own) (r : List UInt8 × Int) (a : Option Addr) (n c : Nat) (w' : World) (o' : Own) : Prop :=
  n = r.1.length ∧ n ≤ c ∧ Step no w o w' o' ∧ (r.2 ≠ 0 → a = none ∧ r.1 = []) ∧ (r.2 = 0 → ∃ q t, a = some (blk q) ∧ Blk w' q 61 (bytesV r.1 ++ [.bool t]) ∧ r.1.length = 64 ∧ w.heap.size ≤ q ∧ o' q = some q)
theorem lastP_snoc (i : Int) (x : Wt) : ∀ (l : List Wt) (s : Sec), lastP i s (l ++ [x]) = if x.i = i then x.s else lastP i s l
  | [], _ => rfl
  | y :: r, s => lastP_snoc i x r _
theorem hasD_0 (h : hasD d i = 0) : d.down = false ∧ 0 ≤ i ∧ i < d.good.length := by
  unfold hasD at h
  cases hd : d.down
  · rw [hd, if_neg (by decide)] at h
    by_cases hi : i < 0 ∨ (d.good.length : Int) ≤ i
    · rw [if_pos hi] at h; cases h
    · exact ⟨rfl, by omega, by omega⟩
  · rw [hd, if_pos rfl] at h; cases h
theorem Sec.arr (s : Sec) : szB Try.prog 61 s.C.toArray.size = true := by rw [List.size_toArray, s.len]; exact sz65
theorem Wt.arr (x : Wt) : szB Try.prog 63 x.C.toArray.size = true := by rw [List.size_toArray, x.len]; exact sz66
theorem setAll_all {vs cs : List Value} (h : vs.length = cs.length) : setAll cs 0 vs = vs := by
  have := setAll_head (cs := []) h
  simpa using this
/-- a whole value stored into a block of its size. -/
theorem stores_all {q : Nat} {t : TypeId} {cs vs : List Value} {Φ : World → Prop} (hb : Blk w q t cs) (hl : vs.length = cs.length) (h1 : ∀ v ∈ vs, v.oneCell' = true) (h : ∀ w', Ext (fun b => b = q) w w' → Blk w' q t vs → Φ w') : storesK (blk q) vs 0 w Φ := by
  have := storesK_blk (k := 0) (j := 0) hb (vs := vs) (by omega) h1 (Φ := Φ) fun w' X hb' => h w' X (by rwa [Nat.zero_add, setAll_all hl] at hb')
  exact this
theorem dRead_spec (h : DG w o g d) (ok : Tags w o) (i : Int) (hpl : d.pend.length < 1000000) :
    Calls Try.prog 16 #[.pointer (some (blk g)), .int .i64 i] w (fun x w' => ∃ a n c o', x = .returned (.tuple #[.slice a n c, .int .i64 (readD d i).2]) ∧ RdD w o (readD d i) a n c w' o') := by
  refine (disk_Disk_Read.go _ _ (R := fun v w' => ∃ a n c o', v = (.tuple #[.slice a n c, .int .i64 (readD d i).2]) ∧ RdD w o (readD d i) a n c w' o') ?_).mono fun x w' ⟨v, he, a, n, c, o', hv, hR⟩ => ⟨a, n, c, o', by rw [he, hv], hR⟩
  unfold disk_Disk_Read.N
  refine (has_spec h i).mono fun e w5 ⟨he, hw⟩ => ⟨_, he, fun hn => ?_, fun h0 => ?_⟩
  · subst hw
    unfold readD
    rw [if_neg hn]
    exact ⟨none, 0, 0, o, rfl, rfl, Nat.le_refl _, Step.refl _ ok, fun _ => ⟨rfl, rfl⟩, fun h => absurd h hn⟩
  subst hw
  obtain ⟨hd, hi0, hi1⟩ := hasD_0 h0
  have h' := h
  obtain ⟨⟨ga, gc, pa, pc, hb, hg, hp⟩, tg⟩ := h
  have hgt : d.good[i.toNat]? = some d.good[i.toNat] := List.getElem?_eq_getElem (by omega)
  have hrd : readS d i = lastP i (d.good[i.toNat]'(by omega)) d.pend := by unfold readS; rw [hgt]; rfl
  generalize hs0 : d.good[i.toNat]'(by omega) = s0 at *
  have hgr := hg.row
  obtain ⟨ad, rfl⟩ := hgr.faddr Sec.len (by decide) (i := i.toNat) (by omega)
  refine ⟨_, rfl, some ad, _, gc, hb.celli 0 rfl rfl, ad, rfl, hi0, hi1, s0.C.toArray, s0.arr, hgr.floads Sec.len hgt, fun w13 q14 X13 hb13 hq hq' => ⟨s0.arr, stores_all hb13 (by rw [s0.len]; simp) s0.one fun w15 X15 hb15 => ?_⟩⟩
  have s13 := (Step.of_no X13 ok).tag (j := q14) hq hq'
  have M13 : Mine [q14] w13 (tag (grow w5 o) q14 q14) := fun p hp => by rw [show p = q14 by simpa using hp]; exact ⟨hq', tag_self⟩
  have s15' := Step.stores X15 s13.ok M13 (by simp)
  have s15 : Step no w5 o w15 _ := s13.trans' s15' fun j hj => .inr (by simp at hj; omega)
  have hbk : ∀ {w1 : World} {o1 : Own}, Step no w5 o w1 o1 → Blk w1 g 58 (d.V (some ad) gc pa pc) := fun s => s.blk hb tg id
  refine ⟨pa, _, pc, (hbk s15).celli 1 rfl rfl, fun k vs w1 => ∃ (t : Nat) (o1 : Own), vs = [.int .i64 t] ∧ k + t = d.pend.length ∧ Step no w5 o w1 o1 ∧ Mine [q14] w1 o1 ∧ Blk w1 q14 61 (lastP i s0 (d.pend.take t)).C, d.pend.length, ⟨0, _, rfl, rfl, s15, M13.step s15', hb15⟩, ?_⟩
  rintro k w21 t0 ⟨t, o21, hi, hk, s21, M21, hb21⟩
  simp only [List.cons.injEq, Value.int.injEq, true_and, and_true] at hi
  subst hi
  refine ⟨fun ht => ?_, fun ht => ?_⟩
  · have htl : t < d.pend.length := by omega
    have hgp : d.pend[t]? = some d.pend[t] := List.getElem?_eq_getElem htl
    have htk : d.pend.take (t + 1) = d.pend.take t ++ [d.pend[t]] := by rw [List.take_add_one, hgp]; rfl
    generalize d.pend[t] = x at *
    have hpr := (hp.step s21 id).row
    obtain ⟨pd, rfl⟩ := hpr.faddr Wt.len (by decide) htl
    refine ⟨pd, rfl, by omega, by omega, x.C.toArray, x.arr, by rw [Int.toNat_natCast]; exact hpr.floads Wt.len hgp, fun w26 q27 X26 hb26 hq2 hq2' => ⟨x.arr, stores_all hb26 (by rw [x.len]; simp) x.one fun w28 X28 hb28 => ?_⟩⟩
    have s26 := (Step.of_no X26 s21.ok).tag (j := q27) hq2 hq2'
    have M26 : Mine [q27] w26 (tag (grow w21 o21) q27 q27) := fun p hp => by rw [show p = q27 by simpa using hp]; exact ⟨hq2', tag_self⟩
    have s28' := Step.stores X28 s26.ok M26 (by simp)
    have s28 : Step no w21 o21 w28 _ := s26.trans' s28' fun j hj => .inr (by simp at hj; omega)
    have hq14 := M21.lt (p := q14) (by simp)
    have M28 := M21.step s28
    have hb14 := s28.blk hb21 (M21 q14 (by simp)).2 id
    have s528 := s21.trans s28
    refine ⟨x.i, hb28.celli 0 rfl rfl, fun hxi => ⟨x.s.C.toArray, x.s.arr, ?_, x.s.arr, stores_all hb14 (by rw [x.s.len, Sec.len]) x.s.one fun w34 X34 hb34 => ⟨by omega, by omega, ?_⟩⟩, fun hxi => ⟨by omega, by omega, k - 1, by omega, t + 1, _, rfl, by omega, s528, M28, ?_⟩⟩
    · exact cellsAt_blk hb28 _ 0 fun n v hv => by rw [show 1 + 0 + n = n + 1 by omega]; exact hv
    · have s34' := Step.stores X34 s528.ok M28 (by simp)
      exact ⟨k - 1, by omega, t + 1, _, rfl, by omega, s528.trans' s34' fun j hj => .inr (by simp at hj; omega), M28.step s34', by rw [htk, lastP_snoc, if_pos hxi]; exact hb34⟩
    · rw [htk, lastP_snoc, if_neg hxi]; exact hb14
  · rw [List.take_of_length_le (by omega), ← hrd] at hb21
    have hcell : w21.cell? ((blk q14).add 64) = some (.bool (readS d i).torn) := hb21.celli 64 rfl (by
      unfold Sec.C
      rw [List.getElem?_append_right (by rw [bytesV_length, (readS d i).h]; omega), bytesV_length, (readS d i).h]; rfl)
    refine ⟨_, hcell, fun htn => ?_, fun htn => ?_⟩
    · unfold readD
      rw [if_pos h0, if_pos htn]
      exact ⟨none, 0, 0, o21, rfl, rfl, Nat.le_refl _, s21, fun _ => ⟨rfl, rfl⟩, fun h => absurd h (by decide)⟩
    · unfold readD
      rw [if_pos h0, if_neg (by rw [htn]; decide)]
      exact ⟨some (blk q14), 64, 64, o21, rfl, (readS d i).h.symm, Nat.le_refl _, s21, fun h => absurd rfl h, fun _ => ⟨q14, _, rfl, hb21, (readS d i).h, hq, (M21 q14 (by simp)).2⟩⟩
end
end Go.Proofs.Ytgelicciggjpaaa

/- Disk: Write. -/
set_option linter.unusedVariables false
set_option linter.unusedSimpArgs false
set_option maxRecDepth 20000
set_option maxHeartbeats 4000000
namespace Go.Proofs.Ytgelicciggjpaaa
open Go Go.Mx Go.Proofs
open W (OwnB)
section
variable {K : Nat → Prop} {w w' w1 : World} {o o' o1 : Own} {g g2 m : Nat} {d : DS} {i : Int} {a : Option Addr} {c : Nat} {l : List Wt}
theorem Wts.one {l : List Wt} : ∀ u ∈ l.flatMap Wt.C, u.oneCell' = true := fun u hu => by
  obtain ⟨x, _, h⟩ := List.mem_flatMap.1 hu
  exact x.one u h
theorem WRw.push (h : WRw w o g a c l) (ok : Tags w o) (hg : g < w.heap.size) (hl : l.length < 1000000) {xa : Option Addr} {xc : Nat} {r : List Wt} (hr : RowAt w xa (r.flatMap Wt.C)) (hrl : r.length < 1000000) :
    ∃ a' n' c' w' o', (Builtin.append_ #[55, 55] 55 #[.slice a l.length c, .slice xa r.length xc]).run Try.prog w = .ok (.slice a' n' c') w' ∧ n' = (l ++ r).length ∧ Step (fun j => j = g) w o w' o' ∧ WRw w' o' g a' c' (l ++ r) ∧ Ext (fun b => ∃ ad, a = some ad ∧ b = ad.block) w w' := by
  obtain ⟨i, hi, hz, hsz, hby⟩ := info_of inf63
  obtain ⟨a', c', w', o', hrun, s2, hrow, hk, _⟩ := Grows.push (ty := 55) Try.underlying55 hi hz hsz hby rfl (by decide) h ok hg (xa := xa) (m := r.length) (xc := xc) (news := r.flatMap Wt.C) (flat_length Wt.len r) hr Wts.one (by omega) (by omega)
  exact ⟨a', _, c', w', o', hrun, by simp, s2, by unfold WRw; rw [List.length_append, List.flatMap_append]; exact hrow, ⟨s2.ext.os, s2.ext.tape, s2.ext.output, s2.ext.size, fun b hb hn => hk b hb fun ad ha hb' => hn ⟨ad, ha, hb'⟩⟩⟩
theorem last_set (l : List Wt) (x y : Wt) (k : Nat) (v : Value) (hk : k < 66) (h : x.C.set k v = y.C) : ((l ++ [x]).flatMap Wt.C).set (l.length * 66 + k) v = (l ++ [y]).flatMap Wt.C := by
  rw [List.flatMap_append, List.set_append_right _ _ (by rw [flat_length Wt.len]; omega), flat_length Wt.len, List.flatMap_append]
  congr 1
  rw [show l.length * 66 + k - l.length * 66 = k by omega]
  simpa using h
/-- a write is pending. -/
theorem pend_spec (h : DG w o g d) (ok : Tags w o) (hpl : d.pend.length < 100000) (x : Wt) {q : Nat} (hb : Blk w q 63 x.C) :
    ∃ pa n pc, w.cell? ((blk g).add 1) = some (.slice pa n pc) ∧ ∃ a' n' c' w' o', (Builtin.append_ #[55, 55] 55 #[.slice pa n pc, .slice (some (blk q)) 1 1]).run Try.prog w = .ok (.slice a' n' c') w' ∧ Step (fun j => j = g) w o w' o' ∧
      canStore w' ((blk g).add 1) ∧ ∀ w2, w2 = w'.setCell ((blk g).add 1) (.slice a' n' c') → Step (fun j => j = g) w o w2 (grow w' o') ∧ DG w2 (grow w' o') g { d with pend := d.pend ++ [x] } := by
  obtain ⟨⟨ga, gc, pa, pc, hbk, hg, hp⟩, tg⟩ := h
  obtain ⟨a', n', c', w', o', hrun, hn, s2, hp2, X2⟩ := hp.push ok hbk.lt (by omega) (xa := some (blk q)) (xc := 1) (r := [x]) (by simpa using RowAt.of_blk hb) (by simp)
  subst hn
  have hb2 : Blk w' g 58 (d.V ga gc pa pc) := hbk.ext X2 fun ⟨ad, h1, h2⟩ => hp.ne hbk (by decide) ad h1 h2.symm
  have hg2 : SRw w' o' g ga gc d.good := hg.keep X2 (fun ad ha ⟨ad', h1, h2⟩ => hg.apart hp (by decide) ad ad' ha h1 h2) fun b hb => s2.own hb
  have tg2 : o' g = some g := by rw [s2.own hbk.lt]; exact tg
  refine ⟨pa, _, pc, hbk.celli 1 rfl rfl, a', _, c', w', o', hrun, s2, hb2.cani 1 rfl rfl, fun w3 e3 => ?_⟩
  have X3 := (Ext.refl (fun b => b = g) w').x_set (q := g) (i := 1) rfl (.inl rfl) e3
  have b3 := hb2.seti 1 (v := .slice a' (d.pend ++ [x]).length c') rfl e3
  obtain ⟨s3, D3⟩ := DG.turn (d2 := { d with pend := d.pend ++ [x] }) hg2 hp2 tg2 hb2 s2.ok X3 b3
  exact ⟨s2.trans s3, D3⟩
/-- the last one that is pending is torn. -/
theorem tear_spec {x y : Wt} (h : DG w o g { d with pend := d.pend ++ [x] }) (ok : Tags w o) (hpl : d.pend.length < 100000) (hxy : x.C.set 65 (.bool true) = y.C) :
    ∃ pa n pc, w.cell? ((blk g).add 1) = some (.slice pa n pc) ∧ n = d.pend.length + 1 ∧ ∃ ad, pa = some ad ∧ ∀ w2, Ext no w w2 → canStore w2 (ad.add (d.pend.length * 66 + 65)) ∧ ∀ w3, w3 = w2.setCell (ad.add (d.pend.length * 66 + 65)) (.bool true) → ∃ o', Step (fun j => j = g) w o w3 o' ∧ DG w3 o' g { d with pend := d.pend ++ [y] } := by
  have hh := h
  obtain ⟨⟨ga, gc, pa, pc, hbk, hg, hp⟩, tg⟩ := h
  have hl : (d.pend ++ [x]).length = d.pend.length + 1 := by simp
  have hne : (d.pend ++ [x]).flatMap Wt.C ≠ [] := fun e => by
    have := congrArg List.length e
    rw [flat_length Wt.len, hl] at this; simp at this
  obtain ⟨b, cur, ha, hb, hle, hob, hbl, hput⟩ := Grows.put (j := d.pend.length * 66 + 65) (vs := [.bool true]) hp ok hne
  subst ha
  have hj : d.pend.length * 66 + 65 < cur.length := by
    have : ((d.pend ++ [x]).flatMap Wt.C).length = (d.pend.length + 1) * 66 := by rw [flat_length Wt.len, hl]
    have hle' : ((d.pend ++ [x]).flatMap Wt.C).length ≤ cur.length := hle
    omega
  refine ⟨_, _, pc, hbk.celli 1 rfl rfl, hl, blk b, rfl, fun w2 X => ⟨?_, fun w3 e3 => ?_⟩⟩
  · have hb2 := hb.ext X (fun h => h)
    exact hb2.cana (List.getElem?_eq_getElem hj)
  · have hb2 := hb.ext X (fun h => h)
    rw [add_blk] at e3
    have X3 : Ext (fun q => q = b) w w3 := (X.mono fun _ h _ => h.elim : Ext (fun q => q = b) w w2).x_set (q := b) (i := d.pend.length * 66 + 65) rfl (.inl rfl) e3
    have b3 := hb2.seti (d.pend.length * 66 + 65) (v := .bool true) rfl e3
    obtain ⟨s3, h3⟩ := hput w3 X3 b3
    have hset : setAll ((d.pend ++ [x]).flatMap Wt.C) (d.pend.length * 66 + 65) [.bool true] = (d.pend ++ [y]).flatMap Wt.C := last_set d.pend x y 65 _ (by decide) hxy
    refine ⟨_, s3, ⟨ga, gc, some (blk b), pc, ?_, ?_, ?_⟩, by rw [s3.own hbk.lt]; exact tg⟩
    · have hgb : g ≠ b := fun e => hp.ne hbk (by decide) _ rfl (by rw [e])
      have := hbk.ext X3 hgb
      have e : (DS.V { d with pend := d.pend ++ [y] } ga gc (some (blk b)) pc) = (DS.V { d with pend := d.pend ++ [x] } ga gc (some (blk b)) pc) := by unfold DS.V; simp
      rw [e]; exact this
    · exact hg.keep X3 (fun ad ha h2 => hg.apart hp (by decide) ad (blk b) ha rfl h2) fun b hb => s3.own hb
    · unfold WRw
      rw [← hset, show (d.pend ++ [y]).length = (d.pend ++ [x]).length by simp]
      exact h3
theorem zeros_write (i : Int) (b : List UInt8) (t : Bool) (h : b.length = 64) : setAll ([Value.int .i64 i] ++ List.replicate 64 (.int .u8 0) ++ [.bool t]) 1 (bytesV b) = Wt.C ⟨i, ⟨b, t, h⟩⟩ := by
  have := setAll_mid (u := [Value.int .i64 i]) (x := List.replicate 64 (.int .u8 0)) (y := [.bool t]) (v := bytesV b) (by rw [bytesV_length, h]; simp)
  rw [show ([Value.int .i64 i] : List Value).length = 1 from rfl] at this
  rw [this]; rfl
theorem dWrite_spec (h : DG w o g d) (ok : Tags w o) (hd : d.ok m) (hm : m < 100000) (i : Int) {ba : Option Addr} {bc : Nat} {b : List UInt8} (hb : RowAt w ba (bytesV b)) :
    Calls Try.prog 10 #[.pointer (some (blk g)), .int .i64 i, .slice ba b.length bc] w (Ret (.int .i64 (writeD d i b).2) fun w' => ∃ o', Step (fun j => j = g) w o w' o' ∧ DG w' o' g (writeD d i b).1) := by
  refine disk_Disk_Write.run _ _ _ _ _ ?_
  unfold disk_Disk_Write.N
  refine (has_spec h i).mono fun e w6 ⟨he, hw⟩ => ⟨_, he, fun hn => ?_, fun h0 => ?_⟩
  · subst hw
    unfold writeD
    rw [if_neg hn]
    exact ⟨rfl, o, Step.refl _ ok, h⟩
  subst hw
  refine ⟨fun hn => ?_, fun h64 w9 q10 X9 hb9 hq hq' => ?_⟩
  · unfold writeD
    rw [if_pos h0, dif_neg (by omega)]
    exact ⟨rfl, o, Step.refl _ ok, h⟩
  have hbl : b.length = 64 := by omega
  have hpl := hd.pl
  have s9 := (Step.of_no X9 ok).tag (j := q10) hq hq'
  have M9 : Mine [q10] w9 (tag (grow w6 o) q10 q10) := fun p hp => by rw [show p = q10 by simpa using hp]; exact ⟨hq', tag_self⟩
  refine putsK_ok (k := 0) hb9 (by simp) fun w76 X76 hb76 => ?_
  rw [Nat.zero_add, setAll_all (by simp)] at hb76
  have s76' := Step.stores X76 s9.ok M9 (by simp)
  have s76 : Step no w6 o w76 _ := s9.trans' s76' fun j hj => .inr (by simp at hj; omega)
  have M76 := M9.step s76'
  have hb6 : RowAt w76 ba (bytesV b) := (hb.no X9).ext' X76 fun hne ad ha (e : ad.block = q10) => by have := hb.lt hne ha; omega
  obtain ⟨bd, rfl⟩ := hb6.addr fun e => by have := congrArg List.length e; rw [bytesV_length, hbl] at this; cases this
  obtain ⟨u8, hu, hz, hsz, hby⟩ := info_of inf5
  have hcl : (bytesV b).length = 64 := by rw [bytesV_length, hbl]
  have hcopy := run_copy_gen (P := Try.prog) (dT := 33) (sT := 33) (ty := 3) (dLen := 64) (dCap := 64) (sLen := b.length) (sCap := bc) (n := 64) (sz := 1) (o := 1) (a := bd) Try.underlying33 hu hsz (by rw [hbl]; rfl) (by rw [hcl]) (fun j v hv => hb6.at_ hv) hb76 (by rw [hcl]; simp) bytesV_one
  obtain ⟨hb78, X78⟩ := setCells_setAll (cs := bytesV b) (o := 1) hb76 (by rw [hcl]; simp)
  generalize w76.setCells q10 1 (bytesV b) = w78 at *
  have s78' := Step.stores X78 s76.ok M76 (by simp)
  have s78 : Step no w6 o w78 _ := s76.trans' s78' fun j hj => .inr (by simp at hj; omega)
  rw [zeros_write i b false hbl] at hb78
  refine ⟨_, w78, hcopy, ?_⟩
  have D78 := h.step s78 id
  obtain ⟨x, hx⟩ : ∃ x : Wt, x = ⟨i, ⟨b, false, hbl⟩⟩ := ⟨_, rfl⟩
  rw [← hx] at hb78
  have hcell1 : ∃ pa n pc, w78.cell? ((blk g).add 1) = some (.slice pa n pc) := by
    obtain ⟨⟨ga, gc, pa, pc, hbk, _, _⟩, _⟩ := D78
    exact ⟨pa, _, pc, hbk.celli 1 rfl rfl⟩
  obtain ⟨pa, pn, pc, hc78⟩ := hcell1
  refine ⟨blk g, rfl, pa, pn, pc, hc78, x.C.toArray, x.arr, cellsAt_blk (k := 0) hb78 _ 0 fun n v hv => by rw [show 0 + 0 + n = n by omega]; exact hv, x.arr, fun w85 q86 X85 hb85 hq2 hq2' => ?_⟩
  have s85' := Step.of_no X85 s78.ok
  have s85 := s78.trans s85'
  have D85 := D78.step s85' id
  obtain ⟨pa2, pn2, pc2, hc85, a', n', c', w89, o89, hrun, s89, hcan, hst⟩ := pend_spec D85 s85.ok (by omega) x hb85
  have e2 : (Value.slice pa pn pc) = .slice pa2 pn2 pc2 := by
    have := X85.cell hc78 id
    rw [hc85] at this
    exact (Option.some.inj this).symm
  cases e2
  refine ⟨hc85, a', n', c', w89, hrun, hcan, thenW_in fun w90 e90 => ?_⟩
  obtain ⟨s90', D90⟩ := hst w90 e90
  have s90 : Step (fun j => j = g) w6 o w90 _ := s85.none.trans s90'
  have hW : writeD d i b = if d.armed then (if d.left = 0 then ({ d with pend := d.pend ++ [⟨i, ⟨b, true, hbl⟩⟩], down := true }, 19) else ({ d with pend := d.pend ++ [x], left := d.left - 1, count := d.count + 1 }, 0)) else ({ d with pend := d.pend ++ [x], count := d.count + 1 }, 0) := by
    unfold writeD; rw [if_pos h0, dif_pos hbl, ← hx]
  have hx' : ∀ y : Wt, y = ⟨i, ⟨b, true, hbl⟩⟩ → x.C.set 65 (.bool true) = y.C := fun y hy => by
    subst hx; subst hy
    show (Value.int .i64 i :: (bytesV b ++ [.bool false])).set 65 (.bool true) = Value.int .i64 i :: (bytesV b ++ [.bool true])
    rw [List.set_cons_succ, List.set_append_right _ _ (by rw [hcl]; omega), hcl]; rfl
  have hcl := hd.cl
  have hleft := hd.left
  have D90' := D90
  obtain ⟨⟨ga, gc, pa3, pc3, hbk, hg3, hp3⟩, tg⟩ := D90
  refine ⟨d.armed, hbk.celli 3 rfl rfl, fun har => ⟨d.left, hbk.celli 2 rfl rfl, fun hl0 => ?_, fun hl0 => ?_⟩, fun har => ?_⟩
  · rw [hW, if_pos har, if_pos hl0]
    refine ⟨hbk.cani 4 rfl rfl, thenW_in fun w97 e97 => ?_⟩
    have X97 := (Ext.refl (fun b => b = g) w90).x_set (q := g) (i := 4) rfl (.inl rfl) e97
    have b97 := hbk.seti 4 (v := .int .i64 1) rfl e97
    obtain ⟨s97, D97⟩ := DG.turn (d2 := { d with pend := d.pend ++ [x], down := true }) hg3 hp3 tg hbk s90'.ok X97 b97
    obtain ⟨pa4, pn4, pc4, hc97, hpn, ad, hpa, hfin⟩ := tear_spec (d := { d with down := true }) (x := x) (y := ⟨i, ⟨b, true, hbl⟩⟩) D97 s97.ok (by show d.pend.length < _; omega) (hx' _ rfl)
    subst hpn; subst hpa
    refine ⟨_, _, _, hc97, _, _, _, hc97, by show _ ≤ ((d.pend.length + 1 : Nat) : Int) - 1; omega, by show ((d.pend.length + 1 : Nat) : Int) - 1 < _; omega, ad, rfl, by show _ ≤ ((d.pend.length + 1 : Nat) : Int) - 1; omega, by show ((d.pend.length + 1 : Nat) : Int) - 1 < ((d.pend.length + 1 : Nat) : Int); omega, fun w98 X98 => ?_⟩
    obtain ⟨hcs, hst3⟩ := hfin w98 X98
    have e5 : (((ad.add (Int.toNat (((d.pend.length + 1 : Nat) : Int) - 1) * 66)).add 1).add 64).add 0 = ad.add (d.pend.length * 66 + 65) := by
      rw [add_add, add_add, add_add]; congr 1; omega
    show canStore w98 ((((ad.add (Int.toNat (((d.pend.length + 1 : Nat) : Int) - 1) * 66)).add 1).add 64).add 0) ∧ thenW (w98.setCell ((((ad.add (Int.toNat (((d.pend.length + 1 : Nat) : Int) - 1) * 66)).add 1).add 64).add 0) (.bool true)) _
    rw [e5]
    refine ⟨hcs, thenW_in fun w104 e104 => ?_⟩
    obtain ⟨o104, s104, D104⟩ := hst3 w104 e104
    exact ⟨rfl, _, (s90.trans s97).trans s104, D104⟩
  · rw [hW, if_pos har, if_neg hl0]
    refine ⟨d.left, hbk.celli 2 rfl rfl, by omega, by omega, hbk.cani 2 rfl rfl, thenW_in fun w107 e107 => ?_⟩
    have X107 := (Ext.refl (fun b => b = g) w90).x_set (q := g) (i := 2) rfl (.inl rfl) e107
    have b107 := hbk.seti 2 (v := .int .i64 (d.left - 1)) rfl e107
    refine ⟨d.count, b107.celli 5 rfl rfl, by omega, by omega, b107.cani 5 rfl rfl, thenW_in fun w110 e110 => ?_⟩
    have X110 := X107.x_set (q := g) (i := 5) rfl (.inl rfl) e110
    have b110 := b107.seti 5 (v := .int .i64 (d.count + 1)) rfl e110
    obtain ⟨s97, D97⟩ := DG.turn (d2 := { d with pend := d.pend ++ [x], left := d.left - 1, count := d.count + 1 }) hg3 hp3 tg hbk s90'.ok X110 b110
    exact ⟨rfl, _, s90.trans s97, D97⟩
  · rw [hW, if_neg (by rw [har]; decide)]
    refine ⟨d.count, hbk.celli 5 rfl rfl, by omega, by omega, hbk.cani 5 rfl rfl, thenW_in fun w113 e113 => ?_⟩
    have X113 := (Ext.refl (fun b => b = g) w90).x_set (q := g) (i := 5) rfl (.inl rfl) e113
    have b113 := hbk.seti 5 (v := .int .i64 (d.count + 1)) rfl e113
    obtain ⟨s97, D97⟩ := DG.turn (d2 := { d with pend := d.pend ++ [x], count := d.count + 1 }) hg3 hp3 tg hbk s90'.ok X113 b113
    exact ⟨rfl, _, s90.trans s97, D97⟩
end
end Go.Proofs.Ytgelicciggjpaaa

/- Disk: settle, Sync, Restart, Copy, New. -/
set_option linter.unusedVariables false
set_option linter.unusedSimpArgs false
set_option maxRecDepth 20000
set_option maxHeartbeats 4000000
namespace Go.Proofs.Ytgelicciggjpaaa
open Go Go.Mx Go.Proofs
open W (OwnB)
section
variable {K : Nat → Prop} {w w' w1 : World} {o o' o1 : Own} {g g2 m : Nat} {d : DS} {i : Int} {a : Option Addr} {c : Nat} {l : List Wt}
/-- a disk in memory whose rows lie where they lay. -/
structure DGa (w : World) (o : Own) (g : Nat) (d : DS) (ga : Option Addr) (gc : Nat) (pa : Option Addr) (pc : Nat) : Prop where
  b : Blk w g 58 (d.V ga gc pa pc)
  hg : SRw w o g ga gc d.good
  hp : WRw w o g pa pc d.pend
  tg : o g = some g
variable {ga pa : Option Addr} {gc pc : Nat}
theorem DGa.dg (h : DGa w o g d ga gc pa pc) : DG w o g d := ⟨⟨ga, gc, pa, pc, h.b, h.hg, h.hp⟩, h.tg⟩
theorem DGa.step (h : DGa w o g d ga gc pa pc) (s : Step K w o w' o') (hk : ¬ K g) : DGa w' o' g d ga gc pa pc :=
  ⟨s.blk h.b h.tg hk, h.hg.step s hk, h.hp.step s hk, by rw [s.own h.b.lt]; exact h.tg⟩
/-- a sector of its stored. -/
theorem DGa.put (h : DGa w o g d ga gc pa pc) (ok : Tags w o) {j : Nat} (hj : j < d.good.length) (s : Sec) {ad : Addr} (ha : ga = some ad) {Φ : World → Prop}
    (hΦ : ∀ w' o', Step (fun i => i = g) w o w' o' → DGa w' o' g { d with good := d.good.set j s } ga gc pa pc → Φ w') : storesK (ad.add (j * 65)) s.C 0 w Φ := by
  have hne : d.good.flatMap Sec.C ≠ [] := fun e => by
    have := congrArg List.length e
    rw [flat_length Sec.len] at this; simp at this; omega
  obtain ⟨b, cur, hb, hbb, hle, hob, hbl, hput⟩ := Grows.put (j := j * 65) (vs := s.C) h.hg ok hne
  rw [ha] at hb
  cases hb
  rw [flat_length Sec.len] at hle
  have h2 : (j + 1) * 65 ≤ d.good.length * 65 := Nat.mul_le_mul_right _ hj
  refine storesK_blk (k := j * 65) (j := 0) hbb (by rw [s.len]; omega) s.one fun w' X hb' => ?_
  obtain ⟨st, hg2⟩ := hput w' X hb'
  rw [setAll_flat Sec.len s hj] at hg2
  have hgb : g ≠ b := fun e => h.hg.ne h.b (by decide) (blk b) ha (by rw [e])
  refine hΦ w' _ st ⟨?_, by unfold SRw; rw [List.length_set]; exact hg2, h.hp.keep X (fun ad2 h3 h4 => h.hp.apart h.hg (by decide) ad2 (blk b) h3 ha h4) (fun b hb => st.own hb), by rw [st.own h.b.lt]; exact h.tg⟩
  have e : DS.V { d with good := d.good.set j s } ga gc pa pc = d.V ga gc pa pc := by unfold DS.V; simp
  rw [e]
  exact h.b.ext X hgb
theorem settleL_len (k : Nat → Bool) : ∀ (l : List Wt) (t : Nat) (gl : List Sec), (settleL k t gl l).length = gl.length
  | [], _, _ => rfl
  | x :: r, t, gl => by
    rw [settleL, settleL_len k r]
    split
    · rw [List.length_set]
    · rfl
theorem settle_spec (h : DG w o g d) (ok : Tags w o) (hd : d.ok m) (hm : m < 100000) {kk : Nat} {kf kg : Array Value} {k : Nat → Bool}
    (hk : ∀ (t : Nat) w1 o1, t < d.pend.length → Step (fun j => j = g) w o w1 o1 → enters Try.prog kk = true ∧ Calls Try.prog kk (kf.toList ++ ([.int .i64 (t : Int)] : List Value) ++ kg.toList).toArray w1 (Ret (.bool (k t)) fun w2 => w2 = w1)) :
    Calls Try.prog 27 #[.pointer (some (blk g)), .func (.func kk) kf kg] w (Ret (.tuple #[]) fun w' => ∃ o', Step (fun j => j = g) w o w' o' ∧ DG w' o' g (settleD d k)) := by
  refine disk_Disk_settle.run _ _ _ _ ?_
  unfold disk_Disk_settle.N
  obtain ⟨⟨ga, gc, pa, pc, hb, hg, hp⟩, tg⟩ := h
  have hpl := hd.pl
  refine ⟨_, rfl, pa, _, pc, hb.celli 1 rfl rfl, fun q vs w1 => ∃ (t : Nat) (gl : List Sec) (o1 : Own), vs = [.int .i64 t] ∧ q + t = d.pend.length ∧ Step (fun j => j = g) w o w1 o1 ∧ DGa w1 o1 g { d with good := gl } ga gc pa pc ∧ gl.length = d.good.length ∧ settleL k t gl (d.pend.drop t) = settleL k 0 d.good d.pend, d.pend.length, ⟨0, d.good, o, rfl, rfl, Step.refl _ ok, ⟨hb, hg, hp, tg⟩, rfl, rfl⟩, ?_⟩
  rintro q w9 t0 ⟨t, gl, o9, hi, hq, s9, D, hgl, hset⟩
  simp only [List.cons.injEq, Value.int.injEq, true_and, and_true] at hi
  subst hi
  refine ⟨fun ht => ?_, fun ht => ?_⟩
  · have htl : t < d.pend.length := by omega
    have hgp : d.pend[t]? = some d.pend[t] := List.getElem?_eq_getElem htl
    have hat := hd.at_ _ (List.getElem_mem htl)
    rw [List.drop_eq_getElem_cons htl, settleL] at hset
    generalize d.pend[t] = x at *
    have hpr := D.hp.row
    obtain ⟨pd, hpd⟩ := hpr.faddr Wt.len (by decide) htl
    subst hpd
    refine ⟨pd, rfl, by omega, by omega, x.C.toArray, x.arr, by rw [Int.toNat_natCast]; exact hpr.floads Wt.len hgp, fun w14 q15 X14 hb14 hq1 hq2 => ⟨x.arr, stores_all hb14 (by rw [x.len]; simp) x.one fun w16 X16 hb16 => ?_⟩⟩
    have s14 := (Step.of_no X14 s9.ok).tag (j := q15) hq1 hq2
    have M14 : Mine [q15] w14 (tag (grow w9 o9) q15 q15) := fun p hp => by rw [show p = q15 by simpa using hp]; exact ⟨hq2, tag_self⟩
    have s16' := Step.stores X16 s14.ok M14 (by simp)
    have s16 : Step no w9 o9 w16 _ := s14.trans' s16' fun j hj => .inr (by simp at hj; omega)
    have sw16 := s9.trans s16.none
    obtain ⟨hen, hcall⟩ := hk t w16 _ htl sw16
    have D16 := D.step s16 id
    refine ⟨hen, hcall.mono fun e w19 ⟨he, hw⟩ => ⟨_, he, fun hr => ?_, fun hr => ?_⟩⟩
    all_goals subst hw
    · rw [if_pos hr] at hset
      have hgr := D16.hg.row
      obtain ⟨gd, hgd⟩ := hgr.faddr Sec.len (by decide) (i := x.i.toNat) (by show _ < gl.length; omega)
      subst hgd
      refine ⟨some gd, _, gc, D16.b.celli 0 rfl rfl, x.i, hb16.celli 0 rfl rfl, x.s.C.toArray, x.s.arr, cellsAt_blk (k := 1) hb16 _ 0 fun n v hv => by rw [show 1 + 0 + n = n + 1 by omega]; exact hv, gd, rfl, hat.1, by show x.i < ((gl.length : Nat) : Int); omega, fun w21 X21 => ⟨x.s.arr, ?_⟩⟩
      have s21' := Step.of_no X21 sw16.ok
      have D21 := D16.step s21' id
      refine D21.put s21'.ok (j := x.i.toNat) (by show _ < gl.length; omega) x.s rfl fun w29 o29 s29 D29 => ⟨by omega, by omega, q - 1, by omega, t + 1, gl.set x.i.toNat x.s, o29, rfl, by omega, (sw16.trans s21'.none).trans s29, D29, by rw [List.length_set]; exact hgl, hset⟩
    · rw [if_neg (by rw [hr]; decide)] at hset
      exact ⟨by omega, by omega, q - 1, by omega, t + 1, gl, _, rfl, by omega, sw16, D16, hgl, hset⟩
  · have htt : t = d.pend.length := by omega
    rw [List.drop_eq_nil_of_le (by omega)] at hset
    refine ⟨D.b.cani 1 rfl rfl, thenW_in fun w32 e32 => ?_⟩
    have X32 := (Ext.refl (fun b => b = g) w9).x_set (q := g) (i := 1) rfl (.inl rfl) e32
    have b32 := D.b.seti 1 (v := .slice none 0 0) rfl e32
    obtain ⟨s32, D32⟩ := DG.turn (d2 := { d with good := gl, pend := [] }) D.hg (Grows.nil _ _ _ _ _) D.tg D.b s9.ok X32 b32
    refine ⟨rfl, _, s9.trans s32, ?_⟩
    have e : settleD d k = { d with good := gl, pend := [] } := by
      unfold settleD; rw [← hset]; rfl
    rw [e]; exact D32
theorem settleD_ok (hd : d.ok m) (k : Nat → Bool) : (settleD d k).ok m := by
  have h := settleL_len k d.pend 0 d.good
  exact ⟨by show 1 ≤ (settleL _ _ _ _).length; rw [h]; exact hd.n1, by show (settleL _ _ _ _).length ≤ 400; rw [h]; exact hd.n2, fun x hx => (by cases hx), Nat.zero_le _, hd.cl, hd.left⟩
theorem dSync_spec (h : DG w o g d) (ok : Tags w o) (hd : d.ok m) (hm : m < 100000) : Calls Try.prog 12 #[.pointer (some (blk g))] w (Ret (.int .i64 (syncD d).2) fun w' => ∃ o', Step (fun j => j = g) w o w' o' ∧ DG w' o' g (syncD d).1) := by
  refine disk_Disk_Sync.run _ ?_
  unfold disk_Disk_Sync.N
  refine (is_spec h).mono fun e w4 ⟨he, hw⟩ => ⟨_, he, fun hn => ?_, fun h0 => ?_⟩
  all_goals subst hw
  · unfold isD at hn ⊢; unfold syncD
    cases hdn : d.down
    · rw [hdn] at hn; exact absurd rfl hn
    · exact ⟨rfl, o, Step.refl _ ok, h⟩
  · have hS : syncD d = (settleD d fun _ => true, 0) := by
      unfold syncD; rw [if_neg]
      intro hdn; unfold isD at h0; rw [if_pos hdn] at h0; cases h0
    rw [hS]
    refine (settle_spec h ok hd hm (k := fun _ => true) fun t w1 o1 ht s => ⟨by kernel_rfl, by refine disk_Disk_Sync_1.run _ ?_; exact ⟨rfl, rfl⟩⟩).mono fun e w7 ⟨he, o', s, D⟩ => ⟨he, rfl, o', s, D⟩
def boolsV (l : List Bool) : List Value := l.map Value.bool
theorem cHas_spec {ka : Option Addr} {kc : Nat} {kl : List Bool} (hr : RowAt w ka (boolsV kl)) (t : Nat) : Calls Try.prog 31 #[.slice ka kl.length kc, .int .i64 t] w (Ret (.bool (keepF kl t)) fun w' => w' = w) := by
  refine disk_choice_has.run _ _ _ _ ?_
  unfold disk_choice_has.N keepF
  refine ⟨fun ht => ?_, fun ht => ?_⟩
  · have htl : t < kl.length := by omega
    have hg : kl[t]? = some kl[t] := List.getElem?_eq_getElem htl
    have hgv : (boolsV kl)[t]? = some (.bool kl[t]) := by unfold boolsV; rw [List.getElem?_map, hg]; rfl
    rw [hg]
    obtain ⟨ad, rfl⟩ := hr.addr fun e => by rw [e] at hgv; cases hgv
    refine ⟨ad, rfl, by omega, by omega, kl[t], by rw [Int.toNat_natCast, Nat.mul_one]; exact hr.at_ hgv, rfl, rfl⟩
  · rw [List.getElem?_eq_none (by omega)]
    exact ⟨rfl, rfl⟩
theorem dRestart_spec (h : DG w o g d) (ok : Tags w o) (hd : d.ok m) (hm : m < 100000) {ka : Option Addr} {kc : Nat} {kl : List Bool} (hr : Row w o ka (boolsV kl)) : Calls Try.prog 15 #[.pointer (some (blk g)), .slice ka kl.length kc] w (Ret (.int .i64 0) fun w' => ∃ o', Step (fun j => j = g) w o w' o' ∧ DG w' o' g (restartD d kl)) := by
  refine disk_Disk_Restart.run _ _ _ _ ?_
  unfold disk_Disk_Restart.N
  refine ⟨fun h => (by cases h), fun _ => ?_⟩
  refine (settle_spec h ok hd hm (k := keepF kl) fun t w1 o1 ht s => ⟨by kernel_rfl, by exact cHas_spec (hr.step s).1 t⟩).mono fun e w5 ⟨he, o5, s5, D⟩ => ⟨he, _, rfl, ?_⟩
  obtain ⟨⟨ga, gc, pa, pc, hb, hg, hp⟩, tg⟩ := D
  refine ⟨hb.cani 4 rfl rfl, thenW_in fun w7 e7 => ?_⟩
  have X7 := (Ext.refl (fun b => b = g) w5).x_set (q := g) (i := 4) rfl (.inl rfl) e7
  have b7 := hb.seti 4 (v := .int .i64 0) rfl e7
  refine ⟨b7.cani 3 rfl rfl, thenW_in fun w8 e8 => ?_⟩
  have X8 := X7.x_set (q := g) (i := 3) rfl (.inl rfl) e8
  have b8 := b7.seti 3 (v := .bool false) rfl e8
  obtain ⟨s8, D8⟩ := DG.turn (d2 := restartD d kl) hg hp tg hb s5.ok X8 b8
  exact ⟨rfl, _, s5.trans s8, D8⟩
theorem Secs.one {l : List Sec} : ∀ u ∈ l.flatMap Sec.C, u.oneCell' = true := fun u hu => by
  obtain ⟨x, _, h⟩ := List.mem_flatMap.1 hu
  exact x.one u h
theorem cloneS_spec (ok : Tags w o) (hg : g < w.heap.size) {l : List Sec} (hr : RowAt w a (l.flatMap Sec.C)) (hl : l.length < 1000000) :
    Calls Try.prog 29 #[.slice a l.length c] w (fun x w' => ∃ o' a' c', x = .returned (.slice a' l.length c') ∧ Step (fun j => j = g) w o w' o' ∧ SRw w' o' g a' c' l ∧ Ext no w w') := by
  refine (slices_Clone_disk_sector_disk_sector.go _ _ _ (R := fun v w' => ∃ o' a' c', v = (.slice a' l.length c') ∧ Step (fun j => j = g) w o w' o' ∧ SRw w' o' g a' c' l ∧ Ext no w w') ?_).mono fun x w' ⟨v, he, o', a', c', hv, hw⟩ => ⟨o', a', c', by rw [he, hv], hw⟩
  unfold slices_Clone_disk_sector_disk_sector.N
  refine ⟨fun hn => ?_, fun hn w3 q X hb hq hq' => ?_⟩
  · subst hn
    have h0 := hr.none_nil
    have : l = [] := by
      have := flat_length (f := Sec.C) Sec.len l
      rw [h0] at this
      exact List.eq_nil_of_length_eq_zero (by simp at this; omega)
    subst this
    exact ⟨o, none, 0, rfl, Step.refl _ ok, Grows.nil _ _ _ _ _, Ext.refl _ _⟩
  · obtain ⟨i, hi, hz, hsz, hby⟩ := info_of inf61
    have s3 := (Step.of_no X ok).tag (j := g) hq (Nat.lt_of_lt_of_le hg X.size)
    have g3 : Grows 61 65 w3 (tag (grow w o) q g) g (some (blk q)) 0 0 [] := ⟨owns_of_blk hb rfl (Nat.zero_le _), fun ad ha => by cases ha; exact ⟨tag_self, hq'⟩⟩
    obtain ⟨a', c', w6, o6, hrun, s6, hrow, hkk, _⟩ := g3.push (ty := 54) Try.underlying54 hi hz hsz hby rfl (by decide) s3.ok (Nat.lt_of_lt_of_le hg X.size) (xa := a) (m := l.length) (xc := c) (news := l.flatMap Sec.C) (flat_length Sec.len l) (hr.no X) Secs.one (by omega) (by omega)
    rw [Nat.zero_add, List.nil_append] at hrow
    rw [Nat.zero_add] at hrun
    have X6 : Ext (fun b => b = q) w3 w6 := ⟨s6.ext.os, s6.ext.tape, s6.ext.output, s6.ext.size, fun b hb hn => hkk b hb fun ad ha hb' => hn (by cases ha; exact hb')⟩
    exact ⟨a', _, c', w6, hrun, o6, a', c', rfl, s3.none.trans s6, hrow, X.then X6 fun b hb => .inr (by omega)⟩
theorem cloneW_spec (ok : Tags w o) (hg : g < w.heap.size) (hr : RowAt w a (l.flatMap Wt.C)) (hl : l.length < 1000000) :
    Calls Try.prog 30 #[.slice a l.length c] w (fun x w' => ∃ o' a' c', x = .returned (.slice a' l.length c') ∧ Step (fun j => j = g) w o w' o' ∧ WRw w' o' g a' c' l ∧ Ext no w w') := by
  refine (slices_Clone_disk_write_disk_write.go _ _ _ (R := fun v w' => ∃ o' a' c', v = (.slice a' l.length c') ∧ Step (fun j => j = g) w o w' o' ∧ WRw w' o' g a' c' l ∧ Ext no w w') ?_).mono fun x w' ⟨v, he, o', a', c', hv, hw⟩ => ⟨o', a', c', by rw [he, hv], hw⟩
  unfold slices_Clone_disk_write_disk_write.N
  refine ⟨fun hn => ?_, fun hn w3 q X hb hq hq' => ?_⟩
  · subst hn
    have h0 := hr.none_nil
    have : l = [] := by
      have := flat_length (f := Wt.C) Wt.len l
      rw [h0] at this
      exact List.eq_nil_of_length_eq_zero (by simp at this; omega)
    subst this
    exact ⟨o, none, 0, rfl, Step.refl _ ok, Grows.nil _ _ _ _ _, Ext.refl _ _⟩
  · have s3 := (Step.of_no X ok).tag (j := g) hq (Nat.lt_of_lt_of_le hg X.size)
    have g3 : WRw w3 (tag (grow w o) q g) g (some (blk q)) 0 [] := ⟨owns_of_blk hb rfl (Nat.zero_le _), fun ad ha => by cases ha; exact ⟨tag_self, hq'⟩⟩
    obtain ⟨a', n', c', w6, o6, hrun, hn', s6, hrow, X6⟩ := g3.push s3.ok (Nat.lt_of_lt_of_le hg X.size) (by simp) (xa := a) (xc := c) (hr.no X) hl
    rw [List.nil_append] at hrow hn'
    exact ⟨a', n', c', w6, hrun, o6, a', c', by rw [hn'], s3.none.trans s6, hrow, X.then X6 fun b ⟨ad, h1, h2⟩ => .inr (by cases h1; rw [h2]; exact hq)⟩
theorem dCopy_spec (h : DG w o g d) (ok : Tags w o) (hd : d.ok m) (hm : m < 100000) : Calls Try.prog 13 #[.pointer (some (blk g))] w (fun x w' => ∃ q o', x = .returned (.pointer (some (blk q))) ∧ w.heap.size ≤ q ∧ Step no w o w' o' ∧ DG w' o' q d) := by
  refine (disk_Disk_Copy.go _ (R := fun v w' => ∃ q o', v = (.pointer (some (blk q))) ∧ w.heap.size ≤ q ∧ Step no w o w' o' ∧ DG w' o' q d) ?_).mono fun x w' ⟨v, he, q, o', hv, hw⟩ => ⟨q, o', by rw [he, hv], hw⟩
  unfold disk_Disk_Copy.N
  refine ⟨fun h => (by cases h), fun _ => ?_⟩
  have hpl := hd.pl
  have hn2 := hd.n2
  obtain ⟨⟨ga, gc, pa, pc, hb, hg, hp⟩, tg⟩ := h
  refine ⟨_, rfl, ga, _, gc, pa, _, pc, d.left, d.armed, stI d.down, d.count, ⟨hb.celli 0 rfl rfl, hb.celli 1 rfl rfl, hb.celli 2 rfl rfl, hb.celli 3 rfl rfl, hb.celli 4 rfl rfl, hb.celli 5 rfl rfl, trivial⟩, fun w11 q12 X11 hb11 hq hq' => ?_⟩
  have hgq : g ≠ q12 := by have := hb.lt; omega
  have s11 := (Step.of_no X11 ok).tag (j := q12) hq hq'
  have M11 : Mine [q12] w11 (tag (grow w o) q12 q12) := fun p hp => by rw [show p = q12 by simpa using hp]; exact ⟨hq', tag_self⟩
  refine ⟨hb11.cani 0 rfl rfl, thenW_in fun w13 e13 => ?_⟩
  have X13 := (Ext.refl (fun b => b = q12) w11).x_set (q := q12) (i := 0) rfl (.inl rfl) e13
  have b13 := hb11.seti 0 (v := .slice ga d.good.length gc) rfl e13
  refine ⟨b13.cani 1 rfl rfl, thenW_in fun w14 e14 => ?_⟩
  have X14 := X13.x_set (q := q12) (i := 1) rfl (.inl rfl) e14
  have b14 := b13.seti 1 (v := .slice pa d.pend.length pc) rfl e14
  refine ⟨b14.cani 2 rfl rfl, thenW_in fun w15 e15 => ?_⟩
  have X15 := X14.x_set (q := q12) (i := 2) rfl (.inl rfl) e15
  have b15 := b14.seti 2 (v := .int .i64 d.left) rfl e15
  refine ⟨b15.cani 3 rfl rfl, thenW_in fun w16 e16 => ?_⟩
  have X16 := X15.x_set (q := q12) (i := 3) rfl (.inl rfl) e16
  have b16 := b15.seti 3 (v := .bool d.armed) rfl e16
  refine ⟨b16.cani 4 rfl rfl, thenW_in fun w17 e17 => ?_⟩
  have X17 := X16.x_set (q := q12) (i := 4) rfl (.inl rfl) e17
  have b17 := b16.seti 4 (v := .int .i64 (stI d.down)) rfl e17
  refine ⟨b17.cani 5 rfl rfl, thenW_in fun w18 e18 => ?_⟩
  have X18 := X17.x_set (q := q12) (i := 5) rfl (.inl rfl) e18
  have b18 := b17.seti 5 (v := .int .i64 d.count) rfl e18
  have s18' := Step.stores X18 s11.ok M11 (by simp)
  have s18 : Step no w o w18 _ := s11.trans' s18' fun j hj => .inr (by simp at hj; omega)
  have M18 := M11.step s18'
  have hb18 := s18.blk hb tg id
  refine ⟨ga, _, gc, hb18.celli 0 rfl rfl, pa, _, pc, hb18.celli 1 rfl rfl, fun w19 X19 => ?_⟩
  have s19' := Step.of_no X19 s18'.ok
  have s19 := s18.trans s19'
  have b19 := s19'.blk b18 (M18 q12 (by simp)).2 id
  have M19 := M18.step s19'
  have hq19 := M19.lt (p := q12) (by simp)
  refine (cloneS_spec (g := q12) s19'.ok hq19 (hg.step s19 id).row (by omega)).mono fun e w26 ⟨o26, a26, c26, he, s26, r26, X26⟩ => ⟨_, _, _, he, ?_⟩
  have s26w : Step no w o w26 o26 := s19.trans' s26 fun j hj => .inr (by omega)
  refine ⟨(s26w.blk hb tg id).celli 1 rfl rfl, (cloneW_spec (g := q12) s26.ok (Nat.lt_of_lt_of_le hq19 s26.size) (hp.step s26w id).row (by omega)).mono fun e w30 ⟨o30, a30, c30, he, s30, r30, X30⟩ => ⟨_, _, _, he, ?_⟩⟩
  have hq26 := Nat.lt_of_lt_of_le hq19 s26.size
  have s30w : Step no w o w30 o30 := s26w.trans' s30 fun j hj => .inr (by omega)
  have t26 : o26 q12 = some q12 := by rw [s26.own hq19]; exact (M19 q12 (by simp)).2
  have t30 : o30 q12 = some q12 := by rw [s30.own hq26]; exact t26
  have b30 := (b19.ext X26 fun h => h).ext X30 fun h => h
  refine ⟨b30.cani 0 rfl rfl, thenW_in fun w31 e31 => ?_⟩
  have X31 := (Ext.refl (fun b => b = q12) w30).x_set (q := q12) (i := 0) rfl (.inl rfl) e31
  have b31 := b30.seti 0 (v := .slice a26 d.good.length c26) rfl e31
  refine ⟨b31.cani 1 rfl rfl, thenW_in fun w32 e32 => ?_⟩
  have X32 := X31.x_set (q := q12) (i := 1) rfl (.inl rfl) e32
  have b32 := b31.seti 1 (v := .slice a30 d.pend.length c30) rfl e32
  have r26' : SRw w30 o30 q12 a26 c26 d.good := r26.keep X30 (fun _ _ h => h) fun b hb => s30.own hb
  obtain ⟨s32, D32⟩ := DG.turn (d2 := d) r26' r30 t30 b30 s30.ok X32 b32
  exact ⟨q12, _, rfl, hq, s30w.trans' s32 fun j hj => .inr (by omega), D32⟩
theorem zero_sectors (n : Nat) (z : Array Value) (hz : z.toList = Sec.z.C) : madeCells z (n * 65) = ((List.replicate n Sec.z).flatMap Sec.C).toArray := by
  apply Array.ext'
  apply List.ext_getElem?
  intro j
  have hzs : z.size = 65 := by rw [← Array.length_toList, hz, Sec.len]
  by_cases hj : j < n * 65
  · have h1 : j / 65 < n := by omega
    have h2 : (List.replicate n Sec.z)[j / 65]? = some Sec.z := by rw [List.getElem?_replicate, if_pos h1]
    have h3 := flat_get Sec.len h2 (j % 65) (by omega)
    rw [show j / 65 * 65 + j % 65 = j by omega] at h3
    show _ = ((List.replicate n Sec.z).flatMap Sec.C)[j]?
    rw [h3]
    have h4 : j % 65 < z.size := by omega
    have h5 : (madeCells z (n * 65)).toList[j]? = some (z[j % z.size]!) := by
      unfold madeCells
      simp [hj]
    rw [h5, hzs, getElem!_pos z (j % 65) h4, ← hz, List.getElem?_eq_getElem (by simpa using h4)]
    simp
  · rw [List.getElem?_eq_none (by unfold madeCells; simp; omega), List.getElem?_eq_none (by show ((List.replicate n Sec.z).flatMap Sec.C).length ≤ j; rw [flat_length Sec.len]; simp; omega)]
def newDS (n : Nat) : DS := ⟨List.replicate n Sec.z, [], 0, false, false, 0⟩
theorem dNew_spec (ok : Tags w o) {n : Nat} (h1 : 1 ≤ n) (h2 : n ≤ 400) : Calls Try.prog 9 #[.int .i64 n] w (fun x w' => ∃ q o', x = .returned (.tuple #[.pointer (some (blk q)), .int .i64 0]) ∧ w.heap.size ≤ q ∧ Step no w o w' o' ∧ DG w' o' q (newDS n)) := by
  refine (disk_New.go _ (R := fun v w' => ∃ q o', v = (.tuple #[.pointer (some (blk q)), .int .i64 0]) ∧ w.heap.size ≤ q ∧ Step no w o w' o' ∧ DG w' o' q (newDS n)) ?_).mono fun x w' ⟨v, he, q, o', hv, hw⟩ => ⟨q, o', by rw [he, hv], hw⟩
  unfold disk_New.N
  obtain ⟨i, hi, hz, hs, hb⟩ := info_of inf61
  have hmk := run_makeSlice (P := Try.prog) (w := w) 54 61 i _ Try.underlying54 hi hz .i64 .i64 n n (by omega) (Int.le_refl _) (by rw [hs]; omega) (by rw [hb]; omega) (by omega)
  have hzz : madeCells (Value.agg (List.replicate 64 (Value.int IntKind.u8 0) ++ [Value.bool false]).toArray).cells (n * 65) = ((List.replicate n Sec.z).flatMap Sec.C).toArray := zero_sectors n _ rfl
  rw [hs, Int.toNat_natCast, hzz] at hmk
  refine ⟨fun h => by omega, fun _ => ⟨fun h => by omega, fun _ => ⟨_, _, _, _, hmk, fun w6 q7 X6 hb6 hq hq' => ?_⟩⟩⟩
  have X5 : Ext no w (w.alloc (.cells ((List.replicate n Sec.z).flatMap Sec.C).toArray 61)) := (Ext.refl _ _).alloc _
  have b5 : Blk (w.alloc (.cells ((List.replicate n Sec.z).flatMap Sec.C).toArray 61)) w.heap.size 61 ((List.replicate n Sec.z).flatMap Sec.C) := Blk.new _ _ _
  have b6 := b5.ext X6 fun h => h
  have hsz : (w.alloc (.cells ((List.replicate n Sec.z).flatMap Sec.C).toArray 61)).heap.size = w.heap.size + 1 := by simp
  rw [hsz] at hq
  have s6 := ((Step.of_no (X5.trans X6) ok).tag (p := w.heap.size) (j := q7) (Nat.le_refl _) hq').tag (p := q7) (j := q7) (by omega) hq'
  refine ⟨q7, _, rfl, by omega, s6, ⟨some (blk w.heap.size), n, none, 0, ?_, ⟨?_, fun ad ha => ?_⟩, Grows.nil _ _ _ _ _⟩, tag_self⟩
  · have e : (newDS n).V (some (blk w.heap.size)) n none 0 = [.slice (some (blk w.heap.size)) n n, .slice none 0 0, .int .i64 0, .bool false, .int .i64 0, .int .i64 0] := by unfold DS.V newDS; simp [stI]
    rw [e]; exact hb6
  · have hn : (newDS n).good.length = n := by unfold newDS; simp
    rw [hn]
    exact owns_of_blk b6 (by rw [flat_length Sec.len, hn]) (by unfold maxLen; omega)
  · cases ha
    exact ⟨by rw [tag_ne (by show w.heap.size ≠ q7; omega)]; exact tag_self, b6.lt⟩
end
end Go.Proofs.Ytgelicciggjpaaa

/- Disk: the statements' small functions: Sector, light, what is given, the chapter's example. -/
set_option linter.unusedVariables false
set_option linter.unusedSimpArgs false
set_option maxRecDepth 20000
set_option maxHeartbeats 4000000
namespace Go.Proofs.Ytgelicciggjpaaa
open Go Go.Mx Go.Proofs
open W (OwnB)
section
variable {K : Nat → Prop} {w w' w1 : World} {o o' o1 : Own} {g g2 m : Nat} {d : DS} {i : Int} {a : Option Addr} {c : Nat}
theorem dmk_bytes (w : World) (n : Nat) (hn : n < 1000000) : ∃ w', (Instr.makeSlice 33 (.int .i64 n) (.int .i64 n)).run Try.prog w = .ok (.slice (some (blk w.heap.size)) n n) w' ∧ Ext no w w' ∧ Blk w' w.heap.size 5 (bytesV (List.replicate n 0)) ∧ w.heap.size < w'.heap.size := by
  obtain ⟨i, hi, hz, hs, hb⟩ := info_of inf5
  have hmk := run_makeSlice (P := Try.prog) (w := w) 33 5 i _ Try.underlying33 hi hz .i64 .i64 n n (by omega) (Int.le_refl _) (by rw [hs]; omega) (by rw [hb]; omega) (by omega)
  rw [hs, Int.toNat_natCast] at hmk
  have hcells : (madeCells (Value.int .u8 0).cells (n * 1)) = (bytesV (List.replicate n 0)).toArray := by
    apply Array.ext'
    rw [show (Value.int .u8 0).cells = #[Value.int .u8 0] from rfl, toList_madeCells_one, Nat.mul_one]
    show _ = bytesV _
    rw [bytesV, List.map_replicate]; rfl
  rw [hcells] at hmk
  exact ⟨_, hmk, (Ext.refl _ _).alloc _, Blk.new _ _ _, by simp⟩
def byteOf (x : Int) : UInt8 := UInt8.ofNat x.toNat
theorem byteOf_V {x : Int} (h : 0 ≤ x ∧ x < 256) : Value.int .u8 x = Value.int .u8 ((byteOf x).toNat : Int) := by
  unfold byteOf
  have : (UInt8.ofNat x.toNat).toNat = x.toNat := by simp; omega
  rw [this]; congr 1; omega
def secB (x : Int) (short : Bool) : List UInt8 := List.replicate (if short then 63 else 64) (byteOf x)
theorem fill_row (w : World) (n : Nat) (v : UInt8) {q : Nat} {w9 : World} {t : Nat} (hb : Blk w9 q 5 (bytesV (List.replicate t v ++ List.replicate (n - t) 0))) (ht : t < n) {w12 : World} (e : w12 = w9.setCell ⟨q, t, none⟩ (.int .u8 (v.toNat : Int))) : Blk w12 q 5 (bytesV (List.replicate (t + 1) v ++ List.replicate (n - (t + 1)) 0)) := by
  have h := hb.seti t (v := .int .u8 (v.toNat : Int)) rfl e
  have e2 : (bytesV (List.replicate t v ++ List.replicate (n - t) 0)).set t (.int .u8 (v.toNat : Int)) = bytesV (List.replicate (t + 1) v ++ List.replicate (n - (t + 1)) 0) := by
    unfold bytesV
    rw [show (Value.int .u8 (v.toNat : Int)) = u8V v from rfl, ← List.map_set]
    congr 1
    rw [List.set_append_right _ _ (by simp), List.length_replicate, Nat.sub_self, show n - t = (n - (t + 1)) + 1 by omega, List.replicate_succ, List.set_cons_zero, List.replicate_succ']
    simp
  rw [e2] at h; exact h
theorem Sector_spec (ok : Tags w o) {x : Int} (hx : 0 ≤ x ∧ x < 256) (short : Bool) :
    Calls Try.prog 11 #[.int .u8 x, .bool short] w (fun y w' => ∃ a c o', y = .returned (.slice a (secB x short).length c) ∧ Step no w o w' o' ∧ Row w' o' a (bytesV (secB x short)) ∧ (secB x short).length ≤ c) := by
  refine (cachettelaw09_Sector.go _ _ (R := fun v w' => ∃ a c o', v = (.slice a (secB x short).length c) ∧ Step no w o w' o' ∧ Row w' o' a (bytesV (secB x short)) ∧ (secB x short).length ≤ c) ?_).mono fun y w' ⟨v, he, a, c, o', hv, hw⟩ => ⟨a, c, o', by rw [he, hv], hw⟩
  unfold cachettelaw09_Sector.N
  refine ⟨fun hs => ⟨by decide, by decide, ?_⟩, fun hs => ?_⟩
  · obtain ⟨w5, hmk, X5, b5, hlt⟩ := dmk_bytes w 63 (by decide)
    refine ⟨_, _, _, w5, hmk, fun m vs w1 => ∃ t : Nat, vs = [.int .i64 t] ∧ m + t = 63 ∧ Ext no w w1 ∧ Blk w1 w.heap.size 5 (bytesV (List.replicate t (byteOf x) ++ List.replicate (63 - t) 0)), 63, ⟨0, rfl, rfl, X5, b5⟩, ?_⟩
    rintro m w9 i ⟨t, hi, hm, X9, b9⟩
    simp only [List.cons.injEq, Value.int.injEq, true_and, and_true] at hi
    subst hi
    refine ⟨fun ht => ⟨_, rfl, by omega, by omega, ?_⟩, fun ht => ?_⟩
    · have e1 : (((blk w.heap.size).add (Int.toNat (t : Int) * 1)).add 0) = ⟨w.heap.size, t, none⟩ := by rw [add_add, add_blk]; congr 1; omega
      show canStore w9 (((blk w.heap.size).add (Int.toNat (t : Int) * 1)).add 0) ∧ thenW (w9.setCell (((blk w.heap.size).add (Int.toNat (t : Int) * 1)).add 0) (.int .u8 x)) _
      rw [e1, byteOf_V hx]
      have hc : t < (bytesV (List.replicate t (byteOf x) ++ List.replicate (63 - t) 0)).length := by rw [bytesV_length]; simp; omega
      refine ⟨by have := b9.cana (List.getElem?_eq_getElem hc); rwa [add_blk] at this, thenW_in fun w12 e12 => ⟨by omega, by omega, m - 1, by omega, t + 1, rfl, by omega, ?_, fill_row w 63 _ b9 (by omega) e12⟩⟩
      exact X9.then (Ext.x_set (m := fun b => b = w.heap.size) (q := w.heap.size) (i := t) (Ext.refl _ _) rfl (.inl rfl) e12) fun b hb => .inr (by omega)
    · have : t = 63 := by omega
      subst this
      have hS : secB x short = List.replicate 63 (byteOf x) ++ List.replicate (63 - 63) 0 := by unfold secB; rw [if_pos hs]; simp
      refine ⟨_, 63, grow w o, by rw [hS]; rfl, Step.of_no X9 ok, ?_, by rw [hS]; simp⟩
      rw [hS]
      exact ⟨RowAt.of_blk b9, fun _ ad ha => by cases ha; exact grow_ge (Nat.le_refl _)⟩
  · obtain ⟨w5, hmk, X5, b5, hlt⟩ := dmk_bytes w 64 (by decide)
    refine ⟨_, _, _, w5, hmk, fun m vs w1 => ∃ t : Nat, vs = [.int .i64 t] ∧ m + t = 64 ∧ Ext no w w1 ∧ Blk w1 w.heap.size 5 (bytesV (List.replicate t (byteOf x) ++ List.replicate (64 - t) 0)), 64, ⟨0, rfl, rfl, X5, b5⟩, ?_⟩
    rintro m w9 i ⟨t, hi, hm, X9, b9⟩
    simp only [List.cons.injEq, Value.int.injEq, true_and, and_true] at hi
    subst hi
    refine ⟨fun ht => ⟨_, rfl, by omega, by omega, ?_⟩, fun ht => ?_⟩
    · have e1 : (((blk w.heap.size).add (Int.toNat (t : Int) * 1)).add 0) = ⟨w.heap.size, t, none⟩ := by rw [add_add, add_blk]; congr 1; omega
      show canStore w9 (((blk w.heap.size).add (Int.toNat (t : Int) * 1)).add 0) ∧ thenW (w9.setCell (((blk w.heap.size).add (Int.toNat (t : Int) * 1)).add 0) (.int .u8 x)) _
      rw [e1, byteOf_V hx]
      have hc : t < (bytesV (List.replicate t (byteOf x) ++ List.replicate (64 - t) 0)).length := by rw [bytesV_length]; simp; omega
      refine ⟨by have := b9.cana (List.getElem?_eq_getElem hc); rwa [add_blk] at this, thenW_in fun w12 e12 => ⟨by omega, by omega, m - 1, by omega, t + 1, rfl, by omega, ?_, fill_row w 64 _ b9 (by omega) e12⟩⟩
      exact X9.then (Ext.x_set (m := fun b => b = w.heap.size) (q := w.heap.size) (i := t) (Ext.refl _ _) rfl (.inl rfl) e12) fun b hb => .inr (by omega)
    · have : t = 64 := by omega
      subst this
      have hS : secB x short = List.replicate 64 (byteOf x) ++ List.replicate (64 - 64) 0 := by unfold secB; rw [if_neg (by rw [hs]; decide)]; simp
      refine ⟨_, 64, grow w o, by rw [hS]; rfl, Step.of_no X9 ok, ?_, by rw [hS]; simp⟩
      rw [hS]
      exact ⟨RowAt.of_blk b9, fun _ ad ha => by cases ha; exact grow_ge (Nat.le_refl _)⟩
/-- a step of a script. -/
structure DOp where
  kd : Int
  n : Int
  by_ : Int
  short : Bool
  ka : Option Addr
  kc : Nat
  keep : List Bool
def DOp.C (x : DOp) : List Value := [.int .i64 x.kd, .int .i64 x.n, .int .u8 x.by_, .bool x.short, .slice x.ka x.keep.length x.kc]
theorem DOp.len (x : DOp) : x.C.length = 5 := rfl
structure DOp.good (W : World) (x : DOp) : Prop where
  nw : -9223372036854775808 ≤ x.n ∧ x.n < 9223372036854775808
  bw : 0 ≤ x.by_ ∧ x.by_ < 256
  row : RowAt W x.ka (boolsV x.keep)
  le : x.keep.length ≤ x.kc
def BoolsQ (W : World) (cs : List Value) : Prop := ∃ (a : Option Addr) (c : Nat) (l : List Bool), cs = [.slice a l.length c] ∧ l.length ≤ c ∧ c ≤ maxLen ∧ RowAt W a (boolsV l)
theorem flat_bools (l : List Bool) : (l.flatMap fun b => [Value.bool b]) = boolsV l := by
  unfold boolsV
  induction l with
  | nil => rfl
  | cons x r ih => rw [List.flatMap_cons, ih]; rfl
theorem opens_bools : Opens Try.prog 23 BoolsQ := (opens_rows (size := 1) (f := fun b => [Value.bool b]) (G := fun _ _ => True) Try.underlying23 (by kernel_rfl) ((opens_bool Try.underlying4).mono fun W cs ⟨b, h⟩ => ⟨b, h, trivial⟩)).mono
  fun W cs ⟨a, c, l, h1, h2, h3, h4, _⟩ => ⟨a, c, l, h1, h2, h3, by rw [← flat_bools]; exact h4⟩
theorem opens_op : Opens Try.prog 31 fun W cs => ∃ x : DOp, cs = x.C ∧ x.good W :=
  (opens_seq (qs := [(1, _), (1, _), (1, _), (1, _), (1, _)]) (size := 5) Try.underlying31 (by kernel_rfl)
    ⟨⟨rfl, by kernel_rfl, opens_int Try.underlying3⟩, ⟨rfl, by kernel_rfl, opens_int Try.underlying3⟩, ⟨rfl, by kernel_rfl, opens_int Try.underlying5⟩, ⟨rfl, by kernel_rfl, opens_bool Try.underlying4⟩,
     ⟨rfl, by kernel_rfl, opens_bools⟩, rfl⟩).mono
    fun W cs ⟨_, _, e0, _, ⟨kd, q0, _⟩, _, _, e1, _, ⟨n, q1, fn⟩, _, _, e2, _, ⟨by_, q2, fb⟩, _, _, e3, _, ⟨sh, q3⟩, _, _, e4, _, ⟨ka, kc, keep, q4, lk, _, rk⟩, q5⟩ => by
      subst q0; subst q1; subst q2; subst q3; subst q4; subst q5; subst e4; subst e3; subst e2; subst e1; subst e0
      exact ⟨⟨kd, n, by_, sh, ka, kc, keep⟩, rfl, wf_i64 fn, wf_u8 fb, rk, lk⟩
def DOpsQ (W : World) (cs : List Value) : Prop := ∃ (a : Option Addr) (c : Nat) (l : List DOp), cs = [.slice a l.length c] ∧ l.length ≤ c ∧ c ≤ maxLen ∧ RowAt W a (l.flatMap DOp.C) ∧ ∀ x ∈ l, x.good W
theorem opens_ops : Opens Try.prog 22 DOpsQ := opens_rows (size := 5) Try.underlying22 (by kernel_rfl) opens_op
def light9 (l : List DOp) : Bool := decide (l.length ≤ 60) && l.all fun x => decide (x.keep.length ≤ 60)
theorem light9_of {l : List DOp} (h : light9 l = true) : l.length ≤ 60 ∧ ∀ x ∈ l, x.keep.length ≤ 60 := by
  unfold light9 at h
  simp only [Bool.and_eq_true, decide_eq_true_eq, List.all_eq_true] at h
  exact h
theorem light9_spec {W : World} {la : Option Addr} {lc : Nat} {l : List DOp} (hl : RowAt W la (l.flatMap DOp.C)) : Calls Try.prog 7 #[.slice la l.length lc] W (Ret (.bool (light9 l)) fun w' => w' = W) := by
  refine cachettelaw09_light.run _ _ _ ?_
  unfold cachettelaw09_light.N
  refine ⟨fun h => ⟨?_, rfl⟩, fun h => ?_⟩
  · unfold light9; rw [decide_eq_false (by omega)]; rfl
  refine ⟨fun m vs w1 => ∃ t : Nat, vs = [.int .i64 t] ∧ m + t = l.length ∧ w1 = W ∧ ∀ x ∈ l.take t, x.keep.length ≤ 60, l.length, ⟨0, rfl, rfl, rfl, by simp⟩, ?_⟩
  rintro m w6 i ⟨t, hi, hm, rfl, hall⟩
  simp only [List.cons.injEq, Value.int.injEq, true_and, and_true] at hi
  subst hi
  refine ⟨fun ht => ?_, fun ht => ⟨?_, rfl⟩⟩
  · have htl : t < l.length := by omega
    have hg : l[t]? = some l[t] := List.getElem?_eq_getElem htl
    have hmem := List.getElem_mem htl
    have htk : l.take (t + 1) = l.take t ++ [l[t]] := by rw [List.take_add_one, hg]; rfl
    generalize l[t] = x at *
    obtain ⟨ad, rfl⟩ := hl.faddr DOp.len (by decide) htl
    refine ⟨ad, rfl, by omega, by omega, x.ka, x.keep.length, x.kc, by rw [Int.toNat_natCast]; exact hl.fcell DOp.len hg 4 rfl, fun h60 => ⟨?_, rfl⟩, fun h60 => ⟨by omega, by omega, m - 1, by omega, t + 1, rfl, by omega, rfl, fun y hy => ?_⟩⟩
    · congr 1
      cases hh : light9 l
      · rfl
      · have := (light9_of hh).2 x hmem; omega
    · rw [htk] at hy
      rcases List.mem_append.1 hy with hy | hy
      · exact hall y hy
      · simp at hy; subst hy; omega
  · have : t = l.length := by omega
    subst this
    rw [List.take_length] at hall
    have : light9 l = true := by
      unfold light9
      rw [decide_eq_true (show l.length ≤ 60 by omega), Bool.true_and, List.all_eq_true]
      exact fun x hx => decide_eq_true (hall x hx)
    rw [this]
end
end Go.Proofs.Ytgelicciggjpaaa

/- Disk: the chapter's example; DiskArms. -/
set_option linter.unusedVariables false
set_option linter.unusedSimpArgs false
set_option maxRecDepth 20000
set_option maxHeartbeats 4000000
namespace Go.Proofs.Ytgelicciggjpaaa
open Go Go.Mx Go.Proofs
open W (OwnB)
section
variable {K : Nat → Prop} {w w' w1 : World} {o o' o1 : Own} {g g2 m : Nat} {d : DS} {i : Int} {a : Option Addr} {c : Nat}
theorem DS.ok.up {n : Nat} (h : d.ok m) (hm : m ≤ n) : d.ok n := ⟨h.n1, h.n2, h.at_, by have := h.pl; omega, by have := h.cl; omega, h.left⟩
theorem newDS_ok {n : Nat} (h1 : 1 ≤ n) (h2 : n ≤ 400) : (newDS n).ok 0 := by
  have hn : (newDS n).good.length = n := by unfold newDS; simp
  exact ⟨by omega, by omega, fun x hx => (by cases hx), Nat.le_refl _, ⟨Int.le_refl _, Int.le_refl _⟩, by show (0 : Int) ≤ 0; decide, by show (0 : Int) < _; decide⟩
theorem armD_ok (h : d.ok m) {n : Int} (hn : n < 9223372036854775808) : (armD d n).1.ok m := by
  unfold armD
  split
  · exact h
  · split
    · exact h
    · exact ⟨h.n1, h.n2, h.at_, h.pl, h.cl, by show 0 ≤ n; omega, hn⟩
theorem syncD_ok (h : d.ok m) : (syncD d).1.ok m := by
  unfold syncD
  split
  · exact h
  · exact settleD_ok h _
theorem restartD_ok (h : d.ok m) (l : List Bool) : (restartD d l).ok m := by
  have k := settleD_ok h (keepF l)
  exact ⟨k.n1, k.n2, k.at_, k.pl, k.cl, k.left⟩
theorem writeD_ok (h : d.ok m) (i : Int) (b : List UInt8) : (writeD d i b).1.ok (m + 1) := by
  have hpl := h.pl
  have hcl := h.cl
  have hl := h.left
  have hu := h.up (Nat.le_succ m)
  have key : ∀ (s : Sec), hasD d i = 0 → ∀ x ∈ d.pend ++ [⟨i, s⟩], 0 ≤ x.i ∧ x.i < (d.good.length : Int) := fun s h0 x hx => by
    rcases List.mem_append.1 hx with hx | hx
    · exact h.at_ x hx
    · simp at hx; subst hx; exact (hasD_0 h0).2
  unfold writeD
  split
  · rename_i h0
    split
    · split
      · split
        · exact ⟨h.n1, h.n2, key _ h0, by show (d.pend ++ [_]).length ≤ _; rw [List.length_append]; show d.pend.length + 1 ≤ m + 1; omega, by show 0 ≤ d.count ∧ d.count ≤ ((m + 1 : Nat) : Int); omega, hl⟩
        · exact ⟨h.n1, h.n2, key _ h0, by show (d.pend ++ [_]).length ≤ _; rw [List.length_append]; show d.pend.length + 1 ≤ m + 1; omega, by show 0 ≤ d.count + 1 ∧ d.count + 1 ≤ ((m + 1 : Nat) : Int); omega, by show 0 ≤ d.left - 1 ∧ d.left - 1 < 9223372036854775808; omega⟩
      · exact ⟨h.n1, h.n2, key _ h0, by show (d.pend ++ [_]).length ≤ _; rw [List.length_append]; show d.pend.length + 1 ≤ m + 1; omega, by show 0 ≤ d.count + 1 ∧ d.count + 1 ≤ ((m + 1 : Nat) : Int); omega, hl⟩
    · exact hu
  · exact hu
theorem writeD_len (i : Int) (b : List UInt8) : (writeD d i b).1.good = d.good := by
  unfold writeD
  (repeat' split) <;> rfl
def exD1 : DS := (writeD (newDS 2) 0 (secB 1 false)).1
def exD2 : DS := (syncD exD1).1
def exD3 : DS := (writeD exD2 0 (secB 2 false)).1
def exD4 : DS := restartD exD3 [false]
theorem exD4_read : readD exD4 0 = (secB 1 false, 0) := rfl
theorem alive9_spec (w : World) : Calls Try.prog 8 #[] w (Ret (.bool true) fun w' => Ext no w w') := by
  refine cachettelaw09_alive.run ?_
  unfold cachettelaw09_alive.N
  have ok0 : Tags w (fun _ => none) := fun b j _ h => by cases h
  have k0 := newDS_ok (n := 2) (by decide) (by decide)
  refine (dNew_spec (n := 2) ok0 (by decide) (by decide)).mono fun e w4 ⟨q, o4, he, hq, s4, D4⟩ => ⟨_, _, he, ?_⟩
  refine (Sector_spec s4.ok (x := 1) (by decide) false).mono fun e w7 ⟨a7, c7, o7, he, s7', r7, _⟩ => ⟨_, _, _, he, ?_⟩
  have s7 := s4.trans s7'
  refine (dWrite_spec (D4.step s7' id) s7.ok k0 (by decide) 0 r7.1).mono fun e w10 ⟨he, o10, s10', D10⟩ => ⟨_, he, ?_⟩
  have s10 : Step no w (fun _ => none) w10 o10 := s7.trans' s10' fun j hj => .inr (by omega)
  have k1 := writeD_ok k0 0 (secB 1 false)
  refine (dSync_spec (d := exD1) D10 s10.ok k1 (by decide)).mono fun e w13 ⟨he, o13, s13', D13⟩ => ⟨_, he, ?_⟩
  have s13 : Step no w (fun _ => none) w13 o13 := s10.trans' s13' fun j hj => .inr (by omega)
  have k2 : exD2.ok 1 := syncD_ok k1
  refine (Sector_spec s13.ok (x := 2) (by decide) false).mono fun e w16 ⟨a16, c16, o16, he, s16', r16, _⟩ => ⟨_, _, _, he, ?_⟩
  have s16 := s13.trans s16'
  refine (dWrite_spec (d := exD2) (D13.step s16' id) s16.ok k2 (by decide) 0 r16.1).mono fun e w19 ⟨he, o19, s19', D19⟩ => ⟨_, he, fun w20 q21 X20 hb20 hq1 hq2 => ?_⟩
  have s19 : Step no w (fun _ => none) w19 o19 := s16.trans' s19' fun j hj => .inr (by omega)
  have k3 : exD3.ok 2 := writeD_ok k2 0 (secB 2 false)
  have s20' := Step.of_no X20 s19.ok
  have s20 := s19.trans s20'
  have r20 : Row w20 (grow w19 o19) (some (blk q21)) (boolsV [false]) := ⟨RowAt.of_blk hb20, fun _ ad ha => by cases ha; exact grow_ge hq1⟩
  refine (dRestart_spec (d := exD3) (D19.step s20' id) s20.ok k3 (by decide) (kl := [false]) (kc := 1) r20).mono fun e w24 ⟨he, o24, s24', D24⟩ => ⟨_, he, ?_⟩
  have s24 : Step no w (fun _ => none) w24 o24 := s20.trans' s24' fun j hj => .inr (by omega)
  have k4 : exD4.ok 2 := restartD_ok k3 _
  refine (dRead_spec (d := exD4) D24 s24.ok 0 (by have := k4.pl; omega)).mono fun e w28 ⟨ra, rn, rc, o28, he, hn, hle, s28, hbad, hgood⟩ => ⟨_, _, _, _, he, fun _ => ⟨fun h0 => ⟨fun h64 => ?_, fun h64 => ?_⟩, fun hne => absurd (by rw [exD4_read]) hne⟩, fun h => absurd rfl h⟩
  · obtain ⟨rq, t, rfl, hb, hl, hlt, _⟩ := hgood (by rw [exD4_read])
    rw [exD4_read] at hb
    refine ⟨_, rfl, by omega, 1, hb.celli 0 rfl rfl, rfl, ?_⟩
    have := s24.trans s28
    exact this.ext.mono fun b ⟨_, _, h⟩ _ => h
  · exfalso
    rw [exD4_read] at hn
    exact h64 (by rw [hn]; rfl)
end
end Go.Proofs.Ytgelicciggjpaaa
