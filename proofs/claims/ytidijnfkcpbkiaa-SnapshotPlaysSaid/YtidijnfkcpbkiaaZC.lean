/- Disk: predicates. -/
import Derived.Test.YtidijnfkcpbkiaaZA
import Derived.Test.YtidijnfkcpbkiaaZB
set_option linter.unusedVariables false
set_option linter.unusedSimpArgs false
set_option maxRecDepth 20000
set_option maxHeartbeats 2000000
namespace Go.Proofs.Ytidijnfkcpbkiaa
open Go Go.Mx Go.Proofs
/-- disk.New -/
def disk_New.M (n1 : Int) (R : Value → World → Prop) (w : World) : Prop :=
 bif decide (n1 < 1) then (
 R (.tuple #[.pointer none, .int .i64 1]) w) else (
 bif decide (n1 > 400) then (
 R (.tuple #[.pointer none, .int .i64 1]) w) else (
 ∃ (a1 : Option Addr) (a2 : Nat) (a3 : Nat) (a0 : World), (Instr.makeSlice 53 (.int .i64 n1) (.int .i64 n1)).run Try.prog w = .ok (.slice a1 a2 a3) a0 ∧
 thenW (a0.alloc (.cells #[.slice a1 a2 a3, .slice none 0 0, .int .i64 0, .bool false, .int .i64 0, .int .i64 0] 57)) fun a4 =>
 R (.tuple #[.pointer (some (blk a0.heap.size)), .int .i64 0]) a4))

theorem disk_New.eq (n1 : Int) (R : Value → World → Prop) (w : World) : mfunc Try.prog [] 7 [.int .i64 n1] R w = disk_New.M n1 R w := by kernel_rfl
theorem disk_New.ok (n1 : Int) {R : Value → World → Prop} {w : World} (h : disk_New.M n1 R w) : Calls Try.prog 7 #[.int .i64 n1] w fun e w' => ∃ v, e = .returned v ∧ R v w' :=
  mfunc_ok follows (H := []) (args := [.int .i64 n1]) (by rw [disk_New.eq]; exact h)

def disk_New.N (n1 : Int) (R : Value → World → Prop) (w : World) : Prop :=
 (n1 < 1 →
 R (.tuple #[.pointer none, .int .i64 1]) w) ∧
 ((1 : Int) ≤ n1 →
 (n1 > 400 →
 R (.tuple #[.pointer none, .int .i64 1]) w) ∧
 (n1 ≤ 400 →
 ∃ (a3 : Option Addr) (a4 : Nat) (a2 : Nat) (a1 : World), (Instr.makeSlice 53 (.int .i64 n1) (.int .i64 n1)).run Try.prog w = .ok (.slice a3 a4 a2) a1 ∧
 ∀ (a0 : World) (q7 : Nat), Ext no a1 a0 → Blk a0 q7 57 [.slice a3 a4 a2, .slice none 0 0, .int .i64 0, .bool false, .int .i64 0, .int .i64 0] → a1.heap.size ≤ q7 → q7 < a0.heap.size →
 R (.tuple #[.pointer (some (blk q7)), .int .i64 0]) a0))

theorem disk_New.up (n1 : Int) {R : Value → World → Prop} {w : World} (h : disk_New.N n1 R w) : disk_New.M n1 R w := by
  unfold disk_New.M
  unfold disk_New.N at h
  refine bif_of (fun c2 => ?_) (fun c2 => ?_)
  · have h := h.1 (of_decide_eq_true c2)
    exact h
  · have h := h.2 (Int.not_lt.1 (of_decide_eq_false c2))
    refine bif_of (fun c3 => ?_) (fun c3 => ?_)
    · have h := h.1 (of_decide_eq_true c3)
      exact h
    · have h := h.2 (Int.not_lt.1 (of_decide_eq_false c3))
      obtain ⟨a3, a4, a2, a0, hr, h⟩ := h
      refine ⟨a3, a4, a2, a0, hr, ?_⟩
      refine thenW_in fun a1 e6 => ?_
      have h := h a1 a0.heap.size ((Ext.refl no a0).x_alloc e6) (Blk.of_new e6) ((Ext.refl no a0)).size (size_lt_alloc e6)
      exact h

theorem disk_New.go (n1 : Int) {R : Value → World → Prop} {w : World} (h : disk_New.N n1 R w) : Calls Try.prog 7 #[.int .i64 n1] w fun e w' => ∃ v, e = .returned v ∧ R v w' := disk_New.ok n1 (disk_New.up n1 h)
/-- (*disk.Disk).Sectors -/
def disk_Disk_Sectors.M (d1 : Option Addr) (R : Value → World → Prop) (w : World) : Prop :=
 bif Option.isNone d1 then (
 R (.int .i64 0) w) else (
 d1.elim False fun a2 =>
 ∃ (a3 : Option Addr) (a0 : Nat) (a1 : Nat), w.cell? (a2.add 0) = some (.slice a3 a0 a1) ∧
 R (.int .i64 (a0 : Int)) w)

theorem disk_Disk_Sectors.eq (d1 : Option Addr) (R : Value → World → Prop) (w : World) : mfunc Try.prog [] 22 [.pointer d1] R w = disk_Disk_Sectors.M d1 R w := by kernel_rfl
theorem disk_Disk_Sectors.ok (d1 : Option Addr) {R : Value → World → Prop} {w : World} (h : disk_Disk_Sectors.M d1 R w) : Calls Try.prog 22 #[.pointer d1] w fun e w' => ∃ v, e = .returned v ∧ R v w' :=
  mfunc_ok follows (H := []) (args := [.pointer d1]) (by rw [disk_Disk_Sectors.eq]; exact h)

def disk_Disk_Sectors.N (d1 : Option Addr) (R : Value → World → Prop) (w : World) : Prop :=
 (d1 = none →
 R (.int .i64 0) w) ∧
 (d1 ≠ none →
 ∃ a3 : Addr, d1 = some a3 ∧
 ∃ (a2 : Option Addr) (a0 : Nat) (a1 : Nat), w.cell? (a3.add 0) = some (.slice a2 a0 a1) ∧
 R (.int .i64 (a0 : Int)) w)

theorem disk_Disk_Sectors.up (d1 : Option Addr) {R : Value → World → Prop} {w : World} (h : disk_Disk_Sectors.N d1 R w) : disk_Disk_Sectors.M d1 R w := by
  unfold disk_Disk_Sectors.M
  unfold disk_Disk_Sectors.N at h
  refine bif_of (fun c2 => ?_) (fun c2 => ?_)
  · have h := h.1 (isNone_t c2)
    exact h
  · have h := h.2 (isNone_f c2)
    obtain ⟨a3, a4, h⟩ := h
    refine elim_some a4 ?_
    obtain ⟨a0, a1, a2, a5, h⟩ := h
    refine ⟨a0, a1, a2, a5, ?_⟩
    exact h

theorem disk_Disk_Sectors.go (d1 : Option Addr) {R : Value → World → Prop} {w : World} (h : disk_Disk_Sectors.N d1 R w) : Calls Try.prog 22 #[.pointer d1] w fun e w' => ∃ v, e = .returned v ∧ R v w' := disk_Disk_Sectors.ok d1 (disk_Disk_Sectors.up d1 h)
theorem disk_Disk_Sectors.run (d1 : Option Addr) {V : Value} {Q : World → Prop} {w : World} (h : disk_Disk_Sectors.N d1 (fun v w' => v = V ∧ Q w') w) : Calls Try.prog 22 #[.pointer d1] w (Ret V Q) := (disk_Disk_Sectors.go d1 h).mono fun e w' ⟨v, he, hv, hq⟩ => ⟨by rw [he, hv], hq⟩

/-- (*disk.Disk).is -/
def disk_Disk_is.M (d1 : Option Addr) (R : Value → World → Prop) (w : World) : Prop :=
 bif Option.isNone d1 then (
 R (.int .i64 23) w) else (
 d1.elim False fun a2 =>
 ∃ (a0 : Int), w.cell? (a2.add 4) = some (.int .i64 a0) ∧
 bif a0 == 1 then (
 R (.int .i64 19) w) else (
 R (.int .i64 0) w))

theorem disk_Disk_is.eq (d1 : Option Addr) (R : Value → World → Prop) (w : World) : mfunc Try.prog [] 46 [.pointer d1] R w = disk_Disk_is.M d1 R w := by kernel_rfl
theorem disk_Disk_is.ok (d1 : Option Addr) {R : Value → World → Prop} {w : World} (h : disk_Disk_is.M d1 R w) : Calls Try.prog 46 #[.pointer d1] w fun e w' => ∃ v, e = .returned v ∧ R v w' :=
  mfunc_ok follows (H := []) (args := [.pointer d1]) (by rw [disk_Disk_is.eq]; exact h)

def disk_Disk_is.N (d1 : Option Addr) (R : Value → World → Prop) (w : World) : Prop :=
 (d1 = none →
 R (.int .i64 23) w) ∧
 (d1 ≠ none →
 ∃ a3 : Addr, d1 = some a3 ∧
 ∃ (a0 : Int), w.cell? (a3.add 4) = some (.int .i64 a0) ∧
 (a0 = 1 →
 R (.int .i64 19) w) ∧
 (a0 ≠ 1 →
 R (.int .i64 0) w))

theorem disk_Disk_is.up (d1 : Option Addr) {R : Value → World → Prop} {w : World} (h : disk_Disk_is.N d1 R w) : disk_Disk_is.M d1 R w := by
  unfold disk_Disk_is.M
  unfold disk_Disk_is.N at h
  refine bif_of (fun c2 => ?_) (fun c2 => ?_)
  · have h := h.1 (isNone_t c2)
    exact h
  · have h := h.2 (isNone_f c2)
    obtain ⟨a3, a1, h⟩ := h
    refine elim_some a1 ?_
    obtain ⟨a0, a2, h⟩ := h
    refine ⟨a0, a2, ?_⟩
    refine bif_of (fun c6 => ?_) (fun c6 => ?_)
    · have h := h.1 (beq_t c6)
      exact h
    · have h := h.2 (beq_f c6)
      exact h

theorem disk_Disk_is.go (d1 : Option Addr) {R : Value → World → Prop} {w : World} (h : disk_Disk_is.N d1 R w) : Calls Try.prog 46 #[.pointer d1] w fun e w' => ∃ v, e = .returned v ∧ R v w' := disk_Disk_is.ok d1 (disk_Disk_is.up d1 h)
theorem disk_Disk_is.run (d1 : Option Addr) {V : Value} {Q : World → Prop} {w : World} (h : disk_Disk_is.N d1 (fun v w' => v = V ∧ Q w') w) : Calls Try.prog 46 #[.pointer d1] w (Ret V Q) := (disk_Disk_is.go d1 h).mono fun e w' ⟨v, he, hv, hq⟩ => ⟨by rw [he, hv], hq⟩

/-- (*disk.Disk).has -/
def disk_Disk_has.M (d1 : Option Addr) (i2 : Int) (R : Value → World → Prop) (w : World) : Prop :=
 Calls Try.prog 46 #[.pointer d1] w fun a5 a4 => ∃ (a2 : Int), a5 = .returned (.int .i64 a2) ∧
 bif a2 != 0 then (
 R (.int .i64 a2) a4) else (
 bif decide (i2 < 0) then (
 R (.int .i64 2) a4) else (
 d1.elim False fun a6 =>
 ∃ (a1 : Option Addr) (a0 : Nat) (a3 : Nat), a4.cell? (a6.add 0) = some (.slice a1 a0 a3) ∧
 bif decide (i2 ≥ (a0 : Int)) then (
 R (.int .i64 2) a4) else (
 R (.int .i64 0) a4)))

theorem disk_Disk_has.eq (d1 : Option Addr) (i2 : Int) (R : Value → World → Prop) (w : World) : mfunc Try.prog [] 50 [.pointer d1, .int .i64 i2] R w = disk_Disk_has.M d1 i2 R w := by kernel_rfl
theorem disk_Disk_has.ok (d1 : Option Addr) (i2 : Int) {R : Value → World → Prop} {w : World} (h : disk_Disk_has.M d1 i2 R w) : Calls Try.prog 50 #[.pointer d1, .int .i64 i2] w fun e w' => ∃ v, e = .returned v ∧ R v w' :=
  mfunc_ok follows (H := []) (args := [.pointer d1, .int .i64 i2]) (by rw [disk_Disk_has.eq]; exact h)

def disk_Disk_has.N (d1 : Option Addr) (i2 : Int) (R : Value → World → Prop) (w : World) : Prop :=
 Calls Try.prog 46 #[.pointer d1] w fun a5 a4 => ∃ (a3 : Int), a5 = .returned (.int .i64 a3) ∧
 (a3 ≠ 0 →
 R (.int .i64 a3) a4) ∧
 (a3 = 0 →
 (i2 < 0 →
 R (.int .i64 2) a4) ∧
 ((0 : Int) ≤ i2 →
 ∃ a8 : Addr, d1 = some a8 ∧
 ∃ (a2 : Option Addr) (a0 : Nat) (a1 : Nat), a4.cell? (a8.add 0) = some (.slice a2 a0 a1) ∧
 (i2 ≥ (a0 : Int) →
 R (.int .i64 2) a4) ∧
 (i2 < (a0 : Int) →
 R (.int .i64 0) a4)))

theorem disk_Disk_has.up (d1 : Option Addr) (i2 : Int) {R : Value → World → Prop} {w : World} (h : disk_Disk_has.N d1 i2 R w) : disk_Disk_has.M d1 i2 R w := by
  unfold disk_Disk_has.M
  unfold disk_Disk_has.N at h
  refine h.mono fun a7 a9 h => ?_
  obtain ⟨a3, he, h⟩ := h
  refine ⟨a3, he, ?_⟩
  refine bif_of (fun c6 => ?_) (fun c6 => ?_)
  · have h := h.1 (bne_t c6)
    exact h
  · have h := h.2 (bne_f c6)
    refine bif_of (fun c7 => ?_) (fun c7 => ?_)
    · have h := h.1 (of_decide_eq_true c7)
      exact h
    · have h := h.2 (Int.not_lt.1 (of_decide_eq_false c7))
      obtain ⟨a8, a5, h⟩ := h
      refine elim_some a5 ?_
      obtain ⟨a1, a2, a0, a6, h⟩ := h
      refine ⟨a1, a2, a0, a6, ?_⟩
      refine bif_of (fun a4 => ?_) (fun a4 => ?_)
      · have h := h.1 (of_decide_eq_true a4)
        exact h
      · have h := h.2 (Int.not_le.1 (of_decide_eq_false a4))
        exact h

theorem disk_Disk_has.go (d1 : Option Addr) (i2 : Int) {R : Value → World → Prop} {w : World} (h : disk_Disk_has.N d1 i2 R w) : Calls Try.prog 50 #[.pointer d1, .int .i64 i2] w fun e w' => ∃ v, e = .returned v ∧ R v w' := disk_Disk_has.ok d1 i2 (disk_Disk_has.up d1 i2 h)
theorem disk_Disk_has.run (d1 : Option Addr) (i2 : Int) {V : Value} {Q : World → Prop} {w : World} (h : disk_Disk_has.N d1 i2 (fun v w' => v = V ∧ Q w') w) : Calls Try.prog 50 #[.pointer d1, .int .i64 i2] w (Ret V Q) := (disk_Disk_has.go d1 i2 h).mono fun e w' ⟨v, he, hv, hq⟩ => ⟨by rw [he, hv], hq⟩

/-- (*disk.Disk).Read -/
def disk_Disk_Read.M (d1 : Option Addr) (i2 : Int) (R : Value → World → Prop) (w : World) : Prop :=
 Calls Try.prog 50 #[.pointer d1, .int .i64 i2] w fun ao a9 => ∃ (ab : Int), ao = .returned (.int .i64 ab) ∧
 bif ab != 0 then (
 R (.tuple #[.slice none 0 0, .int .i64 ab]) a9) else (
 d1.elim False fun a6 =>
 ∃ (a5 : Option Addr) (a3 : Nat) (ad : Nat), a9.cell? (a6.add 0) = some (.slice a5 a3 ad) ∧
 a5.elim False fun a8 =>
 0 ≤ (i2 : Int) ∧ (i2 : Int) < (a3 : Int) ∧
 ∃ x9 : Array Value, szB Try.prog 80 x9.size = true ∧ cellsAt a9 (a8.add (Int.toNat i2 * 65)) x9.toList 0 ∧
 thenW (a9.alloc (.cells (List.toArray (List.replicate 64 (.int .u8 0) ++ [.bool false])) 80)) fun aj =>
 bif szB Try.prog 80 x9.size then storesK (blk a9.heap.size) x9.toList 0 aj fun ae =>
 d1.elim False fun ap =>
 ∃ (a2 : Option Addr) (a1 : Nat) (aa : Nat), ae.cell? (ap.add 1) = some (.slice a2 a1 aa) ∧
 ∃ (I0 : Nat → List Value → World → Prop) (ar : Nat), I0 ar [.int .i64 0] ae ∧ ∀ (ak : Nat) (a0 : World) (ac : Int), I0 ak [.int .i64 ac] a0 →
 bif decide (ac < (a1 : Int)) then (
 a2.elim False fun aq =>
 0 ≤ (ac : Int) ∧ (ac : Int) < (a1 : Int) ∧
 ∃ af : Array Value, szB Try.prog 83 af.size = true ∧ cellsAt a0 (aq.add (Int.toNat ac * 66)) af.toList 0 ∧
 thenW (a0.alloc (.cells (List.toArray ([.int .i64 0] ++ List.replicate 64 (.int .u8 0) ++ [.bool false])) 83)) fun ai =>
 bif szB Try.prog 83 af.size then storesK (blk a0.heap.size) af.toList 0 ai fun a7 =>
 ∃ (an : Int), a7.cell? ((blk a0.heap.size).add 0) = some (.int .i64 an) ∧
 bif an == i2 then (
 ∃ ag : Array Value, szB Try.prog 80 ag.size = true ∧ cellsAt a7 ((blk a0.heap.size).add 1) ag.toList 0 ∧
 bif szB Try.prog 80 ag.size then storesK (blk a9.heap.size) ag.toList 0 a7 fun ah =>
 ∃ am, am < ak ∧ I0 am [.int .i64 (IntKind.i64.wrap (ac + 1))] ah
 else False) else (
 ∃ al, al < ak ∧ I0 al [.int .i64 (IntKind.i64.wrap (ac + 1))] a7)
 else False) else (
 ∃ (a4 : Bool), a0.cell? ((blk a9.heap.size).add 64) = some (.bool a4) ∧
 bif a4 then (
 R (.tuple #[.slice none 0 0, .int .i64 5]) a0) else (
 R (.tuple #[.slice (some (if 64 = 0 then ((blk a9.heap.size).add 0) else ((blk a9.heap.size).add 0).add (0 * 1))) (64 - 0) (64 - 0), .int .i64 0]) a0))
 else False)

theorem disk_Disk_Read.eq (d1 : Option Addr) (i2 : Int) (R : Value → World → Prop) (w : World) : mfunc Try.prog [(0, [1, 7, 26, 27], [(28, (.one (.int .i64)))])] 25 [.pointer d1, .int .i64 i2] R w = disk_Disk_Read.M d1 i2 R w := by kernel_rfl
theorem disk_Disk_Read.ok (d1 : Option Addr) (i2 : Int) {R : Value → World → Prop} {w : World} (h : disk_Disk_Read.M d1 i2 R w) : Calls Try.prog 25 #[.pointer d1, .int .i64 i2] w fun e w' => ∃ v, e = .returned v ∧ R v w' :=
  mfunc_ok follows (H := [(0, [1, 7, 26, 27], [(28, (.one (.int .i64)))])]) (args := [.pointer d1, .int .i64 i2]) (by rw [disk_Disk_Read.eq]; exact h)

def disk_Disk_Read.N (d1 : Option Addr) (i2 : Int) (R : Value → World → Prop) (w : World) : Prop :=
 Calls Try.prog 50 #[.pointer d1, .int .i64 i2] w fun au ag => ∃ (aa : Int), au = .returned (.int .i64 aa) ∧
 (aa ≠ 0 →
 R (.tuple #[.slice none 0 0, .int .i64 aa]) ag) ∧
 (aa = 0 →
 ∃ a7 : Addr, d1 = some a7 ∧
 ∃ (a5 : Option Addr) (a6 : Nat) (ae : Nat), ag.cell? (a7.add 0) = some (.slice a5 a6 ae) ∧
 ∃ ar : Addr, a5 = some ar ∧
 0 ≤ (i2 : Int) ∧ (i2 : Int) < (a6 : Int) ∧
 ∃ ak : Array Value, szB Try.prog 80 ak.size = true ∧ cellsAt ag (ar.add (Int.toNat i2 * 65)) ak.toList 0 ∧
 ∀ (ac : World) (ad : Nat), Ext no ag ac → Blk ac ad 80 (List.replicate 64 (.int .u8 0) ++ [.bool false]) → ag.heap.size ≤ ad → ad < ac.heap.size →
 szB Try.prog 80 ak.size = true ∧
 storesK (blk ad) ak.toList 0 ac fun ah =>
 ∃ (a3 : Option Addr) (a0 : Nat) (ab : Nat), ah.cell? (a7.add 1) = some (.slice a3 a0 ab) ∧
 ∃ (I0 : Nat → List Value → World → Prop) (av : Nat), I0 av [.int .i64 0] ah ∧ ∀ (al : Nat) (a1 : World) (a4 : Int), I0 al [.int .i64 a4] a1 →
 (a4 < (a0 : Int) →
 ∃ ao : Addr, a3 = some ao ∧
 0 ≤ (a4 : Int) ∧ (a4 : Int) < (a0 : Int) ∧
 ∃ ai : Array Value, szB Try.prog 83 ai.size = true ∧ cellsAt a1 (ao.add (Int.toNat a4 * 66)) ai.toList 0 ∧
 ∀ (a8 : World) (af : Nat), Ext no a1 a8 → Blk a8 af 83 ([.int .i64 0] ++ List.replicate 64 (.int .u8 0) ++ [.bool false]) → a1.heap.size ≤ af → af < a8.heap.size →
 szB Try.prog 83 ai.size = true ∧
 storesK (blk af) ai.toList 0 a8 fun a9 =>
 ∃ (am : Int), a9.cell? ((blk af).add 0) = some (.int .i64 am) ∧
 (am = i2 →
 ∃ aj : Array Value, szB Try.prog 80 aj.size = true ∧ cellsAt a9 ((blk af).add 1) aj.toList 0 ∧
 szB Try.prog 80 aj.size = true ∧
 storesK (blk ad) aj.toList 0 a9 fun an =>
 (-9223372036854775808 : Int) ≤ (a4 + 1) ∧ (a4 + 1) < 9223372036854775808 ∧
 ∃ aq, aq < al ∧ I0 aq [.int .i64 (a4 + 1)] an) ∧
 (am ≠ i2 →
 (-9223372036854775808 : Int) ≤ (a4 + 1) ∧ (a4 + 1) < 9223372036854775808 ∧
 ∃ ap, ap < al ∧ I0 ap [.int .i64 (a4 + 1)] a9)) ∧
 ((a0 : Int) ≤ a4 →
 ∃ (a2 : Bool), a1.cell? ((blk ad).add 64) = some (.bool a2) ∧
 (a2 = true →
 R (.tuple #[.slice none 0 0, .int .i64 5]) a1) ∧
 (a2 = false →
 R (.tuple #[.slice (some (if 64 = 0 then ((blk ad).add 0) else ((blk ad).add 0).add (0 * 1))) (64 - 0) (64 - 0), .int .i64 0]) a1)))

theorem disk_Disk_Read.up (d1 : Option Addr) (i2 : Int) {R : Value → World → Prop} {w : World} (h : disk_Disk_Read.N d1 i2 R w) : disk_Disk_Read.M d1 i2 R w := by
  unfold disk_Disk_Read.M
  unfold disk_Disk_Read.N at h
  refine h.mono fun ba ac h => ?_
  obtain ⟨ag, he, h⟩ := h
  refine ⟨ag, he, ?_⟩
  refine bif_of (fun c6 => ?_) (fun c6 => ?_)
  · have h := h.1 (bne_t c6)
    exact h
  · have h := h.2 (bne_f c6)
    obtain ⟨a7, aw, h⟩ := h
    refine elim_some aw ?_
    obtain ⟨a4, a5, a6, b3, h⟩ := h
    refine ⟨a4, a5, a6, b3, ?_⟩
    obtain ⟨bd, ae, h⟩ := h
    refine elim_some ae ?_
    obtain ⟨ak, a9, h⟩ := h
    refine ⟨ak, a9, ?_⟩
    obtain ⟨b9, hz, au, h⟩ := h
    refine ⟨b9, hz, au, ?_⟩
    refine thenW_in fun ap aa => ?_
    have h := h ap ac.heap.size ((Ext.refl no ac).x_alloc aa) (Blk.of_new aa) ((Ext.refl no ac)).size (size_lt_alloc aa)
    obtain ⟨hsz, h⟩ := h
    refine bif_tt hsz ?_
    refine storesK_ext h fun az be h => ?_
    refine elim_some aw ?_
    obtain ⟨a2, a0, a3, al, h⟩ := h
    refine ⟨a2, a0, a3, al, ?_⟩
    obtain ⟨I0, b8, h0, h⟩ := h
    refine ⟨I0, b8, h0, fun ay a1 b5 hI => ?_⟩
    have h := h ay a1 b5 hI
    refine bif_of (fun ab => ?_) (fun ab => ?_)
    · have h := h.1 (of_decide_eq_true ab)
      obtain ⟨bc, av, h⟩ := h
      refine elim_some av ?_
      obtain ⟨ak, a9, h⟩ := h
      refine ⟨ak, a9, ?_⟩
      obtain ⟨ax, hz, ai, h⟩ := h
      refine ⟨ax, hz, ai, ?_⟩
      refine thenW_in fun ad ao => ?_
      have h := h ad a1.heap.size ((Ext.refl no a1).x_alloc ao) (Blk.of_new ao) ((Ext.refl no a1)).size (size_lt_alloc ao)
      obtain ⟨hsz, h⟩ := h
      refine bif_tt hsz ?_
      refine storesK_ext h fun b2 bf h => ?_
      obtain ⟨b0, am, h⟩ := h
      refine ⟨b0, am, ?_⟩
      refine bif_of (fun aj => ?_) (fun aj => ?_)
      · have h := h.1 (beq_t aj)
        obtain ⟨b4, hz, ar, h⟩ := h
        refine ⟨b4, hz, ar, ?_⟩
        obtain ⟨hsz, h⟩ := h
        refine bif_tt hsz ?_
        refine storesK_ext h fun b6 bb h => ?_
        obtain ⟨ah, af, h⟩ := h
        try rw [w64 ah af]
        obtain ⟨b7, hk, h⟩ := h
        exact ⟨b7, hk, h⟩
      · have h := h.2 (beq_f aj)
        obtain ⟨ah, af, h⟩ := h
        try rw [w64 ah af]
        obtain ⟨b1, hk, h⟩ := h
        exact ⟨b1, hk, h⟩
    · have h := h.2 (Int.not_lt.1 (of_decide_eq_false ab))
      obtain ⟨a8, an, h⟩ := h
      refine ⟨a8, an, ?_⟩
      refine bif_of (fun aq => ?_) (fun aq => ?_)
      · have h := h.1 aq
        exact h
      · have h := h.2 aq
        exact h

theorem disk_Disk_Read.go (d1 : Option Addr) (i2 : Int) {R : Value → World → Prop} {w : World} (h : disk_Disk_Read.N d1 i2 R w) : Calls Try.prog 25 #[.pointer d1, .int .i64 i2] w fun e w' => ∃ v, e = .returned v ∧ R v w' := disk_Disk_Read.ok d1 i2 (disk_Disk_Read.up d1 i2 h)
/-- (*disk.Disk).settle -/
def disk_Disk_settle.M (d1 : Option Addr) (a0 : Nat) (a8 : Array Value) (a7 : Array Value) (R : Value → World → Prop) (w : World) : Prop :=
 d1.elim False fun a3 =>
 ∃ (aa : Option Addr) (a1 : Nat) (ah : Nat), w.cell? (a3.add 1) = some (.slice aa a1 ah) ∧
 ∃ (I0 : Nat → List Value → World → Prop) (m6 : Nat), I0 m6 [.int .i64 0] w ∧ ∀ (m7 : Nat) (ab : World) (t5 : Int), I0 m7 [.int .i64 t5] ab →
 bif decide (t5 < (a1 : Int)) then (
 aa.elim False fun a9 =>
 0 ≤ (t5 : Int) ∧ (t5 : Int) < (a1 : Int) ∧
 ∃ ao : Array Value, szB Try.prog 83 ao.size = true ∧ cellsAt ab (a9.add (Int.toNat t5 * 66)) ao.toList 0 ∧
 thenW (ab.alloc (.cells (List.toArray ([.int .i64 0] ++ List.replicate 64 (.int .u8 0) ++ [.bool false])) 83)) fun ar =>
 bif szB Try.prog 83 ao.size then storesK (blk ab.heap.size) ao.toList 0 ar fun ai =>
 bif enters Try.prog a0 then Calls Try.prog a0 (a8.toList ++ ([.int .i64 t5] : List Value) ++ a7.toList).toArray ai (fun au aj => ∃ (ak : Bool), au = .returned (.bool ak) ∧
 bif ak then (
 thenW (aj.drew) fun ac =>
 d1.elim False fun b5 =>
 ∃ (a2 : Option Addr) (a5 : Nat) (ad : Nat), ac.cell? (b5.add 0) = some (.slice a2 a5 ad) ∧
 ∃ (am : Int), ac.cell? ((blk ab.heap.size).add 0) = some (.int .i64 am) ∧
 ∃ an : Array Value, szB Try.prog 80 an.size = true ∧ cellsAt ac ((blk ab.heap.size).add 1) an.toList 0 ∧
 a2.elim False fun b4 =>
 0 ≤ (am : Int) ∧ (am : Int) < (a5 : Int) ∧
 bif szB Try.prog 80 an.size then storesK (b4.add (Int.toNat am * 65)) an.toList 0 ac fun aq =>
 ∃ az, az < m7 ∧ I0 az [.int .i64 (IntKind.i64.wrap (t5 + 1))] aq
 else False) else (
 ∃ ay, ay < m7 ∧ I0 ay [.int .i64 (IntKind.i64.wrap (t5 + 1))] aj)) else (∃ (ak : Bool) (ag : World), (externCall a0 (a8.toList ++ ([.int .i64 t5] : List Value) ++ a7.toList).toArray).run Try.prog ai = .ok (.bool ak) ag ∧
 bif ak then (
 thenW (ag.drew) fun ae =>
 d1.elim False fun b2 =>
 ∃ (a6 : Option Addr) (a4 : Nat) (af : Nat), ae.cell? (b2.add 0) = some (.slice a6 a4 af) ∧
 ∃ (al : Int), ae.cell? ((blk ab.heap.size).add 0) = some (.int .i64 al) ∧
 ∃ ap : Array Value, szB Try.prog 80 ap.size = true ∧ cellsAt ae ((blk ab.heap.size).add 1) ap.toList 0 ∧
 a6.elim False fun b3 =>
 0 ≤ (al : Int) ∧ (al : Int) < (a4 : Int) ∧
 bif szB Try.prog 80 ap.size then storesK (b3.add (Int.toNat al * 65)) ap.toList 0 ae fun aw =>
 ∃ ax, ax < m7 ∧ I0 ax [.int .i64 (IntKind.i64.wrap (t5 + 1))] aw
 else False) else (
 ∃ b1, b1 < m7 ∧ I0 b1 [.int .i64 (IntKind.i64.wrap (t5 + 1))] ag))
 else False) else (
 d1.elim False fun b0 =>
 canStore ab ((b0.add 1).add 0) ∧
 thenW (ab.setCell ((b0.add 1).add 0) (.slice none 0 0)) fun av =>
 R (.tuple #[]) av)

theorem disk_Disk_settle.eq (d1 : Option Addr) (keep2k : Nat) (keep2f : Array Value) (keep2g : Array Value) (R : Value → World → Prop) (w : World) : mfunc Try.prog [(0, [0, 1, 9, 10], [(11, (.one (.int .i64)))])] 48 [.pointer d1, .func (.func keep2k) keep2f keep2g] R w = disk_Disk_settle.M d1 keep2k keep2f keep2g R w := by kernel_rfl
theorem disk_Disk_settle.ok (d1 : Option Addr) (a0 : Nat) (a2 : Array Value) (a1 : Array Value) {R : Value → World → Prop} {w : World} (h : disk_Disk_settle.M d1 a0 a2 a1 R w) : Calls Try.prog 48 #[.pointer d1, .func (.func a0) a2 a1] w fun e w' => ∃ v, e = .returned v ∧ R v w' :=
  mfunc_ok follows (H := [(0, [0, 1, 9, 10], [(11, (.one (.int .i64)))])]) (args := [.pointer d1, .func (.func a0) a2 a1]) (by rw [disk_Disk_settle.eq]; exact h)

def disk_Disk_settle.N (d1 : Option Addr) (a6 : Nat) (ab : Array Value) (a9 : Array Value) (R : Value → World → Prop) (w : World) : Prop :=
 ∃ a3 : Addr, d1 = some a3 ∧
 ∃ (a5 : Option Addr) (a0 : Nat) (aa : Nat), w.cell? (a3.add 1) = some (.slice a5 a0 aa) ∧
 ∃ (I0 : Nat → List Value → World → Prop) (m7 : Nat), I0 m7 [.int .i64 0] w ∧ ∀ (m8 : Nat) (ac : World) (t6 : Int), I0 m8 [.int .i64 t6] ac →
 (t6 < (a0 : Int) →
 ∃ aq : Addr, a5 = some aq ∧
 0 ≤ (t6 : Int) ∧ (t6 : Int) < (a0 : Int) ∧
 ∃ ah : Array Value, szB Try.prog 83 ah.size = true ∧ cellsAt ac (aq.add (Int.toNat t6 * 66)) ah.toList 0 ∧
 ∀ (a7 : World) (ad : Nat), Ext no ac a7 → Blk a7 ad 83 ([.int .i64 0] ++ List.replicate 64 (.int .u8 0) ++ [.bool false]) → ac.heap.size ≤ ad → ad < a7.heap.size →
 szB Try.prog 83 ah.size = true ∧
 storesK (blk ad) ah.toList 0 a7 fun ai =>
 enters Try.prog a6 = true ∧ Calls Try.prog a6 (ab.toList ++ ([.int .i64 t6] : List Value) ++ a9.toList).toArray ai (fun al a4 => ∃ (aj : Bool), al = .returned (.bool aj) ∧
 (aj = true →
 ∃ (a1 : Option Addr) (a2 : Nat) (a8 : Nat), a4.cell? (a3.add 0) = some (.slice a1 a2 a8) ∧
 ∃ (ag : Int), a4.cell? ((blk ad).add 0) = some (.int .i64 ag) ∧
 ∃ af : Array Value, szB Try.prog 80 af.size = true ∧ cellsAt a4 ((blk ad).add 1) af.toList 0 ∧
 ∃ an : Addr, a1 = some an ∧
 0 ≤ (ag : Int) ∧ (ag : Int) < (a2 : Int) ∧
 ∀ (ae : World), Ext no a4 ae →
 szB Try.prog 80 af.size = true ∧
 storesK (an.add (Int.toNat ag * 65)) af.toList 0 ae fun ak =>
 (-9223372036854775808 : Int) ≤ (t6 + 1) ∧ (t6 + 1) < 9223372036854775808 ∧
 ∃ ap, ap < m8 ∧ I0 ap [.int .i64 (t6 + 1)] ak) ∧
 (aj = false →
 (-9223372036854775808 : Int) ≤ (t6 + 1) ∧ (t6 + 1) < 9223372036854775808 ∧
 ∃ ao, ao < m8 ∧ I0 ao [.int .i64 (t6 + 1)] a4))) ∧
 ((a0 : Int) ≤ t6 →
 canStore ac ((a3.add 1).add 0) ∧
 thenW (ac.setCell ((a3.add 1).add 0) (.slice none 0 0)) fun am =>
 R (.tuple #[]) am)

theorem disk_Disk_settle.up (d1 : Option Addr) (a2 : Nat) (a1 : Array Value) (a0 : Array Value) {R : Value → World → Prop} {w : World} (h : disk_Disk_settle.N d1 a2 a1 a0 R w) : disk_Disk_settle.M d1 a2 a1 a0 R w := by
  unfold disk_Disk_settle.M
  unfold disk_Disk_settle.N at h
  obtain ⟨a3, ak, h⟩ := h
  refine elim_some ak ?_
  obtain ⟨aa, a8, a9, av, h⟩ := h
  refine ⟨aa, a8, a9, av, ?_⟩
  obtain ⟨I0, m7, h0, h⟩ := h
  refine ⟨I0, m7, h0, fun m8 ab t6 hI => ?_⟩
  have h := h m8 ab t6 hI
  refine bif_of (fun al => ?_) (fun al => ?_)
  · have h := h.1 (of_decide_eq_true al)
    obtain ⟨ba, au, h⟩ := h
    refine elim_some au ?_
    obtain ⟨ap, ac, h⟩ := h
    refine ⟨ap, ac, ?_⟩
    obtain ⟨b6, hz, aq, h⟩ := h
    refine ⟨b6, hz, aq, ?_⟩
    refine thenW_in fun ao ah => ?_
    have h := h ao ab.heap.size ((Ext.refl no ab).x_alloc ah) (Blk.of_new ah) ((Ext.refl no ab)).size (size_lt_alloc ah)
    obtain ⟨hsz, h⟩ := h
    refine bif_tt hsz ?_
    refine storesK_ext h fun b1 bb h => ?_
    obtain ⟨hen, h⟩ := h
    refine bif_tt hen ?_
    refine h.mono fun b4 ag h => ?_
    obtain ⟨b2, he, h⟩ := h
    refine ⟨b2, he, ?_⟩
    refine bif_of (fun ar => ?_) (fun ar => ?_)
    · have h := h.1 ar
      refine thenW_in fun ae ay => ?_
      have a6 := (Ext.refl no ag).x_drew ay
      refine elim_some ak ?_
      obtain ⟨a4, a5, a7, aj, h⟩ := h
      refine ⟨a4, a5, a7, (a6).cell aj id, ?_⟩
      obtain ⟨b5, an, h⟩ := h
      refine ⟨b5, (a6).cell an id, ?_⟩
      obtain ⟨az, hz, af, h⟩ := h
      refine ⟨az, hz, cellsAt_no (a6) af, ?_⟩
      obtain ⟨b8, ad, h⟩ := h
      refine elim_some ad ?_
      obtain ⟨ap, ac, h⟩ := h
      refine ⟨ap, ac, ?_⟩
      have h := h ae a6
      obtain ⟨hsz, h⟩ := h
      refine bif_tt hsz ?_
      refine storesK_ext h fun b3 b9 h => ?_
      obtain ⟨am, ai, h⟩ := h
      try rw [w64 am ai]
      obtain ⟨b0, hk, h⟩ := h
      exact ⟨b0, hk, h⟩
    · have h := h.2 ar
      obtain ⟨am, ai, h⟩ := h
      try rw [w64 am ai]
      obtain ⟨aw, hk, h⟩ := h
      exact ⟨aw, hk, h⟩
  · have h := h.2 (Int.not_lt.1 (of_decide_eq_false al))
    refine elim_some ak ?_
    obtain ⟨hcs, h⟩ := h
    refine ⟨hcs, thenW_in fun b7 ax => ?_⟩
    replace h := thenW_out h ax
    exact h

theorem disk_Disk_settle.go (d1 : Option Addr) (a0 : Nat) (a2 : Array Value) (a1 : Array Value) {R : Value → World → Prop} {w : World} (h : disk_Disk_settle.N d1 a0 a2 a1 R w) : Calls Try.prog 48 #[.pointer d1, .func (.func a0) a2 a1] w fun e w' => ∃ v, e = .returned v ∧ R v w' := disk_Disk_settle.ok d1 a0 a2 a1 (disk_Disk_settle.up d1 a0 a2 a1 h)
theorem disk_Disk_settle.run (d1 : Option Addr) (a0 : Nat) (a2 : Array Value) (a1 : Array Value) {V : Value} {Q : World → Prop} {w : World} (h : disk_Disk_settle.N d1 a0 a2 a1 (fun v w' => v = V ∧ Q w') w) : Calls Try.prog 48 #[.pointer d1, .func (.func a0) a2 a1] w (Ret V Q) := (disk_Disk_settle.go d1 a0 a2 a1 h).mono fun e w' ⟨v, he, hv, hq⟩ => ⟨by rw [he, hv], hq⟩

/-- (*disk.Disk).Write -/
def disk_Disk_Write.M (d1 : Option Addr) (i2 : Int) (d8 : Option Addr) (d3 : Nat) (d5 : Nat) (R : Value → World → Prop) (w : World) : Prop :=
 Calls Try.prog 50 #[.pointer d1, .int .i64 i2] w fun dd a0 => ∃ (ai : Int), dd = .returned (.int .i64 ai) ∧
 bif ai != 0 then (
 R (.int .i64 ai) a0) else (
 bif (d3 : Int) != 64 then (
 R (.int .i64 1) a0) else (
 thenW (a0.alloc (.cells (List.toArray ([.int .i64 0] ++ List.replicate 64 (.int .u8 0) ++ [.bool false])) 83)) fun cw =>
 canStore cw ((blk a0.heap.size).add 0) ∧
 thenW (cw.setCell ((blk a0.heap.size).add 0) (.int .i64 i2)) fun d0 =>
 canStore d0 ((blk a0.heap.size).add 1) ∧
 thenW (d0.setCell ((blk a0.heap.size).add 1) (.int .u8 0)) fun d4 =>
 canStore d4 ((blk a0.heap.size).add 2) ∧
 thenW (d4.setCell ((blk a0.heap.size).add 2) (.int .u8 0)) fun cl =>
 canStore cl ((blk a0.heap.size).add 3) ∧
 thenW (cl.setCell ((blk a0.heap.size).add 3) (.int .u8 0)) fun am =>
 canStore am ((blk a0.heap.size).add 4) ∧
 thenW (am.setCell ((blk a0.heap.size).add 4) (.int .u8 0)) fun cb =>
 canStore cb ((blk a0.heap.size).add 5) ∧
 thenW (cb.setCell ((blk a0.heap.size).add 5) (.int .u8 0)) fun bj =>
 canStore bj ((blk a0.heap.size).add 6) ∧
 thenW (bj.setCell ((blk a0.heap.size).add 6) (.int .u8 0)) fun bz =>
 canStore bz ((blk a0.heap.size).add 7) ∧
 thenW (bz.setCell ((blk a0.heap.size).add 7) (.int .u8 0)) fun ap =>
 canStore ap ((blk a0.heap.size).add 8) ∧
 thenW (ap.setCell ((blk a0.heap.size).add 8) (.int .u8 0)) fun av =>
 canStore av ((blk a0.heap.size).add 9) ∧
 thenW (av.setCell ((blk a0.heap.size).add 9) (.int .u8 0)) fun bm =>
 canStore bm ((blk a0.heap.size).add 10) ∧
 thenW (bm.setCell ((blk a0.heap.size).add 10) (.int .u8 0)) fun c1 =>
 canStore c1 ((blk a0.heap.size).add 11) ∧
 thenW (c1.setCell ((blk a0.heap.size).add 11) (.int .u8 0)) fun b5 =>
 canStore b5 ((blk a0.heap.size).add 12) ∧
 thenW (b5.setCell ((blk a0.heap.size).add 12) (.int .u8 0)) fun ck =>
 canStore ck ((blk a0.heap.size).add 13) ∧
 thenW (ck.setCell ((blk a0.heap.size).add 13) (.int .u8 0)) fun cc =>
 canStore cc ((blk a0.heap.size).add 14) ∧
 thenW (cc.setCell ((blk a0.heap.size).add 14) (.int .u8 0)) fun cj =>
 canStore cj ((blk a0.heap.size).add 15) ∧
 thenW (cj.setCell ((blk a0.heap.size).add 15) (.int .u8 0)) fun b3 =>
 canStore b3 ((blk a0.heap.size).add 16) ∧
 thenW (b3.setCell ((blk a0.heap.size).add 16) (.int .u8 0)) fun b2 =>
 canStore b2 ((blk a0.heap.size).add 17) ∧
 thenW (b2.setCell ((blk a0.heap.size).add 17) (.int .u8 0)) fun bu =>
 canStore bu ((blk a0.heap.size).add 18) ∧
 thenW (bu.setCell ((blk a0.heap.size).add 18) (.int .u8 0)) fun b7 =>
 canStore b7 ((blk a0.heap.size).add 19) ∧
 thenW (b7.setCell ((blk a0.heap.size).add 19) (.int .u8 0)) fun bq =>
 canStore bq ((blk a0.heap.size).add 20) ∧
 thenW (bq.setCell ((blk a0.heap.size).add 20) (.int .u8 0)) fun aq =>
 canStore aq ((blk a0.heap.size).add 21) ∧
 thenW (aq.setCell ((blk a0.heap.size).add 21) (.int .u8 0)) fun c2 =>
 canStore c2 ((blk a0.heap.size).add 22) ∧
 thenW (c2.setCell ((blk a0.heap.size).add 22) (.int .u8 0)) fun bw =>
 canStore bw ((blk a0.heap.size).add 23) ∧
 thenW (bw.setCell ((blk a0.heap.size).add 23) (.int .u8 0)) fun ch =>
 canStore ch ((blk a0.heap.size).add 24) ∧
 thenW (ch.setCell ((blk a0.heap.size).add 24) (.int .u8 0)) fun cp =>
 canStore cp ((blk a0.heap.size).add 25) ∧
 thenW (cp.setCell ((blk a0.heap.size).add 25) (.int .u8 0)) fun ao =>
 canStore ao ((blk a0.heap.size).add 26) ∧
 thenW (ao.setCell ((blk a0.heap.size).add 26) (.int .u8 0)) fun be =>
 canStore be ((blk a0.heap.size).add 27) ∧
 thenW (be.setCell ((blk a0.heap.size).add 27) (.int .u8 0)) fun cf =>
 canStore cf ((blk a0.heap.size).add 28) ∧
 thenW (cf.setCell ((blk a0.heap.size).add 28) (.int .u8 0)) fun c4 =>
 canStore c4 ((blk a0.heap.size).add 29) ∧
 thenW (c4.setCell ((blk a0.heap.size).add 29) (.int .u8 0)) fun bx =>
 canStore bx ((blk a0.heap.size).add 30) ∧
 thenW (bx.setCell ((blk a0.heap.size).add 30) (.int .u8 0)) fun b4 =>
 canStore b4 ((blk a0.heap.size).add 31) ∧
 thenW (b4.setCell ((blk a0.heap.size).add 31) (.int .u8 0)) fun bo =>
 canStore bo ((blk a0.heap.size).add 32) ∧
 thenW (bo.setCell ((blk a0.heap.size).add 32) (.int .u8 0)) fun az =>
 canStore az ((blk a0.heap.size).add 33) ∧
 thenW (az.setCell ((blk a0.heap.size).add 33) (.int .u8 0)) fun an =>
 canStore an ((blk a0.heap.size).add 34) ∧
 thenW (an.setCell ((blk a0.heap.size).add 34) (.int .u8 0)) fun cm =>
 canStore cm ((blk a0.heap.size).add 35) ∧
 thenW (cm.setCell ((blk a0.heap.size).add 35) (.int .u8 0)) fun c6 =>
 canStore c6 ((blk a0.heap.size).add 36) ∧
 thenW (c6.setCell ((blk a0.heap.size).add 36) (.int .u8 0)) fun cg =>
 canStore cg ((blk a0.heap.size).add 37) ∧
 thenW (cg.setCell ((blk a0.heap.size).add 37) (.int .u8 0)) fun bg =>
 canStore bg ((blk a0.heap.size).add 38) ∧
 thenW (bg.setCell ((blk a0.heap.size).add 38) (.int .u8 0)) fun ci =>
 canStore ci ((blk a0.heap.size).add 39) ∧
 thenW (ci.setCell ((blk a0.heap.size).add 39) (.int .u8 0)) fun au =>
 canStore au ((blk a0.heap.size).add 40) ∧
 thenW (au.setCell ((blk a0.heap.size).add 40) (.int .u8 0)) fun bp =>
 canStore bp ((blk a0.heap.size).add 41) ∧
 thenW (bp.setCell ((blk a0.heap.size).add 41) (.int .u8 0)) fun bf =>
 canStore bf ((blk a0.heap.size).add 42) ∧
 thenW (bf.setCell ((blk a0.heap.size).add 42) (.int .u8 0)) fun ar =>
 canStore ar ((blk a0.heap.size).add 43) ∧
 thenW (ar.setCell ((blk a0.heap.size).add 43) (.int .u8 0)) fun b9 =>
 canStore b9 ((blk a0.heap.size).add 44) ∧
 thenW (b9.setCell ((blk a0.heap.size).add 44) (.int .u8 0)) fun ce =>
 canStore ce ((blk a0.heap.size).add 45) ∧
 thenW (ce.setCell ((blk a0.heap.size).add 45) (.int .u8 0)) fun bh =>
 canStore bh ((blk a0.heap.size).add 46) ∧
 thenW (bh.setCell ((blk a0.heap.size).add 46) (.int .u8 0)) fun cn =>
 canStore cn ((blk a0.heap.size).add 47) ∧
 thenW (cn.setCell ((blk a0.heap.size).add 47) (.int .u8 0)) fun bn =>
 canStore bn ((blk a0.heap.size).add 48) ∧
 thenW (bn.setCell ((blk a0.heap.size).add 48) (.int .u8 0)) fun ay =>
 canStore ay ((blk a0.heap.size).add 49) ∧
 thenW (ay.setCell ((blk a0.heap.size).add 49) (.int .u8 0)) fun bi =>
 canStore bi ((blk a0.heap.size).add 50) ∧
 thenW (bi.setCell ((blk a0.heap.size).add 50) (.int .u8 0)) fun c5 =>
 canStore c5 ((blk a0.heap.size).add 51) ∧
 thenW (c5.setCell ((blk a0.heap.size).add 51) (.int .u8 0)) fun bl =>
 canStore bl ((blk a0.heap.size).add 52) ∧
 thenW (bl.setCell ((blk a0.heap.size).add 52) (.int .u8 0)) fun bb =>
 canStore bb ((blk a0.heap.size).add 53) ∧
 thenW (bb.setCell ((blk a0.heap.size).add 53) (.int .u8 0)) fun aw =>
 canStore aw ((blk a0.heap.size).add 54) ∧
 thenW (aw.setCell ((blk a0.heap.size).add 54) (.int .u8 0)) fun c3 =>
 canStore c3 ((blk a0.heap.size).add 55) ∧
 thenW (c3.setCell ((blk a0.heap.size).add 55) (.int .u8 0)) fun c8 =>
 canStore c8 ((blk a0.heap.size).add 56) ∧
 thenW (c8.setCell ((blk a0.heap.size).add 56) (.int .u8 0)) fun ba =>
 canStore ba ((blk a0.heap.size).add 57) ∧
 thenW (ba.setCell ((blk a0.heap.size).add 57) (.int .u8 0)) fun al =>
 canStore al ((blk a0.heap.size).add 58) ∧
 thenW (al.setCell ((blk a0.heap.size).add 58) (.int .u8 0)) fun c7 =>
 canStore c7 ((blk a0.heap.size).add 59) ∧
 thenW (c7.setCell ((blk a0.heap.size).add 59) (.int .u8 0)) fun b8 =>
 canStore b8 ((blk a0.heap.size).add 60) ∧
 thenW (b8.setCell ((blk a0.heap.size).add 60) (.int .u8 0)) fun bd =>
 canStore bd ((blk a0.heap.size).add 61) ∧
 thenW (bd.setCell ((blk a0.heap.size).add 61) (.int .u8 0)) fun b1 =>
 canStore b1 ((blk a0.heap.size).add 62) ∧
 thenW (b1.setCell ((blk a0.heap.size).add 62) (.int .u8 0)) fun bs =>
 canStore bs ((blk a0.heap.size).add 63) ∧
 thenW (bs.setCell ((blk a0.heap.size).add 63) (.int .u8 0)) fun c9 =>
 canStore c9 ((blk a0.heap.size).add 64) ∧
 thenW (c9.setCell ((blk a0.heap.size).add 64) (.int .u8 0)) fun cd =>
 canStore cd ((blk a0.heap.size).add 65) ∧
 thenW (cd.setCell ((blk a0.heap.size).add 65) (.bool false)) fun cq =>
 ∃ (dc : Int) (c0 : World), (Builtin.copy_ #[30, 30] 3 #[.slice (some (if 64 = 0 then (((blk a0.heap.size).add 1).add 0) else (((blk a0.heap.size).add 1).add 0).add (0 * 1))) (64 - 0) (64 - 0), .slice d8 d3 d5]).run Try.prog cq = .ok (.int .i64 dc) c0 ∧
 thenW (c0.drew) fun aj =>
 d1.elim False fun cz =>
 ∃ (a5 : Option Addr) (a4 : Nat) (a3 : Nat), aj.cell? (cz.add 1) = some (.slice a5 a4 a3) ∧
 ∃ cs : Array Value, szB Try.prog 83 cs.size = true ∧ cellsAt aj (blk a0.heap.size) cs.toList 0 ∧
 mslit Try.prog 54 1 [(0, Value.agg cs)] aj fun (bt : Value) (ca : World) =>
 ca.cell? (cz.add 1) = some (.slice a5 a4 a3) ∧
 ∃ (b0 : Option Addr) (ax : Nat) (bc : Nat) (ak : World), (Builtin.append_ #[54, 54] 54 #[.slice a5 a4 a3, bt]).run Try.prog ca = .ok (.slice b0 ax bc) ak ∧
 d1.elim False fun d2 =>
 canStore ak ((d2.add 1).add 0) ∧
 thenW (ak.setCell ((d2.add 1).add 0) (.slice b0 ax bc)) fun a2 =>
 d1.elim False fun d6 =>
 ∃ (a9 : Bool), a2.cell? (d6.add 3) = some (.bool a9) ∧
 bif a9 then (
 d1.elim False fun da =>
 ∃ (ad : Int), a2.cell? (da.add 2) = some (.int .i64 ad) ∧
 bif ad == 0 then (
 d1.elim False fun cy =>
 canStore a2 ((cy.add 4).add 0) ∧
 thenW (a2.setCell ((cy.add 4).add 0) (.int .i64 1)) fun cu =>
 thenW (cu.drew) fun ah =>
 d1.elim False fun d7 =>
 ∃ (aa : Option Addr) (ab : Nat) (af : Nat), ah.cell? (d7.add 1) = some (.slice aa ab af) ∧
 d1.elim False fun db =>
 ∃ (ae : Option Addr) (a1 : Nat) (ag : Nat), ah.cell? (db.add 1) = some (.slice ae a1 ag) ∧
 aa.elim False fun cx =>
 0 ≤ ((IntKind.i64.wrap ((a1 : Int) - 1)) : Int) ∧ ((IntKind.i64.wrap ((a1 : Int) - 1)) : Int) < (ab : Int) ∧
 canStore ah ((((cx.add (Int.toNat (IntKind.i64.wrap ((a1 : Int) - 1)) * 66)).add 1).add 64).add 0) ∧
 thenW (ah.setCell ((((cx.add (Int.toNat (IntKind.i64.wrap ((a1 : Int) - 1)) * 66)).add 1).add 64).add 0) (.bool true)) fun ct =>
 R (.int .i64 19) ct) else (
 d1.elim False fun d9 =>
 ∃ (a8 : Int), a2.cell? (d9.add 2) = some (.int .i64 a8) ∧
 d1.elim False fun b6 =>
 canStore a2 ((b6.add 2).add 0) ∧
 thenW (a2.setCell ((b6.add 2).add 0) (.int .i64 (IntKind.i64.wrap (a8 - 1)))) fun ac =>
 d1.elim False fun cv =>
 ∃ (a7 : Int), ac.cell? (cv.add 5) = some (.int .i64 a7) ∧
 d1.elim False fun co =>
 canStore ac ((co.add 5).add 0) ∧
 thenW (ac.setCell ((co.add 5).add 0) (.int .i64 (IntKind.i64.wrap (a7 + 1)))) fun bk =>
 R (.int .i64 0) bk)) else (
 d1.elim False fun cr =>
 ∃ (a6 : Int), a2.cell? (cr.add 5) = some (.int .i64 a6) ∧
 d1.elim False fun bv =>
 canStore a2 ((bv.add 5).add 0) ∧
 thenW (a2.setCell ((bv.add 5).add 0) (.int .i64 (IntKind.i64.wrap (a6 + 1)))) fun br =>
 R (.int .i64 0) br)))

theorem disk_Disk_Write.eq (d1 : Option Addr) (i2 : Int) (b3a : Option Addr) (b3n : Nat) (b3c : Nat) (R : Value → World → Prop) (w : World) : mfunc Try.prog [] 34 [.pointer d1, .int .i64 i2, .slice b3a b3n b3c] R w = disk_Disk_Write.M d1 i2 b3a b3n b3c R w := by kernel_rfl
theorem disk_Disk_Write.ok (d1 : Option Addr) (i2 : Int) (a2 : Option Addr) (a1 : Nat) (a0 : Nat) {R : Value → World → Prop} {w : World} (h : disk_Disk_Write.M d1 i2 a2 a1 a0 R w) : Calls Try.prog 34 #[.pointer d1, .int .i64 i2, .slice a2 a1 a0] w fun e w' => ∃ v, e = .returned v ∧ R v w' :=
  mfunc_ok follows (H := []) (args := [.pointer d1, .int .i64 i2, .slice a2 a1 a0]) (by rw [disk_Disk_Write.eq]; exact h)

def disk_Disk_Write.N (d1 : Option Addr) (i2 : Int) (b5 : Option Addr) (b2 : Nat) (b4 : Nat) (R : Value → World → Prop) (w : World) : Prop :=
 Calls Try.prog 50 #[.pointer d1, .int .i64 i2] w fun b6 ax => ∃ (aj : Int), b6 = .returned (.int .i64 aj) ∧
 (aj ≠ 0 →
 R (.int .i64 aj) ax) ∧
 (aj = 0 →
 ((b2 : Int) ≠ 64 →
 R (.int .i64 1) ax) ∧
 ((b2 : Int) = 64 →
 ∀ (b0 : World) (ak : Nat), Ext no ax b0 → Blk b0 ak 83 ([.int .i64 0] ++ List.replicate 64 (.int .u8 0) ++ [.bool false]) → ax.heap.size ≤ ak → ak < b0.heap.size →
 putsK b0 (blk ak) ([.int .i64 i2] ++ List.replicate 64 (.int .u8 0) ++ [.bool false]) 0 fun b1 =>
 ∃ (b3 : Int) (ah : World), (Builtin.copy_ #[30, 30] 3 #[.slice (some (if 64 = 0 then (((blk ak).add 1).add 0) else (((blk ak).add 1).add 0).add (0 * 1))) (64 - 0) (64 - 0), .slice b5 b2 b4]).run Try.prog b1 = .ok (.int .i64 b3) ah ∧
 ∃ a5 : Addr, d1 = some a5 ∧
 ∃ (a9 : Option Addr) (a7 : Nat) (a6 : Nat), ah.cell? (a5.add 1) = some (.slice a9 a7 a6) ∧
 ∃ az : Array Value, szB Try.prog 83 az.size = true ∧ cellsAt ah (blk ak) az.toList 0 ∧
 szB Try.prog 83 az.size = true ∧
 ∀ (af : World) (ay : Nat), Ext no ah af → Blk af ay 83 az.toList → ah.heap.size ≤ ay → ay < af.heap.size →
 af.cell? (a5.add 1) = some (.slice a9 a7 a6) ∧
 ∃ (aq : Option Addr) (aw : Nat) (av : Nat) (ao : World), (Builtin.append_ #[54, 54] 54 #[.slice a9 a7 a6, .slice (some (blk ay)) 1 1]).run Try.prog af = .ok (.slice aq aw av) ao ∧
 canStore ao ((a5.add 1).add 0) ∧
 thenW (ao.setCell ((a5.add 1).add 0) (.slice aq aw av)) fun a4 =>
 ∃ (a8 : Bool), a4.cell? (a5.add 3) = some (.bool a8) ∧
 (a8 = true →
 ∃ (ac : Int), a4.cell? (a5.add 2) = some (.int .i64 ac) ∧
 (ac = 0 →
 canStore a4 ((a5.add 4).add 0) ∧
 thenW (a4.setCell ((a5.add 4).add 0) (.int .i64 1)) fun am =>
 ∃ (ab : Option Addr) (aa : Nat) (ad : Nat), am.cell? (a5.add 1) = some (.slice ab aa ad) ∧
 ∃ (ag : Option Addr) (a0 : Nat) (ai : Nat), am.cell? (a5.add 1) = some (.slice ag a0 ai) ∧
 (-9223372036854775808 : Int) ≤ ((a0 : Int) - 1) ∧ ((a0 : Int) - 1) < 9223372036854775808 ∧
 ∃ an : Addr, ab = some an ∧
 0 ≤ (((a0 : Int) - 1) : Int) ∧ (((a0 : Int) - 1) : Int) < (aa : Int) ∧
 ∀ (al : World), Ext no am al →
 canStore al ((((an.add (Int.toNat ((a0 : Int) - 1) * 66)).add 1).add 64).add 0) ∧
 thenW (al.setCell ((((an.add (Int.toNat ((a0 : Int) - 1) * 66)).add 1).add 64).add 0) (.bool true)) fun au =>
 R (.int .i64 19) au) ∧
 (ac ≠ 0 →
 ∃ (a3 : Int), a4.cell? (a5.add 2) = some (.int .i64 a3) ∧
 (-9223372036854775808 : Int) ≤ (a3 - 1) ∧ (a3 - 1) < 9223372036854775808 ∧
 canStore a4 ((a5.add 2).add 0) ∧
 thenW (a4.setCell ((a5.add 2).add 0) (.int .i64 (a3 - 1))) fun ae =>
 ∃ (a1 : Int), ae.cell? (a5.add 5) = some (.int .i64 a1) ∧
 (-9223372036854775808 : Int) ≤ (a1 + 1) ∧ (a1 + 1) < 9223372036854775808 ∧
 canStore ae ((a5.add 5).add 0) ∧
 thenW (ae.setCell ((a5.add 5).add 0) (.int .i64 (a1 + 1))) fun ar =>
 R (.int .i64 0) ar)) ∧
 (a8 = false →
 ∃ (a2 : Int), a4.cell? (a5.add 5) = some (.int .i64 a2) ∧
 (-9223372036854775808 : Int) ≤ (a2 + 1) ∧ (a2 + 1) < 9223372036854775808 ∧
 canStore a4 ((a5.add 5).add 0) ∧
 thenW (a4.setCell ((a5.add 5).add 0) (.int .i64 (a2 + 1))) fun ap =>
 R (.int .i64 0) ap)))

theorem disk_Disk_Write.up (d1 : Option Addr) (i2 : Int) (bh : Option Addr) (bg : Nat) (be : Nat) {R : Value → World → Prop} {w : World} (h : disk_Disk_Write.N d1 i2 bh bg be R w) : disk_Disk_Write.M d1 i2 bh bg be R w := by
  unfold disk_Disk_Write.M
  unfold disk_Disk_Write.N at h
  refine h.mono fun fs ba h => ?_
  obtain ⟨ap, he, h⟩ := h
  refine ⟨ap, he, ?_⟩
  refine bif_of (fun c7 => ?_) (fun c7 => ?_)
  · have h := h.1 (bne_t c7)
    exact h
  · have h := h.2 (bne_f c7)
    refine bif_of (fun c8 => ?_) (fun c8 => ?_)
    · have h := h.1 (bne_t c8)
      exact h
    · have h := h.2 (bne_f c8)
      refine thenW_in fun fk e9 => ?_
      have h := h fk ba.heap.size ((Ext.refl no ba).x_alloc e9) (Blk.of_new e9) ((Ext.refl no ba)).size (size_lt_alloc e9)
      try rw [show (([.int .i64 i2] ++ List.replicate 64 (.int .u8 0) ++ [.bool false])) = [.int .i64 i2, .int .u8 0, .int .u8 0, .int .u8 0, .int .u8 0, .int .u8 0, .int .u8 0, .int .u8 0, .int .u8 0, .int .u8 0, .int .u8 0, .int .u8 0, .int .u8 0, .int .u8 0, .int .u8 0, .int .u8 0, .int .u8 0, .int .u8 0, .int .u8 0, .int .u8 0, .int .u8 0, .int .u8 0, .int .u8 0, .int .u8 0, .int .u8 0, .int .u8 0, .int .u8 0, .int .u8 0, .int .u8 0, .int .u8 0, .int .u8 0, .int .u8 0, .int .u8 0, .int .u8 0, .int .u8 0, .int .u8 0, .int .u8 0, .int .u8 0, .int .u8 0, .int .u8 0, .int .u8 0, .int .u8 0, .int .u8 0, .int .u8 0, .int .u8 0, .int .u8 0, .int .u8 0, .int .u8 0, .int .u8 0, .int .u8 0, .int .u8 0, .int .u8 0, .int .u8 0, .int .u8 0, .int .u8 0, .int .u8 0, .int .u8 0, .int .u8 0, .int .u8 0, .int .u8 0, .int .u8 0, .int .u8 0, .int .u8 0, .int .u8 0, .int .u8 0, .bool false] from rfl] at h
      obtain ⟨hcs, h⟩ := h
      refine ⟨hcs, thenW_in fun bt ck => ?_⟩
      replace h := thenW_out h ck
      obtain ⟨hcs, h⟩ := h
      refine ⟨hcs, thenW_in fun eu c5 => ?_⟩
      replace h := thenW_out h c5
      obtain ⟨hcs, h⟩ := h
      refine ⟨hcs, thenW_in fun dp cs => ?_⟩
      replace h := thenW_out h cs
      obtain ⟨hcs, h⟩ := h
      refine ⟨hcs, thenW_in fun ec br => ?_⟩
      replace h := thenW_out h br
      obtain ⟨hcs, h⟩ := h
      refine ⟨hcs, thenW_in fun bx cc => ?_⟩
      replace h := thenW_out h cc
      obtain ⟨hcs, h⟩ := h
      refine ⟨hcs, thenW_in fun c6 co => ?_⟩
      replace h := thenW_out h co
      obtain ⟨hcs, h⟩ := h
      refine ⟨hcs, thenW_in fun ds ep => ?_⟩
      replace h := thenW_out h ep
      obtain ⟨hcs, h⟩ := h
      refine ⟨hcs, thenW_in fun ed ff => ?_⟩
      replace h := thenW_out h ff
      obtain ⟨hcs, h⟩ := h
      refine ⟨hcs, thenW_in fun cy d5 => ?_⟩
      replace h := thenW_out h d5
      obtain ⟨hcs, h⟩ := h
      refine ⟨hcs, thenW_in fun fa bn => ?_⟩
      replace h := thenW_out h bn
      obtain ⟨hcs, h⟩ := h
      refine ⟨hcs, thenW_in fun ev bz => ?_⟩
      replace h := thenW_out h bz
      obtain ⟨hcs, h⟩ := h
      refine ⟨hcs, thenW_in fun f8 ey => ?_⟩
      replace h := thenW_out h ey
      obtain ⟨hcs, h⟩ := h
      refine ⟨hcs, thenW_in fun cv d7 => ?_⟩
      replace h := thenW_out h d7
      obtain ⟨hcs, h⟩ := h
      refine ⟨hcs, thenW_in fun ct e8 => ?_⟩
      replace h := thenW_out h e8
      obtain ⟨hcs, h⟩ := h
      refine ⟨hcs, thenW_in fun e7 f9 => ?_⟩
      replace h := thenW_out h f9
      obtain ⟨hcs, h⟩ := h
      refine ⟨hcs, thenW_in fun cz cl => ?_⟩
      replace h := thenW_out h cl
      obtain ⟨hcs, h⟩ := h
      refine ⟨hcs, thenW_in fun e1 du => ?_⟩
      replace h := thenW_out h du
      obtain ⟨hcs, h⟩ := h
      refine ⟨hcs, thenW_in fun c1 dh => ?_⟩
      replace h := thenW_out h dh
      obtain ⟨hcs, h⟩ := h
      refine ⟨hcs, thenW_in fun ef dz => ?_⟩
      replace h := thenW_out h dz
      obtain ⟨hcs, h⟩ := h
      refine ⟨hcs, thenW_in fun ea bs => ?_⟩
      replace h := thenW_out h bs
      obtain ⟨hcs, h⟩ := h
      refine ⟨hcs, thenW_in fun f5 d2 => ?_⟩
      replace h := thenW_out h d2
      obtain ⟨hcs, h⟩ := h
      refine ⟨hcs, thenW_in fun fq fp => ?_⟩
      replace h := thenW_out h fp
      obtain ⟨hcs, h⟩ := h
      refine ⟨hcs, thenW_in fun bw dn => ?_⟩
      replace h := thenW_out h dn
      obtain ⟨hcs, h⟩ := h
      refine ⟨hcs, thenW_in fun df cx => ?_⟩
      replace h := thenW_out h cx
      obtain ⟨hcs, h⟩ := h
      refine ⟨hcs, thenW_in fun f2 d4 => ?_⟩
      replace h := thenW_out h d4
      obtain ⟨hcs, h⟩ := h
      refine ⟨hcs, thenW_in fun ek e6 => ?_⟩
      replace h := thenW_out h e6
      obtain ⟨hcs, h⟩ := h
      refine ⟨hcs, thenW_in fun eb bp => ?_⟩
      replace h := thenW_out h bp
      obtain ⟨hcs, h⟩ := h
      refine ⟨hcs, thenW_in fun cw ei => ?_⟩
      replace h := thenW_out h ei
      obtain ⟨hcs, h⟩ := h
      refine ⟨hcs, thenW_in fun dv dj => ?_⟩
      replace h := thenW_out h dj
      obtain ⟨hcs, h⟩ := h
      refine ⟨hcs, thenW_in fun ci c3 => ?_⟩
      replace h := thenW_out h c3
      obtain ⟨hcs, h⟩ := h
      refine ⟨hcs, thenW_in fun bv fb => ?_⟩
      replace h := thenW_out h fb
      obtain ⟨hcs, h⟩ := h
      refine ⟨hcs, thenW_in fun fd es => ?_⟩
      replace h := thenW_out h es
      obtain ⟨hcs, h⟩ := h
      refine ⟨hcs, thenW_in fun en f6 => ?_⟩
      replace h := thenW_out h f6
      obtain ⟨hcs, h⟩ := h
      refine ⟨hcs, thenW_in fun f3 cp => ?_⟩
      replace h := thenW_out h cp
      obtain ⟨hcs, h⟩ := h
      refine ⟨hcs, thenW_in fun di fo => ?_⟩
      replace h := thenW_out h fo
      obtain ⟨hcs, h⟩ := h
      refine ⟨hcs, thenW_in fun f7 fj => ?_⟩
      replace h := thenW_out h fj
      obtain ⟨hcs, h⟩ := h
      refine ⟨hcs, thenW_in fun c4 e3 => ?_⟩
      replace h := thenW_out h e3
      obtain ⟨hcs, h⟩ := h
      refine ⟨hcs, thenW_in fun dy dk => ?_⟩
      replace h := thenW_out h dk
      obtain ⟨hcs, h⟩ := h
      refine ⟨hcs, thenW_in fun dg cm => ?_⟩
      replace h := thenW_out h cm
      obtain ⟨hcs, h⟩ := h
      refine ⟨hcs, thenW_in fun c2 ej => ?_⟩
      replace h := thenW_out h ej
      obtain ⟨hcs, h⟩ := h
      refine ⟨hcs, thenW_in fun d8 dc => ?_⟩
      replace h := thenW_out h dc
      obtain ⟨hcs, h⟩ := h
      refine ⟨hcs, thenW_in fun f1 f0 => ?_⟩
      replace h := thenW_out h f0
      obtain ⟨hcs, h⟩ := h
      refine ⟨hcs, thenW_in fun dl c9 => ?_⟩
      replace h := thenW_out h c9
      obtain ⟨hcs, h⟩ := h
      refine ⟨hcs, thenW_in fun fh ez => ?_⟩
      replace h := thenW_out h ez
      obtain ⟨hcs, h⟩ := h
      refine ⟨hcs, thenW_in fun dt fl => ?_⟩
      replace h := thenW_out h fl
      obtain ⟨hcs, h⟩ := h
      refine ⟨hcs, thenW_in fun ce fe => ?_⟩
      replace h := thenW_out h fe
      obtain ⟨hcs, h⟩ := h
      refine ⟨hcs, thenW_in fun dm e5 => ?_⟩
      replace h := thenW_out h e5
      obtain ⟨hcs, h⟩ := h
      refine ⟨hcs, thenW_in fun el d9 => ?_⟩
      replace h := thenW_out h d9
      obtain ⟨hcs, h⟩ := h
      refine ⟨hcs, thenW_in fun dr em => ?_⟩
      replace h := thenW_out h em
      obtain ⟨hcs, h⟩ := h
      refine ⟨hcs, thenW_in fun db f4 => ?_⟩
      replace h := thenW_out h f4
      obtain ⟨hcs, h⟩ := h
      refine ⟨hcs, thenW_in fun ca cd => ?_⟩
      replace h := thenW_out h cd
      obtain ⟨hcs, h⟩ := h
      refine ⟨hcs, thenW_in fun eh dw => ?_⟩
      replace h := thenW_out h dw
      obtain ⟨hcs, h⟩ := h
      refine ⟨hcs, thenW_in fun er e2 => ?_⟩
      replace h := thenW_out h e2
      obtain ⟨hcs, h⟩ := h
      refine ⟨hcs, thenW_in fun da c0 => ?_⟩
      replace h := thenW_out h c0
      obtain ⟨hcs, h⟩ := h
      refine ⟨hcs, thenW_in fun bm dx => ?_⟩
      replace h := thenW_out h dx
      obtain ⟨hcs, h⟩ := h
      refine ⟨hcs, thenW_in fun eo d6 => ?_⟩
      replace h := thenW_out h d6
      obtain ⟨hcs, h⟩ := h
      refine ⟨hcs, thenW_in fun d0 eg => ?_⟩
      replace h := thenW_out h eg
      obtain ⟨hcs, h⟩ := h
      refine ⟨hcs, thenW_in fun de cb => ?_⟩
      replace h := thenW_out h cb
      obtain ⟨hcs, h⟩ := h
      refine ⟨hcs, thenW_in fun cn fm => ?_⟩
      replace h := thenW_out h fm
      obtain ⟨hcs, h⟩ := h
      refine ⟨hcs, thenW_in fun e4 d3 => ?_⟩
      replace h := thenW_out h d3
      obtain ⟨hcs, h⟩ := h
      refine ⟨hcs, thenW_in fun et ex => ?_⟩
      replace h := thenW_out h ex
      obtain ⟨hcs, h⟩ := h
      refine ⟨hcs, thenW_in fun ew dd => ?_⟩
      replace h := thenW_out h dd
      obtain ⟨hcs, h⟩ := h
      refine ⟨hcs, thenW_in fun bl bo => ?_⟩
      replace h := thenW_out h bo
      obtain ⟨hcs, h⟩ := h
      refine ⟨hcs, thenW_in fun ch bu => ?_⟩
      replace h := thenW_out h bu
      obtain ⟨hcs, h⟩ := h
      refine ⟨hcs, thenW_in fun ee e0 => ?_⟩
      replace h := thenW_out h e0
      obtain ⟨hcs, h⟩ := h
      refine ⟨hcs, thenW_in fun cq fg => ?_⟩
      replace h := thenW_out h fg
      obtain ⟨cu, ao, hr, h⟩ := h
      refine ⟨cu, ao, hr, ?_⟩
      refine thenW_in fun b2 cg => ?_
      have a9 := (Ext.refl no ao).x_drew cg
      obtain ⟨fr, a0, h⟩ := h
      refine elim_some a0 ?_
      obtain ⟨aa, ae, ab, b5, h⟩ := h
      refine ⟨aa, ae, ab, (a9).cell b5 id, ?_⟩
      obtain ⟨fc, hz, b6, h⟩ := h
      refine ⟨fc, hz, cellsAt_no (a9) b6, ?_⟩
      obtain ⟨hzl, h⟩ := h
      refine mslit_big Try.underlying54 (by kernel_rfl) hzl ?_
      refine thenW_in fun b3 az => ?_
      have h := h b3 b2.heap.size (a9.x_alloc az) (Blk.of_new az) (a9).size (size_lt_alloc az)
      obtain ⟨aw, h⟩ := h
      refine ⟨aw, ?_⟩
      obtain ⟨bb, b8, b7, au, hr, h⟩ := h
      refine ⟨bb, b8, b7, au, hr, ?_⟩
      refine elim_some a0 ?_
      obtain ⟨hcs, h⟩ := h
      refine ⟨hcs, thenW_in fun bq dq => ?_⟩
      replace h := thenW_out h dq
      refine elim_some a0 ?_
      obtain ⟨ad, aq, h⟩ := h
      refine ⟨ad, aq, ?_⟩
      refine bif_of (fun b1 => ?_) (fun b1 => ?_)
      · have h := h.1 b1
        refine elim_some a0 ?_
        obtain ⟨af, bc, h⟩ := h
        refine ⟨af, bc, ?_⟩
        refine bif_of (fun ax => ?_) (fun ax => ?_)
        · have h := h.1 (beq_t ax)
          refine elim_some a0 ?_
          obtain ⟨hcs, h⟩ := h
          refine ⟨hcs, thenW_in fun bd eq => ?_⟩
          replace h := thenW_out h eq
          refine thenW_in fun ay cj => ?_
          have ag := (Ext.refl no bd).x_drew cj
          refine elim_some a0 ?_
          obtain ⟨a5, a7, a3, b4, h⟩ := h
          refine ⟨a5, a7, a3, (ag).cell b4 id, ?_⟩
          refine elim_some a0 ?_
          obtain ⟨a2, a4, a8, al, h⟩ := h
          refine ⟨a2, a4, a8, (ag).cell al id, ?_⟩
          obtain ⟨ah, ai, h⟩ := h
          try rw [w64 ah ai]
          obtain ⟨fi, an, h⟩ := h
          refine elim_some an ?_
          obtain ⟨cf, cr, h⟩ := h
          refine ⟨cf, cr, ?_⟩
          have h := h ay ag
          obtain ⟨hcs, h⟩ := h
          refine ⟨hcs, thenW_in fun bk av => ?_⟩
          replace h := thenW_out h av
          exact h
        · have h := h.2 (beq_f ax)
          refine elim_some a0 ?_
          obtain ⟨ac, am, h⟩ := h
          refine ⟨ac, am, ?_⟩
          obtain ⟨ah, ai, h⟩ := h
          try rw [w64 ah ai]
          refine elim_some a0 ?_
          obtain ⟨hcs, h⟩ := h
          refine ⟨hcs, thenW_in fun bf b9 => ?_⟩
          replace h := thenW_out h b9
          refine elim_some a0 ?_
          obtain ⟨a1, aj, h⟩ := h
          refine ⟨a1, aj, ?_⟩
          obtain ⟨ah, ai, h⟩ := h
          try rw [w64 ah ai]
          refine elim_some a0 ?_
          obtain ⟨hcs, h⟩ := h
          refine ⟨hcs, thenW_in fun bi b0 => ?_⟩
          replace h := thenW_out h b0
          exact h
      · have h := h.2 b1
        refine elim_some a0 ?_
        obtain ⟨a6, ak, h⟩ := h
        refine ⟨a6, ak, ?_⟩
        obtain ⟨ah, ai, h⟩ := h
        try rw [w64 ah ai]
        refine elim_some a0 ?_
        obtain ⟨hcs, h⟩ := h
        refine ⟨hcs, thenW_in fun bj ar => ?_⟩
        replace h := thenW_out h ar
        exact h

theorem disk_Disk_Write.go (d1 : Option Addr) (i2 : Int) (a2 : Option Addr) (a1 : Nat) (a0 : Nat) {R : Value → World → Prop} {w : World} (h : disk_Disk_Write.N d1 i2 a2 a1 a0 R w) : Calls Try.prog 34 #[.pointer d1, .int .i64 i2, .slice a2 a1 a0] w fun e w' => ∃ v, e = .returned v ∧ R v w' := disk_Disk_Write.ok d1 i2 a2 a1 a0 (disk_Disk_Write.up d1 i2 a2 a1 a0 h)
theorem disk_Disk_Write.run (d1 : Option Addr) (i2 : Int) (a2 : Option Addr) (a1 : Nat) (a0 : Nat) {V : Value} {Q : World → Prop} {w : World} (h : disk_Disk_Write.N d1 i2 a2 a1 a0 (fun v w' => v = V ∧ Q w') w) : Calls Try.prog 34 #[.pointer d1, .int .i64 i2, .slice a2 a1 a0] w (Ret V Q) := (disk_Disk_Write.go d1 i2 a2 a1 a0 h).mono fun e w' ⟨v, he, hv, hq⟩ => ⟨by rw [he, hv], hq⟩

/-- (*disk.Disk).Copy -/
def disk_Disk_Copy.M (d1 : Option Addr) (R : Value → World → Prop) (w : World) : Prop :=
 bif Option.isNone d1 then (
 R (.pointer none) w) else (
 d1.elim False fun a2 =>
 ∃ (ag : Option Addr) (ah : Nat) (ab : Nat) (ai : Option Addr) (ad : Nat) (af : Nat) (am : Int) (ae : Bool) (aj : Int) (ak : Int), cellsAt w a2 [.slice ag ah ab, .slice ai ad af, .int .i64 am, .bool ae, .int .i64 aj, .int .i64 ak] 0 ∧
 thenW (w.alloc (.cells #[.slice none 0 0, .slice none 0 0, .int .i64 0, .bool false, .int .i64 0, .int .i64 0] 57)) fun b3 =>
 canStore b3 ((blk w.heap.size).add 0) ∧
 thenW (b3.setCell ((blk w.heap.size).add 0) (.slice ag ah ab)) fun av =>
 canStore av ((blk w.heap.size).add 1) ∧
 thenW (av.setCell ((blk w.heap.size).add 1) (.slice ai ad af)) fun ar =>
 canStore ar ((blk w.heap.size).add 2) ∧
 thenW (ar.setCell ((blk w.heap.size).add 2) (.int .i64 am)) fun ao =>
 canStore ao ((blk w.heap.size).add 3) ∧
 thenW (ao.setCell ((blk w.heap.size).add 3) (.bool ae)) fun ax =>
 canStore ax ((blk w.heap.size).add 4) ∧
 thenW (ax.setCell ((blk w.heap.size).add 4) (.int .i64 aj)) fun aw =>
 canStore aw ((blk w.heap.size).add 5) ∧
 thenW (aw.setCell ((blk w.heap.size).add 5) (.int .i64 ak)) fun az =>
 thenW (az.drew) fun an =>
 d1.elim False fun b4 =>
 ∃ (al : Option Addr) (aa : Nat) (ac : Nat), an.cell? (b4.add 0) = some (.slice al aa ac) ∧
 d1.elim False fun b2 =>
 ∃ (a1 : Option Addr) (a3 : Nat) (a0 : Nat), an.cell? (b2.add 1) = some (.slice a1 a3 a0) ∧
 Calls Try.prog 41 #[.slice al aa ac] an fun ay ap => ∃ (a9 : Option Addr) (a7 : Nat) (a5 : Nat), ay = .returned (.slice a9 a7 a5) ∧
 ap.cell? (b2.add 1) = some (.slice a1 a3 a0) ∧
 Calls Try.prog 42 #[.slice a1 a3 a0] ap fun b1 aq => ∃ (a4 : Option Addr) (a8 : Nat) (a6 : Nat), b1 = .returned (.slice a4 a8 a6) ∧
 canStore aq (((blk w.heap.size).add 0).add 0) ∧
 thenW (aq.setCell (((blk w.heap.size).add 0).add 0) (.slice a9 a7 a5)) fun au =>
 canStore au (((blk w.heap.size).add 1).add 0) ∧
 thenW (au.setCell (((blk w.heap.size).add 1).add 0) (.slice a4 a8 a6)) fun b0 =>
 R (.pointer (some (blk w.heap.size))) b0)

theorem disk_Disk_Copy.eq (d1 : Option Addr) (R : Value → World → Prop) (w : World) : mfunc Try.prog [] 14 [.pointer d1] R w = disk_Disk_Copy.M d1 R w := by kernel_rfl
theorem disk_Disk_Copy.ok (d1 : Option Addr) {R : Value → World → Prop} {w : World} (h : disk_Disk_Copy.M d1 R w) : Calls Try.prog 14 #[.pointer d1] w fun e w' => ∃ v, e = .returned v ∧ R v w' :=
  mfunc_ok follows (H := []) (args := [.pointer d1]) (by rw [disk_Disk_Copy.eq]; exact h)

def disk_Disk_Copy.N (d1 : Option Addr) (R : Value → World → Prop) (w : World) : Prop :=
 (d1 = none →
 R (.pointer none) w) ∧
 (d1 ≠ none →
 ∃ a3 : Addr, d1 = some a3 ∧
 ∃ (al : Option Addr) (aj : Nat) (af : Nat) (ai : Option Addr) (ae : Nat) (ac : Nat) (ao : Int) (ag : Bool) (ah : Int) (a5 : Int), cellsAt w a3 [.slice al aj af, .slice ai ae ac, .int .i64 ao, .bool ag, .int .i64 ah, .int .i64 a5] 0 ∧
 ∀ (an : World) (a0 : Nat), Ext no w an → Blk an a0 57 [.slice none 0 0, .slice none 0 0, .int .i64 0, .bool false, .int .i64 0, .int .i64 0] → w.heap.size ≤ a0 → a0 < an.heap.size →
 canStore an ((blk a0).add 0) ∧
 thenW (an.setCell ((blk a0).add 0) (.slice al aj af)) fun b0 =>
 canStore b0 ((blk a0).add 1) ∧
 thenW (b0.setCell ((blk a0).add 1) (.slice ai ae ac)) fun az =>
 canStore az ((blk a0).add 2) ∧
 thenW (az.setCell ((blk a0).add 2) (.int .i64 ao)) fun aw =>
 canStore aw ((blk a0).add 3) ∧
 thenW (aw.setCell ((blk a0).add 3) (.bool ag)) fun ax =>
 canStore ax ((blk a0).add 4) ∧
 thenW (ax.setCell ((blk a0).add 4) (.int .i64 ah)) fun aq =>
 canStore aq ((blk a0).add 5) ∧
 thenW (aq.setCell ((blk a0).add 5) (.int .i64 a5)) fun ap =>
 ∃ (ad : Option Addr) (am : Nat) (ak : Nat), ap.cell? (a3.add 0) = some (.slice ad am ak) ∧
 ∃ (a2 : Option Addr) (a4 : Nat) (a1 : Nat), ap.cell? (a3.add 1) = some (.slice a2 a4 a1) ∧
 ∀ (ar : World), Ext no ap ar →
 Calls Try.prog 41 #[.slice ad am ak] ar fun b2 au => ∃ (a6 : Option Addr) (a9 : Nat) (a7 : Nat), b2 = .returned (.slice a6 a9 a7) ∧
 au.cell? (a3.add 1) = some (.slice a2 a4 a1) ∧
 Calls Try.prog 42 #[.slice a2 a4 a1] au fun b3 ay => ∃ (aa : Option Addr) (ab : Nat) (a8 : Nat), b3 = .returned (.slice aa ab a8) ∧
 canStore ay (((blk a0).add 0).add 0) ∧
 thenW (ay.setCell (((blk a0).add 0).add 0) (.slice a6 a9 a7)) fun av =>
 canStore av (((blk a0).add 1).add 0) ∧
 thenW (av.setCell (((blk a0).add 1).add 0) (.slice aa ab a8)) fun b1 =>
 R (.pointer (some (blk a0))) b1)

theorem disk_Disk_Copy.up (d1 : Option Addr) {R : Value → World → Prop} {w : World} (h : disk_Disk_Copy.N d1 R w) : disk_Disk_Copy.M d1 R w := by
  unfold disk_Disk_Copy.M
  unfold disk_Disk_Copy.N at h
  refine bif_of (fun c2 => ?_) (fun c2 => ?_)
  · have h := h.1 (isNone_t c2)
    exact h
  · have h := h.2 (isNone_f c2)
    obtain ⟨a3, ar, h⟩ := h
    refine elim_some ar ?_
    obtain ⟨ak, ai, ad, ah, ab, a9, am, ae, ag, a0, b0, h⟩ := h
    refine ⟨ak, ai, ad, ah, ab, a9, am, ae, ag, a0, b0, ?_⟩
    refine thenW_in fun ap aw => ?_
    have h := h ap w.heap.size ((Ext.refl no w).x_alloc aw) (Blk.of_new aw) ((Ext.refl no w)).size (size_lt_alloc aw)
    obtain ⟨hcs, h⟩ := h
    refine ⟨hcs, thenW_in fun bh az => ?_⟩
    replace h := thenW_out h az
    obtain ⟨hcs, h⟩ := h
    refine ⟨hcs, thenW_in fun be b2 => ?_⟩
    replace h := thenW_out h b2
    obtain ⟨hcs, h⟩ := h
    refine ⟨hcs, thenW_in fun b7 bf => ?_⟩
    replace h := thenW_out h bf
    obtain ⟨hcs, h⟩ := h
    refine ⟨hcs, thenW_in fun ba bi => ?_⟩
    replace h := thenW_out h bi
    obtain ⟨hcs, h⟩ := h
    refine ⟨hcs, thenW_in fun ay bg => ?_⟩
    replace h := thenW_out h bg
    obtain ⟨hcs, h⟩ := h
    refine ⟨hcs, thenW_in fun au bc => ?_⟩
    replace h := thenW_out h bc
    refine thenW_in fun ao b6 => ?_
    have an := (Ext.refl no au).x_drew b6
    refine elim_some ar ?_
    obtain ⟨aa, al, aj, ax, h⟩ := h
    refine ⟨aa, al, aj, (an).cell ax id, ?_⟩
    refine elim_some ar ?_
    obtain ⟨ac, af, a8, aq, h⟩ := h
    refine ⟨ac, af, a8, (an).cell aq id, ?_⟩
    have h := h ao an
    refine h.mono fun b9 b3 h => ?_
    obtain ⟨a1, a5, a2, he, h⟩ := h
    refine ⟨a1, a5, a2, he, ?_⟩
    obtain ⟨av, h⟩ := h
    refine ⟨av, ?_⟩
    refine h.mono fun bd bb h => ?_
    obtain ⟨a6, a7, a4, he, h⟩ := h
    refine ⟨a6, a7, a4, he, ?_⟩
    obtain ⟨hcs, h⟩ := h
    refine ⟨hcs, thenW_in fun b5 b4 => ?_⟩
    replace h := thenW_out h b4
    obtain ⟨hcs, h⟩ := h
    refine ⟨hcs, thenW_in fun b1 b8 => ?_⟩
    replace h := thenW_out h b8
    exact h

theorem disk_Disk_Copy.go (d1 : Option Addr) {R : Value → World → Prop} {w : World} (h : disk_Disk_Copy.N d1 R w) : Calls Try.prog 14 #[.pointer d1] w fun e w' => ∃ v, e = .returned v ∧ R v w' := disk_Disk_Copy.ok d1 (disk_Disk_Copy.up d1 h)
end Go.Proofs.Ytidijnfkcpbkiaa

/- Disk: predicates, the others. -/
set_option linter.unusedVariables false
set_option linter.unusedSimpArgs false
set_option maxRecDepth 20000
set_option maxHeartbeats 2000000
namespace Go.Proofs.Ytidijnfkcpbkiaa
open Go Go.Mx Go.Proofs
/-- (*disk.Disk).Sync -/
def disk_Disk_Sync.M (d1 : Option Addr) (R : Value → World → Prop) (w : World) : Prop :=
 Calls Try.prog 46 #[.pointer d1] w fun a4 a1 => ∃ (a0 : Int), a4 = .returned (.int .i64 a0) ∧
 bif a0 != 0 then (
 R (.int .i64 a0) a1) else (
 Calls Try.prog 48 #[.pointer d1, .func (.func 54) #[] #[]] a1 fun a3 a2 => a3 = .returned (.tuple #[]) ∧
 R (.int .i64 0) a2)

theorem disk_Disk_Sync.eq (d1 : Option Addr) (R : Value → World → Prop) (w : World) : mfunc Try.prog [] 37 [.pointer d1] R w = disk_Disk_Sync.M d1 R w := by kernel_rfl
theorem disk_Disk_Sync.ok (d1 : Option Addr) {R : Value → World → Prop} {w : World} (h : disk_Disk_Sync.M d1 R w) : Calls Try.prog 37 #[.pointer d1] w fun e w' => ∃ v, e = .returned v ∧ R v w' :=
  mfunc_ok follows (H := []) (args := [.pointer d1]) (by rw [disk_Disk_Sync.eq]; exact h)

def disk_Disk_Sync.N (d1 : Option Addr) (R : Value → World → Prop) (w : World) : Prop :=
 Calls Try.prog 46 #[.pointer d1] w fun a2 a1 => ∃ (a0 : Int), a2 = .returned (.int .i64 a0) ∧
 (a0 ≠ 0 →
 R (.int .i64 a0) a1) ∧
 (a0 = 0 →
 Calls Try.prog 48 #[.pointer d1, .func (.func 54) #[] #[]] a1 fun a3 a4 => a3 = .returned (.tuple #[]) ∧
 R (.int .i64 0) a4)

theorem disk_Disk_Sync.up (d1 : Option Addr) {R : Value → World → Prop} {w : World} (h : disk_Disk_Sync.N d1 R w) : disk_Disk_Sync.M d1 R w := by
  unfold disk_Disk_Sync.M
  unfold disk_Disk_Sync.N at h
  refine h.mono fun a1 a2 h => ?_
  obtain ⟨a0, he, h⟩ := h
  refine ⟨a0, he, ?_⟩
  refine bif_of (fun c5 => ?_) (fun c5 => ?_)
  · have h := h.1 (bne_t c5)
    exact h
  · have h := h.2 (bne_f c5)
    refine h.mono fun a3 a4 h => ?_
    obtain ⟨he, h⟩ := h
    refine ⟨he, ?_⟩
    exact h

theorem disk_Disk_Sync.go (d1 : Option Addr) {R : Value → World → Prop} {w : World} (h : disk_Disk_Sync.N d1 R w) : Calls Try.prog 37 #[.pointer d1] w fun e w' => ∃ v, e = .returned v ∧ R v w' := disk_Disk_Sync.ok d1 (disk_Disk_Sync.up d1 h)
theorem disk_Disk_Sync.run (d1 : Option Addr) {V : Value} {Q : World → Prop} {w : World} (h : disk_Disk_Sync.N d1 (fun v w' => v = V ∧ Q w') w) : Calls Try.prog 37 #[.pointer d1] w (Ret V Q) := (disk_Disk_Sync.go d1 h).mono fun e w' ⟨v, he, hv, hq⟩ => ⟨by rw [he, hv], hq⟩

/-- (*disk.Disk).Sync$1 -/
def disk_Disk_Sync_1.M (p1 : Int) (R : Value → World → Prop) (w : World) : Prop :=
 R (.bool true) w

theorem disk_Disk_Sync_1.eq (p1 : Int) (R : Value → World → Prop) (w : World) : mfunc Try.prog [] 54 [.int .i64 p1] R w = disk_Disk_Sync_1.M p1 R w := by kernel_rfl
theorem disk_Disk_Sync_1.ok (p1 : Int) {R : Value → World → Prop} {w : World} (h : disk_Disk_Sync_1.M p1 R w) : Calls Try.prog 54 #[.int .i64 p1] w fun e w' => ∃ v, e = .returned v ∧ R v w' :=
  mfunc_ok follows (H := []) (args := [.int .i64 p1]) (by rw [disk_Disk_Sync_1.eq]; exact h)

def disk_Disk_Sync_1.N (p1 : Int) (R : Value → World → Prop) (w : World) : Prop :=
 R (.bool true) w

theorem disk_Disk_Sync_1.up (p1 : Int) {R : Value → World → Prop} {w : World} (h : disk_Disk_Sync_1.N p1 R w) : disk_Disk_Sync_1.M p1 R w := by
  unfold disk_Disk_Sync_1.M
  unfold disk_Disk_Sync_1.N at h
  exact h

theorem disk_Disk_Sync_1.go (p1 : Int) {R : Value → World → Prop} {w : World} (h : disk_Disk_Sync_1.N p1 R w) : Calls Try.prog 54 #[.int .i64 p1] w fun e w' => ∃ v, e = .returned v ∧ R v w' := disk_Disk_Sync_1.ok p1 (disk_Disk_Sync_1.up p1 h)
theorem disk_Disk_Sync_1.run (p1 : Int) {V : Value} {Q : World → Prop} {w : World} (h : disk_Disk_Sync_1.N p1 (fun v w' => v = V ∧ Q w') w) : Calls Try.prog 54 #[.int .i64 p1] w (Ret V Q) := (disk_Disk_Sync_1.go p1 h).mono fun e w' ⟨v, he, hv, hq⟩ => ⟨by rw [he, hv], hq⟩

/-- (*disk.Disk).Down -/
def disk_Disk_Down.M (d1 : Option Addr) (R : Value → World → Prop) (w : World) : Prop :=
 bif !(Option.isNone d1) then (
 d1.elim False fun a2 =>
 ∃ (a0 : Int), w.cell? (a2.add 4) = some (.int .i64 a0) ∧
 R (.bool (a0 == 1)) w) else (
 R (.bool false) w)

theorem disk_Disk_Down.eq (d1 : Option Addr) (R : Value → World → Prop) (w : World) : mfunc Try.prog [] 23 [.pointer d1] R w = disk_Disk_Down.M d1 R w := by kernel_rfl
theorem disk_Disk_Down.ok (d1 : Option Addr) {R : Value → World → Prop} {w : World} (h : disk_Disk_Down.M d1 R w) : Calls Try.prog 23 #[.pointer d1] w fun e w' => ∃ v, e = .returned v ∧ R v w' :=
  mfunc_ok follows (H := []) (args := [.pointer d1]) (by rw [disk_Disk_Down.eq]; exact h)

def disk_Disk_Down.N (d1 : Option Addr) (R : Value → World → Prop) (w : World) : Prop :=
 (d1 ≠ none →
 ∃ a3 : Addr, d1 = some a3 ∧
 ∃ (a0 : Int), w.cell? (a3.add 4) = some (.int .i64 a0) ∧
 R (.bool (a0 == 1)) w) ∧
 (d1 = none →
 R (.bool false) w)

theorem disk_Disk_Down.up (d1 : Option Addr) {R : Value → World → Prop} {w : World} (h : disk_Disk_Down.N d1 R w) : disk_Disk_Down.M d1 R w := by
  unfold disk_Disk_Down.M
  unfold disk_Disk_Down.N at h
  refine bif_of (fun c2 => ?_) (fun c2 => ?_)
  · have h := h.1 (isNone_f (not_t c2))
    obtain ⟨a3, a1, h⟩ := h
    refine elim_some a1 ?_
    obtain ⟨a0, a2, h⟩ := h
    refine ⟨a0, a2, ?_⟩
    exact h
  · have h := h.2 (isNone_t (not_f c2))
    exact h

theorem disk_Disk_Down.go (d1 : Option Addr) {R : Value → World → Prop} {w : World} (h : disk_Disk_Down.N d1 R w) : Calls Try.prog 23 #[.pointer d1] w fun e w' => ∃ v, e = .returned v ∧ R v w' := disk_Disk_Down.ok d1 (disk_Disk_Down.up d1 h)
theorem disk_Disk_Down.run (d1 : Option Addr) {V : Value} {Q : World → Prop} {w : World} (h : disk_Disk_Down.N d1 (fun v w' => v = V ∧ Q w') w) : Calls Try.prog 23 #[.pointer d1] w (Ret V Q) := (disk_Disk_Down.go d1 h).mono fun e w' ⟨v, he, hv, hq⟩ => ⟨by rw [he, hv], hq⟩

/-- slices.Clone[[]disk.sector,disk.sector] -/
def slices_Clone_disk_sector_disk_sector.M (a3 : Option Addr) (a5 : Nat) (a6 : Nat) (R : Value → World → Prop) (w : World) : Prop :=
 bif Option.isNone a3 then (
 R (.slice none 0 0) w) else (
 thenW (w.alloc (.cells #[] 80)) fun a7 =>
 ∃ (a0 : Option Addr) (a4 : Nat) (a1 : Nat) (a2 : World), (Builtin.append_ #[53, 53] 53 #[.slice (some (blk w.heap.size)) 0 0, .slice a3 a5 a6]).run Try.prog a7 = .ok (.slice a0 a4 a1) a2 ∧
 R (.slice a0 a4 a1) a2)

theorem slices_Clone_disk_sector_disk_sector.eq (s1a : Option Addr) (s1n : Nat) (s1c : Nat) (R : Value → World → Prop) (w : World) : mfunc Try.prog [] 41 [.slice s1a s1n s1c] R w = slices_Clone_disk_sector_disk_sector.M s1a s1n s1c R w := by kernel_rfl
theorem slices_Clone_disk_sector_disk_sector.ok (a0 : Option Addr) (a1 : Nat) (a2 : Nat) {R : Value → World → Prop} {w : World} (h : slices_Clone_disk_sector_disk_sector.M a0 a1 a2 R w) : Calls Try.prog 41 #[.slice a0 a1 a2] w fun e w' => ∃ v, e = .returned v ∧ R v w' :=
  mfunc_ok follows (H := []) (args := [.slice a0 a1 a2]) (by rw [slices_Clone_disk_sector_disk_sector.eq]; exact h)

def slices_Clone_disk_sector_disk_sector.N (a1 : Option Addr) (a6 : Nat) (a7 : Nat) (R : Value → World → Prop) (w : World) : Prop :=
 (a1 = none →
 R (.slice none 0 0) w) ∧
 (a1 ≠ none →
 ∀ (a0 : World) (q4 : Nat), Ext no w a0 → Blk a0 q4 80 [] → w.heap.size ≤ q4 → q4 < a0.heap.size →
 ∃ (a5 : Option Addr) (a4 : Nat) (a3 : Nat) (a2 : World), (Builtin.append_ #[53, 53] 53 #[.slice (some (blk q4)) 0 0, .slice a1 a6 a7]).run Try.prog a0 = .ok (.slice a5 a4 a3) a2 ∧
 R (.slice a5 a4 a3) a2)

theorem slices_Clone_disk_sector_disk_sector.up (a2 : Option Addr) (a0 : Nat) (a1 : Nat) {R : Value → World → Prop} {w : World} (h : slices_Clone_disk_sector_disk_sector.N a2 a0 a1 R w) : slices_Clone_disk_sector_disk_sector.M a2 a0 a1 R w := by
  unfold slices_Clone_disk_sector_disk_sector.M
  unfold slices_Clone_disk_sector_disk_sector.N at h
  refine bif_of (fun c2 => ?_) (fun c2 => ?_)
  · have h := h.1 (isNone_t c2)
    exact h
  · have h := h.2 (isNone_f c2)
    refine thenW_in fun a7 e3 => ?_
    have h := h a7 w.heap.size ((Ext.refl no w).x_alloc e3) (Blk.of_new e3) ((Ext.refl no w)).size (size_lt_alloc e3)
    obtain ⟨a6, a5, a4, a3, hr, h⟩ := h
    refine ⟨a6, a5, a4, a3, hr, ?_⟩
    exact h

theorem slices_Clone_disk_sector_disk_sector.go (a0 : Option Addr) (a1 : Nat) (a2 : Nat) {R : Value → World → Prop} {w : World} (h : slices_Clone_disk_sector_disk_sector.N a0 a1 a2 R w) : Calls Try.prog 41 #[.slice a0 a1 a2] w fun e w' => ∃ v, e = .returned v ∧ R v w' := slices_Clone_disk_sector_disk_sector.ok a0 a1 a2 (slices_Clone_disk_sector_disk_sector.up a0 a1 a2 h)
/-- slices.Clone[[]disk.write,disk.write] -/
def slices_Clone_disk_write_disk_write.M (a3 : Option Addr) (a5 : Nat) (a6 : Nat) (R : Value → World → Prop) (w : World) : Prop :=
 bif Option.isNone a3 then (
 R (.slice none 0 0) w) else (
 thenW (w.alloc (.cells #[] 83)) fun a7 =>
 ∃ (a0 : Option Addr) (a4 : Nat) (a1 : Nat) (a2 : World), (Builtin.append_ #[54, 54] 54 #[.slice (some (blk w.heap.size)) 0 0, .slice a3 a5 a6]).run Try.prog a7 = .ok (.slice a0 a4 a1) a2 ∧
 R (.slice a0 a4 a1) a2)

theorem slices_Clone_disk_write_disk_write.eq (s1a : Option Addr) (s1n : Nat) (s1c : Nat) (R : Value → World → Prop) (w : World) : mfunc Try.prog [] 42 [.slice s1a s1n s1c] R w = slices_Clone_disk_write_disk_write.M s1a s1n s1c R w := by kernel_rfl
theorem slices_Clone_disk_write_disk_write.ok (a0 : Option Addr) (a1 : Nat) (a2 : Nat) {R : Value → World → Prop} {w : World} (h : slices_Clone_disk_write_disk_write.M a0 a1 a2 R w) : Calls Try.prog 42 #[.slice a0 a1 a2] w fun e w' => ∃ v, e = .returned v ∧ R v w' :=
  mfunc_ok follows (H := []) (args := [.slice a0 a1 a2]) (by rw [slices_Clone_disk_write_disk_write.eq]; exact h)

def slices_Clone_disk_write_disk_write.N (a1 : Option Addr) (a6 : Nat) (a7 : Nat) (R : Value → World → Prop) (w : World) : Prop :=
 (a1 = none →
 R (.slice none 0 0) w) ∧
 (a1 ≠ none →
 ∀ (a0 : World) (q4 : Nat), Ext no w a0 → Blk a0 q4 83 [] → w.heap.size ≤ q4 → q4 < a0.heap.size →
 ∃ (a5 : Option Addr) (a4 : Nat) (a3 : Nat) (a2 : World), (Builtin.append_ #[54, 54] 54 #[.slice (some (blk q4)) 0 0, .slice a1 a6 a7]).run Try.prog a0 = .ok (.slice a5 a4 a3) a2 ∧
 R (.slice a5 a4 a3) a2)

theorem slices_Clone_disk_write_disk_write.up (a2 : Option Addr) (a0 : Nat) (a1 : Nat) {R : Value → World → Prop} {w : World} (h : slices_Clone_disk_write_disk_write.N a2 a0 a1 R w) : slices_Clone_disk_write_disk_write.M a2 a0 a1 R w := by
  unfold slices_Clone_disk_write_disk_write.M
  unfold slices_Clone_disk_write_disk_write.N at h
  refine bif_of (fun c2 => ?_) (fun c2 => ?_)
  · have h := h.1 (isNone_t c2)
    exact h
  · have h := h.2 (isNone_f c2)
    refine thenW_in fun a7 e3 => ?_
    have h := h a7 w.heap.size ((Ext.refl no w).x_alloc e3) (Blk.of_new e3) ((Ext.refl no w)).size (size_lt_alloc e3)
    obtain ⟨a6, a5, a4, a3, hr, h⟩ := h
    refine ⟨a6, a5, a4, a3, hr, ?_⟩
    exact h

theorem slices_Clone_disk_write_disk_write.go (a0 : Option Addr) (a1 : Nat) (a2 : Nat) {R : Value → World → Prop} {w : World} (h : slices_Clone_disk_write_disk_write.N a0 a1 a2 R w) : Calls Try.prog 42 #[.slice a0 a1 a2] w fun e w' => ∃ v, e = .returned v ∧ R v w' := slices_Clone_disk_write_disk_write.ok a0 a1 a2 (slices_Clone_disk_write_disk_write.up a0 a1 a2 h)
end Go.Proofs.Ytidijnfkcpbkiaa

/- Disk: sectors and writes as lists; a disk in memory; what the small functions answer. -/
set_option linter.unusedVariables false
set_option linter.unusedSimpArgs false
set_option maxRecDepth 20000
set_option maxHeartbeats 4000000
namespace Go.Proofs.Ytidijnfkcpbkiaa
open Go Go.Mx Go.Proofs
open W (OwnB)
theorem inf80 : (Try.prog.info? 80).map (fun i => (i.zero, i.size, i.bytes)) = some (some (.agg (List.toArray (List.replicate 64 (.int .u8 0) ++ [.bool false]))), 65, 65) := by kernel_rfl
theorem inf83 : (Try.prog.info? 83).map (fun i => (i.zero, i.size, i.bytes)) = some (some (.agg (List.toArray ([.int .i64 0] ++ List.replicate 64 (.int .u8 0) ++ [.bool false]))), 66, 80) := by kernel_rfl
/-- a sector. -/
structure Sec where
  b : List UInt8
  torn : Bool
  h : b.length = 64
def Sec.C (s : Sec) : List Value := bytesV s.b ++ [.bool s.torn]
theorem bytesV_length (b : List UInt8) : (bytesV b).length = b.length := by unfold bytesV; simp
theorem Sec.len (s : Sec) : s.C.length = 65 := by unfold Sec.C; rw [List.length_append, bytesV_length, s.h]; rfl
def Sec.z : Sec := ⟨List.replicate 64 0, false, by simp⟩
/-- a write that is pending. -/
structure Wt where
  i : Int
  s : Sec
def Wt.C (x : Wt) : List Value := .int .i64 x.i :: x.s.C
theorem Wt.len (x : Wt) : x.C.length = 66 := by unfold Wt.C; rw [List.length_cons, x.s.len]
theorem bytesV_one {b : List UInt8} : ∀ u ∈ bytesV b, u.oneCell' = true := fun u hu => by
  unfold bytesV at hu
  obtain ⟨x, _, rfl⟩ := List.mem_map.1 hu
  rfl
theorem Sec.one (s : Sec) : ∀ u ∈ s.C, u.oneCell' = true := fun u hu => by
  rcases List.mem_append.1 hu with h | h
  · exact bytesV_one u h
  · simp at h; subst h; rfl
theorem Wt.one (x : Wt) : ∀ u ∈ x.C, u.oneCell' = true := fun u hu => by
  rcases List.mem_cons.1 hu with rfl | h
  · rfl
  · exact x.s.one u h
theorem sz65 : szB Try.prog 80 65 = true := by kernel_rfl
theorem sz66 : szB Try.prog 83 66 = true := by kernel_rfl
/-- a disk. -/
structure DS where
  good : List Sec
  pend : List Wt
  left : Int
  armed : Bool
  down : Bool
  count : Int
def stI (b : Bool) : Int := if b then 1 else 0
def DS.V (d : DS) (ga : Option Addr) (gc : Nat) (pa : Option Addr) (pc : Nat) : List Value := [.slice ga d.good.length gc, .slice pa d.pend.length pc, .int .i64 d.left, .bool d.armed, .int .i64 (stI d.down), .int .i64 d.count]
abbrev SRw (w : World) (o : Own) (g : Nat) (a : Option Addr) (c : Nat) (l : List Sec) : Prop := Grows 80 65 w o g a l.length c (l.flatMap Sec.C)
abbrev WRw (w : World) (o : Own) (g : Nat) (a : Option Addr) (c : Nat) (l : List Wt) : Prop := Grows 83 66 w o g a l.length c (l.flatMap Wt.C)
/-- a disk in memory, with all that is its own. -/
structure DG (w : World) (o : Own) (g : Nat) (d : DS) : Prop where
  mem : ∃ ga gc pa pc, Blk w g 57 (d.V ga gc pa pc) ∧ SRw w o g ga gc d.good ∧ WRw w o g pa pc d.pend
  tg : o g = some g
structure DS.ok (d : DS) (m : Nat) : Prop where
  n1 : 1 ≤ d.good.length
  n2 : d.good.length ≤ 400
  at_ : ∀ x ∈ d.pend, 0 ≤ x.i ∧ x.i < d.good.length
  pl : d.pend.length ≤ m
  cl : 0 ≤ d.count ∧ d.count ≤ m
  left : 0 ≤ d.left ∧ d.left < 9223372036854775808
def isD (d : DS) : Int := if d.down then 19 else 0
def hasD (d : DS) (i : Int) : Int := if d.down then 19 else if i < 0 ∨ (d.good.length : Int) ≤ i then 2 else 0
def lastP (i : Int) : Sec → List Wt → Sec
  | s, [] => s
  | s, x :: r => lastP i (if x.i = i then x.s else s) r
def readS (d : DS) (i : Int) : Sec := lastP i (d.good[i.toNat]?.getD Sec.z) d.pend
def readD (d : DS) (i : Int) : List UInt8 × Int := if hasD d i = 0 then (if (readS d i).torn then ([], 5) else ((readS d i).b, 0)) else ([], hasD d i)
def writeD (d : DS) (i : Int) (b : List UInt8) : DS × Int :=
  if hasD d i = 0 then
    (if h : b.length = 64 then
      (if d.armed then
        (if d.left = 0 then ({ d with pend := d.pend ++ [⟨i, ⟨b, true, h⟩⟩], down := true }, 19)
         else ({ d with pend := d.pend ++ [⟨i, ⟨b, false, h⟩⟩], left := d.left - 1, count := d.count + 1 }, 0))
       else ({ d with pend := d.pend ++ [⟨i, ⟨b, false, h⟩⟩], count := d.count + 1 }, 0))
     else (d, 1))
  else (d, hasD d i)
def settleL (k : Nat → Bool) : Nat → List Sec → List Wt → List Sec
  | _, g, [] => g
  | t, g, x :: r => settleL k (t + 1) (if k t then g.set x.i.toNat x.s else g) r
def settleD (d : DS) (k : Nat → Bool) : DS := { d with good := settleL k 0 d.good d.pend, pend := [] }
def syncD (d : DS) : DS × Int := if d.down then (d, 19) else (settleD d fun _ => true, 0)
def keepF (l : List Bool) (t : Nat) : Bool := l[t]?.getD false
def restartD (d : DS) (l : List Bool) : DS := { settleD d (keepF l) with down := false, armed := false }
section
variable {K : Nat → Prop} {w w' w1 : World} {o o' o1 : Own} {g g2 : Nat} {d : DS} {i : Int}
theorem DG.step (h : DG w o g d) (s : Step K w o w' o') (hk : ¬ K g) : DG w' o' g d := by
  obtain ⟨⟨ga, gc, pa, pc, hb, hg, hp⟩, tg⟩ := h
  exact ⟨⟨ga, gc, pa, pc, s.blk hb tg hk, hg.step s hk, hp.step s hk⟩, by rw [s.own hb.lt]; exact tg⟩
theorem DG.lt (h : DG w o g d) : g < w.heap.size := by
  obtain ⟨⟨ga, gc, pa, pc, hb, hg, hp⟩, tg⟩ := h
  exact hb.lt
/-- the disk's numbers turned. -/
theorem DG.turn {ga pa : Option Addr} {gc pc : Nat} {d2 : DS} {cs0 : List Value} (hg : SRw w o g ga gc d2.good) (hp : WRw w o g pa pc d2.pend) (tg : o g = some g) (hb0 : Blk w g 57 cs0) (ok : Tags w o) (X : Ext (fun b => b = g) w w')
    (hb : Blk w' g 57 (d2.V ga gc pa pc)) : Step (fun j => j = g) w o w' (grow w o) ∧ DG w' (grow w o) g d2 := by
  have s : Step (fun j => j = g) w o w' (grow w o) := Step.of_ext X ok fun b hb _ => by subst hb; exact tg
  refine ⟨s, ⟨ga, gc, pa, pc, hb, ?_, ?_⟩, by rw [s.own hb0.lt]; exact tg⟩
  · exact hg.keep X (hg.ne hb0 (by decide)) fun b hb => s.own hb
  · exact hp.keep X (hp.ne hb0 (by decide)) fun b hb => s.own hb
theorem is_spec (h : DG w o g d) : Calls Try.prog 46 #[.pointer (some (blk g))] w (Ret (.int .i64 (isD d)) fun w' => w' = w) := by
  obtain ⟨⟨ga, gc, pa, pc, hb, hg, hp⟩, tg⟩ := h
  refine disk_Disk_is.run _ ?_
  unfold disk_Disk_is.N
  refine ⟨fun h => (by cases h), fun _ => ⟨_, rfl, stI d.down, hb.celli 4 rfl rfl, fun h => ⟨?_, rfl⟩, fun h => ⟨?_, rfl⟩⟩⟩
  all_goals unfold stI at h; unfold isD
  · cases hd : d.down
    · rw [hd] at h; cases h
    · rfl
  · cases hd : d.down
    · rfl
    · rw [hd] at h; exact absurd rfl h
theorem has_spec (h : DG w o g d) (i : Int) : Calls Try.prog 50 #[.pointer (some (blk g)), .int .i64 i] w (Ret (.int .i64 (hasD d i)) fun w' => w' = w) := by
  refine disk_Disk_has.run _ _ ?_
  unfold disk_Disk_has.N
  refine (is_spec h).mono fun e w5 ⟨he, hw⟩ => ⟨_, he, fun hn => ?_, fun h0 => ?_⟩
  · subst hw
    refine ⟨?_, rfl⟩
    unfold isD at hn ⊢; unfold hasD
    cases hd : d.down
    · rw [hd] at hn; exact absurd rfl hn
    · rfl
  · subst hw
    have hd : d.down = false := by
      unfold isD at h0
      cases hd : d.down
      · rfl
      · rw [hd] at h0; cases h0
    obtain ⟨⟨ga, gc, pa, pc, hb, hg, hp⟩, tg⟩ := h
    unfold hasD
    rw [hd]
    refine ⟨fun hi => ⟨?_, rfl⟩, fun hi => ⟨_, rfl, ga, _, gc, hb.celli 0 rfl rfl, fun hn => ⟨?_, rfl⟩, fun hn => ⟨?_, rfl⟩⟩⟩
    · rw [if_neg (by decide), if_pos (.inl hi)]
    · rw [if_neg (by decide), if_pos (.inr hn)]
    · rw [if_neg (by decide), if_neg (by omega)]
theorem Down_spec (h : DG w o g d) : Calls Try.prog 23 #[.pointer (some (blk g))] w (Ret (.bool d.down) fun w' => w' = w) := by
  obtain ⟨⟨ga, gc, pa, pc, hb, hg, hp⟩, tg⟩ := h
  refine disk_Disk_Down.run _ ?_
  unfold disk_Disk_Down.N
  refine ⟨fun _ => ⟨_, rfl, stI d.down, hb.celli 4 rfl rfl, ?_, rfl⟩, fun h => (by cases h)⟩
  unfold stI
  cases d.down <;> rfl
theorem Sectors_spec (h : DG w o g d) : Calls Try.prog 22 #[.pointer (some (blk g))] w (Ret (.int .i64 d.good.length) fun w' => w' = w) := by
  obtain ⟨⟨ga, gc, pa, pc, hb, hg, hp⟩, tg⟩ := h
  refine disk_Disk_Sectors.run _ ?_
  unfold disk_Disk_Sectors.N
  exact ⟨fun h => (by cases h), fun _ => ⟨_, rfl, ga, _, gc, hb.celli 0 rfl rfl, rfl, rfl⟩⟩
end
end Go.Proofs.Ytidijnfkcpbkiaa

/- Disk: Read and Write. -/
set_option linter.unusedVariables false
set_option linter.unusedSimpArgs false
set_option maxRecDepth 20000
set_option maxHeartbeats 4000000
namespace Go.Proofs.Ytidijnfkcpbkiaa
open Go Go.Mx Go.Proofs
open W (OwnB)
theorem inf5 : (Try.prog.info? 5).map (fun i => (i.zero, i.size, i.bytes)) = some (some (.int .u8 0), 1, 1) := by kernel_rfl
section
variable {K : Nat → Prop} {w w' w1 : World} {o o' o1 : Own} {g g2 m : Nat} {d : DS} {i : Int}
/-- bytes that are read: a fresh array, the reader's. -/
def RdD (w : World) (o : Own) (r : List UInt8 × Int) (a : Option Addr) (n c : Nat) (w' : World) (o' : Own) : Prop :=
  n = r.1.length ∧ n ≤ c ∧ Step no w o w' o' ∧ (r.2 ≠ 0 → a = none ∧ r.1 = []) ∧ (r.2 = 0 → ∃ q t, a = some (blk q) ∧ Blk w' q 80 (bytesV r.1 ++ [.bool t]) ∧ r.1.length = 64 ∧ w.heap.size ≤ q ∧ o' q = some q)
theorem lastP_snoc (i : Int) (x : Wt) : ∀ (l : List Wt) (s : Sec), lastP i s (l ++ [x]) = if x.i = i then x.s else lastP i s l
  | [], _ => rfl
  | y :: r, s => lastP_snoc i x r _
theorem hasD_0 (h : hasD d i = 0) : d.down = false ∧ 0 ≤ i ∧ i < d.good.length := by
  unfold hasD at h
  cases hd : d.down
  · rw [hd, if_neg (by decide)] at h
    by_cases hi : i < 0 ∨ (d.good.length : Int) ≤ i
    · rw [if_pos hi] at h; cases h
    · exact ⟨rfl, by omega, by omega⟩
  · rw [hd, if_pos rfl] at h; cases h
theorem Sec.arr (s : Sec) : szB Try.prog 80 s.C.toArray.size = true := by rw [List.size_toArray, s.len]; exact sz65
theorem Wt.arr (x : Wt) : szB Try.prog 83 x.C.toArray.size = true := by rw [List.size_toArray, x.len]; exact sz66
theorem setAll_all {vs cs : List Value} (h : vs.length = cs.length) : setAll cs 0 vs = vs := by
  have := setAll_head (cs := []) h
  simpa using this
/-- a whole value stored into a block of its size. -/
theorem stores_all {q : Nat} {t : TypeId} {cs vs : List Value} {Φ : World → Prop} (hb : Blk w q t cs) (hl : vs.length = cs.length) (h1 : ∀ v ∈ vs, v.oneCell' = true) (h : ∀ w', Ext (fun b => b = q) w w' → Blk w' q t vs → Φ w') : storesK (blk q) vs 0 w Φ := by
  have := storesK_blk (k := 0) (j := 0) hb (vs := vs) (by omega) h1 (Φ := Φ) fun w' X hb' => h w' X (by rwa [Nat.zero_add, setAll_all hl] at hb')
  exact this
theorem dRead_spec (h : DG w o g d) (ok : Tags w o) (i : Int) (hpl : d.pend.length < 1000000) :
    Calls Try.prog 25 #[.pointer (some (blk g)), .int .i64 i] w (fun x w' => ∃ a n c o', x = .returned (.tuple #[.slice a n c, .int .i64 (readD d i).2]) ∧ RdD w o (readD d i) a n c w' o') := by
  refine (disk_Disk_Read.go _ _ (R := fun v w' => ∃ a n c o', v = (.tuple #[.slice a n c, .int .i64 (readD d i).2]) ∧ RdD w o (readD d i) a n c w' o') ?_).mono fun x w' ⟨v, he, a, n, c, o', hv, hR⟩ => ⟨a, n, c, o', by rw [he, hv], hR⟩
  unfold disk_Disk_Read.N
  refine (has_spec h i).mono fun e w5 ⟨he, hw⟩ => ⟨_, he, fun hn => ?_, fun h0 => ?_⟩
  · subst hw
    unfold readD
    rw [if_neg hn]
    exact ⟨none, 0, 0, o, rfl, rfl, Nat.le_refl _, Step.refl _ ok, fun _ => ⟨rfl, rfl⟩, fun h => absurd h hn⟩
  subst hw
  obtain ⟨hd, hi0, hi1⟩ := hasD_0 h0
  have h' := h
  obtain ⟨⟨ga, gc, pa, pc, hb, hg, hp⟩, tg⟩ := h
  have hgt : d.good[i.toNat]? = some d.good[i.toNat] := List.getElem?_eq_getElem (by omega)
  have hrd : readS d i = lastP i (d.good[i.toNat]'(by omega)) d.pend := by unfold readS; rw [hgt]; rfl
  generalize hs0 : d.good[i.toNat]'(by omega) = s0 at *
  have hgr := hg.row
  obtain ⟨ad, rfl⟩ := hgr.faddr Sec.len (by decide) (i := i.toNat) (by omega)
  refine ⟨_, rfl, some ad, _, gc, hb.celli 0 rfl rfl, ad, rfl, hi0, hi1, s0.C.toArray, s0.arr, hgr.floads Sec.len hgt, fun w13 q14 X13 hb13 hq hq' => ⟨s0.arr, stores_all hb13 (by rw [s0.len]; simp) s0.one fun w15 X15 hb15 => ?_⟩⟩
  have s13 := (Step.of_no X13 ok).tag (j := q14) hq hq'
  have M13 : Mine [q14] w13 (tag (grow w5 o) q14 q14) := fun p hp => by rw [show p = q14 by simpa using hp]; exact ⟨hq', tag_self⟩
  have s15' := Step.stores X15 s13.ok M13 (by simp)
  have s15 : Step no w5 o w15 _ := s13.trans' s15' fun j hj => .inr (by simp at hj; omega)
  have hbk : ∀ {w1 : World} {o1 : Own}, Step no w5 o w1 o1 → Blk w1 g 57 (d.V (some ad) gc pa pc) := fun s => s.blk hb tg id
  refine ⟨pa, _, pc, (hbk s15).celli 1 rfl rfl, fun k vs w1 => ∃ (t : Nat) (o1 : Own), vs = [.int .i64 t] ∧ k + t = d.pend.length ∧ Step no w5 o w1 o1 ∧ Mine [q14] w1 o1 ∧ Blk w1 q14 80 (lastP i s0 (d.pend.take t)).C, d.pend.length, ⟨0, _, rfl, rfl, s15, M13.step s15', hb15⟩, ?_⟩
  rintro k w21 t0 ⟨t, o21, hi, hk, s21, M21, hb21⟩
  simp only [List.cons.injEq, Value.int.injEq, true_and, and_true] at hi
  subst hi
  refine ⟨fun ht => ?_, fun ht => ?_⟩
  · have htl : t < d.pend.length := by omega
    have hgp : d.pend[t]? = some d.pend[t] := List.getElem?_eq_getElem htl
    have htk : d.pend.take (t + 1) = d.pend.take t ++ [d.pend[t]] := by rw [List.take_add_one, hgp]; rfl
    generalize d.pend[t] = x at *
    have hpr := (hp.step s21 id).row
    obtain ⟨pd, rfl⟩ := hpr.faddr Wt.len (by decide) htl
    refine ⟨pd, rfl, by omega, by omega, x.C.toArray, x.arr, by rw [Int.toNat_natCast]; exact hpr.floads Wt.len hgp, fun w26 q27 X26 hb26 hq2 hq2' => ⟨x.arr, stores_all hb26 (by rw [x.len]; simp) x.one fun w28 X28 hb28 => ?_⟩⟩
    have s26 := (Step.of_no X26 s21.ok).tag (j := q27) hq2 hq2'
    have M26 : Mine [q27] w26 (tag (grow w21 o21) q27 q27) := fun p hp => by rw [show p = q27 by simpa using hp]; exact ⟨hq2', tag_self⟩
    have s28' := Step.stores X28 s26.ok M26 (by simp)
    have s28 : Step no w21 o21 w28 _ := s26.trans' s28' fun j hj => .inr (by simp at hj; omega)
    have hq14 := M21.lt (p := q14) (by simp)
    have M28 := M21.step s28
    have hb14 := s28.blk hb21 (M21 q14 (by simp)).2 id
    have s528 := s21.trans s28
    refine ⟨x.i, hb28.celli 0 rfl rfl, fun hxi => ⟨x.s.C.toArray, x.s.arr, ?_, x.s.arr, stores_all hb14 (by rw [x.s.len, Sec.len]) x.s.one fun w34 X34 hb34 => ⟨by omega, by omega, ?_⟩⟩, fun hxi => ⟨by omega, by omega, k - 1, by omega, t + 1, _, rfl, by omega, s528, M28, ?_⟩⟩
    · exact cellsAt_blk hb28 _ 0 fun n v hv => by rw [show 1 + 0 + n = n + 1 by omega]; exact hv
    · have s34' := Step.stores X34 s528.ok M28 (by simp)
      exact ⟨k - 1, by omega, t + 1, _, rfl, by omega, s528.trans' s34' fun j hj => .inr (by simp at hj; omega), M28.step s34', by rw [htk, lastP_snoc, if_pos hxi]; exact hb34⟩
    · rw [htk, lastP_snoc, if_neg hxi]; exact hb14
  · rw [List.take_of_length_le (by omega), ← hrd] at hb21
    have hcell : w21.cell? ((blk q14).add 64) = some (.bool (readS d i).torn) := hb21.celli 64 rfl (by
      unfold Sec.C
      rw [List.getElem?_append_right (by rw [bytesV_length, (readS d i).h]; omega), bytesV_length, (readS d i).h]; rfl)
    refine ⟨_, hcell, fun htn => ?_, fun htn => ?_⟩
    · unfold readD
      rw [if_pos h0, if_pos htn]
      exact ⟨none, 0, 0, o21, rfl, rfl, Nat.le_refl _, s21, fun _ => ⟨rfl, rfl⟩, fun h => absurd h (by decide)⟩
    · unfold readD
      rw [if_pos h0, if_neg (by rw [htn]; decide)]
      exact ⟨some (blk q14), 64, 64, o21, rfl, (readS d i).h.symm, Nat.le_refl _, s21, fun h => absurd rfl h, fun _ => ⟨q14, _, rfl, hb21, (readS d i).h, hq, (M21 q14 (by simp)).2⟩⟩
end
end Go.Proofs.Ytidijnfkcpbkiaa

/- Disk: Write. -/
set_option linter.unusedVariables false
set_option linter.unusedSimpArgs false
set_option maxRecDepth 20000
set_option maxHeartbeats 4000000
namespace Go.Proofs.Ytidijnfkcpbkiaa
open Go Go.Mx Go.Proofs
open W (OwnB)
section
variable {K : Nat → Prop} {w w' w1 : World} {o o' o1 : Own} {g g2 m : Nat} {d : DS} {i : Int} {a : Option Addr} {c : Nat} {l : List Wt}
theorem Wts.one {l : List Wt} : ∀ u ∈ l.flatMap Wt.C, u.oneCell' = true := fun u hu => by
  obtain ⟨x, _, h⟩ := List.mem_flatMap.1 hu
  exact x.one u h
theorem WRw.push (h : WRw w o g a c l) (ok : Tags w o) (hg : g < w.heap.size) (hl : l.length < 1000000) {xa : Option Addr} {xc : Nat} {r : List Wt} (hr : RowAt w xa (r.flatMap Wt.C)) (hrl : r.length < 1000000) :
    ∃ a' n' c' w' o', (Builtin.append_ #[54, 54] 54 #[.slice a l.length c, .slice xa r.length xc]).run Try.prog w = .ok (.slice a' n' c') w' ∧ n' = (l ++ r).length ∧ Step (fun j => j = g) w o w' o' ∧ WRw w' o' g a' c' (l ++ r) ∧ Ext (fun b => ∃ ad, a = some ad ∧ b = ad.block) w w' := by
  obtain ⟨i, hi, hz, hsz, hby⟩ := info_of inf83
  obtain ⟨a', c', w', o', hrun, s2, hrow, hk, _⟩ := Grows.push (ty := 54) Try.underlying54 hi hz hsz hby rfl (by decide) h ok hg (xa := xa) (m := r.length) (xc := xc) (news := r.flatMap Wt.C) (flat_length Wt.len r) hr Wts.one (by omega) (by omega)
  exact ⟨a', _, c', w', o', hrun, by simp, s2, by unfold WRw; rw [List.length_append, List.flatMap_append]; exact hrow, ⟨s2.ext.os, s2.ext.tape, s2.ext.output, s2.ext.size, fun b hb hn => hk b hb fun ad ha hb' => hn ⟨ad, ha, hb'⟩⟩⟩
theorem last_set (l : List Wt) (x y : Wt) (k : Nat) (v : Value) (hk : k < 66) (h : x.C.set k v = y.C) : ((l ++ [x]).flatMap Wt.C).set (l.length * 66 + k) v = (l ++ [y]).flatMap Wt.C := by
  rw [List.flatMap_append, List.set_append_right _ _ (by rw [flat_length Wt.len]; omega), flat_length Wt.len, List.flatMap_append]
  congr 1
  rw [show l.length * 66 + k - l.length * 66 = k by omega]
  simpa using h
/-- a write is pending. -/
theorem pend_spec (h : DG w o g d) (ok : Tags w o) (hpl : d.pend.length < 100000) (x : Wt) {q : Nat} (hb : Blk w q 83 x.C) :
    ∃ pa n pc, w.cell? ((blk g).add 1) = some (.slice pa n pc) ∧ ∃ a' n' c' w' o', (Builtin.append_ #[54, 54] 54 #[.slice pa n pc, .slice (some (blk q)) 1 1]).run Try.prog w = .ok (.slice a' n' c') w' ∧ Step (fun j => j = g) w o w' o' ∧
      canStore w' ((blk g).add 1) ∧ ∀ w2, w2 = w'.setCell ((blk g).add 1) (.slice a' n' c') → Step (fun j => j = g) w o w2 (grow w' o') ∧ DG w2 (grow w' o') g { d with pend := d.pend ++ [x] } := by
  obtain ⟨⟨ga, gc, pa, pc, hbk, hg, hp⟩, tg⟩ := h
  obtain ⟨a', n', c', w', o', hrun, hn, s2, hp2, X2⟩ := hp.push ok hbk.lt (by omega) (xa := some (blk q)) (xc := 1) (r := [x]) (by simpa using RowAt.of_blk hb) (by simp)
  subst hn
  have hb2 : Blk w' g 57 (d.V ga gc pa pc) := hbk.ext X2 fun ⟨ad, h1, h2⟩ => hp.ne hbk (by decide) ad h1 h2.symm
  have hg2 : SRw w' o' g ga gc d.good := hg.keep X2 (fun ad ha ⟨ad', h1, h2⟩ => hg.apart hp (by decide) ad ad' ha h1 h2) fun b hb => s2.own hb
  have tg2 : o' g = some g := by rw [s2.own hbk.lt]; exact tg
  refine ⟨pa, _, pc, hbk.celli 1 rfl rfl, a', _, c', w', o', hrun, s2, hb2.cani 1 rfl rfl, fun w3 e3 => ?_⟩
  have X3 := (Ext.refl (fun b => b = g) w').x_set (q := g) (i := 1) rfl (.inl rfl) e3
  have b3 := hb2.seti 1 (v := .slice a' (d.pend ++ [x]).length c') rfl e3
  obtain ⟨s3, D3⟩ := DG.turn (d2 := { d with pend := d.pend ++ [x] }) hg2 hp2 tg2 hb2 s2.ok X3 b3
  exact ⟨s2.trans s3, D3⟩
/-- the last one that is pending is torn. -/
theorem tear_spec {x y : Wt} (h : DG w o g { d with pend := d.pend ++ [x] }) (ok : Tags w o) (hpl : d.pend.length < 100000) (hxy : x.C.set 65 (.bool true) = y.C) :
    ∃ pa n pc, w.cell? ((blk g).add 1) = some (.slice pa n pc) ∧ n = d.pend.length + 1 ∧ ∃ ad, pa = some ad ∧ ∀ w2, Ext no w w2 → canStore w2 (ad.add (d.pend.length * 66 + 65)) ∧ ∀ w3, w3 = w2.setCell (ad.add (d.pend.length * 66 + 65)) (.bool true) → ∃ o', Step (fun j => j = g) w o w3 o' ∧ DG w3 o' g { d with pend := d.pend ++ [y] } := by
  have hh := h
  obtain ⟨⟨ga, gc, pa, pc, hbk, hg, hp⟩, tg⟩ := h
  have hl : (d.pend ++ [x]).length = d.pend.length + 1 := by simp
  have hne : (d.pend ++ [x]).flatMap Wt.C ≠ [] := fun e => by
    have := congrArg List.length e
    rw [flat_length Wt.len, hl] at this; simp at this
  obtain ⟨b, cur, ha, hb, hle, hob, hbl, hput⟩ := Grows.put (j := d.pend.length * 66 + 65) (vs := [.bool true]) hp ok hne
  subst ha
  have hj : d.pend.length * 66 + 65 < cur.length := by
    have : ((d.pend ++ [x]).flatMap Wt.C).length = (d.pend.length + 1) * 66 := by rw [flat_length Wt.len, hl]
    have hle' : ((d.pend ++ [x]).flatMap Wt.C).length ≤ cur.length := hle
    omega
  refine ⟨_, _, pc, hbk.celli 1 rfl rfl, hl, blk b, rfl, fun w2 X => ⟨?_, fun w3 e3 => ?_⟩⟩
  · have hb2 := hb.ext X (fun h => h)
    exact hb2.cana (List.getElem?_eq_getElem hj)
  · have hb2 := hb.ext X (fun h => h)
    rw [add_blk] at e3
    have X3 : Ext (fun q => q = b) w w3 := (X.mono fun _ h _ => h.elim : Ext (fun q => q = b) w w2).x_set (q := b) (i := d.pend.length * 66 + 65) rfl (.inl rfl) e3
    have b3 := hb2.seti (d.pend.length * 66 + 65) (v := .bool true) rfl e3
    obtain ⟨s3, h3⟩ := hput w3 X3 b3
    have hset : setAll ((d.pend ++ [x]).flatMap Wt.C) (d.pend.length * 66 + 65) [.bool true] = (d.pend ++ [y]).flatMap Wt.C := last_set d.pend x y 65 _ (by decide) hxy
    refine ⟨_, s3, ⟨ga, gc, some (blk b), pc, ?_, ?_, ?_⟩, by rw [s3.own hbk.lt]; exact tg⟩
    · have hgb : g ≠ b := fun e => hp.ne hbk (by decide) _ rfl (by rw [e])
      have := hbk.ext X3 hgb
      have e : (DS.V { d with pend := d.pend ++ [y] } ga gc (some (blk b)) pc) = (DS.V { d with pend := d.pend ++ [x] } ga gc (some (blk b)) pc) := by unfold DS.V; simp
      rw [e]; exact this
    · exact hg.keep X3 (fun ad ha h2 => hg.apart hp (by decide) ad (blk b) ha rfl h2) fun b hb => s3.own hb
    · unfold WRw
      rw [← hset, show (d.pend ++ [y]).length = (d.pend ++ [x]).length by simp]
      exact h3
theorem zeros_write (i : Int) (b : List UInt8) (t : Bool) (h : b.length = 64) : setAll ([Value.int .i64 i] ++ List.replicate 64 (.int .u8 0) ++ [.bool t]) 1 (bytesV b) = Wt.C ⟨i, ⟨b, t, h⟩⟩ := by
  have := setAll_mid (u := [Value.int .i64 i]) (x := List.replicate 64 (.int .u8 0)) (y := [.bool t]) (v := bytesV b) (by rw [bytesV_length, h]; simp)
  rw [show ([Value.int .i64 i] : List Value).length = 1 from rfl] at this
  rw [this]; rfl
theorem dWrite_spec (h : DG w o g d) (ok : Tags w o) (hd : d.ok m) (hm : m < 100000) (i : Int) {ba : Option Addr} {bc : Nat} {b : List UInt8} (hb : RowAt w ba (bytesV b)) :
    Calls Try.prog 34 #[.pointer (some (blk g)), .int .i64 i, .slice ba b.length bc] w (Ret (.int .i64 (writeD d i b).2) fun w' => ∃ o', Step (fun j => j = g) w o w' o' ∧ DG w' o' g (writeD d i b).1) := by
  refine disk_Disk_Write.run _ _ _ _ _ ?_
  unfold disk_Disk_Write.N
  refine (has_spec h i).mono fun e w6 ⟨he, hw⟩ => ⟨_, he, fun hn => ?_, fun h0 => ?_⟩
  · subst hw
    unfold writeD
    rw [if_neg hn]
    exact ⟨rfl, o, Step.refl _ ok, h⟩
  subst hw
  refine ⟨fun hn => ?_, fun h64 w9 q10 X9 hb9 hq hq' => ?_⟩
  · unfold writeD
    rw [if_pos h0, dif_neg (by omega)]
    exact ⟨rfl, o, Step.refl _ ok, h⟩
  have hbl : b.length = 64 := by omega
  have hpl := hd.pl
  have s9 := (Step.of_no X9 ok).tag (j := q10) hq hq'
  have M9 : Mine [q10] w9 (tag (grow w6 o) q10 q10) := fun p hp => by rw [show p = q10 by simpa using hp]; exact ⟨hq', tag_self⟩
  refine putsK_ok (k := 0) hb9 (by simp) fun w76 X76 hb76 => ?_
  rw [Nat.zero_add, setAll_all (by simp)] at hb76
  have s76' := Step.stores X76 s9.ok M9 (by simp)
  have s76 : Step no w6 o w76 _ := s9.trans' s76' fun j hj => .inr (by simp at hj; omega)
  have M76 := M9.step s76'
  have hb6 : RowAt w76 ba (bytesV b) := (hb.no X9).ext' X76 fun hne ad ha (e : ad.block = q10) => by have := hb.lt hne ha; omega
  obtain ⟨bd, rfl⟩ := hb6.addr fun e => by have := congrArg List.length e; rw [bytesV_length, hbl] at this; cases this
  obtain ⟨u8, hu, hz, hsz, hby⟩ := info_of inf5
  have hcl : (bytesV b).length = 64 := by rw [bytesV_length, hbl]
  have hcopy := run_copy_gen (P := Try.prog) (dT := 30) (sT := 30) (ty := 3) (dLen := 64) (dCap := 64) (sLen := b.length) (sCap := bc) (n := 64) (sz := 1) (o := 1) (a := bd) Try.underlying30 hu hsz (by rw [hbl]; rfl) (by rw [hcl]) (fun j v hv => hb6.at_ hv) hb76 (by rw [hcl]; simp) bytesV_one
  obtain ⟨hb78, X78⟩ := setCells_setAll (cs := bytesV b) (o := 1) hb76 (by rw [hcl]; simp)
  generalize w76.setCells q10 1 (bytesV b) = w78 at *
  have s78' := Step.stores X78 s76.ok M76 (by simp)
  have s78 : Step no w6 o w78 _ := s76.trans' s78' fun j hj => .inr (by simp at hj; omega)
  rw [zeros_write i b false hbl] at hb78
  refine ⟨_, w78, hcopy, ?_⟩
  have D78 := h.step s78 id
  obtain ⟨x, hx⟩ : ∃ x : Wt, x = ⟨i, ⟨b, false, hbl⟩⟩ := ⟨_, rfl⟩
  rw [← hx] at hb78
  have hcell1 : ∃ pa n pc, w78.cell? ((blk g).add 1) = some (.slice pa n pc) := by
    obtain ⟨⟨ga, gc, pa, pc, hbk, _, _⟩, _⟩ := D78
    exact ⟨pa, _, pc, hbk.celli 1 rfl rfl⟩
  obtain ⟨pa, pn, pc, hc78⟩ := hcell1
  refine ⟨blk g, rfl, pa, pn, pc, hc78, x.C.toArray, x.arr, cellsAt_blk (k := 0) hb78 _ 0 fun n v hv => by rw [show 0 + 0 + n = n by omega]; exact hv, x.arr, fun w85 q86 X85 hb85 hq2 hq2' => ?_⟩
  have s85' := Step.of_no X85 s78.ok
  have s85 := s78.trans s85'
  have D85 := D78.step s85' id
  obtain ⟨pa2, pn2, pc2, hc85, a', n', c', w89, o89, hrun, s89, hcan, hst⟩ := pend_spec D85 s85.ok (by omega) x hb85
  have e2 : (Value.slice pa pn pc) = .slice pa2 pn2 pc2 := by
    have := X85.cell hc78 id
    rw [hc85] at this
    exact (Option.some.inj this).symm
  cases e2
  refine ⟨hc85, a', n', c', w89, hrun, hcan, thenW_in fun w90 e90 => ?_⟩
  obtain ⟨s90', D90⟩ := hst w90 e90
  have s90 : Step (fun j => j = g) w6 o w90 _ := s85.none.trans s90'
  have hW : writeD d i b = if d.armed then (if d.left = 0 then ({ d with pend := d.pend ++ [⟨i, ⟨b, true, hbl⟩⟩], down := true }, 19) else ({ d with pend := d.pend ++ [x], left := d.left - 1, count := d.count + 1 }, 0)) else ({ d with pend := d.pend ++ [x], count := d.count + 1 }, 0) := by
    unfold writeD; rw [if_pos h0, dif_pos hbl, ← hx]
  have hx' : ∀ y : Wt, y = ⟨i, ⟨b, true, hbl⟩⟩ → x.C.set 65 (.bool true) = y.C := fun y hy => by
    subst hx; subst hy
    show (Value.int .i64 i :: (bytesV b ++ [.bool false])).set 65 (.bool true) = Value.int .i64 i :: (bytesV b ++ [.bool true])
    rw [List.set_cons_succ, List.set_append_right _ _ (by rw [hcl]; omega), hcl]; rfl
  have hcl := hd.cl
  have hleft := hd.left
  have D90' := D90
  obtain ⟨⟨ga, gc, pa3, pc3, hbk, hg3, hp3⟩, tg⟩ := D90
  refine ⟨d.armed, hbk.celli 3 rfl rfl, fun har => ⟨d.left, hbk.celli 2 rfl rfl, fun hl0 => ?_, fun hl0 => ?_⟩, fun har => ?_⟩
  · rw [hW, if_pos har, if_pos hl0]
    refine ⟨hbk.cani 4 rfl rfl, thenW_in fun w97 e97 => ?_⟩
    have X97 := (Ext.refl (fun b => b = g) w90).x_set (q := g) (i := 4) rfl (.inl rfl) e97
    have b97 := hbk.seti 4 (v := .int .i64 1) rfl e97
    obtain ⟨s97, D97⟩ := DG.turn (d2 := { d with pend := d.pend ++ [x], down := true }) hg3 hp3 tg hbk s90'.ok X97 b97
    obtain ⟨pa4, pn4, pc4, hc97, hpn, ad, hpa, hfin⟩ := tear_spec (d := { d with down := true }) (x := x) (y := ⟨i, ⟨b, true, hbl⟩⟩) D97 s97.ok (by show d.pend.length < _; omega) (hx' _ rfl)
    subst hpn; subst hpa
    refine ⟨_, _, _, hc97, _, _, _, hc97, by show _ ≤ ((d.pend.length + 1 : Nat) : Int) - 1; omega, by show ((d.pend.length + 1 : Nat) : Int) - 1 < _; omega, ad, rfl, by show _ ≤ ((d.pend.length + 1 : Nat) : Int) - 1; omega, by show ((d.pend.length + 1 : Nat) : Int) - 1 < ((d.pend.length + 1 : Nat) : Int); omega, fun w98 X98 => ?_⟩
    obtain ⟨hcs, hst3⟩ := hfin w98 X98
    have e5 : (((ad.add (Int.toNat (((d.pend.length + 1 : Nat) : Int) - 1) * 66)).add 1).add 64).add 0 = ad.add (d.pend.length * 66 + 65) := by
      rw [add_add, add_add, add_add]; congr 1; omega
    show canStore w98 ((((ad.add (Int.toNat (((d.pend.length + 1 : Nat) : Int) - 1) * 66)).add 1).add 64).add 0) ∧ thenW (w98.setCell ((((ad.add (Int.toNat (((d.pend.length + 1 : Nat) : Int) - 1) * 66)).add 1).add 64).add 0) (.bool true)) _
    rw [e5]
    refine ⟨hcs, thenW_in fun w104 e104 => ?_⟩
    obtain ⟨o104, s104, D104⟩ := hst3 w104 e104
    exact ⟨rfl, _, (s90.trans s97).trans s104, D104⟩
  · rw [hW, if_pos har, if_neg hl0]
    refine ⟨d.left, hbk.celli 2 rfl rfl, by omega, by omega, hbk.cani 2 rfl rfl, thenW_in fun w107 e107 => ?_⟩
    have X107 := (Ext.refl (fun b => b = g) w90).x_set (q := g) (i := 2) rfl (.inl rfl) e107
    have b107 := hbk.seti 2 (v := .int .i64 (d.left - 1)) rfl e107
    refine ⟨d.count, b107.celli 5 rfl rfl, by omega, by omega, b107.cani 5 rfl rfl, thenW_in fun w110 e110 => ?_⟩
    have X110 := X107.x_set (q := g) (i := 5) rfl (.inl rfl) e110
    have b110 := b107.seti 5 (v := .int .i64 (d.count + 1)) rfl e110
    obtain ⟨s97, D97⟩ := DG.turn (d2 := { d with pend := d.pend ++ [x], left := d.left - 1, count := d.count + 1 }) hg3 hp3 tg hbk s90'.ok X110 b110
    exact ⟨rfl, _, s90.trans s97, D97⟩
  · rw [hW, if_neg (by rw [har]; decide)]
    refine ⟨d.count, hbk.celli 5 rfl rfl, by omega, by omega, hbk.cani 5 rfl rfl, thenW_in fun w113 e113 => ?_⟩
    have X113 := (Ext.refl (fun b => b = g) w90).x_set (q := g) (i := 5) rfl (.inl rfl) e113
    have b113 := hbk.seti 5 (v := .int .i64 (d.count + 1)) rfl e113
    obtain ⟨s97, D97⟩ := DG.turn (d2 := { d with pend := d.pend ++ [x], count := d.count + 1 }) hg3 hp3 tg hbk s90'.ok X113 b113
    exact ⟨rfl, _, s90.trans s97, D97⟩
end
end Go.Proofs.Ytidijnfkcpbkiaa

/- Disk: settle, Sync, Restart, Copy, New. -/
set_option linter.unusedVariables false
set_option linter.unusedSimpArgs false
set_option maxRecDepth 20000
set_option maxHeartbeats 4000000
namespace Go.Proofs.Ytidijnfkcpbkiaa
open Go Go.Mx Go.Proofs
open W (OwnB)
section
variable {K : Nat → Prop} {w w' w1 : World} {o o' o1 : Own} {g g2 m : Nat} {d : DS} {i : Int} {a : Option Addr} {c : Nat} {l : List Wt}
/-- a disk in memory whose rows lie where they lay. -/
structure DGa (w : World) (o : Own) (g : Nat) (d : DS) (ga : Option Addr) (gc : Nat) (pa : Option Addr) (pc : Nat) : Prop where
  b : Blk w g 57 (d.V ga gc pa pc)
  hg : SRw w o g ga gc d.good
  hp : WRw w o g pa pc d.pend
  tg : o g = some g
variable {ga pa : Option Addr} {gc pc : Nat}
theorem DGa.dg (h : DGa w o g d ga gc pa pc) : DG w o g d := ⟨⟨ga, gc, pa, pc, h.b, h.hg, h.hp⟩, h.tg⟩
theorem DGa.step (h : DGa w o g d ga gc pa pc) (s : Step K w o w' o') (hk : ¬ K g) : DGa w' o' g d ga gc pa pc :=
  ⟨s.blk h.b h.tg hk, h.hg.step s hk, h.hp.step s hk, by rw [s.own h.b.lt]; exact h.tg⟩
/-- a sector of its stored. -/
theorem DGa.put (h : DGa w o g d ga gc pa pc) (ok : Tags w o) {j : Nat} (hj : j < d.good.length) (s : Sec) {ad : Addr} (ha : ga = some ad) {Φ : World → Prop}
    (hΦ : ∀ w' o', Step (fun i => i = g) w o w' o' → DGa w' o' g { d with good := d.good.set j s } ga gc pa pc → Φ w') : storesK (ad.add (j * 65)) s.C 0 w Φ := by
  have hne : d.good.flatMap Sec.C ≠ [] := fun e => by
    have := congrArg List.length e
    rw [flat_length Sec.len] at this; simp at this; omega
  obtain ⟨b, cur, hb, hbb, hle, hob, hbl, hput⟩ := Grows.put (j := j * 65) (vs := s.C) h.hg ok hne
  rw [ha] at hb
  cases hb
  rw [flat_length Sec.len] at hle
  have h2 : (j + 1) * 65 ≤ d.good.length * 65 := Nat.mul_le_mul_right _ hj
  refine storesK_blk (k := j * 65) (j := 0) hbb (by rw [s.len]; omega) s.one fun w' X hb' => ?_
  obtain ⟨st, hg2⟩ := hput w' X hb'
  rw [setAll_flat Sec.len s hj] at hg2
  have hgb : g ≠ b := fun e => h.hg.ne h.b (by decide) (blk b) ha (by rw [e])
  refine hΦ w' _ st ⟨?_, by unfold SRw; rw [List.length_set]; exact hg2, h.hp.keep X (fun ad2 h3 h4 => h.hp.apart h.hg (by decide) ad2 (blk b) h3 ha h4) (fun b hb => st.own hb), by rw [st.own h.b.lt]; exact h.tg⟩
  have e : DS.V { d with good := d.good.set j s } ga gc pa pc = d.V ga gc pa pc := by unfold DS.V; simp
  rw [e]
  exact h.b.ext X hgb
theorem settleL_len (k : Nat → Bool) : ∀ (l : List Wt) (t : Nat) (gl : List Sec), (settleL k t gl l).length = gl.length
  | [], _, _ => rfl
  | x :: r, t, gl => by
    rw [settleL, settleL_len k r]
    split
    · rw [List.length_set]
    · rfl
theorem settle_spec (h : DG w o g d) (ok : Tags w o) (hd : d.ok m) (hm : m < 100000) {kk : Nat} {kf kg : Array Value} {k : Nat → Bool}
    (hk : ∀ (t : Nat) w1 o1, t < d.pend.length → Step (fun j => j = g) w o w1 o1 → enters Try.prog kk = true ∧ Calls Try.prog kk (kf.toList ++ ([.int .i64 (t : Int)] : List Value) ++ kg.toList).toArray w1 (Ret (.bool (k t)) fun w2 => w2 = w1)) :
    Calls Try.prog 48 #[.pointer (some (blk g)), .func (.func kk) kf kg] w (Ret (.tuple #[]) fun w' => ∃ o', Step (fun j => j = g) w o w' o' ∧ DG w' o' g (settleD d k)) := by
  refine disk_Disk_settle.run _ _ _ _ ?_
  unfold disk_Disk_settle.N
  obtain ⟨⟨ga, gc, pa, pc, hb, hg, hp⟩, tg⟩ := h
  have hpl := hd.pl
  refine ⟨_, rfl, pa, _, pc, hb.celli 1 rfl rfl, fun q vs w1 => ∃ (t : Nat) (gl : List Sec) (o1 : Own), vs = [.int .i64 t] ∧ q + t = d.pend.length ∧ Step (fun j => j = g) w o w1 o1 ∧ DGa w1 o1 g { d with good := gl } ga gc pa pc ∧ gl.length = d.good.length ∧ settleL k t gl (d.pend.drop t) = settleL k 0 d.good d.pend, d.pend.length, ⟨0, d.good, o, rfl, rfl, Step.refl _ ok, ⟨hb, hg, hp, tg⟩, rfl, rfl⟩, ?_⟩
  rintro q w9 t0 ⟨t, gl, o9, hi, hq, s9, D, hgl, hset⟩
  simp only [List.cons.injEq, Value.int.injEq, true_and, and_true] at hi
  subst hi
  refine ⟨fun ht => ?_, fun ht => ?_⟩
  · have htl : t < d.pend.length := by omega
    have hgp : d.pend[t]? = some d.pend[t] := List.getElem?_eq_getElem htl
    have hat := hd.at_ _ (List.getElem_mem htl)
    rw [List.drop_eq_getElem_cons htl, settleL] at hset
    generalize d.pend[t] = x at *
    have hpr := D.hp.row
    obtain ⟨pd, hpd⟩ := hpr.faddr Wt.len (by decide) htl
    subst hpd
    refine ⟨pd, rfl, by omega, by omega, x.C.toArray, x.arr, by rw [Int.toNat_natCast]; exact hpr.floads Wt.len hgp, fun w14 q15 X14 hb14 hq1 hq2 => ⟨x.arr, stores_all hb14 (by rw [x.len]; simp) x.one fun w16 X16 hb16 => ?_⟩⟩
    have s14 := (Step.of_no X14 s9.ok).tag (j := q15) hq1 hq2
    have M14 : Mine [q15] w14 (tag (grow w9 o9) q15 q15) := fun p hp => by rw [show p = q15 by simpa using hp]; exact ⟨hq2, tag_self⟩
    have s16' := Step.stores X16 s14.ok M14 (by simp)
    have s16 : Step no w9 o9 w16 _ := s14.trans' s16' fun j hj => .inr (by simp at hj; omega)
    have sw16 := s9.trans s16.none
    obtain ⟨hen, hcall⟩ := hk t w16 _ htl sw16
    have D16 := D.step s16 id
    refine ⟨hen, hcall.mono fun e w19 ⟨he, hw⟩ => ⟨_, he, fun hr => ?_, fun hr => ?_⟩⟩
    all_goals subst hw
    · rw [if_pos hr] at hset
      have hgr := D16.hg.row
      obtain ⟨gd, hgd⟩ := hgr.faddr Sec.len (by decide) (i := x.i.toNat) (by show _ < gl.length; omega)
      subst hgd
      refine ⟨some gd, _, gc, D16.b.celli 0 rfl rfl, x.i, hb16.celli 0 rfl rfl, x.s.C.toArray, x.s.arr, cellsAt_blk (k := 1) hb16 _ 0 fun n v hv => by rw [show 1 + 0 + n = n + 1 by omega]; exact hv, gd, rfl, hat.1, by show x.i < ((gl.length : Nat) : Int); omega, fun w21 X21 => ⟨x.s.arr, ?_⟩⟩
      have s21' := Step.of_no X21 sw16.ok
      have D21 := D16.step s21' id
      refine D21.put s21'.ok (j := x.i.toNat) (by show _ < gl.length; omega) x.s rfl fun w29 o29 s29 D29 => ⟨by omega, by omega, q - 1, by omega, t + 1, gl.set x.i.toNat x.s, o29, rfl, by omega, (sw16.trans s21'.none).trans s29, D29, by rw [List.length_set]; exact hgl, hset⟩
    · rw [if_neg (by rw [hr]; decide)] at hset
      exact ⟨by omega, by omega, q - 1, by omega, t + 1, gl, _, rfl, by omega, sw16, D16, hgl, hset⟩
  · have htt : t = d.pend.length := by omega
    rw [List.drop_eq_nil_of_le (by omega)] at hset
    refine ⟨D.b.cani 1 rfl rfl, thenW_in fun w32 e32 => ?_⟩
    have X32 := (Ext.refl (fun b => b = g) w9).x_set (q := g) (i := 1) rfl (.inl rfl) e32
    have b32 := D.b.seti 1 (v := .slice none 0 0) rfl e32
    obtain ⟨s32, D32⟩ := DG.turn (d2 := { d with good := gl, pend := [] }) D.hg (Grows.nil _ _ _ _ _) D.tg D.b s9.ok X32 b32
    refine ⟨rfl, _, s9.trans s32, ?_⟩
    have e : settleD d k = { d with good := gl, pend := [] } := by
      unfold settleD; rw [← hset]; rfl
    rw [e]; exact D32
theorem settleD_ok (hd : d.ok m) (k : Nat → Bool) : (settleD d k).ok m := by
  have h := settleL_len k d.pend 0 d.good
  exact ⟨by show 1 ≤ (settleL _ _ _ _).length; rw [h]; exact hd.n1, by show (settleL _ _ _ _).length ≤ 400; rw [h]; exact hd.n2, fun x hx => (by cases hx), Nat.zero_le _, hd.cl, hd.left⟩
theorem dSync_spec (h : DG w o g d) (ok : Tags w o) (hd : d.ok m) (hm : m < 100000) : Calls Try.prog 37 #[.pointer (some (blk g))] w (Ret (.int .i64 (syncD d).2) fun w' => ∃ o', Step (fun j => j = g) w o w' o' ∧ DG w' o' g (syncD d).1) := by
  refine disk_Disk_Sync.run _ ?_
  unfold disk_Disk_Sync.N
  refine (is_spec h).mono fun e w4 ⟨he, hw⟩ => ⟨_, he, fun hn => ?_, fun h0 => ?_⟩
  all_goals subst hw
  · unfold isD at hn ⊢; unfold syncD
    cases hdn : d.down
    · rw [hdn] at hn; exact absurd rfl hn
    · exact ⟨rfl, o, Step.refl _ ok, h⟩
  · have hS : syncD d = (settleD d fun _ => true, 0) := by
      unfold syncD; rw [if_neg]
      intro hdn; unfold isD at h0; rw [if_pos hdn] at h0; cases h0
    rw [hS]
    refine (settle_spec h ok hd hm (k := fun _ => true) fun t w1 o1 ht s => ⟨by kernel_rfl, by refine disk_Disk_Sync_1.run _ ?_; exact ⟨rfl, rfl⟩⟩).mono fun e w7 ⟨he, o', s, D⟩ => ⟨he, rfl, o', s, D⟩
def boolsV (l : List Bool) : List Value := l.map Value.bool
theorem Secs.one {l : List Sec} : ∀ u ∈ l.flatMap Sec.C, u.oneCell' = true := fun u hu => by
  obtain ⟨x, _, h⟩ := List.mem_flatMap.1 hu
  exact x.one u h
theorem cloneS_spec (ok : Tags w o) (hg : g < w.heap.size) {l : List Sec} (hr : RowAt w a (l.flatMap Sec.C)) (hl : l.length < 1000000) :
    Calls Try.prog 41 #[.slice a l.length c] w (fun x w' => ∃ o' a' c', x = .returned (.slice a' l.length c') ∧ Step (fun j => j = g) w o w' o' ∧ SRw w' o' g a' c' l ∧ Ext no w w') := by
  refine (slices_Clone_disk_sector_disk_sector.go _ _ _ (R := fun v w' => ∃ o' a' c', v = (.slice a' l.length c') ∧ Step (fun j => j = g) w o w' o' ∧ SRw w' o' g a' c' l ∧ Ext no w w') ?_).mono fun x w' ⟨v, he, o', a', c', hv, hw⟩ => ⟨o', a', c', by rw [he, hv], hw⟩
  unfold slices_Clone_disk_sector_disk_sector.N
  refine ⟨fun hn => ?_, fun hn w3 q X hb hq hq' => ?_⟩
  · subst hn
    have h0 := hr.none_nil
    have : l = [] := by
      have := flat_length (f := Sec.C) Sec.len l
      rw [h0] at this
      exact List.eq_nil_of_length_eq_zero (by simp at this; omega)
    subst this
    exact ⟨o, none, 0, rfl, Step.refl _ ok, Grows.nil _ _ _ _ _, Ext.refl _ _⟩
  · obtain ⟨i, hi, hz, hsz, hby⟩ := info_of inf80
    have s3 := (Step.of_no X ok).tag (j := g) hq (Nat.lt_of_lt_of_le hg X.size)
    have g3 : Grows 80 65 w3 (tag (grow w o) q g) g (some (blk q)) 0 0 [] := ⟨owns_of_blk hb rfl (Nat.zero_le _), fun ad ha => by cases ha; exact ⟨tag_self, hq'⟩⟩
    obtain ⟨a', c', w6, o6, hrun, s6, hrow, hkk, _⟩ := g3.push (ty := 53) Try.underlying53 hi hz hsz hby rfl (by decide) s3.ok (Nat.lt_of_lt_of_le hg X.size) (xa := a) (m := l.length) (xc := c) (news := l.flatMap Sec.C) (flat_length Sec.len l) (hr.no X) Secs.one (by omega) (by omega)
    rw [Nat.zero_add, List.nil_append] at hrow
    rw [Nat.zero_add] at hrun
    have X6 : Ext (fun b => b = q) w3 w6 := ⟨s6.ext.os, s6.ext.tape, s6.ext.output, s6.ext.size, fun b hb hn => hkk b hb fun ad ha hb' => hn (by cases ha; exact hb')⟩
    exact ⟨a', _, c', w6, hrun, o6, a', c', rfl, s3.none.trans s6, hrow, X.then X6 fun b hb => .inr (by omega)⟩
theorem cloneW_spec (ok : Tags w o) (hg : g < w.heap.size) (hr : RowAt w a (l.flatMap Wt.C)) (hl : l.length < 1000000) :
    Calls Try.prog 42 #[.slice a l.length c] w (fun x w' => ∃ o' a' c', x = .returned (.slice a' l.length c') ∧ Step (fun j => j = g) w o w' o' ∧ WRw w' o' g a' c' l ∧ Ext no w w') := by
  refine (slices_Clone_disk_write_disk_write.go _ _ _ (R := fun v w' => ∃ o' a' c', v = (.slice a' l.length c') ∧ Step (fun j => j = g) w o w' o' ∧ WRw w' o' g a' c' l ∧ Ext no w w') ?_).mono fun x w' ⟨v, he, o', a', c', hv, hw⟩ => ⟨o', a', c', by rw [he, hv], hw⟩
  unfold slices_Clone_disk_write_disk_write.N
  refine ⟨fun hn => ?_, fun hn w3 q X hb hq hq' => ?_⟩
  · subst hn
    have h0 := hr.none_nil
    have : l = [] := by
      have := flat_length (f := Wt.C) Wt.len l
      rw [h0] at this
      exact List.eq_nil_of_length_eq_zero (by simp at this; omega)
    subst this
    exact ⟨o, none, 0, rfl, Step.refl _ ok, Grows.nil _ _ _ _ _, Ext.refl _ _⟩
  · have s3 := (Step.of_no X ok).tag (j := g) hq (Nat.lt_of_lt_of_le hg X.size)
    have g3 : WRw w3 (tag (grow w o) q g) g (some (blk q)) 0 [] := ⟨owns_of_blk hb rfl (Nat.zero_le _), fun ad ha => by cases ha; exact ⟨tag_self, hq'⟩⟩
    obtain ⟨a', n', c', w6, o6, hrun, hn', s6, hrow, X6⟩ := g3.push s3.ok (Nat.lt_of_lt_of_le hg X.size) (by simp) (xa := a) (xc := c) (hr.no X) hl
    rw [List.nil_append] at hrow hn'
    exact ⟨a', n', c', w6, hrun, o6, a', c', by rw [hn'], s3.none.trans s6, hrow, X.then X6 fun b ⟨ad, h1, h2⟩ => .inr (by cases h1; rw [h2]; exact hq)⟩
theorem dCopy_spec (h : DG w o g d) (ok : Tags w o) (hd : d.ok m) (hm : m < 100000) : Calls Try.prog 14 #[.pointer (some (blk g))] w (fun x w' => ∃ q o', x = .returned (.pointer (some (blk q))) ∧ w.heap.size ≤ q ∧ Step no w o w' o' ∧ DG w' o' q d) := by
  refine (disk_Disk_Copy.go _ (R := fun v w' => ∃ q o', v = (.pointer (some (blk q))) ∧ w.heap.size ≤ q ∧ Step no w o w' o' ∧ DG w' o' q d) ?_).mono fun x w' ⟨v, he, q, o', hv, hw⟩ => ⟨q, o', by rw [he, hv], hw⟩
  unfold disk_Disk_Copy.N
  refine ⟨fun h => (by cases h), fun _ => ?_⟩
  have hpl := hd.pl
  have hn2 := hd.n2
  obtain ⟨⟨ga, gc, pa, pc, hb, hg, hp⟩, tg⟩ := h
  refine ⟨_, rfl, ga, _, gc, pa, _, pc, d.left, d.armed, stI d.down, d.count, ⟨hb.celli 0 rfl rfl, hb.celli 1 rfl rfl, hb.celli 2 rfl rfl, hb.celli 3 rfl rfl, hb.celli 4 rfl rfl, hb.celli 5 rfl rfl, trivial⟩, fun w11 q12 X11 hb11 hq hq' => ?_⟩
  have hgq : g ≠ q12 := by have := hb.lt; omega
  have s11 := (Step.of_no X11 ok).tag (j := q12) hq hq'
  have M11 : Mine [q12] w11 (tag (grow w o) q12 q12) := fun p hp => by rw [show p = q12 by simpa using hp]; exact ⟨hq', tag_self⟩
  refine ⟨hb11.cani 0 rfl rfl, thenW_in fun w13 e13 => ?_⟩
  have X13 := (Ext.refl (fun b => b = q12) w11).x_set (q := q12) (i := 0) rfl (.inl rfl) e13
  have b13 := hb11.seti 0 (v := .slice ga d.good.length gc) rfl e13
  refine ⟨b13.cani 1 rfl rfl, thenW_in fun w14 e14 => ?_⟩
  have X14 := X13.x_set (q := q12) (i := 1) rfl (.inl rfl) e14
  have b14 := b13.seti 1 (v := .slice pa d.pend.length pc) rfl e14
  refine ⟨b14.cani 2 rfl rfl, thenW_in fun w15 e15 => ?_⟩
  have X15 := X14.x_set (q := q12) (i := 2) rfl (.inl rfl) e15
  have b15 := b14.seti 2 (v := .int .i64 d.left) rfl e15
  refine ⟨b15.cani 3 rfl rfl, thenW_in fun w16 e16 => ?_⟩
  have X16 := X15.x_set (q := q12) (i := 3) rfl (.inl rfl) e16
  have b16 := b15.seti 3 (v := .bool d.armed) rfl e16
  refine ⟨b16.cani 4 rfl rfl, thenW_in fun w17 e17 => ?_⟩
  have X17 := X16.x_set (q := q12) (i := 4) rfl (.inl rfl) e17
  have b17 := b16.seti 4 (v := .int .i64 (stI d.down)) rfl e17
  refine ⟨b17.cani 5 rfl rfl, thenW_in fun w18 e18 => ?_⟩
  have X18 := X17.x_set (q := q12) (i := 5) rfl (.inl rfl) e18
  have b18 := b17.seti 5 (v := .int .i64 d.count) rfl e18
  have s18' := Step.stores X18 s11.ok M11 (by simp)
  have s18 : Step no w o w18 _ := s11.trans' s18' fun j hj => .inr (by simp at hj; omega)
  have M18 := M11.step s18'
  have hb18 := s18.blk hb tg id
  refine ⟨ga, _, gc, hb18.celli 0 rfl rfl, pa, _, pc, hb18.celli 1 rfl rfl, fun w19 X19 => ?_⟩
  have s19' := Step.of_no X19 s18'.ok
  have s19 := s18.trans s19'
  have b19 := s19'.blk b18 (M18 q12 (by simp)).2 id
  have M19 := M18.step s19'
  have hq19 := M19.lt (p := q12) (by simp)
  refine (cloneS_spec (g := q12) s19'.ok hq19 (hg.step s19 id).row (by omega)).mono fun e w26 ⟨o26, a26, c26, he, s26, r26, X26⟩ => ⟨_, _, _, he, ?_⟩
  have s26w : Step no w o w26 o26 := s19.trans' s26 fun j hj => .inr (by omega)
  refine ⟨(s26w.blk hb tg id).celli 1 rfl rfl, (cloneW_spec (g := q12) s26.ok (Nat.lt_of_lt_of_le hq19 s26.size) (hp.step s26w id).row (by omega)).mono fun e w30 ⟨o30, a30, c30, he, s30, r30, X30⟩ => ⟨_, _, _, he, ?_⟩⟩
  have hq26 := Nat.lt_of_lt_of_le hq19 s26.size
  have s30w : Step no w o w30 o30 := s26w.trans' s30 fun j hj => .inr (by omega)
  have t26 : o26 q12 = some q12 := by rw [s26.own hq19]; exact (M19 q12 (by simp)).2
  have t30 : o30 q12 = some q12 := by rw [s30.own hq26]; exact t26
  have b30 := (b19.ext X26 fun h => h).ext X30 fun h => h
  refine ⟨b30.cani 0 rfl rfl, thenW_in fun w31 e31 => ?_⟩
  have X31 := (Ext.refl (fun b => b = q12) w30).x_set (q := q12) (i := 0) rfl (.inl rfl) e31
  have b31 := b30.seti 0 (v := .slice a26 d.good.length c26) rfl e31
  refine ⟨b31.cani 1 rfl rfl, thenW_in fun w32 e32 => ?_⟩
  have X32 := X31.x_set (q := q12) (i := 1) rfl (.inl rfl) e32
  have b32 := b31.seti 1 (v := .slice a30 d.pend.length c30) rfl e32
  have r26' : SRw w30 o30 q12 a26 c26 d.good := r26.keep X30 (fun _ _ h => h) fun b hb => s30.own hb
  obtain ⟨s32, D32⟩ := DG.turn (d2 := d) r26' r30 t30 b30 s30.ok X32 b32
  exact ⟨q12, _, rfl, hq, s30w.trans' s32 fun j hj => .inr (by omega), D32⟩
theorem zero_sectors (n : Nat) (z : Array Value) (hz : z.toList = Sec.z.C) : madeCells z (n * 65) = ((List.replicate n Sec.z).flatMap Sec.C).toArray := by
  apply Array.ext'
  apply List.ext_getElem?
  intro j
  have hzs : z.size = 65 := by rw [← Array.length_toList, hz, Sec.len]
  by_cases hj : j < n * 65
  · have h1 : j / 65 < n := by omega
    have h2 : (List.replicate n Sec.z)[j / 65]? = some Sec.z := by rw [List.getElem?_replicate, if_pos h1]
    have h3 := flat_get Sec.len h2 (j % 65) (by omega)
    rw [show j / 65 * 65 + j % 65 = j by omega] at h3
    show _ = ((List.replicate n Sec.z).flatMap Sec.C)[j]?
    rw [h3]
    have h4 : j % 65 < z.size := by omega
    have h5 : (madeCells z (n * 65)).toList[j]? = some (z[j % z.size]!) := by
      unfold madeCells
      simp [hj]
    rw [h5, hzs, getElem!_pos z (j % 65) h4, ← hz, List.getElem?_eq_getElem (by simpa using h4)]
    simp
  · rw [List.getElem?_eq_none (by unfold madeCells; simp; omega), List.getElem?_eq_none (by show ((List.replicate n Sec.z).flatMap Sec.C).length ≤ j; rw [flat_length Sec.len]; simp; omega)]
def newDS (n : Nat) : DS := ⟨List.replicate n Sec.z, [], 0, false, false, 0⟩
theorem dNew_spec (ok : Tags w o) {n : Nat} (h1 : 1 ≤ n) (h2 : n ≤ 400) : Calls Try.prog 7 #[.int .i64 n] w (fun x w' => ∃ q o', x = .returned (.tuple #[.pointer (some (blk q)), .int .i64 0]) ∧ w.heap.size ≤ q ∧ Step no w o w' o' ∧ DG w' o' q (newDS n)) := by
  refine (disk_New.go _ (R := fun v w' => ∃ q o', v = (.tuple #[.pointer (some (blk q)), .int .i64 0]) ∧ w.heap.size ≤ q ∧ Step no w o w' o' ∧ DG w' o' q (newDS n)) ?_).mono fun x w' ⟨v, he, q, o', hv, hw⟩ => ⟨q, o', by rw [he, hv], hw⟩
  unfold disk_New.N
  obtain ⟨i, hi, hz, hs, hb⟩ := info_of inf80
  have hmk := run_makeSlice (P := Try.prog) (w := w) 53 80 i _ Try.underlying53 hi hz .i64 .i64 n n (by omega) (Int.le_refl _) (by rw [hs]; omega) (by rw [hb]; omega) (by omega)
  have hzz : madeCells (Value.agg (List.replicate 64 (Value.int IntKind.u8 0) ++ [Value.bool false]).toArray).cells (n * 65) = ((List.replicate n Sec.z).flatMap Sec.C).toArray := zero_sectors n _ rfl
  rw [hs, Int.toNat_natCast, hzz] at hmk
  refine ⟨fun h => by omega, fun _ => ⟨fun h => by omega, fun _ => ⟨_, _, _, _, hmk, fun w6 q7 X6 hb6 hq hq' => ?_⟩⟩⟩
  have X5 : Ext no w (w.alloc (.cells ((List.replicate n Sec.z).flatMap Sec.C).toArray 80)) := (Ext.refl _ _).alloc _
  have b5 : Blk (w.alloc (.cells ((List.replicate n Sec.z).flatMap Sec.C).toArray 80)) w.heap.size 80 ((List.replicate n Sec.z).flatMap Sec.C) := Blk.new _ _ _
  have b6 := b5.ext X6 fun h => h
  have hsz : (w.alloc (.cells ((List.replicate n Sec.z).flatMap Sec.C).toArray 80)).heap.size = w.heap.size + 1 := by simp
  rw [hsz] at hq
  have s6 := ((Step.of_no (X5.trans X6) ok).tag (p := w.heap.size) (j := q7) (Nat.le_refl _) hq').tag (p := q7) (j := q7) (by omega) hq'
  refine ⟨q7, _, rfl, by omega, s6, ⟨some (blk w.heap.size), n, none, 0, ?_, ⟨?_, fun ad ha => ?_⟩, Grows.nil _ _ _ _ _⟩, tag_self⟩
  · have e : (newDS n).V (some (blk w.heap.size)) n none 0 = [.slice (some (blk w.heap.size)) n n, .slice none 0 0, .int .i64 0, .bool false, .int .i64 0, .int .i64 0] := by unfold DS.V newDS; simp [stI]
    rw [e]; exact hb6
  · have hn : (newDS n).good.length = n := by unfold newDS; simp
    rw [hn]
    exact owns_of_blk b6 (by rw [flat_length Sec.len, hn]) (by unfold maxLen; omega)
  · cases ha
    exact ⟨by rw [tag_ne (by show w.heap.size ≠ q7; omega)]; exact tag_self, b6.lt⟩
end
end Go.Proofs.Ytidijnfkcpbkiaa

/- Journal: predicates of a journal on a disk. -/
set_option linter.unusedVariables false
set_option linter.unusedSimpArgs false
set_option maxRecDepth 20000
set_option maxHeartbeats 4000000
namespace Go.Proofs.Ytidijnfkcpbkiaa
open Go Go.Mx Go.Proofs
/-- journal.stretch -/
def journal_stretch.M (d1 : Option Addr) (a1 : Int) (a2 : Int) (ai : Int) (R : Value → World → Prop) (w : World) : Prop :=
 Calls Try.prog 22 #[.pointer d1] w fun cm a3 => ∃ (a0 : Int), cm = .returned (.int .i64 a0) ∧
 bif Option.isNone d1 then (
 bif ai != 0 then (
 bif decide (a1 ≥ 0) then (
 bif decide (a2 ≥ 1) then (
 R (.tuple #[.slice none 0 0, .int .i64 23]) a3) else (
 bif ai == 0 then (
 R (.tuple #[.slice none 0 0, .int .i64 1]) a3) else (
 bif decide (a1 < 0) then (
 R (.tuple #[.slice none 0 0, .int .i64 1]) a3) else (
 bif decide (a2 < 1) then (
 R (.tuple #[.slice none 0 0, .int .i64 1]) a3) else (
 bif decide (a1 > a0) then (
 R (.tuple #[.slice none 0 0, .int .i64 1]) a3) else (
 bif decide (a2 > (IntKind.i64.wrap (a0 - a1))) then (
 R (.tuple #[.slice none 0 0, .int .i64 1]) a3) else (
 Calls Try.prog 23 #[.pointer d1] a3 fun ck br => ∃ (ak : Bool), ck = .returned (.bool ak) ∧
 bif ak then (
 R (.tuple #[.slice none 0 0, .int .i64 19]) br) else (
 ∃ (I1 : Nat → List Value → World → Prop) (co : Nat), I1 co [.slice none 0 0, .int .i64 0] br ∧ ∀ (ce : Nat) (ao : World) (ax : Option Addr) (b2 : Nat) (am : Nat) (bw : Int), I1 ce [.slice ax b2 am, .int .i64 bw] ao →
 bif decide (bw < a2) then (
 Calls Try.prog 25 #[.pointer d1, .int .i64 (IntKind.i64.wrap (a1 + bw))] ao fun c0 bf => ∃ (a8 : Option Addr) (a9 : Nat) (ab : Nat) (al : Int), c0 = .returned (.tuple #[.slice a8 a9 ab, .int .i64 al]) ∧
 thenW (bf.alloc (.cells #[.slice a8 a9 ab] 30)) fun ca =>
 ∃ (b7 : Option Addr) (ba : Nat) (bj : Nat) (bq : World), (Builtin.append_ #[31, 31] 31 #[.slice ax b2 am, .slice (some (blk bf.heap.size)) 1 1]).run Try.prog ca = .ok (.slice b7 ba bj) bq ∧
 ∃ cg, cg < ce ∧ I1 cg [.slice b7 ba bj, .int .i64 (IntKind.i64.wrap (bw + 1))] bq) else (
 R (.tuple #[.slice ax b2 am, .int .i64 0]) ao))))))))) else (
 bif ai == 0 then (
 R (.tuple #[.slice none 0 0, .int .i64 1]) a3) else (
 bif decide (a1 < 0) then (
 R (.tuple #[.slice none 0 0, .int .i64 1]) a3) else (
 bif decide (a2 < 1) then (
 R (.tuple #[.slice none 0 0, .int .i64 1]) a3) else (
 bif decide (a1 > a0) then (
 R (.tuple #[.slice none 0 0, .int .i64 1]) a3) else (
 bif decide (a2 > (IntKind.i64.wrap (a0 - a1))) then (
 R (.tuple #[.slice none 0 0, .int .i64 1]) a3) else (
 Calls Try.prog 23 #[.pointer d1] a3 fun c2 bh => ∃ (ah : Bool), c2 = .returned (.bool ah) ∧
 bif ah then (
 R (.tuple #[.slice none 0 0, .int .i64 19]) bh) else (
 ∃ (I1 : Nat → List Value → World → Prop) (cj : Nat), I1 cj [.slice none 0 0, .int .i64 0] bh ∧ ∀ (cc : Nat) (b5 : World) (az : Option Addr) (b4 : Nat) (ay : Nat) (bx : Int), I1 cc [.slice az b4 ay, .int .i64 bx] b5 →
 bif decide (bx < a2) then (
 Calls Try.prog 25 #[.pointer d1, .int .i64 (IntKind.i64.wrap (a1 + bx))] b5 fun c5 bp => ∃ (a7 : Option Addr) (af : Nat) (a6 : Nat) (ar : Int), c5 = .returned (.tuple #[.slice a7 af a6, .int .i64 ar]) ∧
 thenW (bp.alloc (.cells #[.slice a7 af a6] 30)) fun c8 =>
 ∃ (b8 : Option Addr) (bu : Nat) (bg : Nat) (bd : World), (Builtin.append_ #[31, 31] 31 #[.slice az b4 ay, .slice (some (blk bp.heap.size)) 1 1]).run Try.prog c8 = .ok (.slice b8 bu bg) bd ∧
 ∃ cf, cf < cc ∧ I1 cf [.slice b8 bu bg, .int .i64 (IntKind.i64.wrap (bx + 1))] bd) else (
 R (.tuple #[.slice az b4 ay, .int .i64 0]) b5))))))))) else (
 bif ai == 0 then (
 R (.tuple #[.slice none 0 0, .int .i64 1]) a3) else (
 bif decide (a1 < 0) then (
 R (.tuple #[.slice none 0 0, .int .i64 1]) a3) else (
 bif decide (a2 < 1) then (
 R (.tuple #[.slice none 0 0, .int .i64 1]) a3) else (
 bif decide (a1 > a0) then (
 R (.tuple #[.slice none 0 0, .int .i64 1]) a3) else (
 bif decide (a2 > (IntKind.i64.wrap (a0 - a1))) then (
 R (.tuple #[.slice none 0 0, .int .i64 1]) a3) else (
 Calls Try.prog 23 #[.pointer d1] a3 fun c6 bs => ∃ (aj : Bool), c6 = .returned (.bool aj) ∧
 bif aj then (
 R (.tuple #[.slice none 0 0, .int .i64 19]) bs) else (
 ∃ (I1 : Nat → List Value → World → Prop) (cn : Nat), I1 cn [.slice none 0 0, .int .i64 0] bs ∧ ∀ (ch : Nat) (aq : World) (b1 : Option Addr) (b0 : Nat) (av : Nat) (bz : Int), I1 ch [.slice b1 b0 av, .int .i64 bz] aq →
 bif decide (bz < a2) then (
 Calls Try.prog 25 #[.pointer d1, .int .i64 (IntKind.i64.wrap (a1 + bz))] aq fun c1 bk => ∃ (a4 : Option Addr) (ae : Nat) (ad : Nat) (b6 : Int), c1 = .returned (.tuple #[.slice a4 ae ad, .int .i64 b6]) ∧
 thenW (bk.alloc (.cells #[.slice a4 ae ad] 30)) fun c9 =>
 ∃ (be : Option Addr) (b9 : Nat) (bn : Nat) (bt : World), (Builtin.append_ #[31, 31] 31 #[.slice b1 b0 av, .slice (some (blk bk.heap.size)) 1 1]).run Try.prog c9 = .ok (.slice be b9 bn) bt ∧
 ∃ ci, ci < ch ∧ I1 ci [.slice be b9 bn, .int .i64 (IntKind.i64.wrap (bz + 1))] bt) else (
 R (.tuple #[.slice b1 b0 av, .int .i64 0]) aq))))))))) else (
 bif ai == 0 then (
 R (.tuple #[.slice none 0 0, .int .i64 1]) a3) else (
 bif decide (a1 < 0) then (
 R (.tuple #[.slice none 0 0, .int .i64 1]) a3) else (
 bif decide (a2 < 1) then (
 R (.tuple #[.slice none 0 0, .int .i64 1]) a3) else (
 bif decide (a1 > a0) then (
 R (.tuple #[.slice none 0 0, .int .i64 1]) a3) else (
 bif decide (a2 > (IntKind.i64.wrap (a0 - a1))) then (
 R (.tuple #[.slice none 0 0, .int .i64 1]) a3) else (
 Calls Try.prog 23 #[.pointer d1] a3 fun c3 bo => ∃ (ag : Bool), c3 = .returned (.bool ag) ∧
 bif ag then (
 R (.tuple #[.slice none 0 0, .int .i64 19]) bo) else (
 ∃ (I1 : Nat → List Value → World → Prop) (cl : Nat), I1 cl [.slice none 0 0, .int .i64 0] bo ∧ ∀ (cb : Nat) (b3 : World) (aw : Option Addr) (au : Nat) (an : Nat) (bv : Int), I1 cb [.slice aw au an, .int .i64 bv] b3 →
 bif decide (bv < a2) then (
 Calls Try.prog 25 #[.pointer d1, .int .i64 (IntKind.i64.wrap (a1 + bv))] b3 fun c7 bi => ∃ (a5 : Option Addr) (aa : Nat) (ac : Nat) (ap : Int), c7 = .returned (.tuple #[.slice a5 aa ac, .int .i64 ap]) ∧
 thenW (bi.alloc (.cells #[.slice a5 aa ac] 30)) fun c4 =>
 ∃ (bl : Option Addr) (bb : Nat) (bc : Nat) (bm : World), (Builtin.append_ #[31, 31] 31 #[.slice aw au an, .slice (some (blk bi.heap.size)) 1 1]).run Try.prog c4 = .ok (.slice bl bb bc) bm ∧
 ∃ cd, cd < cb ∧ I1 cd [.slice bl bb bc, .int .i64 (IntKind.i64.wrap (bv + 1))] bm) else (
 R (.tuple #[.slice aw au an, .int .i64 0]) b3))))))))

theorem journal_stretch.eq (d1 : Option Addr) (base2 : Int) (size3 : Int) (gen4 : Int) (R : Value → World → Prop) (w : World) : mfunc Try.prog [(1, [0, 1, 57], [(8, (.one .slice)), (58, (.one (.int .i64)))])] 51 [.pointer d1, .int .i64 base2, .int .i64 size3, .int .u32 gen4] R w = journal_stretch.M d1 base2 size3 gen4 R w := by kernel_rfl
theorem journal_stretch.ok (d1 : Option Addr) (a1 : Int) (a0 : Int) (a2 : Int) {R : Value → World → Prop} {w : World} (h : journal_stretch.M d1 a1 a0 a2 R w) : Calls Try.prog 51 #[.pointer d1, .int .i64 a1, .int .i64 a0, .int .u32 a2] w fun e w' => ∃ v, e = .returned v ∧ R v w' :=
  mfunc_ok follows (H := [(1, [0, 1, 57], [(8, (.one .slice)), (58, (.one (.int .i64)))])]) (args := [.pointer d1, .int .i64 a1, .int .i64 a0, .int .u32 a2]) (by rw [journal_stretch.eq]; exact h)

def journal_stretch.N (d1 : Option Addr) (a1 : Int) (a2 : Int) (a4 : Int) (R : Value → World → Prop) (w : World) : Prop :=
 Calls Try.prog 22 #[.pointer d1] w fun c3 a3 => ∃ (a0 : Int), c3 = .returned (.int .i64 a0) ∧
 (d1 = none →
 (a4 ≠ 0 →
 (a1 ≥ 0 →
 (a2 ≥ 1 →
 R (.tuple #[.slice none 0 0, .int .i64 23]) a3) ∧
 (a2 < 1 →
 (a4 = 0 →
 R (.tuple #[.slice none 0 0, .int .i64 1]) a3) ∧
 (a4 ≠ 0 →
 (a1 < 0 →
 R (.tuple #[.slice none 0 0, .int .i64 1]) a3) ∧
 ((0 : Int) ≤ a1 →
 (a2 < 1 →
 R (.tuple #[.slice none 0 0, .int .i64 1]) a3) ∧
 ((1 : Int) ≤ a2 →
 (a1 > a0 →
 R (.tuple #[.slice none 0 0, .int .i64 1]) a3) ∧
 (a1 ≤ a0 →
 (-9223372036854775808 : Int) ≤ (a0 - a1) ∧ (a0 - a1) < 9223372036854775808 ∧
 (a2 > (a0 - a1) →
 R (.tuple #[.slice none 0 0, .int .i64 1]) a3) ∧
 (a2 ≤ (a0 - a1) →
 Calls Try.prog 23 #[.pointer d1] a3 fun bu b5 => ∃ (a6 : Bool), bu = .returned (.bool a6) ∧
 (a6 = true →
 R (.tuple #[.slice none 0 0, .int .i64 19]) b5) ∧
 (a6 = false →
 ∃ (I1 : Nat → List Value → World → Prop) (c4 : Nat), I1 c4 [.slice none 0 0, .int .i64 0] b5 ∧ ∀ (bx : Nat) (aw : World) (az : Option Addr) (au : Nat) (aq : Nat) (ak : Int), I1 bx [.slice az au aq, .int .i64 ak] aw →
 (ak < a2 →
 (-9223372036854775808 : Int) ≤ (a1 + ak) ∧ (a1 + ak) < 9223372036854775808 ∧
 Calls Try.prog 25 #[.pointer d1, .int .i64 (a1 + ak)] aw fun bt bf => ∃ (ab : Option Addr) (ae : Nat) (af : Nat) (av : Int), bt = .returned (.tuple #[.slice ab ae af, .int .i64 av]) ∧
 ∀ (aj : World) (bn : Nat), Ext no bf aj → Blk aj bn 30 [.slice ab ae af] → bf.heap.size ≤ bn → bn < aj.heap.size →
 ∃ (b9 : Option Addr) (b7 : Nat) (b6 : Nat) (bi : World), (Builtin.append_ #[31, 31] 31 #[.slice az au aq, .slice (some (blk bn)) 1 1]).run Try.prog aj = .ok (.slice b9 b7 b6) bi ∧
 (-9223372036854775808 : Int) ≤ (ak + 1) ∧ (ak + 1) < 9223372036854775808 ∧
 ∃ c0, c0 < bx ∧ I1 c0 [.slice b9 b7 b6, .int .i64 (ak + 1)] bi) ∧
 (a2 ≤ ak →
 R (.tuple #[.slice az au aq, .int .i64 0]) aw))))))))) ∧
 (a1 < 0 →
 (a4 = 0 →
 R (.tuple #[.slice none 0 0, .int .i64 1]) a3) ∧
 (a4 ≠ 0 →
 (a1 < 0 →
 R (.tuple #[.slice none 0 0, .int .i64 1]) a3) ∧
 ((0 : Int) ≤ a1 →
 (a2 < 1 →
 R (.tuple #[.slice none 0 0, .int .i64 1]) a3) ∧
 ((1 : Int) ≤ a2 →
 (a1 > a0 →
 R (.tuple #[.slice none 0 0, .int .i64 1]) a3) ∧
 (a1 ≤ a0 →
 (-9223372036854775808 : Int) ≤ (a0 - a1) ∧ (a0 - a1) < 9223372036854775808 ∧
 (a2 > (a0 - a1) →
 R (.tuple #[.slice none 0 0, .int .i64 1]) a3) ∧
 (a2 ≤ (a0 - a1) →
 Calls Try.prog 23 #[.pointer d1] a3 fun bs bl => ∃ (a5 : Bool), bs = .returned (.bool a5) ∧
 (a5 = true →
 R (.tuple #[.slice none 0 0, .int .i64 19]) bl) ∧
 (a5 = false →
 ∃ (I1 : Nat → List Value → World → Prop) (c2 : Nat), I1 c2 [.slice none 0 0, .int .i64 0] bl ∧ ∀ (bz : Nat) (b0 : World) (b1 : Option Addr) (an : Nat) (b3 : Nat) (al : Int), I1 bz [.slice b1 an b3, .int .i64 al] b0 →
 (al < a2 →
 (-9223372036854775808 : Int) ≤ (a1 + al) ∧ (a1 + al) < 9223372036854775808 ∧
 Calls Try.prog 25 #[.pointer d1, .int .i64 (a1 + al)] b0 fun bq bg => ∃ (a8 : Option Addr) (ac : Nat) (ag : Nat) (ax : Int), bq = .returned (.tuple #[.slice a8 ac ag, .int .i64 ax]) ∧
 ∀ (ai : World) (bo : Nat), Ext no bg ai → Blk ai bo 30 [.slice a8 ac ag] → bg.heap.size ≤ bo → bo < ai.heap.size →
 ∃ (b4 : Option Addr) (bh : Nat) (bb : Nat) (bj : World), (Builtin.append_ #[31, 31] 31 #[.slice b1 an b3, .slice (some (blk bo)) 1 1]).run Try.prog ai = .ok (.slice b4 bh bb) bj ∧
 (-9223372036854775808 : Int) ≤ (al + 1) ∧ (al + 1) < 9223372036854775808 ∧
 ∃ bw, bw < bz ∧ I1 bw [.slice b4 bh bb, .int .i64 (al + 1)] bj) ∧
 (a2 ≤ al →
 R (.tuple #[.slice b1 an b3, .int .i64 0]) b0))))))))) ∧
 (a4 = 0 →
 R (.tuple #[.slice none 0 0, .int .i64 1]) a3)) ∧
 (d1 ≠ none →
 (a4 = 0 →
 R (.tuple #[.slice none 0 0, .int .i64 1]) a3) ∧
 (a4 ≠ 0 →
 (a1 < 0 →
 R (.tuple #[.slice none 0 0, .int .i64 1]) a3) ∧
 ((0 : Int) ≤ a1 →
 (a2 < 1 →
 R (.tuple #[.slice none 0 0, .int .i64 1]) a3) ∧
 ((1 : Int) ≤ a2 →
 (a1 > a0 →
 R (.tuple #[.slice none 0 0, .int .i64 1]) a3) ∧
 (a1 ≤ a0 →
 (-9223372036854775808 : Int) ≤ (a0 - a1) ∧ (a0 - a1) < 9223372036854775808 ∧
 (a2 > (a0 - a1) →
 R (.tuple #[.slice none 0 0, .int .i64 1]) a3) ∧
 (a2 ≤ (a0 - a1) →
 Calls Try.prog 23 #[.pointer d1] a3 fun br b8 => ∃ (a7 : Bool), br = .returned (.bool a7) ∧
 (a7 = true →
 R (.tuple #[.slice none 0 0, .int .i64 19]) b8) ∧
 (a7 = false →
 ∃ (I1 : Nat → List Value → World → Prop) (c5 : Nat), I1 c5 [.slice none 0 0, .int .i64 0] b8 ∧ ∀ (c1 : Nat) (ao : World) (ar : Option Addr) (ap : Nat) (b2 : Nat) (am : Int), I1 c1 [.slice ar ap b2, .int .i64 am] ao →
 (am < a2 →
 (-9223372036854775808 : Int) ≤ (a1 + am) ∧ (a1 + am) < 9223372036854775808 ∧
 Calls Try.prog 25 #[.pointer d1, .int .i64 (a1 + am)] ao fun bp bd => ∃ (ad : Option Addr) (a9 : Nat) (aa : Nat) (ay : Int), bp = .returned (.tuple #[.slice ad a9 aa, .int .i64 ay]) ∧
 ∀ (ah : World) (bm : Nat), Ext no bd ah → Blk ah bm 30 [.slice ad a9 aa] → bd.heap.size ≤ bm → bm < ah.heap.size →
 ∃ (bc : Option Addr) (bk : Nat) (be : Nat) (ba : World), (Builtin.append_ #[31, 31] 31 #[.slice ar ap b2, .slice (some (blk bm)) 1 1]).run Try.prog ah = .ok (.slice bc bk be) ba ∧
 (-9223372036854775808 : Int) ≤ (am + 1) ∧ (am + 1) < 9223372036854775808 ∧
 ∃ bv, bv < c1 ∧ I1 bv [.slice bc bk be, .int .i64 (am + 1)] ba) ∧
 (a2 ≤ am →
 R (.tuple #[.slice ar ap b2, .int .i64 0]) ao))))))))

theorem journal_stretch.up (d1 : Option Addr) (ad : Int) (ac : Int) (an : Int) {R : Value → World → Prop} {w : World} (h : journal_stretch.N d1 ad ac an R w) : journal_stretch.M d1 ad ac an R w := by
  unfold journal_stretch.M
  unfold journal_stretch.N at h
  refine h.mono fun cw cv h => ?_
  obtain ⟨a2, he, h⟩ := h
  refine ⟨a2, he, ?_⟩
  refine bif_of (fun c8 => ?_) (fun c8 => ?_)
  · have h := h.1 (isNone_t c8)
    refine bif_of (fun c9 => ?_) (fun c9 => ?_)
    · have h := h.1 (bne_t c9)
      refine bif_of (fun bo => ?_) (fun bo => ?_)
      · have h := h.1 (of_decide_eq_true bo)
        refine bif_of (fun b9 => ?_) (fun b9 => ?_)
        · have h := h.1 (of_decide_eq_true b9)
          exact h
        · have h := h.2 (Int.not_le.1 (of_decide_eq_false b9))
          refine bif_of (fun bg => ?_) (fun bg => ?_)
          · have h := h.1 (beq_t bg)
            exact h
          · have h := h.2 (beq_f bg)
            refine bif_of (fun b5 => ?_) (fun b5 => ?_)
            · have h := h.1 (of_decide_eq_true b5)
              exact h
            · have h := h.2 (Int.not_lt.1 (of_decide_eq_false b5))
              refine bif_of (fun bx => ?_) (fun bx => ?_)
              · have h := h.1 (of_decide_eq_true bx)
                exact h
              · have h := h.2 (Int.not_lt.1 (of_decide_eq_false bx))
                refine bif_of (fun ar => ?_) (fun ar => ?_)
                · have h := h.1 (of_decide_eq_true ar)
                  exact h
                · have h := h.2 (Int.not_lt.1 (of_decide_eq_false ar))
                  obtain ⟨a0, a1, h⟩ := h
                  try rw [w64 a0 a1]
                  refine bif_of (fun bn => ?_) (fun bn => ?_)
                  · have h := h.1 (of_decide_eq_true bn)
                    exact h
                  · have h := h.2 (Int.not_lt.1 (of_decide_eq_false bn))
                    refine h.mono fun cc cf h => ?_
                    obtain ⟨aj, he, h⟩ := h
                    refine ⟨aj, he, ?_⟩
                    refine bif_of (fun bb => ?_) (fun bb => ?_)
                    · have h := h.1 bb
                      exact h
                    · have h := h.2 bb
                      obtain ⟨I1, cm, h0, h⟩ := h
                      refine ⟨I1, cm, h0, fun cq br ba aq bk cp hI => ?_⟩
                      have h := h cq br ba aq bk cp hI
                      refine bif_of (fun b7 => ?_) (fun b7 => ?_)
                      · have h := h.1 (of_decide_eq_true b7)
                        obtain ⟨a0, a1, h⟩ := h
                        try rw [w64 a0 a1]
                        refine h.mono fun cr ai h => ?_
                        obtain ⟨a4, a6, a8, ae, he, h⟩ := h
                        refine ⟨a4, a6, a8, ae, he, ?_⟩
                        refine thenW_in fun c0 b4 => ?_
                        have h := h c0 ai.heap.size ((Ext.refl no ai).x_alloc b4) (Blk.of_new b4) ((Ext.refl no ai)).size (size_lt_alloc b4)
                        obtain ⟨c1, b3, bm, b8, hr, h⟩ := h
                        refine ⟨c1, b3, bm, b8, hr, ?_⟩
                        obtain ⟨a0, a1, h⟩ := h
                        try rw [w64 a0 a1]
                        obtain ⟨cu, hk, h⟩ := h
                        exact ⟨cu, hk, h⟩
                      · have h := h.2 (Int.not_lt.1 (of_decide_eq_false b7))
                        exact h
      · have h := h.2 (Int.not_le.1 (of_decide_eq_false bo))
        refine bif_of (fun bs => ?_) (fun bs => ?_)
        · have h := h.1 (beq_t bs)
          exact h
        · have h := h.2 (beq_f bs)
          refine bif_of (fun be => ?_) (fun be => ?_)
          · have h := h.1 (of_decide_eq_true be)
            exact h
          · have h := h.2 (Int.not_lt.1 (of_decide_eq_false be))
            refine bif_of (fun c7 => ?_) (fun c7 => ?_)
            · have h := h.1 (of_decide_eq_true c7)
              exact h
            · have h := h.2 (Int.not_lt.1 (of_decide_eq_false c7))
              refine bif_of (fun az => ?_) (fun az => ?_)
              · have h := h.1 (of_decide_eq_true az)
                exact h
              · have h := h.2 (Int.not_lt.1 (of_decide_eq_false az))
                obtain ⟨a0, a1, h⟩ := h
                try rw [w64 a0 a1]
                refine bif_of (fun b2 => ?_) (fun b2 => ?_)
                · have h := h.1 (of_decide_eq_true b2)
                  exact h
                · have h := h.2 (Int.not_lt.1 (of_decide_eq_false b2))
                  refine h.mono fun ck cn h => ?_
                  obtain ⟨ag, he, h⟩ := h
                  refine ⟨ag, he, ?_⟩
                  refine bif_of (fun ap => ?_) (fun ap => ?_)
                  · have h := h.1 ap
                    exact h
                  · have h := h.2 ap
                    obtain ⟨I1, co, h0, h⟩ := h
                    refine ⟨I1, co, h0, fun cs bc bu bw ay cb hI => ?_⟩
                    have h := h cs bc bu bw ay cb hI
                    refine bif_of (fun bz => ?_) (fun bz => ?_)
                    · have h := h.1 (of_decide_eq_true bz)
                      obtain ⟨a0, a1, h⟩ := h
                      try rw [w64 a0 a1]
                      refine h.mono fun cg am h => ?_
                      obtain ⟨aa, a5, a9, af, he, h⟩ := h
                      refine ⟨aa, a5, a9, af, he, ?_⟩
                      refine thenW_in fun bh c5 => ?_
                      have h := h bh am.heap.size ((Ext.refl no am).x_alloc c5) (Blk.of_new c5) ((Ext.refl no am)).size (size_lt_alloc c5)
                      obtain ⟨b1, av, bp, bv, hr, h⟩ := h
                      refine ⟨b1, av, bp, bv, hr, ?_⟩
                      obtain ⟨a0, a1, h⟩ := h
                      try rw [w64 a0 a1]
                      obtain ⟨ci, hk, h⟩ := h
                      exact ⟨ci, hk, h⟩
                    · have h := h.2 (Int.not_lt.1 (of_decide_eq_false bz))
                      exact h
    · have h := h.2 (bne_f c9)
      refine bif_tt (cong1 (r := true) (fun z => z == 0) (bne_f c9) (by decide)) ?_
      exact h
  · have h := h.2 (isNone_f c8)
    refine bif_of (fun bi => ?_) (fun bi => ?_)
    · have h := h.1 (beq_t bi)
      exact h
    · have h := h.2 (beq_f bi)
      refine bif_of (fun au => ?_) (fun au => ?_)
      · have h := h.1 (of_decide_eq_true au)
        exact h
      · have h := h.2 (Int.not_lt.1 (of_decide_eq_false au))
        refine bif_of (fun ax => ?_) (fun ax => ?_)
        · have h := h.1 (of_decide_eq_true ax)
          exact h
        · have h := h.2 (Int.not_lt.1 (of_decide_eq_false ax))
          refine bif_of (fun b6 => ?_) (fun b6 => ?_)
          · have h := h.1 (of_decide_eq_true b6)
            exact h
          · have h := h.2 (Int.not_lt.1 (of_decide_eq_false b6))
            obtain ⟨a0, a1, h⟩ := h
            try rw [w64 a0 a1]
            refine bif_of (fun c3 => ?_) (fun c3 => ?_)
            · have h := h.1 (of_decide_eq_true c3)
              exact h
            · have h := h.2 (Int.not_lt.1 (of_decide_eq_false c3))
              refine h.mono fun cl ch h => ?_
              obtain ⟨ak, he, h⟩ := h
              refine ⟨ak, he, ?_⟩
              refine bif_of (fun b0 => ?_) (fun b0 => ?_)
              · have h := h.1 b0
                exact h
              · have h := h.2 b0
                obtain ⟨I1, cd, h0, h⟩ := h
                refine ⟨I1, cd, h0, fun ce ao bl bj c6 ct hI => ?_⟩
                have h := h ce ao bl bj c6 ct hI
                refine bif_of (fun c4 => ?_) (fun c4 => ?_)
                · have h := h.1 (of_decide_eq_true c4)
                  obtain ⟨a0, a1, h⟩ := h
                  try rw [w64 a0 a1]
                  refine h.mono fun ca al h => ?_
                  obtain ⟨ab, a7, a3, ah, he, h⟩ := h
                  refine ⟨ab, a7, a3, ah, he, ?_⟩
                  refine thenW_in fun bf aw => ?_
                  have h := h bf al.heap.size ((Ext.refl no al).x_alloc aw) (Blk.of_new aw) ((Ext.refl no al)).size (size_lt_alloc aw)
                  obtain ⟨bq, bd, bt, c2, hr, h⟩ := h
                  refine ⟨bq, bd, bt, c2, hr, ?_⟩
                  obtain ⟨a0, a1, h⟩ := h
                  try rw [w64 a0 a1]
                  obtain ⟨cj, hk, h⟩ := h
                  exact ⟨cj, hk, h⟩
                · have h := h.2 (Int.not_lt.1 (of_decide_eq_false c4))
                  exact h

theorem journal_stretch.go (d1 : Option Addr) (a1 : Int) (a0 : Int) (a2 : Int) {R : Value → World → Prop} {w : World} (h : journal_stretch.N d1 a1 a0 a2 R w) : Calls Try.prog 51 #[.pointer d1, .int .i64 a1, .int .i64 a0, .int .u32 a2] w fun e w' => ∃ v, e = .returned v ∧ R v w' := journal_stretch.ok d1 a1 a0 a2 (journal_stretch.up d1 a1 a0 a2 h)
/-- journal.Open -/
def journal_Open.M (d1 : Option Addr) (aa : Int) (a9 : Int) (ab : Int) (R : Value → World → Prop) (w : World) : Prop :=
 Calls Try.prog 51 #[.pointer d1, .int .i64 aa, .int .i64 a9, .int .u32 ab] w fun ag af => ∃ (a2 : Option Addr) (a3 : Nat) (a1 : Nat) (a0 : Int), ag = .returned (.tuple #[.slice a2 a3 a1, .int .i64 a0]) ∧
 bif a0 != 0 then (
 R (.tuple #[.pointer none, .slice none 0 0, .int .i64 a0]) af) else (
 Calls Try.prog 52 #[.slice a2 a3 a1, .int .u32 ab] af fun ae ac => ∃ (a6 : Option Addr) (a4 : Nat) (a8 : Nat) (a7 : Int) (a5 : Int), ae = .returned (.tuple #[.slice a6 a4 a8, .int .i64 a7, .int .u32 a5]) ∧
 bif (IntKind.u32.wrap (a5 + 1)) == 0 then (
 R (.tuple #[.pointer none, .slice none 0 0, .int .i64 2]) ac) else (
 thenW (ac.alloc (.cells #[.pointer d1, .int .i64 aa, .int .i64 a9, .int .u32 ab, .int .u32 (IntKind.u32.wrap (a5 + 1)), .int .i64 a7, .int .i64 (a4 : Int), .bool false] 92)) fun ad =>
 R (.tuple #[.pointer (some (blk ac.heap.size)), .slice a6 a4 a8, .int .i64 0]) ad))

theorem journal_Open.eq (d1 : Option Addr) (base2 : Int) (size3 : Int) (gen4 : Int) (R : Value → World → Prop) (w : World) : mfunc Try.prog [] 26 [.pointer d1, .int .i64 base2, .int .i64 size3, .int .u32 gen4] R w = journal_Open.M d1 base2 size3 gen4 R w := by kernel_rfl
theorem journal_Open.ok (d1 : Option Addr) (a1 : Int) (a0 : Int) (a2 : Int) {R : Value → World → Prop} {w : World} (h : journal_Open.M d1 a1 a0 a2 R w) : Calls Try.prog 26 #[.pointer d1, .int .i64 a1, .int .i64 a0, .int .u32 a2] w fun e w' => ∃ v, e = .returned v ∧ R v w' :=
  mfunc_ok follows (H := []) (args := [.pointer d1, .int .i64 a1, .int .i64 a0, .int .u32 a2]) (by rw [journal_Open.eq]; exact h)

def journal_Open.N (d1 : Option Addr) (ab : Int) (aa : Int) (ac : Int) (R : Value → World → Prop) (w : World) : Prop :=
 Calls Try.prog 51 #[.pointer d1, .int .i64 ab, .int .i64 aa, .int .u32 ac] w fun ah ag => ∃ (a2 : Option Addr) (a3 : Nat) (a1 : Nat) (a0 : Int), ah = .returned (.tuple #[.slice a2 a3 a1, .int .i64 a0]) ∧
 (a0 ≠ 0 →
 R (.tuple #[.pointer none, .slice none 0 0, .int .i64 a0]) ag) ∧
 (a0 = 0 →
 Calls Try.prog 52 #[.slice a2 a3 a1, .int .u32 ac] ag fun af ad => ∃ (a7 : Option Addr) (a5 : Nat) (a6 : Nat) (a8 : Int) (a4 : Int), af = .returned (.tuple #[.slice a7 a5 a6, .int .i64 a8, .int .u32 a4]) ∧
 ((IntKind.u32.wrap (a4 + 1)) = 0 →
 R (.tuple #[.pointer none, .slice none 0 0, .int .i64 2]) ad) ∧
 ((IntKind.u32.wrap (a4 + 1)) ≠ 0 →
 ∀ (a9 : World) (ae : Nat), Ext no ad a9 → Blk a9 ae 92 [.pointer d1, .int .i64 ab, .int .i64 aa, .int .u32 ac, .int .u32 (IntKind.u32.wrap (a4 + 1)), .int .i64 a8, .int .i64 (a5 : Int), .bool false] → ad.heap.size ≤ ae → ae < a9.heap.size →
 R (.tuple #[.pointer (some (blk ae)), .slice a7 a5 a6, .int .i64 0]) a9))

theorem journal_Open.up (d1 : Option Addr) (a8 : Int) (a7 : Int) (ac : Int) {R : Value → World → Prop} {w : World} (h : journal_Open.N d1 a8 a7 ac R w) : journal_Open.M d1 a8 a7 ac R w := by
  unfold journal_Open.M
  unfold journal_Open.N at h
  refine h.mono fun ah ai h => ?_
  obtain ⟨a2, a0, a1, a3, he, h⟩ := h
  refine ⟨a2, a0, a1, a3, he, ?_⟩
  refine bif_of (fun c9 => ?_) (fun c9 => ?_)
  · have h := h.1 (bne_t c9)
    exact h
  · have h := h.2 (bne_f c9)
    refine h.mono fun ag ab h => ?_
    obtain ⟨a4, a5, a6, aa, a9, he, h⟩ := h
    refine ⟨a4, a5, a6, aa, a9, he, ?_⟩
    refine bif_of (fun ad => ?_) (fun ad => ?_)
    · have h := h.1 (beq_t ad)
      exact h
    · have h := h.2 (beq_f ad)
      refine thenW_in fun ae af => ?_
      have h := h ae ab.heap.size ((Ext.refl no ab).x_alloc af) (Blk.of_new af) ((Ext.refl no ab)).size (size_lt_alloc af)
      exact h

theorem journal_Open.go (d1 : Option Addr) (a1 : Int) (a0 : Int) (a2 : Int) {R : Value → World → Prop} {w : World} (h : journal_Open.N d1 a1 a0 a2 R w) : Calls Try.prog 26 #[.pointer d1, .int .i64 a1, .int .i64 a0, .int .u32 a2] w fun e w' => ∃ v, e = .returned v ∧ R v w' := journal_Open.ok d1 a1 a0 a2 (journal_Open.up d1 a1 a0 a2 h)
/-- journal.Create -/
def journal_Create.M (d1 : Option Addr) (a6 : Int) (a5 : Int) (a8 : Int) (R : Value → World → Prop) (w : World) : Prop :=
 Calls Try.prog 26 #[.pointer d1, .int .i64 a6, .int .i64 a5, .int .u32 a8] w fun ad a9 => ∃ (a0 : Option Addr) (a3 : Option Addr) (a2 : Nat) (a4 : Nat) (a1 : Int), ad = .returned (.tuple #[.pointer a0, .slice a3 a2 a4, .int .i64 a1]) ∧
 bif a1 == 0 then (
 a0.elim False fun ab =>
 canStore a9 ((ab.add 5).add 0) ∧
 thenW (a9.setCell ((ab.add 5).add 0) (.int .i64 0)) fun a7 =>
 a0.elim False fun ac =>
 canStore a7 ((ac.add 6).add 0) ∧
 thenW (a7.setCell ((ac.add 6).add 0) (.int .i64 0)) fun aa =>
 R (.tuple #[.pointer a0, .int .i64 a1]) aa) else (
 R (.tuple #[.pointer a0, .int .i64 a1]) a9)

theorem journal_Create.eq (d1 : Option Addr) (base2 : Int) (size3 : Int) (gen4 : Int) (R : Value → World → Prop) (w : World) : mfunc Try.prog [] 29 [.pointer d1, .int .i64 base2, .int .i64 size3, .int .u32 gen4] R w = journal_Create.M d1 base2 size3 gen4 R w := by kernel_rfl
theorem journal_Create.ok (d1 : Option Addr) (a1 : Int) (a0 : Int) (a2 : Int) {R : Value → World → Prop} {w : World} (h : journal_Create.M d1 a1 a0 a2 R w) : Calls Try.prog 29 #[.pointer d1, .int .i64 a1, .int .i64 a0, .int .u32 a2] w fun e w' => ∃ v, e = .returned v ∧ R v w' :=
  mfunc_ok follows (H := []) (args := [.pointer d1, .int .i64 a1, .int .i64 a0, .int .u32 a2]) (by rw [journal_Create.eq]; exact h)

def journal_Create.N (d1 : Option Addr) (a8 : Int) (a7 : Int) (a9 : Int) (R : Value → World → Prop) (w : World) : Prop :=
 Calls Try.prog 26 #[.pointer d1, .int .i64 a8, .int .i64 a7, .int .u32 a9] w fun ac aa => ∃ (a1 : Option Addr) (a3 : Option Addr) (a2 : Nat) (a4 : Nat) (a0 : Int), ac = .returned (.tuple #[.pointer a1, .slice a3 a2 a4, .int .i64 a0]) ∧
 (a0 = 0 →
 ∃ a6 : Addr, a1 = some a6 ∧
 canStore aa ((a6.add 5).add 0) ∧
 thenW (aa.setCell ((a6.add 5).add 0) (.int .i64 0)) fun a5 =>
 canStore a5 ((a6.add 6).add 0) ∧
 thenW (a5.setCell ((a6.add 6).add 0) (.int .i64 0)) fun ab =>
 R (.tuple #[.pointer a1, .int .i64 a0]) ab) ∧
 (a0 ≠ 0 →
 R (.tuple #[.pointer a1, .int .i64 a0]) aa)

theorem journal_Create.up (d1 : Option Addr) (a4 : Int) (a3 : Int) (a7 : Int) {R : Value → World → Prop} {w : World} (h : journal_Create.N d1 a4 a3 a7 R w) : journal_Create.M d1 a4 a3 a7 R w := by
  unfold journal_Create.M
  unfold journal_Create.N at h
  refine h.mono fun ae af h => ?_
  obtain ⟨a6, a1, a0, a2, a5, he, h⟩ := h
  refine ⟨a6, a1, a0, a2, a5, he, ?_⟩
  refine bif_of (fun a9 => ?_) (fun a9 => ?_)
  · have h := h.1 (beq_t a9)
    obtain ⟨ag, a8, h⟩ := h
    refine elim_some a8 ?_
    obtain ⟨hcs, h⟩ := h
    refine ⟨hcs, thenW_in fun ab aa => ?_⟩
    replace h := thenW_out h aa
    refine elim_some a8 ?_
    obtain ⟨hcs, h⟩ := h
    refine ⟨hcs, thenW_in fun ad ac => ?_⟩
    replace h := thenW_out h ac
    exact h
  · have h := h.2 (beq_f a9)
    exact h

theorem journal_Create.go (d1 : Option Addr) (a1 : Int) (a0 : Int) (a2 : Int) {R : Value → World → Prop} {w : World} (h : journal_Create.N d1 a1 a0 a2 R w) : Calls Try.prog 29 #[.pointer d1, .int .i64 a1, .int .i64 a0, .int .u32 a2] w fun e w' => ∃ v, e = .returned v ∧ R v w' := journal_Create.ok d1 a1 a0 a2 (journal_Create.up d1 a1 a0 a2 h)
/-- (*journal.Journal).Append -/
def journal_Journal_Append.M (j1 : Option Addr) (bo : Option Addr) (b8 : Nat) (bm : Nat) (R : Value → World → Prop) (w : World) : Prop :=
 Calls Try.prog 28 #[.int .i64 (b8 : Int)] w fun be aq => ∃ (a1 : Int), be = .returned (.int .i64 a1) ∧
 bif Option.isNone j1 then (
 R (.int .i64 23) aq) else (
 bif a1 == 0 then (
 R (.int .i64 3) aq) else (
 j1.elim False fun a6 =>
 ∃ (al : Bool), aq.cell? (a6.add 7) = some (.bool al) ∧
 bif al then (
 R (.int .i64 19) aq) else (
 thenW (aq.drew) fun aw =>
 j1.elim False fun a9 =>
 ∃ (ae : Int), aw.cell? (a9.add 2) = some (.int .i64 ae) ∧
 j1.elim False fun bn =>
 ∃ (a7 : Int), aw.cell? (bn.add 5) = some (.int .i64 a7) ∧
 bif decide (a1 > (IntKind.i64.wrap (ae - a7))) then (
 R (.int .i64 18) aw) else (
 thenW (aw.drew) fun ai =>
 j1.elim False fun bq =>
 ∃ (am : Int), ai.cell? (bq.add 3) = some (.int .u32 am) ∧
 j1.elim False fun bg =>
 ∃ (a5 : Int), ai.cell? (bg.add 4) = some (.int .u32 a5) ∧
 j1.elim False fun bl =>
 ∃ (ak : Int), ai.cell? (bl.add 6) = some (.int .i64 ak) ∧
 Calls Try.prog 53 #[.int .u32 am, .int .u32 a5, .int .u32 (IntKind.u32.wrap ak), .slice bo b8 bm] ai fun ax ay => ∃ (a3 : Option Addr) (a0 : Nat) (af : Nat) (ah : Int), ax = .returned (.tuple #[.slice a3 a0 af, .int .i64 ah]) ∧
 ∃ (I1 : Nat → List Value → World → Prop) (bj : Nat), I1 bj [.int .i64 0] ay ∧ ∀ (b6 : Nat) (ab : World) (ao : Int), I1 b6 [.int .i64 ao] ab →
 bif decide (ao < (a0 : Int)) then (
 a3.elim False fun bd =>
 0 ≤ (ao : Int) ∧ (ao : Int) < (a0 : Int) ∧
 ∃ (av : Option Addr) (ar : Nat) (au : Nat), ab.cell? (bd.add (Int.toNat ao * 1)) = some (.slice av ar au) ∧
 thenW (ab.drew) fun ag =>
 j1.elim False fun bf =>
 ∃ (b7 : Option Addr), ag.cell? (bf.add 0) = some (.pointer b7) ∧
 j1.elim False fun br =>
 ∃ (a8 : Int), ag.cell? (br.add 1) = some (.int .i64 a8) ∧
 j1.elim False fun bp =>
 ∃ (ad : Int), ag.cell? (bp.add 5) = some (.int .i64 ad) ∧
 Calls Try.prog 34 #[.pointer b7, .int .i64 (IntKind.i64.wrap ((IntKind.i64.wrap (a8 + ad)) + ao)), .slice av ar au] ag fun b1 an => ∃ (a2 : Int), b1 = .returned (.int .i64 a2) ∧
 bif a2 != 0 then (
 j1.elim False fun b9 =>
 canStore an ((b9.add 7).add 0) ∧
 thenW (an.setCell ((b9.add 7).add 0) (.bool true)) fun b0 =>
 R (.int .i64 a2) b0) else (
 ∃ b5, b5 < b6 ∧ I1 b5 [.int .i64 (IntKind.i64.wrap (ao + 1))] an)) else (
 j1.elim False fun bk =>
 ∃ (b4 : Option Addr), ab.cell? (bk.add 0) = some (.pointer b4) ∧
 Calls Try.prog 37 #[.pointer b4] ab fun az ac => ∃ (a4 : Int), az = .returned (.int .i64 a4) ∧
 bif a4 != 0 then (
 j1.elim False fun bb =>
 canStore ac ((bb.add 7).add 0) ∧
 thenW (ac.setCell ((bb.add 7).add 0) (.bool true)) fun b2 =>
 R (.int .i64 a4) b2) else (
 j1.elim False fun bi =>
 ∃ (aa : Int), ac.cell? (bi.add 5) = some (.int .i64 aa) ∧
 j1.elim False fun ba =>
 canStore ac ((ba.add 5).add 0) ∧
 thenW (ac.setCell ((ba.add 5).add 0) (.int .i64 (IntKind.i64.wrap (aa + a1)))) fun ap =>
 j1.elim False fun bh =>
 ∃ (aj : Int), ap.cell? (bh.add 6) = some (.int .i64 aj) ∧
 j1.elim False fun bc =>
 canStore ap ((bc.add 6).add 0) ∧
 thenW (ap.setCell ((bc.add 6).add 0) (.int .i64 (IntKind.i64.wrap (aj + 1)))) fun b3 =>
 R (.int .i64 0) b3))))))

theorem journal_Journal_Append.eq (j1 : Option Addr) (b2a : Option Addr) (b2n : Nat) (b2c : Nat) (R : Value → World → Prop) (w : World) : mfunc Try.prog [(1, [0, 5, 56, 57], [(58, (.one (.int .i64)))])] 32 [.pointer j1, .slice b2a b2n b2c] R w = journal_Journal_Append.M j1 b2a b2n b2c R w := by kernel_rfl
theorem journal_Journal_Append.ok (j1 : Option Addr) (a1 : Option Addr) (a0 : Nat) (a2 : Nat) {R : Value → World → Prop} {w : World} (h : journal_Journal_Append.M j1 a1 a0 a2 R w) : Calls Try.prog 32 #[.pointer j1, .slice a1 a0 a2] w fun e w' => ∃ v, e = .returned v ∧ R v w' :=
  mfunc_ok follows (H := [(1, [0, 5, 56, 57], [(58, (.one (.int .i64)))])]) (args := [.pointer j1, .slice a1 a0 a2]) (by rw [journal_Journal_Append.eq]; exact h)

def journal_Journal_Append.N (j1 : Option Addr) (ba : Option Addr) (ak : Nat) (b8 : Nat) (R : Value → World → Prop) (w : World) : Prop :=
 (j1 = none →
 ∀ (al : World), Ext no w al →
 R (.int .i64 23) al) ∧
 (j1 ≠ none →
 ((journal_Parts.F (ak : Int)) = 0 →
 ∀ (al : World), Ext no w al →
 R (.int .i64 3) al) ∧
 ((journal_Parts.F (ak : Int)) ≠ 0 →
 ∃ a6 : Addr, j1 = some a6 ∧
 ∃ (af : Bool), w.cell? (a6.add 7) = some (.bool af) ∧
 (af = true →
 ∀ (al : World), Ext no w al →
 R (.int .i64 19) al) ∧
 (af = false →
 ∃ (a4 : Int), w.cell? (a6.add 2) = some (.int .i64 a4) ∧
 ∃ (a5 : Int), w.cell? (a6.add 5) = some (.int .i64 a5) ∧
 (-9223372036854775808 : Int) ≤ (a4 - a5) ∧ (a4 - a5) < 9223372036854775808 ∧
 ((journal_Parts.F (ak : Int)) > (a4 - a5) →
 ∀ (ar : World), Ext no w ar →
 R (.int .i64 18) ar) ∧
 ((journal_Parts.F (ak : Int)) ≤ (a4 - a5) →
 ∃ (aj : Int), w.cell? (a6.add 3) = some (.int .u32 aj) ∧
 ∃ (ab : Int), w.cell? (a6.add 4) = some (.int .u32 ab) ∧
 ∃ (ai : Int), w.cell? (a6.add 6) = some (.int .i64 ai) ∧
 ∀ (au : World), Ext no w au →
 Calls Try.prog 53 #[.int .u32 aj, .int .u32 ab, .int .u32 (IntKind.u32.wrap ai), .slice ba ak b8] au fun b0 aw => ∃ (a9 : Option Addr) (a0 : Nat) (ag : Nat) (ah : Int), b0 = .returned (.tuple #[.slice a9 a0 ag, .int .i64 ah]) ∧
 ∃ (I1 : Nat → List Value → World → Prop) (b9 : Nat), I1 b9 [.int .i64 0] aw ∧ ∀ (b3 : Nat) (aa : World) (ad : Int), I1 b3 [.int .i64 ad] aa →
 (ad < (a0 : Int) →
 ∃ b7 : Addr, a9 = some b7 ∧
 0 ≤ (ad : Int) ∧ (ad : Int) < (a0 : Int) ∧
 ∃ (av : Option Addr) (aq : Nat) (ao : Nat), aa.cell? (b7.add (Int.toNat ad * 1)) = some (.slice av aq ao) ∧
 ∃ (b5 : Option Addr), aa.cell? (a6.add 0) = some (.pointer b5) ∧
 ∃ (a2 : Int), aa.cell? (a6.add 1) = some (.int .i64 a2) ∧
 ∃ (a1 : Int), aa.cell? (a6.add 5) = some (.int .i64 a1) ∧
 (-9223372036854775808 : Int) ≤ (a2 + a1) ∧ (a2 + a1) < 9223372036854775808 ∧
 (-9223372036854775808 : Int) ≤ ((a2 + a1) + ad) ∧ ((a2 + a1) + ad) < 9223372036854775808 ∧
 ∀ (ap : World), Ext no aa ap →
 Calls Try.prog 34 #[.pointer b5, .int .i64 ((a2 + a1) + ad), .slice av aq ao] ap fun ax am => ∃ (a3 : Int), ax = .returned (.int .i64 a3) ∧
 (a3 ≠ 0 →
 canStore am ((a6.add 7).add 0) ∧
 thenW (am.setCell ((a6.add 7).add 0) (.bool true)) fun ay =>
 R (.int .i64 a3) ay) ∧
 (a3 = 0 →
 (-9223372036854775808 : Int) ≤ (ad + 1) ∧ (ad + 1) < 9223372036854775808 ∧
 ∃ b4, b4 < b3 ∧ I1 b4 [.int .i64 (ad + 1)] am)) ∧
 ((a0 : Int) ≤ ad →
 ∃ (b6 : Option Addr), aa.cell? (a6.add 0) = some (.pointer b6) ∧
 Calls Try.prog 37 #[.pointer b6] aa fun b2 ae => ∃ (a8 : Int), b2 = .returned (.int .i64 a8) ∧
 (a8 ≠ 0 →
 canStore ae ((a6.add 7).add 0) ∧
 thenW (ae.setCell ((a6.add 7).add 0) (.bool true)) fun b1 =>
 R (.int .i64 a8) b1) ∧
 (a8 = 0 →
 ∃ (a7 : Int), ae.cell? (a6.add 5) = some (.int .i64 a7) ∧
 (-9223372036854775808 : Int) ≤ (a7 + (journal_Parts.F (ak : Int))) ∧ (a7 + (journal_Parts.F (ak : Int))) < 9223372036854775808 ∧
 canStore ae ((a6.add 5).add 0) ∧
 thenW (ae.setCell ((a6.add 5).add 0) (.int .i64 (a7 + (journal_Parts.F (ak : Int))))) fun an =>
 ∃ (ac : Int), an.cell? (a6.add 6) = some (.int .i64 ac) ∧
 (-9223372036854775808 : Int) ≤ (ac + 1) ∧ (ac + 1) < 9223372036854775808 ∧
 canStore an ((a6.add 6).add 0) ∧
 thenW (an.setCell ((a6.add 6).add 0) (.int .i64 (ac + 1))) fun az =>
 R (.int .i64 0) az))))))

theorem journal_Journal_Append.up (j1 : Option Addr) (bg : Option Addr) (ap : Nat) (bf : Nat) {R : Value → World → Prop} {w : World} (h : journal_Journal_Append.N j1 bg ap bf R w) : journal_Journal_Append.M j1 bg ap bf R w := by
  unfold journal_Journal_Append.M
  unfold journal_Journal_Append.N at h
  refine (journal_Parts.pure (ap : Int)).mono fun ee ww3 ⟨he, hxx⟩ => ⟨(journal_Parts.F (ap : Int)), he, ?_⟩
  have am := (Ext.refl no w).trans hxx
  refine bif_of (fun c4 => ?_) (fun c4 => ?_)
  · have h := h.1 (isNone_t c4)
    have h := h ww3 am
    exact h
  · have h := h.2 (isNone_f c4)
    refine bif_of (fun c5 => ?_) (fun c5 => ?_)
    · have h := h.1 (beq_t c5)
      have h := h ww3 am
      exact h
    · have h := h.2 (beq_f c5)
      obtain ⟨a6, a0, h⟩ := h
      refine elim_some a0 ?_
      obtain ⟨ak, bi, h⟩ := h
      refine ⟨ak, (am).cell bi id, ?_⟩
      refine bif_of (fun c9 => ?_) (fun c9 => ?_)
      · have h := h.1 c9
        have h := h ww3 am
        exact h
      · have h := h.2 c9
        refine thenW_in fun b9 bq => ?_
        have a9 := am.x_drew bq
        refine elim_some a0 ?_
        obtain ⟨ad, ay, h⟩ := h
        refine ⟨ad, (a9).cell ay id, ?_⟩
        refine elim_some a0 ?_
        obtain ⟨ag, b0, h⟩ := h
        refine ⟨ag, (a9).cell b0 id, ?_⟩
        obtain ⟨a1, a2, h⟩ := h
        try rw [w64 a1 a2]
        refine bif_of (fun av => ?_) (fun av => ?_)
        · have h := h.1 (of_decide_eq_true av)
          have h := h b9 a9
          exact h
        · have h := h.2 (Int.not_lt.1 (of_decide_eq_false av))
          refine thenW_in fun aw bm => ?_
          have a8 := a9.x_drew bm
          refine elim_some a0 ?_
          obtain ⟨an, bd, h⟩ := h
          refine ⟨an, (a8).cell bd id, ?_⟩
          refine elim_some a0 ?_
          obtain ⟨a7, b7, h⟩ := h
          refine ⟨a7, (a8).cell b7 id, ?_⟩
          refine elim_some a0 ?_
          obtain ⟨aj, au, h⟩ := h
          refine ⟨aj, (a8).cell au id, ?_⟩
          have h := h aw a8
          refine h.mono fun bs bo h => ?_
          obtain ⟨a4, a3, a5, ac, he, h⟩ := h
          refine ⟨a4, a3, a5, ac, he, ?_⟩
          obtain ⟨I1, bt, h0, h⟩ := h
          refine ⟨I1, bt, h0, fun bh al bw hI => ?_⟩
          have h := h bh al bw hI
          refine bif_of (fun ba => ?_) (fun ba => ?_)
          · have h := h.1 (of_decide_eq_true ba)
            obtain ⟨cb, az, h⟩ := h
            refine elim_some az ?_
            obtain ⟨bl, bn, h⟩ := h
            refine ⟨bl, bn, ?_⟩
            obtain ⟨b5, b8, b2, bc, h⟩ := h
            refine ⟨b5, b8, b2, bc, ?_⟩
            refine thenW_in fun b6 bp => ?_
            have ab := (Ext.refl no al).x_drew bp
            refine elim_some a0 ?_
            obtain ⟨bx, aq, h⟩ := h
            refine ⟨bx, (ab).cell aq id, ?_⟩
            refine elim_some a0 ?_
            obtain ⟨ah, ar, h⟩ := h
            refine ⟨ah, (ab).cell ar id, ?_⟩
            refine elim_some a0 ?_
            obtain ⟨ae, bb, h⟩ := h
            refine ⟨ae, (ab).cell bb id, ?_⟩
            obtain ⟨a1, a2, h⟩ := h
            try rw [w64 a1 a2]
            obtain ⟨a1, a2, h⟩ := h
            try rw [w64 a1 a2]
            have h := h b6 ab
            refine h.mono fun bj c3 h => ?_
            obtain ⟨aa, he, h⟩ := h
            refine ⟨aa, he, ?_⟩
            refine bif_of (fun b3 => ?_) (fun b3 => ?_)
            · have h := h.1 (bne_t b3)
              refine elim_some a0 ?_
              obtain ⟨hcs, h⟩ := h
              refine ⟨hcs, thenW_in fun c7 ca => ?_⟩
              replace h := thenW_out h ca
              exact h
            · have h := h.2 (bne_f b3)
              obtain ⟨a1, a2, h⟩ := h
              try rw [w64 a1 a2]
              obtain ⟨c0, hk, h⟩ := h
              exact ⟨c0, hk, h⟩
          · have h := h.2 (Int.not_lt.1 (of_decide_eq_false ba))
            refine elim_some a0 ?_
            obtain ⟨bk, b4, h⟩ := h
            refine ⟨bk, b4, ?_⟩
            refine h.mono fun bu c2 h => ?_
            obtain ⟨af, he, h⟩ := h
            refine ⟨af, he, ?_⟩
            refine bif_of (fun ax => ?_) (fun ax => ?_)
            · have h := h.1 (bne_t ax)
              refine elim_some a0 ?_
              obtain ⟨hcs, h⟩ := h
              refine ⟨hcs, thenW_in fun c8 c1 => ?_⟩
              replace h := thenW_out h c1
              exact h
            · have h := h.2 (bne_f ax)
              refine elim_some a0 ?_
              obtain ⟨ai, b1, h⟩ := h
              refine ⟨ai, b1, ?_⟩
              obtain ⟨a1, a2, h⟩ := h
              try rw [w64 a1 a2]
              refine elim_some a0 ?_
              obtain ⟨hcs, h⟩ := h
              refine ⟨hcs, thenW_in fun bv bz => ?_⟩
              replace h := thenW_out h bz
              refine elim_some a0 ?_
              obtain ⟨ao, be, h⟩ := h
              refine ⟨ao, be, ?_⟩
              obtain ⟨a1, a2, h⟩ := h
              try rw [w64 a1 a2]
              refine elim_some a0 ?_
              obtain ⟨hcs, h⟩ := h
              refine ⟨hcs, thenW_in fun br c6 => ?_⟩
              replace h := thenW_out h c6
              exact h

theorem journal_Journal_Append.go (j1 : Option Addr) (a1 : Option Addr) (a0 : Nat) (a2 : Nat) {R : Value → World → Prop} {w : World} (h : journal_Journal_Append.N j1 a1 a0 a2 R w) : Calls Try.prog 32 #[.pointer j1, .slice a1 a0 a2] w fun e w' => ∃ v, e = .returned v ∧ R v w' := journal_Journal_Append.ok j1 a1 a0 a2 (journal_Journal_Append.up j1 a1 a0 a2 h)
theorem journal_Journal_Append.run (j1 : Option Addr) (a1 : Option Addr) (a0 : Nat) (a2 : Nat) {V : Value} {Q : World → Prop} {w : World} (h : journal_Journal_Append.N j1 a1 a0 a2 (fun v w' => v = V ∧ Q w') w) : Calls Try.prog 32 #[.pointer j1, .slice a1 a0 a2] w (Ret V Q) := (journal_Journal_Append.go j1 a1 a0 a2 h).mono fun e w' ⟨v, he, hv, hq⟩ => ⟨by rw [he, hv], hq⟩

/-- (*journal.Journal).Count -/
def journal_Journal_Count.M (j1 : Option Addr) (R : Value → World → Prop) (w : World) : Prop :=
 bif Option.isNone j1 then (
 R (.int .i64 0) w) else (
 j1.elim False fun a2 =>
 ∃ (a0 : Int), w.cell? (a2.add 6) = some (.int .i64 a0) ∧
 R (.int .i64 a0) w)

theorem journal_Journal_Count.eq (j1 : Option Addr) (R : Value → World → Prop) (w : World) : mfunc Try.prog [] 43 [.pointer j1] R w = journal_Journal_Count.M j1 R w := by kernel_rfl
theorem journal_Journal_Count.ok (j1 : Option Addr) {R : Value → World → Prop} {w : World} (h : journal_Journal_Count.M j1 R w) : Calls Try.prog 43 #[.pointer j1] w fun e w' => ∃ v, e = .returned v ∧ R v w' :=
  mfunc_ok follows (H := []) (args := [.pointer j1]) (by rw [journal_Journal_Count.eq]; exact h)

def journal_Journal_Count.N (j1 : Option Addr) (R : Value → World → Prop) (w : World) : Prop :=
 (j1 = none →
 R (.int .i64 0) w) ∧
 (j1 ≠ none →
 ∃ a3 : Addr, j1 = some a3 ∧
 ∃ (a0 : Int), w.cell? (a3.add 6) = some (.int .i64 a0) ∧
 R (.int .i64 a0) w)

theorem journal_Journal_Count.up (j1 : Option Addr) {R : Value → World → Prop} {w : World} (h : journal_Journal_Count.N j1 R w) : journal_Journal_Count.M j1 R w := by
  unfold journal_Journal_Count.M
  unfold journal_Journal_Count.N at h
  refine bif_of (fun c2 => ?_) (fun c2 => ?_)
  · have h := h.1 (isNone_t c2)
    exact h
  · have h := h.2 (isNone_f c2)
    obtain ⟨a3, a1, h⟩ := h
    refine elim_some a1 ?_
    obtain ⟨a0, a2, h⟩ := h
    refine ⟨a0, a2, ?_⟩
    exact h

theorem journal_Journal_Count.go (j1 : Option Addr) {R : Value → World → Prop} {w : World} (h : journal_Journal_Count.N j1 R w) : Calls Try.prog 43 #[.pointer j1] w fun e w' => ∃ v, e = .returned v ∧ R v w' := journal_Journal_Count.ok j1 (journal_Journal_Count.up j1 h)
theorem journal_Journal_Count.run (j1 : Option Addr) {V : Value} {Q : World → Prop} {w : World} (h : journal_Journal_Count.N j1 (fun v w' => v = V ∧ Q w') w) : Calls Try.prog 43 #[.pointer j1] w (Ret V Q) := (journal_Journal_Count.go j1 h).mono fun e w' ⟨v, he, hv, hq⟩ => ⟨by rw [he, hv], hq⟩

/-- (*journal.Journal).Room -/
def journal_Journal_Room.M (j1 : Option Addr) (R : Value → World → Prop) (w : World) : Prop :=
 bif Option.isNone j1 then (
 R (.int .i64 0) w) else (
 thenW (w.drew) fun a2 =>
 j1.elim False fun a3 =>
 ∃ (a0 : Int), a2.cell? (a3.add 2) = some (.int .i64 a0) ∧
 j1.elim False fun a5 =>
 ∃ (a1 : Int), a2.cell? (a5.add 5) = some (.int .i64 a1) ∧
 R (.int .i64 (IntKind.i64.wrap (a0 - a1))) a2)

theorem journal_Journal_Room.eq (j1 : Option Addr) (R : Value → World → Prop) (w : World) : mfunc Try.prog [] 44 [.pointer j1] R w = journal_Journal_Room.M j1 R w := by kernel_rfl
theorem journal_Journal_Room.ok (j1 : Option Addr) {R : Value → World → Prop} {w : World} (h : journal_Journal_Room.M j1 R w) : Calls Try.prog 44 #[.pointer j1] w fun e w' => ∃ v, e = .returned v ∧ R v w' :=
  mfunc_ok follows (H := []) (args := [.pointer j1]) (by rw [journal_Journal_Room.eq]; exact h)

def journal_Journal_Room.N (j1 : Option Addr) (R : Value → World → Prop) (w : World) : Prop :=
 (j1 = none →
 R (.int .i64 0) w) ∧
 (j1 ≠ none →
 ∃ a4 : Addr, j1 = some a4 ∧
 ∃ (a1 : Int), w.cell? (a4.add 2) = some (.int .i64 a1) ∧
 ∃ (a0 : Int), w.cell? (a4.add 5) = some (.int .i64 a0) ∧
 (-9223372036854775808 : Int) ≤ (a1 - a0) ∧ (a1 - a0) < 9223372036854775808 ∧
 ∀ (a2 : World), Ext no w a2 →
 R (.int .i64 (a1 - a0)) a2)

theorem journal_Journal_Room.up (j1 : Option Addr) {R : Value → World → Prop} {w : World} (h : journal_Journal_Room.N j1 R w) : journal_Journal_Room.M j1 R w := by
  unfold journal_Journal_Room.M
  unfold journal_Journal_Room.N at h
  refine bif_of (fun c2 => ?_) (fun c2 => ?_)
  · have h := h.1 (isNone_t c2)
    exact h
  · have h := h.2 (isNone_f c2)
    refine thenW_in fun a8 e3 => ?_
    have a2 := (Ext.refl no w).x_drew e3
    obtain ⟨a4, a3, h⟩ := h
    refine elim_some a3 ?_
    obtain ⟨a1, a9, h⟩ := h
    refine ⟨a1, (a2).cell a9 id, ?_⟩
    refine elim_some a3 ?_
    obtain ⟨a0, a5, h⟩ := h
    refine ⟨a0, (a2).cell a5 id, ?_⟩
    obtain ⟨a6, a7, h⟩ := h
    try rw [w64 a6 a7]
    have h := h a8 a2
    exact h

theorem journal_Journal_Room.go (j1 : Option Addr) {R : Value → World → Prop} {w : World} (h : journal_Journal_Room.N j1 R w) : Calls Try.prog 44 #[.pointer j1] w fun e w' => ∃ v, e = .returned v ∧ R v w' := journal_Journal_Room.ok j1 (journal_Journal_Room.up j1 h)
theorem journal_Journal_Room.run (j1 : Option Addr) {V : Value} {Q : World → Prop} {w : World} (h : journal_Journal_Room.N j1 (fun v w' => v = V ∧ Q w') w) : Calls Try.prog 44 #[.pointer j1] w (Ret V Q) := (journal_Journal_Room.go j1 h).mono fun e w' ⟨v, he, hv, hq⟩ => ⟨by rw [he, hv], hq⟩

end Go.Proofs.Ytidijnfkcpbkiaa

/- Disk: the statements' small functions: Sector, light, what is given, the chapter's example. -/
set_option linter.unusedVariables false
set_option linter.unusedSimpArgs false
set_option maxRecDepth 20000
set_option maxHeartbeats 4000000
namespace Go.Proofs.Ytidijnfkcpbkiaa
open Go Go.Mx Go.Proofs
open W (OwnB)
section
variable {K : Nat → Prop} {w w' w1 : World} {o o' o1 : Own} {g g2 m : Nat} {d : DS} {i : Int} {a : Option Addr} {c : Nat}
theorem dmk_bytes (w : World) (n : Nat) (hn : n < 1000000) : ∃ w', (Instr.makeSlice 30 (.int .i64 n) (.int .i64 n)).run Try.prog w = .ok (.slice (some (blk w.heap.size)) n n) w' ∧ Ext no w w' ∧ Blk w' w.heap.size 5 (bytesV (List.replicate n 0)) ∧ w.heap.size < w'.heap.size := by
  obtain ⟨i, hi, hz, hs, hb⟩ := info_of inf5
  have hmk := run_makeSlice (P := Try.prog) (w := w) 30 5 i _ Try.underlying30 hi hz .i64 .i64 n n (by omega) (Int.le_refl _) (by rw [hs]; omega) (by rw [hb]; omega) (by omega)
  rw [hs, Int.toNat_natCast] at hmk
  have hcells : (madeCells (Value.int .u8 0).cells (n * 1)) = (bytesV (List.replicate n 0)).toArray := by
    apply Array.ext'
    rw [show (Value.int .u8 0).cells = #[Value.int .u8 0] from rfl, toList_madeCells_one, Nat.mul_one]
    show _ = bytesV _
    rw [bytesV, List.map_replicate]; rfl
  rw [hcells] at hmk
  exact ⟨_, hmk, (Ext.refl _ _).alloc _, Blk.new _ _ _, by simp⟩
theorem dNoStep {K : Nat → Prop} (h : Step no w o w1 o1) : Step no w o w1 (grow w o) := Step.of_no (h.ext.mono fun b ⟨_, _, h⟩ _ => h) h.ok0
/-- a step of a script. -/
structure DOp where
  kd : Int
  n : Int
  by_ : Int
  short : Bool
  ka : Option Addr
  kc : Nat
  keep : List Bool
def DOp.C (x : DOp) : List Value := [.int .i64 x.kd, .int .i64 x.n, .int .u8 x.by_, .bool x.short, .slice x.ka x.keep.length x.kc]
theorem DOp.len (x : DOp) : x.C.length = 5 := rfl
structure DOp.good (W : World) (x : DOp) : Prop where
  nw : -9223372036854775808 ≤ x.n ∧ x.n < 9223372036854775808
  bw : 0 ≤ x.by_ ∧ x.by_ < 256
  row : RowAt W x.ka (boolsV x.keep)
  le : x.keep.length ≤ x.kc
def BoolsQ (W : World) (cs : List Value) : Prop := ∃ (a : Option Addr) (c : Nat) (l : List Bool), cs = [.slice a l.length c] ∧ l.length ≤ c ∧ c ≤ maxLen ∧ RowAt W a (boolsV l)
theorem flat_bools (l : List Bool) : (l.flatMap fun b => [Value.bool b]) = boolsV l := by
  unfold boolsV
  induction l with
  | nil => rfl
  | cons x r ih => rw [List.flatMap_cons, ih]; rfl
theorem opens_bools : Opens Try.prog 36 BoolsQ := (opens_rows (size := 1) (f := fun b => [Value.bool b]) (G := fun _ _ => True) Try.underlying36 (by kernel_rfl) ((opens_bool Try.underlying4).mono fun W cs ⟨b, h⟩ => ⟨b, h, trivial⟩)).mono
  fun W cs ⟨a, c, l, h1, h2, h3, h4, _⟩ => ⟨a, c, l, h1, h2, h3, by rw [← flat_bools]; exact h4⟩
def light9 (l : List DOp) : Bool := decide (l.length ≤ 60) && l.all fun x => decide (x.keep.length ≤ 60)
end
end Go.Proofs.Ytidijnfkcpbkiaa

/- Disk: the chapter's example; DiskArms. -/
set_option linter.unusedVariables false
set_option linter.unusedSimpArgs false
set_option maxRecDepth 20000
set_option maxHeartbeats 4000000
namespace Go.Proofs.Ytidijnfkcpbkiaa
open Go Go.Mx Go.Proofs
open W (OwnB)
section
variable {K : Nat → Prop} {w w' w1 : World} {o o' o1 : Own} {g g2 m : Nat} {d : DS} {i : Int} {a : Option Addr} {c : Nat}
theorem DS.ok.up {n : Nat} (h : d.ok m) (hm : m ≤ n) : d.ok n := ⟨h.n1, h.n2, h.at_, by have := h.pl; omega, by have := h.cl; omega, h.left⟩
theorem newDS_ok {n : Nat} (h1 : 1 ≤ n) (h2 : n ≤ 400) : (newDS n).ok 0 := by
  have hn : (newDS n).good.length = n := by unfold newDS; simp
  exact ⟨by omega, by omega, fun x hx => (by cases hx), Nat.le_refl _, ⟨Int.le_refl _, Int.le_refl _⟩, by show (0 : Int) ≤ 0; decide, by show (0 : Int) < _; decide⟩
theorem syncD_ok (h : d.ok m) : (syncD d).1.ok m := by
  unfold syncD
  split
  · exact h
  · exact settleD_ok h _
theorem restartD_ok (h : d.ok m) (l : List Bool) : (restartD d l).ok m := by
  have k := settleD_ok h (keepF l)
  exact ⟨k.n1, k.n2, k.at_, k.pl, k.cl, k.left⟩
theorem writeD_ok (h : d.ok m) (i : Int) (b : List UInt8) : (writeD d i b).1.ok (m + 1) := by
  have hpl := h.pl
  have hcl := h.cl
  have hl := h.left
  have hu := h.up (Nat.le_succ m)
  have key : ∀ (s : Sec), hasD d i = 0 → ∀ x ∈ d.pend ++ [⟨i, s⟩], 0 ≤ x.i ∧ x.i < (d.good.length : Int) := fun s h0 x hx => by
    rcases List.mem_append.1 hx with hx | hx
    · exact h.at_ x hx
    · simp at hx; subst hx; exact (hasD_0 h0).2
  unfold writeD
  split
  · rename_i h0
    split
    · split
      · split
        · exact ⟨h.n1, h.n2, key _ h0, by show (d.pend ++ [_]).length ≤ _; rw [List.length_append]; show d.pend.length + 1 ≤ m + 1; omega, by show 0 ≤ d.count ∧ d.count ≤ ((m + 1 : Nat) : Int); omega, hl⟩
        · exact ⟨h.n1, h.n2, key _ h0, by show (d.pend ++ [_]).length ≤ _; rw [List.length_append]; show d.pend.length + 1 ≤ m + 1; omega, by show 0 ≤ d.count + 1 ∧ d.count + 1 ≤ ((m + 1 : Nat) : Int); omega, by show 0 ≤ d.left - 1 ∧ d.left - 1 < 9223372036854775808; omega⟩
      · exact ⟨h.n1, h.n2, key _ h0, by show (d.pend ++ [_]).length ≤ _; rw [List.length_append]; show d.pend.length + 1 ≤ m + 1; omega, by show 0 ≤ d.count + 1 ∧ d.count + 1 ≤ ((m + 1 : Nat) : Int); omega, hl⟩
    · exact hu
  · exact hu
end
end Go.Proofs.Ytidijnfkcpbkiaa

/- Journal: a journal on a disk. -/
set_option linter.unusedVariables false
set_option linter.unusedSimpArgs false
set_option maxRecDepth 20000
set_option maxHeartbeats 2000000
namespace Go.Proofs.Ytidijnfkcpbkiaa
open Go Go.Mx Go.Proofs
open W (OwnB GivesW)
def readsD (d : DS) (base size : Nat) : List (List UInt8) := (List.range size).map fun i : Nat => (readD d ((base : Int) + (i : Int))).1
def stretchK (d : DS) (base size : Int) (gen : Nat) : List (List UInt8) × Int :=
  if gen = 0 ∨ base < 0 ∨ size < 1 ∨ base > d.good.length ∨ size > (d.good.length : Int) - base then ([], 1) else if d.down then ([], 19) else (readsD d base.toNat size.toNat, 0)
structure JS where
  base : Int
  size : Int
  gen : Nat
  round : Nat
  tail : Int
  seq : Int
  dead : Bool
def openK (d : DS) (base size : Int) (gen : Nat) : Option JS × List (List UInt8) × Int :=
  if (stretchK d base size gen).2 ≠ 0 then (none, [], (stretchK d base size gen).2)
  else if (scanK (stretchK d base size gen).1 gen).2 = 4294967295 then (none, [], 2)
  else (some ⟨base, size, gen, (scanK (stretchK d base size gen).1 gen).2 + 1, (scanK (stretchK d base size gen).1 gen).1.2, (scanK (stretchK d base size gen).1 gen).1.1.length, false⟩, (scanK (stretchK d base size gen).1 gen).1.1, 0)
def JS.V (J : JS) (g : Nat) : List Value := [.pointer (some (blk g)), .int .i64 J.base, .int .i64 J.size, .int .u32 J.gen, .int .u32 J.round, .int .i64 J.tail, .int .i64 J.seq, .bool J.dead]
structure JG (w : World) (o : Own) (q g : Nat) (J : JS) : Prop where
  mem : Blk w q 92 (J.V g)
  tg : o q = some q
def writesD : DS → Int → List (List UInt8) → DS × Int
  | d, _, [] => (d, 0)
  | d, i, x :: r => if (writeD d i x).2 ≠ 0 then writeD d i x else writesD (writeD d i x).1 (i + 1) r
def appendF (J : JS) (b : List UInt8) : List (List UInt8) := (frameK J.gen J.round J.seq.toNat b).1
def appendJ (d : DS) (J : JS) (b : List UInt8) : (DS × JS) × Int :=
  if partsN b.length = 0 then ((d, J), 3)
  else if J.dead then ((d, J), 19)
  else if (partsN b.length : Int) > J.size - J.tail then ((d, J), 18)
  else if (writesD d (J.base + J.tail) (appendF J b)).2 ≠ 0 then (((writesD d (J.base + J.tail) (appendF J b)).1, { J with dead := true }), (writesD d (J.base + J.tail) (appendF J b)).2)
  else if (syncD (writesD d (J.base + J.tail) (appendF J b)).1).2 ≠ 0 then (((syncD (writesD d (J.base + J.tail) (appendF J b)).1).1, { J with dead := true }), (syncD (writesD d (J.base + J.tail) (appendF J b)).1).2)
  else (((syncD (writesD d (J.base + J.tail) (appendF J b)).1).1, { J with tail := J.tail + partsN b.length, seq := J.seq + 1 }), 0)
structure JS.ok (J : JS) : Prop where
  base : 0 ≤ J.base ∧ J.base ≤ 1000000
  size : 0 ≤ J.size ∧ J.size ≤ 1000000
  gen : J.gen < 4294967296
  round : J.round < 4294967296
  tail : 0 ≤ J.tail ∧ J.tail ≤ 1000000
  seq : 0 ≤ J.seq ∧ J.seq ≤ 1000000
section
variable {w w' w1 : World} {o o' o1 : Own} {q g n N m : Nat} {K : Nat → Prop} {b s : List UInt8} {a : Option Addr} {c : Nat} {l : List BS} {d : DS} {J : JS}
theorem JG.step (h : JG w o q g J) (s : Step K w o w' o') (hk : ¬ K q) : JG w' o' q g J := ⟨s.blk h.mem h.tg hk, by rw [s.own h.mem.lt]; exact h.tg⟩
theorem readsD_len (d : DS) (base size : Nat) : (readsD d base size).length = size := by unfold readsD; simp
theorem stretch_loop (h : DG w o g d) (ok : Tags w o) (hd : d.ok m) (hm : m < 100000) {base size : Int} (hb0 : 0 ≤ base) (hb1 : base ≤ 1000000) (hs0 : 0 ≤ size) (hs1 : size ≤ 100000) {End : Value → World → Prop}
    (hE : ∀ w2 o2 la lc (l : List BS), Step no w o w2 o2 → l.map BS.bs = readsD d base.toNat size.toNat → BsRow w2 o2 la lc l → End (.slice la l.length lc) w2) :
    ∃ (I1 : Nat → List Value → World → Prop) (m71 : Nat), I1 m71 [.slice none 0 0, .int .i64 0] w ∧ ∀ (m72 : Nat) (ww73 : World) (la : Option Addr) (ln : Nat) (lc : Nat) (t : Int), I1 m72 [.slice la ln lc, .int .i64 t] ww73 →
      (t < size →
        (-9223372036854775808 : Int) ≤ (base + t) ∧ (base + t) < 9223372036854775808 ∧
        Calls Try.prog 25 #[.pointer (some (blk g)), .int .i64 (base + t)] ww73 fun ee ww78 => ∃ (ra : Option Addr) (rn : Nat) (rc : Nat) (rk : Int), ee = .returned (.tuple #[.slice ra rn rc, .int .i64 rk]) ∧
        ∀ (ww79 : World) (q80 : Nat), Ext no ww78 ww79 → Blk ww79 q80 30 [.slice ra rn rc] → ww78.heap.size ≤ q80 → q80 < ww79.heap.size →
        ∃ (a81a : Option Addr) (a81n : Nat) (a81c : Nat) (ww82 : World), (Builtin.append_ #[31, 31] 31 #[.slice la ln lc, .slice (some (blk q80)) 1 1]).run Try.prog ww79 = .ok (.slice a81a a81n a81c) ww82 ∧
        (-9223372036854775808 : Int) ≤ (t + 1) ∧ (t + 1) < 9223372036854775808 ∧
        ∃ m83, m83 < m72 ∧ I1 m83 [.slice a81a a81n a81c, .int .i64 (t + 1)] ww82) ∧
      (size ≤ t → End (.slice la ln lc) ww73) := by
  refine ⟨fun m vs w1 => ∃ (t : Nat) (o1 : Own) (la : Option Addr) (lc : Nat) (l : List BS), vs = [.slice la l.length lc, .int .i64 t] ∧ m + t = size.toNat ∧ Step no w o w1 o1 ∧ BsL w.heap.size w1 o1 la lc l ∧ l.map BS.bs = readsD d base.toNat t, size.toNat, ⟨0, o, none, 0, [], rfl, rfl, Step.refl _ ok, BsL.nil _ _ _, rfl⟩, ?_⟩
  rintro k w7 la ln lc i ⟨t, o7, la', lc', l, hi, hk, s7, L7, hmap⟩
  simp only [List.cons.injEq, Value.slice.injEq, Value.int.injEq, true_and, and_true] at hi
  obtain ⟨⟨rfl, rfl, rfl⟩, rfl⟩ := hi
  have hll : l.length = t := by have := congrArg List.length hmap; rwa [List.length_map, readsD_len] at this
  refine ⟨fun ht => ⟨by omega, by omega, ?_⟩, fun ht => ?_⟩
  · refine (dRead_spec (h.step s7 id) s7.ok (base + t) (by have := hd.pl; omega)).mono fun u w11 ⟨ra, rn, rc, o11, he, hn, hnc, s11, hR1, hR0⟩ => ⟨ra, rn, rc, _, he, fun w12 q12 X12 hb hq hq' => ?_⟩
    have X11 : Ext no w7 w11 := s11.ext.mono fun b ⟨_, _, h⟩ _ => h
    have t11 := Step.of_no X11 s7.ok
    have okx : BSok w11 (grow w7 o7) ⟨ra, rc, (readD d (base + t)).1⟩ := by
      by_cases hz : (readD d (base + t)).2 = 0
      · obtain ⟨q, tt, e, hbk, hl, hq, _⟩ := hR0 hz
        subst e
        refine ⟨Row.fresh ?_ fun ad ha => by cases ha; exact hq, by rw [← hn]; exact hnc⟩
        have := (RowAt.of_blk hbk).take (bytesV (readD d (base + t)).1).length
        rwa [List.take_left] at this
      · obtain ⟨e1, e2⟩ := hR1 hz
        rw [e2]
        exact ⟨Row.nil _ _ _, Nat.zero_le _⟩
    have l7 := s7.size
    subst hn
    obtain ⟨a', c', w39, o39, hr, s39, L39⟩ := (L7.step t11 fun _ h => h.elim).push t11.ok (by omega) okx X12 hb hq hq' (by have := X11.size; omega)
    refine ⟨a', _, c', w39, hr, by omega, by omega, k - 1, by omega, t + 1, o39, a', c', _, rfl, by omega, (s7.trans t11).trans' s39 fun i hi => .inr hi, L39, ?_⟩
    rw [List.map_append, hmap]
    unfold readsD
    rw [List.range_succ, List.map_append]
    simp only [List.map_cons, List.map_nil]
    congr 3
    rw [show ((base.toNat : Nat) : Int) = base by omega]
  · have htt : t = size.toNat := by omega
    exact hE w7 _ la lc l (Step.of_no (s7.ext.mono fun b ⟨_, _, h⟩ _ => h) ok) (by rw [← htt]; exact hmap) (L7.give s7 (Nat.le_refl _))
theorem stretch_spec (h : DG w o g d) (ok : Tags w o) (hd : d.ok m) (hm : m < 100000) (base size : Int) (gen : Nat) :
    Calls Try.prog 51 #[.pointer (some (blk g)), .int .i64 base, .int .i64 size, .int .u32 gen] w (fun z w' => ∃ o' la lc, ∃ l : List BS, z = .returned (.tuple #[.slice la l.length lc, .int .i64 (stretchK d base size gen).2]) ∧ Step no w o w' o' ∧ l.map BS.bs = (stretchK d base size gen).1 ∧ BsRow w' o' la lc l) := by
  refine (journal_stretch.go _ _ _ _ (R := fun z w' => ∃ o' la lc, ∃ l : List BS, z = (.tuple #[.slice la l.length lc, .int .i64 (stretchK d base size gen).2]) ∧ Step no w o w' o' ∧ l.map BS.bs = (stretchK d base size gen).1 ∧ BsRow w' o' la lc l) ?_).mono fun z w' ⟨u, he, o', la, lc, l, hu, hw⟩ => ⟨o', la, lc, l, by rw [he, hu], hw⟩
  unfold journal_stretch.N
  refine (Sectors_spec h).mono fun u w7 ⟨he, hw⟩ => ⟨_, he, fun h => (by cases h), fun _ => ?_⟩
  subst hw
  have n2 := hd.n2
  have leaf : ∀ (k : Int), stretchK d base size gen = ([], k) → ∃ o' la lc, ∃ l : List BS, Value.tuple #[.slice none 0 0, .int .i64 k] = (.tuple #[.slice la l.length lc, .int .i64 (stretchK d base size gen).2]) ∧ Step no w7 o w7 o' ∧ l.map BS.bs = (stretchK d base size gen).1 ∧ BsRow w7 o' la lc l := fun k hk => ⟨o, none, 0, [], by rw [hk]; rfl, Step.refl _ ok, by rw [hk]; rfl, BsRow.nil _ _⟩
  have bad : (gen = 0 ∨ base < 0 ∨ size < 1 ∨ base > d.good.length ∨ size > (d.good.length : Int) - base) → _ := fun hb => leaf 1 (by unfold stretchK; rw [if_pos hb])
  refine ⟨fun h1 => bad (by omega), fun h1 => ⟨fun h2 => bad (by omega), fun h2 => ⟨fun h3 => bad (by omega), fun h3 => ⟨fun h4 => bad (by omega), fun h4 => ⟨by omega, by omega, fun h5 => bad (by omega), fun h5 => ?_⟩⟩⟩⟩⟩
  have hgood : ¬ (gen = 0 ∨ base < 0 ∨ size < 1 ∨ base > d.good.length ∨ size > (d.good.length : Int) - base) := by omega
  refine (Down_spec h).mono fun u w67 ⟨he, hw⟩ => ⟨_, he, fun hdn => ?_, fun hdn => ?_⟩
  · subst hw
    exact leaf 19 (by unfold stretchK; rw [if_neg hgood, if_pos hdn])
  subst hw
  have hK : stretchK d base size gen = (readsD d base.toNat size.toNat, 0) := by unfold stretchK; rw [if_neg hgood, if_neg (by rw [hdn]; decide)]
  exact stretch_loop (End := fun v w2 => ∃ o' la lc, ∃ l : List BS, Value.tuple #[v, .int .i64 0] = (.tuple #[.slice la l.length lc, .int .i64 (stretchK d base size gen).2]) ∧ Step no w67 o w2 o' ∧ l.map BS.bs = (stretchK d base size gen).1 ∧ BsRow w2 o' la lc l) h ok hd hm (by omega) (by omega) (by omega) (by omega) fun w2 o2 la lc l s2 hmap hr => ⟨o2, la, lc, l, by rw [hK], s2, by rw [hK]; exact hmap, hr⟩
theorem stretchK_len (d : DS) (base size : Int) (gen : Nat) (h : d.good.length ≤ 400) : (stretchK d base size gen).1.length ≤ 400 := by
  unfold stretchK
  split
  · exact Nat.zero_le _
  · split
    · exact Nat.zero_le _
    · rw [readsD_len]; omega
theorem Open_spec (h : DG w o g d) (ok : Tags w o) (hd : d.ok m) (hm : m < 100000) (base size : Int) (gen : Nat) :
    Calls Try.prog 26 #[.pointer (some (blk g)), .int .i64 base, .int .i64 size, .int .u32 gen] w (fun z w' => ∃ o' jp la lc, ∃ l : List BS, z = .returned (.tuple #[.pointer jp, .slice la l.length lc, .int .i64 (openK d base size gen).2.2]) ∧ Step no w o w' o' ∧ l.map BS.bs = (openK d base size gen).2.1 ∧ BsRow w' o' la lc l ∧
      ((openK d base size gen).1 = none → jp = none) ∧ (∀ J, (openK d base size gen).1 = some J → ∃ q, jp = some (blk q) ∧ w.heap.size ≤ q ∧ JG w' o' q g J)) := by
  refine (journal_Open.go _ _ _ _ (R := fun z w' => ∃ o' jp la lc, ∃ l : List BS, z = (.tuple #[.pointer jp, .slice la l.length lc, .int .i64 (openK d base size gen).2.2]) ∧ Step no w o w' o' ∧ l.map BS.bs = (openK d base size gen).2.1 ∧ BsRow w' o' la lc l ∧
      ((openK d base size gen).1 = none → jp = none) ∧ (∀ J, (openK d base size gen).1 = some J → ∃ q, jp = some (blk q) ∧ w.heap.size ≤ q ∧ JG w' o' q g J)) ?_).mono fun z w' ⟨u, he, o', jp, la, lc, l, hu, hw⟩ => ⟨o', jp, la, lc, l, by rw [he, hu], hw⟩
  unfold journal_Open.N
  have hlen := stretchK_len d base size gen hd.n2
  refine (stretch_spec h ok hd hm base size gen).mono fun u w8 ⟨o8, la, lc, l, he, s8, hmap, hr⟩ => ⟨_, _, _, _, he, fun hne => ?_, fun heq => ?_⟩
  · have hK : openK d base size gen = (none, [], (stretchK d base size gen).2) := by unfold openK; rw [if_pos hne]
    rw [hK]
    exact ⟨o8, none, none, 0, [], rfl, s8, rfl, BsRow.nil _ _, fun _ => rfl, fun J h => by cases h⟩
  · have hll : l.length ≤ 400 := by have := congrArg List.length hmap; rw [List.length_map] at this; omega
    refine (scan_spec s8.ok hr.at (by omega) gen).mono fun u w14 ⟨o14, ra, rc, r, he, s14, hrm, hrr⟩ => ⟨_, _, _, _, _, he, ?_⟩
    rw [hmap] at hrm ⊢
    have hrl := roundOf_lt gen (stretchK d base size gen).1
    have hrr2 : (scanK (stretchK d base size gen).1 gen).2 = roundOf gen (stretchK d base size gen).1 := rfl
    have hwrap : ¬ (scanK (stretchK d base size gen).1 gen).2 = 4294967295 → IntKind.u32.wrap (((scanK (stretchK d base size gen).1 gen).2 : Int) + 1) = (((scanK (stretchK d base size gen).1 gen).2 + 1 : Nat) : Int) := fun hn => by rw [IntKind.wrap_u32]; omega
    have hwrap0 : (scanK (stretchK d base size gen).1 gen).2 = 4294967295 → IntKind.u32.wrap (((scanK (stretchK d base size gen).1 gen).2 : Int) + 1) = 0 := fun hn => by rw [hn]; rfl
    have s814 := s8.trans s14
    refine ⟨fun hz => ?_, fun hz w16 q17 X16 hb hq hq' => ?_⟩
    · by_cases h0 : (scanK (stretchK d base size gen).1 gen).2 = 4294967295
      · have hK : openK d base size gen = (none, [], 2) := by unfold openK; rw [if_neg (not_not_intro heq), if_pos h0]
        rw [hK]
        exact ⟨o14, none, none, 0, [], rfl, s814, rfl, BsRow.nil _ _, fun _ => rfl, fun J h => by cases h⟩
      · rw [hwrap h0] at hz; omega
    · have h0 : ¬ (scanK (stretchK d base size gen).1 gen).2 = 4294967295 := fun h0 => hz (hwrap0 h0)
      rw [hwrap h0] at hb
      have hK : openK d base size gen = (some ⟨base, size, gen, (scanK (stretchK d base size gen).1 gen).2 + 1, (scanK (stretchK d base size gen).1 gen).1.2, (scanK (stretchK d base size gen).1 gen).1.1.length, false⟩, (scanK (stretchK d base size gen).1 gen).1.1, 0) := by unfold openK; rw [if_neg (not_not_intro heq), if_neg h0]
      rw [hK]
      have s16 := (Step.of_no X16 s14.ok).tag hq hq'
      have l8 := s814.size
      have hrlen : r.length = (scanK (stretchK d base size gen).1 gen).1.1.length := by rw [← hrm, List.length_map]
      rw [hrlen] at hb
      refine ⟨_, some (blk q17), ra, rc, r, rfl, s814.trans s16, hrm, hrr.step s16, fun h => (by cases h), fun J hJ => ?_⟩
      cases hJ
      exact ⟨q17, rfl, by omega, hb, tag_self⟩
end
end Go.Proofs.Ytidijnfkcpbkiaa

/- Journal: Append, and the small ones; the chapter's example. -/
set_option linter.unusedVariables false
set_option linter.unusedSimpArgs false
set_option maxRecDepth 20000
set_option maxHeartbeats 2000000
namespace Go.Proofs.Ytidijnfkcpbkiaa
open Go Go.Mx Go.Proofs
open W (OwnB GivesW)
section
variable {w w' w1 : World} {o o' o1 : Own} {q g n N m : Nat} {K : Nat → Prop} {b s : List UInt8} {a : Option Addr} {c : Nat} {l : List BS} {d : DS} {J : JS}
theorem writesD_ok : ∀ {f : List (List UInt8)} {d : DS} {m : Nat} {i : Int}, d.ok m → (writesD d i f).1.ok (m + f.length)
  | [], d, m, i, h => h
  | x :: r, d, m, i, h => by
    have hw := writeD_ok h i x
    unfold writesD
    split
    · exact hw.up (by rw [List.length_cons]; omega)
    · have := writesD_ok (f := r) (i := i + 1) hw
      rw [List.length_cons]
      exact this.up (by omega)
theorem appendF_len (J : JS) (b : List UInt8) : (appendF J b).length ≤ 84 := by
  unfold appendF frameK
  split
  · exact Nat.zero_le _
  · split
    · exact Nat.zero_le _
    · show (frameL _ _ _ _).length ≤ 84
      unfold frameL
      rw [List.length_map, List.length_range]
      exact partsN_le _
theorem appendJ_ok (h : d.ok m) (J : JS) (b : List UInt8) : (appendJ d J b).1.1.ok (m + 84) := by
  have hu := h.up (Nat.le_add_right m 84)
  have hf := appendF_len J b
  have hw : (writesD d (J.base + J.tail) (appendF J b)).1.ok (m + 84) := (writesD_ok h).up (by omega)
  unfold appendJ
  repeat' split
  all_goals first | exact hu | exact hw | exact syncD_ok hw
theorem kill_spec (h : JG w o q g J) (hd : DG w o g d) (ok : Tags w o) (hqg : q ≠ g) {Φ : World → Prop}
    (hΦ : ∀ w2 o2, Step (fun i => i = q) w o w2 o2 → JG w2 o2 q g { J with dead := true } → DG w2 o2 g d → Φ w2) :
    canStore w (((blk q).add 7).add 0) ∧ thenW (w.setCell (((blk q).add 7).add 0) (.bool true)) fun w2 => Φ w2 := by
  have hadd : ((blk q).add 7).add 0 = (blk q).add 7 := by rw [add_add]
  rw [hadd]
  refine ⟨h.mem.cana (i := 7) rfl, thenW_in fun w2 e2 => ?_⟩
  have X : Ext (fun b => b = q) w w2 := (Ext.refl (fun b => b = q) w).x_set (q := q) (i := 7) rfl (.inl rfl) e2
  obtain ⟨o2, s2⟩ := Step.store1 X ok h.tg
  exact hΦ w2 o2 s2 ⟨h.mem.seti 7 rfl e2, by rw [s2.own h.mem.lt]; exact h.tg⟩ (hd.step s2 (fun e => hqg e.symm))
theorem Append_spec (h : JG w o q g J) (hD : DG w o g d) (ok : Tags w o) (hqg : q ≠ g) (hd : d.ok m) (hm : m + 100 < 100000) (hJ : J.ok) (hb : RowAt w a (bytesV b)) (hc : b.length ≤ c) (hbl : b.length < 1000000) :
    Calls Try.prog 32 #[.pointer (some (blk q)), .slice a b.length c] w (Ret (.int .i64 (appendJ d J b).2) fun w' => ∃ o', Step (fun i => i = q ∨ i = g) w o w' o' ∧ JG w' o' q g (appendJ d J b).1.2 ∧ DG w' o' g (appendJ d J b).1.1) := by
  refine journal_Journal_Append.run _ _ _ _ ?_
  unfold journal_Journal_Append.N
  rw [parts_F, partsI_nat]
  obtain ⟨⟨hb0, hb1⟩, ⟨hs0, hs1⟩, hgen, hrd, ⟨ht0, ht1⟩, ⟨hq0, hq1⟩⟩ := hJ
  have h84 := partsN_le b.length
  have leaf : ∀ (k : Int), appendJ d J b = ((d, J), k) → ∀ w2, Ext no w w2 → Value.int .i64 k = .int .i64 (appendJ d J b).2 ∧ ∃ o', Step (fun i => i = q ∨ i = g) w o w2 o' ∧ JG w2 o' q g (appendJ d J b).1.2 ∧ DG w2 o' g (appendJ d J b).1.1 := fun k hk w2 X => by
    have s := Step.of_no X ok
    rw [hk]; exact ⟨rfl, _, s.none, h.step s id, hD.step s id⟩
  refine ⟨fun e => (by cases e), fun _ => ⟨fun h0 w3 X => leaf 3 (by unfold appendJ; rw [if_pos (by omega)]) w3 X, fun h0 => ?_⟩⟩
  have hp0 : ¬ partsN b.length = 0 := by omega
  refine ⟨_, rfl, J.dead, h.mem.cella (i := 7) rfl, fun hdd w3 X => leaf 19 (by unfold appendJ; rw [if_neg hp0, if_pos hdd]) w3 X, fun hdd => ?_⟩
  have hdd' : ¬ J.dead = true := by rw [hdd]; decide
  refine ⟨_, h.mem.cella (i := 2) rfl, _, h.mem.cella (i := 5) rfl, by omega, by omega, fun hf w10 X => leaf 18 (by unfold appendJ; rw [if_neg hp0, if_neg hdd', if_pos hf]) w10 X, fun hf => ?_⟩
  have hf' : ¬ (partsN b.length : Int) > J.size - J.tail := by omega
  have hK : appendJ d J b = if (writesD d (J.base + J.tail) (appendF J b)).2 ≠ 0 then (((writesD d (J.base + J.tail) (appendF J b)).1, { J with dead := true }), (writesD d (J.base + J.tail) (appendF J b)).2)
      else if (syncD (writesD d (J.base + J.tail) (appendF J b)).1).2 ≠ 0 then (((syncD (writesD d (J.base + J.tail) (appendF J b)).1).1, { J with dead := true }), (syncD (writesD d (J.base + J.tail) (appendF J b)).1).2)
      else (((syncD (writesD d (J.base + J.tail) (appendF J b)).1).1, { J with tail := J.tail + partsN b.length, seq := J.seq + 1 }), 0) := by
    unfold appendJ; rw [if_neg hp0, if_neg hdd', if_neg hf']
  rw [hK]
  refine ⟨_, h.mem.cella (i := 3) rfl, _, h.mem.cella (i := 4) rfl, _, h.mem.cella (i := 6) rfl, fun w16 X16 => ?_⟩
  have s16 := Step.of_no X16 ok
  have hwq : IntKind.u32.wrap J.seq = ((J.seq.toNat : Nat) : Int) := by rw [IntKind.wrap_u32]; omega
  rw [hwq]
  refine (fFrame_spec s16.ok (hb.no X16) hc hbl J.gen J.round J.seq.toNat).mono fun u w26 ⟨o26, fa, fc, f, he, s26', hfm, hfr⟩ => ⟨_, _, _, _, he, ?_⟩
  have s26 := s16.trans s26'
  have hfm' : f.map BS.bs = appendF J b := hfm
  have hfl : f.length = (appendF J b).length := by rw [← hfm', List.length_map]
  have h84f := appendF_len J b
  obtain ⟨W, hW⟩ : ∃ W, writesD d (J.base + J.tail) (appendF J b) = W := ⟨_, rfl⟩
  rw [hW]
  have hWok : W.1.ok (m + 84) := by rw [← hW]; exact (writesD_ok hd).up (by omega)
  refine ⟨fun k vs w1 => ∃ (t : Nat) (o1 : Own) (d1 : DS), vs = [.int .i64 t] ∧ k + t = f.length ∧ Step (fun i => i = g) w o w1 o1 ∧ JG w1 o1 q g J ∧ DG w1 o1 g d1 ∧ BsRow w1 o1 fa fc f ∧ d1.ok (m + t) ∧ writesD d1 (J.base + J.tail + t) ((appendF J b).drop t) = W, f.length, ⟨0, o26, d, rfl, rfl, s26.none, h.step s26 id, hD.step s26 id, hfr, hd, by rw [List.drop_zero, ← hW]; simp⟩, ?_⟩
  rintro k w30 i ⟨t, o30, d1, hi, hk, s30, J30, D30, F30, k30, hWt⟩
  simp only [List.cons.injEq, Value.int.injEq, true_and, and_true] at hi
  subst hi
  have hgq : ¬ q = g := hqg
  refine ⟨fun ht => ?_, fun ht => ?_⟩
  · have htl : t < f.length := by omega
    have gt : f[t]? = some f[t] := List.getElem?_eq_getElem htl
    have hmt := List.getElem_mem htl
    have gF : (appendF J b)[t]? = some (f[t]).bs := by rw [← hfm']; exact get_map_bs gt
    generalize f[t] = x at *
    obtain ⟨fd, hfd, cx⟩ := F30.at.cell gt
    obtain ⟨rx, ex⟩ := F30.oks x hmt
    have hdrop : (appendF J b).drop t = x.bs :: (appendF J b).drop (t + 1) := by
      have h1 : t < (appendF J b).length := by omega
      rw [List.drop_eq_getElem_cons h1]
      rw [List.getElem?_eq_getElem h1] at gF
      injection gF with gF
      rw [gF]
    rw [hdrop] at hWt
    unfold writesD at hWt
    refine ⟨fd, hfd, by omega, by omega, x.a, x.bs.length, x.c, by rw [Int.toNat_natCast]; exact cx, _, J30.mem.cella (i := 0) rfl, _, J30.mem.cella (i := 1) rfl, _, J30.mem.cella (i := 5) rfl, by omega, by omega, by omega, by omega, fun w35 X35 => ?_⟩
    have s35' := Step.of_no X35 s30.ok
    refine (dWrite_spec (D30.step s35' id) s35'.ok k30 (by omega) (J.base + J.tail + t) (rx.step s35').1).mono fun u w44 ⟨he, o44, s44', D44⟩ => ⟨_, he, fun hne => ?_, fun heq => ?_⟩
    all_goals have s44 := s35'.none.trans s44'
    all_goals have J44 := J30.step s44 hgq
    · rw [if_pos hne] at hWt
      have e1 : W.2 = (writeD d1 (J.base + J.tail + t) x.bs).2 := by rw [← hWt]
      have e2 : W.1 = (writeD d1 (J.base + J.tail + t) x.bs).1 := by rw [← hWt]
      rw [if_pos (by rw [e1]; exact hne)]
      refine kill_spec J44 D44 s44.ok hqg fun w2 o2 s2 J2 D2 => ?_
      exact ⟨by rw [e1], o2, ((s30.trans s44).mono fun _ h _ => .inr h).trans (s2.mono fun _ h _ => .inl h), J2, by rw [e2]; exact D2⟩
    · rw [if_neg (not_not_intro heq)] at hWt
      exact ⟨by omega, by omega, k - 1, by omega, t + 1, o44, _, rfl, by omega, s30.trans s44, J44, D44, F30.step s44, writeD_ok k30 _ _, by rw [← hWt]; congr 1; omega⟩
  · have htt : t = f.length := by omega
    rw [List.drop_of_length_le (by omega)] at hWt
    have hW1 : W = (d1, 0) := by rw [← hWt]; rfl
    refine ⟨_, J30.mem.cella (i := 0) rfl, ?_⟩
    refine (dSync_spec D30 s30.ok k30 (by omega)).mono fun u w52 ⟨he, o52, s52, D52⟩ => ⟨_, he, fun hne => ?_, fun heq => ?_⟩
    all_goals have J52 := J30.step s52 hgq
    all_goals have st := s30.trans s52
    all_goals rw [hW1, if_neg (show ¬ ((d1, (0 : Int)).2 ≠ 0) from not_not_intro rfl)]
    · rw [if_pos hne]
      refine kill_spec J52 D52 s52.ok hqg fun w2 o2 s2 J2 D2 => ?_
      exact ⟨rfl, o2, (st.mono fun _ h _ => .inr h).trans (s2.mono fun _ h _ => .inl h), J2, D2⟩
    · rw [if_neg (not_not_intro heq)]
      have ha5 : ((blk q).add 5).add 0 = (blk q).add 5 := by rw [add_add]
      have ha6 : ((blk q).add 6).add 0 = (blk q).add 6 := by rw [add_add]
      rw [ha5]
      refine ⟨_, J52.mem.cella (i := 5) rfl, by omega, by omega, J52.mem.cana (i := 5) rfl, thenW_in fun w57 e57 => ?_⟩
      have b57 := J52.mem.seti 5 rfl e57
      rw [ha6]
      refine ⟨_, b57.cella (i := 6) rfl, by omega, by omega, b57.cana (i := 6) rfl, thenW_in fun w60 e60 => ?_⟩
      have X60 : Ext (fun b => b = q) w52 w60 := ((Ext.refl (fun b => b = q) w52).x_set (q := q) (i := 5) rfl (.inl rfl) e57).x_set (q := q) (i := 6) rfl (.inl rfl) e60
      obtain ⟨o60, s60⟩ := Step.store1 X60 s52.ok J52.tg
      have b60 := b57.seti 6 rfl e60
      exact ⟨rfl, o60, (st.mono fun _ h _ => .inr h).trans (s60.mono fun _ h _ => .inl h), ⟨b60, by rw [s60.own J52.mem.lt]; exact J52.tg⟩, D52.step s60 (fun e => hqg e.symm)⟩
end
end Go.Proofs.Ytidijnfkcpbkiaa

/- Journal: the chapter's example. -/
set_option linter.unusedVariables false
set_option linter.unusedSimpArgs false
set_option maxRecDepth 100000
set_option maxHeartbeats 4000000
namespace Go.Proofs.Ytidijnfkcpbkiaa
open Go Go.Mx Go.Proofs
open W (OwnB GivesW)
end Go.Proofs.Ytidijnfkcpbkiaa

/- JournalFrames, JournalScans. -/
set_option linter.unusedVariables false
set_option linter.unusedSimpArgs false
set_option maxRecDepth 20000
set_option maxHeartbeats 2000000
namespace Go.Proofs.Ytidijnfkcpbkiaa
open Go Go.Mx Go.Proofs
open W (OwnB GivesW)
section
variable {w w' w1 : World} {o o' o1 : Own} {q g n N : Nat} {K : Nat → Prop} {b s : List UInt8} {a : Option Addr} {c : Nat} {l : List BS}
end
end Go.Proofs.Ytidijnfkcpbkiaa

/- Journal: plainly: a record that was written stands; what stands ahead stays. -/
set_option linter.unusedVariables false
set_option linter.unusedSimpArgs false
set_option maxRecDepth 20000
set_option maxHeartbeats 2000000
namespace Go.Proofs.Ytidijnfkcpbkiaa
open Go Go.Mx Go.Proofs
theorem frameL_len (gen round seq : Nat) (b : List UInt8) : (frameL gen round seq b).length = partsN b.length := by unfold frameL; simp
theorem partsN_pos {n : Nat} (h : n ≤ 4000) : 1 ≤ partsN n := by
  unfold partsN
  rw [if_neg (by omega)]
  split <;> omega
theorem partsN_cover {n : Nat} (h : n ≤ 4000) : n ≤ 48 * partsN n := by
  unfold partsN
  rw [if_neg (by omega)]
  split <;> omega
theorem parts_join (b : List UInt8) : ∀ k : Nat, (List.range k).flatMap (partL b) = b.take (48 * k)
  | 0 => by simp
  | k + 1 => by
    rw [List.range_succ, List.flatMap_append, parts_join b k]
    simp only [List.flatMap_cons, List.flatMap_nil, List.append_nil]
    unfold partL
    rw [show 48 * (k + 1) = 48 * k + 48 by omega, List.take_add]
theorem body_sec (gen round seq i n : Nat) {x : List UInt8} (h : x.length ≤ 48) : bodyS (secL gen round seq i n x) = x := by
  have e15 : byteN (secL gen round seq i n x) 15 = x.length := by
    show (UInt8.ofNat x.length).toNat = _
    rw [UInt8.toNat_ofNat']; omega
  unfold bodyS
  rw [e15]
  unfold secL
  rw [List.append_assoc, List.drop_append_of_le_length (by rw [headL_len]; exact Nat.le_refl _), List.drop_of_length_le (by rw [headL_len]; exact Nat.le_refl _), List.nil_append, List.take_left]
theorem sec_round (gen round seq i n : Nat) (x : List UInt8) (h : round < 4294967296) : numB (secL gen round seq i n x) 5 = round := by
  show (UInt8.ofNat (round / 16777216)).toNat * 16777216 + (UInt8.ofNat (round / 65536)).toNat * 65536 + (UInt8.ofNat (round / 256)).toNat * 256 + (UInt8.ofNat round).toNat = round
  simp only [UInt8.toNat_ofNat']
  omega
theorem sec_gen (gen round seq i n : Nat) (x : List UInt8) (h : gen < 4294967296) : numB (secL gen round seq i n x) 1 = gen := by
  show (UInt8.ofNat (gen / 16777216)).toNat * 16777216 + (UInt8.ofNat (gen / 65536)).toNat * 65536 + (UInt8.ofNat (gen / 256)).toNat * 256 + (UInt8.ofNat gen).toNat = gen
  simp only [UInt8.toNat_ofNat']
  omega
theorem sec_seq (gen round seq i n : Nat) (x : List UInt8) (h : seq < 4294967296) : numB (secL gen round seq i n x) 9 = seq := by
  show (UInt8.ofNat (seq / 16777216)).toNat * 16777216 + (UInt8.ofNat (seq / 65536)).toNat * 65536 + (UInt8.ofNat (seq / 256)).toNat * 256 + (UInt8.ofNat seq).toNat = seq
  simp only [UInt8.toNat_ofNat']
  omega
/-- a frame at the beginning is a record. -/
theorem frame_stands {gen round seq : Nat} {b : List UInt8} (hg : gen ≠ 0) (hr : round ≠ 0) (hr2 : round < 4294967296) (hb : b.length ≤ 4000) (rest : List (List UInt8)) :
    standK (frameL gen round seq b ++ rest) gen seq = (b, partsN b.length) := by
  have hp := partsN_pos hb
  have h84 := partsN_le b.length
  have hlen := frameL_len gen round seq b
  have hhead : (frameL gen round seq b ++ rest).headD [] = secL gen round seq 0 (partsN b.length) (partL b 0) := by
    unfold frameL
    obtain ⟨k, hk⟩ := Nat.exists_eq_add_of_le' hp
    rw [hk, List.range_succ_eq_map]
    rfl
  have hcnt : cntK (frameL gen round seq b ++ rest) = partsN b.length := by
    unfold cntK
    rw [hhead]
    show (UInt8.ofNat (partsN b.length)).toNat = _
    rw [UInt8.toNat_ofNat']; omega
  have htake : (frameL gen round seq b ++ rest).take (partsN b.length) = frameL gen round seq b := by rw [← hlen, List.take_left]
  have hbody : bodyK (frameL gen round seq b ++ rest) = b := by
    unfold bodyK
    rw [hcnt, htake]
    unfold frameL
    rw [List.flatMap_map]
    have : (fun i => bodyS (secL gen round seq i (partsN b.length) (partL b i))) = partL b := funext fun i => body_sec _ _ _ _ _ (partL_le _ _)
    rw [this, parts_join, List.take_of_length_le (partsN_cover hb)]
  have hK : frameK gen round seq b = (frameL gen round seq b, 0) := by
    unfold frameK
    rw [if_neg (by omega), if_neg (by omega)]
  have hOK : OKS (frameL gen round seq b ++ rest) gen seq := by
    refine ⟨fun e => ?_, ?_, ?_, ?_, ?_⟩
    · have := congrArg List.length e
      rw [List.length_append, hlen] at this
      simp at this; omega
    · rw [hhead]; exact secL_len _ _ _ _ _ (partL_le _ _)
    · rw [hcnt, List.length_append, hlen]; omega
    · rw [hcnt, htake]
      intro s hs
      unfold frameL at hs
      obtain ⟨i, _, rfl⟩ := List.mem_map.1 hs
      refine ⟨secL_len _ _ _ _ _ (partL_le _ _), ?_⟩
      show (UInt8.ofNat (partL b i).length).toNat ≤ 48
      have := partL_le b i
      rw [UInt8.toNat_ofNat']; omega
    · rw [hcnt, htake, hhead, hbody, sec_round _ _ _ _ _ _ hr2]
      exact hK
  rw [standK_yes hOK, hbody, hcnt]
/-- a record needs its own sectors only. -/
theorem stand_more {L : List (List UInt8)} {gen seq : Nat} (h : OKS L gen seq) (X : List (List UInt8)) : standK (L.take (cntK L) ++ X) gen seq = standK L gen seq := by
  have hc := h.cnt
  have hle := h.2.2.1
  have hhead : (L.take (cntK L) ++ X).headD [] = L.headD [] := by
    have h0 := h.1
    generalize cntK L = c at *
    cases L with
    | nil => exact absurd rfl h0
    | cons x r =>
      obtain ⟨k, rfl⟩ := Nat.exists_eq_succ_of_ne_zero hc
      rfl
  have hcnt : cntK (L.take (cntK L) ++ X) = cntK L := by
    show byteN ((L.take (cntK L) ++ X).headD []) 14 = _
    rw [hhead]; rfl
  have htake : (L.take (cntK L) ++ X).take (cntK L) = L.take (cntK L) := by
    have e : (L.take (cntK L)).length = cntK L := by rw [List.length_take]; omega
    conv => lhs; rw [← e]
    rw [e, List.take_append_of_le_length (by omega), List.take_of_length_le (by omega)]
  have hbody : bodyK (L.take (cntK L) ++ X) = bodyK L := by
    unfold bodyK
    rw [hcnt, htake]
  have hOK : OKS (L.take (cntK L) ++ X) gen seq := by
    obtain ⟨h1, h2, h3, h4, h5⟩ := h
    refine ⟨fun e => ?_, by rw [hhead]; exact h2, ?_, ?_, ?_⟩
    · have h9 := congrArg List.length e
      rw [List.length_append, List.length_take, Nat.min_eq_left hle] at h9
      have h8 : cntK L + X.length = 0 := h9
      omega
    · rw [hcnt, List.length_append, List.length_take, Nat.min_eq_left hle]; omega
    · rw [hcnt, htake]; exact h4
    · rw [hcnt, htake, hhead, hbody]; exact h5
  rw [standK_yes hOK, standK_yes h, hcnt, hbody]
/-- a scan of what stands ahead, and something else behind. -/
theorem scan_more (gen : Nat) : ∀ (k : Nat) (L : List (List UInt8)) (s : Nat) (k2 : Nat) (X : List (List UInt8)),
    scanG gen ((scanG gen k L s).1.length + k2) (L.take (scanG gen k L s).2 ++ X) s = ((scanG gen k L s).1 ++ (scanG gen k2 X (s + (scanG gen k L s).1.length)).1, (scanG gen k L s).2 + (scanG gen k2 X (s + (scanG gen k L s).1.length)).2)
  | 0, L, s, k2, X => by simp [scanG]
  | k + 1, L, s, k2, X => by
    by_cases h : (standK L gen s).2 = 0
    · have e : scanG gen (k + 1) L s = ([], 0) := by simp only [scanG, h, if_true]
      rw [e]; simp
    · have hO : OKS L gen s := by
        by_cases hO : OKS L gen s
        · exact hO
        · rw [standK_no hO] at h; exact absurd rfl h
      have hn : (standK L gen s).2 = cntK L := by rw [standK_yes hO]
      have hle := standK_le L gen s
      obtain ⟨R, hR⟩ : ∃ R, scanG gen k (L.drop (standK L gen s).2) (s + 1) = R := ⟨_, rfl⟩
      have ih := scan_more gen k (L.drop (standK L gen s).2) (s + 1) k2 X
      rw [hR] at ih
      have e : scanG gen (k + 1) L s = ((standK L gen s).1 :: R.1, (standK L gen s).2 + R.2) := by simp only [scanG, if_neg h, hR]
      rw [e]
      have hcut : L.take ((standK L gen s).2 + R.2) ++ X = L.take (cntK L) ++ ((L.drop (cntK L)).take R.2 ++ X) := by
        rw [hn, List.take_add, List.append_assoc]
      have hS : standK (L.take ((standK L gen s).2 + R.2) ++ X) gen s = standK L gen s := by rw [hcut, stand_more hO]
      have hd : (L.take ((standK L gen s).2 + R.2) ++ X).drop (standK L gen s).2 = (L.drop (standK L gen s).2).take R.2 ++ X := by
        rw [hcut, hn]
        have e9 : (L.take (cntK L)).length = cntK L := by rw [List.length_take]; omega
        conv => lhs; rw [← e9]
        rw [e9, List.drop_append_of_le_length (by omega), List.drop_of_length_le (by omega), List.nil_append]
      show scanG gen (R.1.length + 1 + k2) _ s = _
      rw [show R.1.length + 1 + k2 = (R.1.length + k2) + 1 by omega]
      simp only [scanG, hS, hd, if_neg h, ih, List.length_cons, List.cons_append, Prod.mk.injEq, List.cons.injEq, true_and]
      rw [show s + (R.1.length + 1) = s + 1 + R.1.length by omega]
      exact ⟨rfl, by omega⟩
/-- more fuel than sectors changes nothing. -/
theorem scan_fuel (gen : Nat) : ∀ (k : Nat) (L : List (List UInt8)) (s : Nat) (k2 : Nat), L.length < k → L.length < k2 → scanG gen k L s = scanG gen k2 L s
  | 0, L, s, k2, h, _ => by omega
  | k + 1, L, s, 0, _, h => by omega
  | k + 1, L, s, k2 + 1, h, h2 => by
    by_cases hz : (standK L gen s).2 = 0
    · simp only [scanG, hz, if_true]
    · have hle := standK_le L gen s
      have := scan_fuel gen k (L.drop (standK L gen s).2) (s + 1) k2 (by rw [List.length_drop]; omega) (by rw [List.length_drop]; omega)
      simp only [scanG, if_neg hz, this]
end Go.Proofs.Ytidijnfkcpbkiaa

/- Journal: plainly: what a disk that is not armed has behind writes. -/
set_option linter.unusedVariables false
set_option linter.unusedSimpArgs false
set_option maxRecDepth 20000
set_option maxHeartbeats 2000000
namespace Go.Proofs.Ytidijnfkcpbkiaa
open Go Go.Mx Go.Proofs
def Up (d : DS) : Prop := d.down = false ∧ d.armed = false
theorem hasD_up {d : DS} (h : d.down = false) {i : Int} (h0 : 0 ≤ i) (h1 : i < d.good.length) : hasD d i = 0 := by
  unfold hasD
  rw [h]
  rw [if_neg (by decide), if_neg (by omega)]
theorem write_up {d : DS} (h : Up d) {i : Int} (h0 : 0 ≤ i) (h1 : i < d.good.length) {b : List UInt8} (hb : b.length = 64) :
    writeD d i b = ({ d with pend := d.pend ++ [⟨i, ⟨b, false, hb⟩⟩], count := d.count + 1 }, 0) := by
  unfold writeD
  rw [if_pos (hasD_up h.1 h0 h1), dif_pos hb, h.2]
  rfl
theorem read_write {d : DS} (h : Up d) {i : Int} (h0 : 0 ≤ i) (h1 : i < d.good.length) {b : List UInt8} (hb : b.length = 64) (j : Int) :
    readD (writeD d i b).1 j = if j = i then (b, 0) else readD d j := by
  rw [write_up h h0 h1 hb]
  have hs : readS { d with pend := d.pend ++ [⟨i, ⟨b, false, hb⟩⟩], count := d.count + 1 } j = if i = j then ⟨b, false, hb⟩ else readS d j := lastP_snoc j _ _ _
  have hh : hasD { d with pend := d.pend ++ [⟨i, ⟨b, false, hb⟩⟩], count := d.count + 1 } j = hasD d j := rfl
  unfold readD
  rw [hs, hh]
  by_cases e : j = i
  · subst e
    rw [if_pos (hasD_up h.1 h0 h1), if_pos rfl, if_pos rfl]; rfl
  · rw [if_neg (show ¬ i = j from fun e2 => e e2.symm), if_neg e]
theorem settle_all {j : Nat} : ∀ (l : List Wt) (t : Nat) (gl : List Sec), j < gl.length → (∀ x ∈ l, 0 ≤ x.i) → (settleL (fun _ => true) t gl l)[j]?.getD Sec.z = lastP j (gl[j]?.getD Sec.z) l
  | [], _, _, _, _ => rfl
  | x :: r, t, gl, hj, hx => by
    have hx0 := hx x (by simp)
    rw [settleL, if_pos rfl, settle_all r _ _ (by rw [List.length_set]; exact hj) fun y hy => hx y (by simp [hy])]
    show _ = lastP (j : Int) (if x.i = (j : Int) then x.s else gl[j]?.getD Sec.z) r
    congr 1
    by_cases e : x.i = (j : Int)
    · rw [if_pos e, show x.i.toNat = j by omega, List.getElem?_set_self hj]; rfl
    · rw [if_neg e, List.getElem?_set_ne (by omega)]
theorem sync_up {d : DS} (h : Up d) : (syncD d).2 = 0 ∧ Up (syncD d).1 ∧ (syncD d).1.pend = [] ∧ (syncD d).1.good.length = d.good.length := by
  unfold syncD
  rw [h.1]
  exact ⟨rfl, h, rfl, settleL_len _ _ _ _⟩
theorem read_sync {m : Nat} {d : DS} (h : Up d) (ok : d.ok m) (j : Int) : readD (syncD d).1 j = readD d j := by
  have hh : hasD (syncD d).1 j = hasD d j := by
    unfold hasD
    rw [(sync_up h).2.1.1, h.1, (sync_up h).2.2.2]
  unfold readD
  rw [hh]
  by_cases e : hasD d j = 0
  · rw [if_pos e, if_pos e]
    have hr : 0 ≤ j ∧ j < d.good.length := by
      unfold hasD at e
      rw [h.1] at e
      rw [if_neg (by decide)] at e
      split at e
      · cases e
      · omega
    obtain ⟨k, rfl⟩ := Int.eq_ofNat_of_zero_le hr.1
    have hs : readS (syncD d).1 k = readS d k := by
      unfold syncD
      rw [h.1]
      show (settleL (fun _ => true) 0 d.good d.pend)[k]?.getD Sec.z = lastP k (d.good[k]?.getD Sec.z) d.pend
      exact settle_all _ _ _ (by omega) fun x hx => (ok.at_ x hx).1
    rw [hs]
  · rw [if_neg e, if_neg e]
theorem writes_up : ∀ (f : List (List UInt8)) (d : DS) (m : Nat) (i : Int), Up d → d.ok m → 0 ≤ i → i + f.length ≤ d.good.length → (∀ s ∈ f, s.length = 64) →
    (writesD d i f).2 = 0 ∧ Up (writesD d i f).1 ∧ (writesD d i f).1.good.length = d.good.length ∧ ∀ j : Int, readD (writesD d i f).1 j = if i ≤ j ∧ j < i + f.length then (f[(j - i).toNat]?.getD [], 0) else readD d j
  | [], d, m, i, h, ok, h0, h1, hs => ⟨rfl, h, rfl, fun j => by
    rw [if_neg (by simp only [List.length_nil]; omega)]; rfl⟩
  | x :: r, d, m, i, h, ok, h0, h1, hs => by
    rw [List.length_cons] at h1
    have hx : x.length = 64 := hs x (by simp)
    have hw := write_up h h0 (by omega) hx
    have hw2 : (writeD d i x).2 = 0 := by rw [hw]
    have hwu : Up (writeD d i x).1 := by rw [hw]; exact h
    have hwl : (writeD d i x).1.good.length = d.good.length := by rw [hw]
    have ih := writes_up r (writeD d i x).1 (m + 1) (i + 1) hwu (writeD_ok ok i x) (by omega) (by rw [hwl]; omega) fun s hs' => hs s (by simp [hs'])
    have hd : writesD d i (x :: r) = writesD (writeD d i x).1 (i + 1) r := by
      rw [writesD, if_neg (not_not_intro hw2)]
    rw [hd]
    refine ⟨ih.1, ih.2.1, ih.2.2.1.trans hwl, fun j => ?_⟩
    rw [ih.2.2.2 j, read_write h h0 (by omega) hx, List.length_cons]
    by_cases e : j = i
    · subst e
      rw [if_neg (by omega), if_pos rfl, if_pos (by omega), show (j - j).toNat = 0 by omega]; rfl
    · by_cases e2 : i + 1 ≤ j ∧ j < i + 1 + r.length
      · rw [if_pos e2, if_pos (by omega), show (j - i).toNat = (j - (i + 1)).toNat + 1 by omega, List.getElem?_cons_succ]
      · rw [if_neg e2, if_neg e, if_neg (by omega)]
theorem reads_get (d : DS) (base size i : Nat) : (readsD d base size)[i]? = if i < size then some (readD d ((base : Int) + (i : Int))).1 else none := by
  unfold readsD
  rw [List.getElem?_map]
  by_cases h : i < size
  · rw [List.getElem?_range h, if_pos h]; rfl
  · rw [if_neg h, List.getElem?_eq_none (by rw [List.length_range]; omega)]; rfl
/-- what an append that has room does to the sectors of its stretch. -/
theorem reads_cut {d d2 : DS} {base size T : Nat} {f : List (List UInt8)} (hT : T + f.length ≤ size)
    (hr : ∀ j : Int, (readD d2 j).1 = if (base : Int) + T ≤ j ∧ j < (base : Int) + T + f.length then f[(j - ((base : Int) + T)).toNat]?.getD [] else (readD d j).1) :
    readsD d2 base size = (readsD d base size).take T ++ (f ++ (readsD d base size).drop (T + f.length)) := by
  have hl := readsD_len d base size
  apply List.ext_getElem?
  intro i
  rw [reads_get, List.getElem?_append, List.length_take, hl, Nat.min_eq_left (by omega), List.getElem?_append]
  by_cases h0 : i < T
  · rw [if_pos h0, if_pos (by omega), List.getElem?_take_of_lt h0, reads_get, if_pos (by omega), hr, if_neg (by omega)]
  · rw [if_neg h0]
    by_cases h1 : i - T < f.length
    · rw [if_pos h1, if_pos (by omega), hr, if_pos (by omega), show ((base : Int) + (i : Int) - ((base : Int) + T)).toNat = i - T by omega, List.getElem?_eq_getElem h1]; rfl
    · rw [if_neg h1, List.getElem?_drop, reads_get, show T + f.length + (i - T - f.length) = i by omega]
      by_cases h2 : i < size
      · rw [if_pos h2, if_pos h2, hr, if_neg (by omega)]
      · rw [if_neg h2, if_neg h2]
end Go.Proofs.Ytidijnfkcpbkiaa

/- Journal: plainly: what stands behind a crash in an append's midst. -/
set_option linter.unusedVariables false
set_option linter.unusedSimpArgs false
set_option maxRecDepth 20000
set_option maxHeartbeats 2000000
namespace Go.Proofs.Ytidijnfkcpbkiaa
open Go Go.Mx Go.Proofs
def mg (gen : Nat) (s : List UInt8) : Prop := s.length = 64 ∧ byteN s 0 = 197 ∧ numB s 1 = gen
theorem roundStep_ge (gen r : Nat) (s : List UInt8) : r ≤ roundStep gen r s := by
  unfold roundStep; split <;> omega
theorem roundOf_ge {gen : Nat} : ∀ (L : List (List UInt8)) (r : Nat), r ≤ L.foldl (roundStep gen) r ∧ ∀ s ∈ L, mg gen s → numB s 5 ≤ L.foldl (roundStep gen) r
  | [], r => ⟨Nat.le_refl _, fun s h => by cases h⟩
  | x :: l, r => by
    have ih := roundOf_ge (gen := gen) l (roundStep gen r x)
    have h1 := roundStep_ge gen r x
    refine ⟨Nat.le_trans h1 ih.1, fun s hs hm => ?_⟩
    rcases List.mem_cons.1 hs with rfl | hs
    · refine Nat.le_trans ?_ ih.1
      unfold roundStep
      rw [if_pos (show s.length = 64 ∧ byteN s 0 = 197 ∧ numB s 1 = gen from hm)]; omega
    · exact ih.2 s hs hm
theorem roundOf_le {gen B : Nat} : ∀ (L : List (List UInt8)) (r : Nat), r ≤ B → (∀ s ∈ L, mg gen s → numB s 5 ≤ B) → L.foldl (roundStep gen) r ≤ B
  | [], r, h, _ => h
  | x :: l, r, h, hs => by
    refine roundOf_le l (roundStep gen r x) ?_ fun s h => hs s (by simp [h])
    unfold roundStep
    split
    · rename_i hm
      have := hs x (by simp) hm
      omega
    · exact h
theorem frame_get {gen R seq t : Nat} {b : List UInt8} (h : t < (frameL gen R seq b).length) : (frameL gen R seq b)[t]? = some (secL gen R seq t (partsN b.length) (partL b t)) := by
  rw [frameL_len] at h
  unfold frameL
  rw [List.getElem?_map, List.getElem?_range h]; rfl
theorem sec_mg {gen R seq i n : Nat} {x : List UInt8} (hg : gen < 4294967296) (hx : x.length ≤ 48) : mg gen (secL gen R seq i n x) := ⟨secL_len _ _ _ _ _ hx, rfl, sec_gen _ _ _ _ _ _ hg⟩
section
variable {L L' : List (List UInt8)} {gen seq R T : Nat} {want : List (List UInt8)} {b : List UInt8}
theorem oks_mem (h : OKS L gen seq) (hg : gen < 4294967296) (hs : seq < 4294967296) : ∀ s ∈ L.take (cntK L), mg gen s ∧ numB s 9 = seq ∧ numB s 5 = numB (L.headD []) 5 := fun s hm => by
  obtain ⟨h1, h2, h3, h4, h5⟩ := h
  have hf := (frameK_zero h5).2.2.2.1
  rw [hf] at hm
  unfold frameL at hm
  obtain ⟨i, _, rfl⟩ := List.mem_map.1 hm
  exact ⟨sec_mg hg (partL_le _ _), sec_seq _ _ _ _ _ _ hs, sec_round _ _ _ _ _ _ (numB_lt _ _)⟩
theorem scan_none (k : Nat) (h : ¬ OKS L gen seq) : scanG gen k L seq = ([], 0) := by
  cases k with
  | zero => rfl
  | succ k => simp only [scanG, standK_no h, if_true]
theorem scan_stop (gen : Nat) : ∀ (k : Nat) (L : List (List UInt8)) (s : Nat), L.length < k → ¬ OKS (L.drop (scanG gen k L s).2) gen (s + (scanG gen k L s).1.length)
  | 0, L, s, h => by omega
  | k + 1, L, s, h => by
    by_cases hO : OKS L gen s
    · have hn : ¬ (standK L gen s).2 = 0 := by rw [standK_yes hO]; exact hO.cnt
      have hle := standK_le L gen s
      have ih := scan_stop gen k (L.drop (standK L gen s).2) (s + 1) (by rw [List.length_drop]; omega)
      simp only [scanG, if_neg hn, List.length_cons]
      rw [List.drop_drop] at ih
      rw [show s + ((scanG gen k (L.drop (standK L gen s).2) (s + 1)).1.length + 1) = s + 1 + (scanG gen k (L.drop (standK L gen s).2) (s + 1)).1.length by omega]
      exact ih
    · rw [scan_none _ hO]; exact hO
/-- a journal's sectors: what stands, and what is behind it. -/
structure JI (L : List (List UInt8)) (gen R : Nat) (want : List (List UInt8)) (T : Nat) : Prop where
  scan : (scanK L gen).1 = (want, T)
  seq : ∀ s ∈ L.drop T, mg gen s → numB s 9 ≤ want.length
  rnd : ∀ s ∈ L.drop T, mg gen s → numB s 5 < R
  all : ∀ s ∈ L, mg gen s → numB s 5 ≤ R
theorem JI.re (h : JI L gen R want T) : JI L gen (roundOf gen L + 1) want T :=
  ⟨h.scan, h.seq, fun s hs hm => Nat.lt_succ_of_le ((roundOf_ge L 0).2 s (List.mem_of_mem_drop hs) hm), fun s hs hm => Nat.le_succ_of_le ((roundOf_ge L 0).2 s hs hm)⟩
theorem JI.le (h : JI L gen R want T) : roundOf gen L ≤ R := roundOf_le L 0 (Nat.zero_le _) h.all
theorem JI.len (h : JI L gen R want T) : T ≤ L.length ∧ want.length ≤ T := by
  have h1 := scanG_le gen (L.length + 1) L 0
  have h2 : scanG gen (L.length + 1) L 0 = (want, T) := h.scan
  rw [h2] at h1
  exact h1
theorem JI.scanTo (h : JI L gen R want T) (hT : L'.take T = L.take T) (hl : L'.length = L.length) : (scanK L' gen).1 = (want ++ (scanG gen (L'.length + 1) (L'.drop T) want.length).1, T + (scanG gen (L'.length + 1) (L'.drop T) want.length).2) := by
  have h2 : scanG gen (L.length + 1) L 0 = (want, T) := h.scan
  have hm := scan_more gen (L.length + 1) L 0 (L'.length + 1) (L'.drop T)
  rw [h2, Nat.zero_add] at hm
  have e : L.take (want, T).2 ++ L'.drop T = L' := by
    show L.take T ++ L'.drop T = L'
    rw [← hT, List.take_append_drop]
  rw [e] at hm
  show scanG gen (L'.length + 1) L' 0 = _
  rw [scan_fuel gen (L'.length + 1) L' 0 ((want, T).1.length + (L'.length + 1)) (by omega) (by omega)]
  exact hm
theorem JI.app (h : JI L gen R want T) (hg : gen ≠ 0) (hg2 : gen < 4294967296) (hR : R ≠ 0) (hR2 : R < 4294967296) (hb : b.length ≤ 4000) (hw : want.length + 1 < 4294967296) (hfit : T + partsN b.length ≤ L.length)
    (hL : L' = L.take T ++ (frameL gen R want.length b ++ L.drop (T + partsN b.length))) : JI L' gen R (want ++ [b]) (T + partsN b.length) := by
  have hp := partsN_pos hb
  have hFl := frameL_len gen R want.length b
  have hl : L'.length = L.length := by
    rw [hL, List.length_append, List.length_append, List.length_take, List.length_drop, hFl]; omega
  have hTl : (L.take T).length = T := by rw [List.length_take]; omega
  have hT : L'.take T = L.take T := by
    rw [hL, List.take_append_of_le_length (by omega), List.take_of_length_le (by omega)]
  have hD : L'.drop T = frameL gen R want.length b ++ L.drop (T + partsN b.length) := by
    rw [hL, List.drop_append_of_le_length (by omega), List.drop_of_length_le (by omega), List.nil_append]
  have hD2 : L'.drop (T + partsN b.length) = L.drop (T + partsN b.length) := by
    rw [← List.drop_drop, hD, List.drop_append_of_le_length (by omega), List.drop_of_length_le (by omega), List.nil_append]
  have hin : ∀ s ∈ L.drop (T + partsN b.length), s ∈ L.drop T := fun s hs => by
    rw [← List.drop_drop] at hs
    exact List.mem_of_mem_drop hs
  have hno : ¬ OKS (L.drop (T + partsN b.length)) gen (want.length + 1) := fun hO => by
    obtain ⟨k1, k2, _⟩ := oks_mem hO hg2 hw _ hO.head
    have := h.seq _ (hin _ (List.mem_of_mem_take hO.head)) k1
    omega
  have hst := frame_stands (seq := want.length) hg hR hR2 hb (L.drop (T + partsN b.length))
  refine ⟨?_, ?_, ?_, ?_⟩
  · rw [h.scanTo hT hl, hD]
    simp only [scanG, hst, if_neg (show ¬ partsN b.length = 0 by omega)]
    rw [show (frameL gen R want.length b ++ L.drop (T + partsN b.length)).drop (partsN b.length) = L.drop (T + partsN b.length) from (by rw [List.drop_append_of_le_length (by omega), List.drop_of_length_le (by omega), List.nil_append]), scan_none _ hno]
    rfl
  · rw [hD2]
    intro s hs hm
    have := h.seq s (hin s hs) hm
    rw [List.length_append]; omega
  · rw [hD2]
    exact fun s hs hm => h.rnd s (hin s hs) hm
  · rw [hL]
    intro s hs hm
    rcases List.mem_append.1 hs with hs | hs
    · exact h.all s (List.mem_of_mem_take hs) hm
    · rcases List.mem_append.1 hs with hs | hs
      · unfold frameL at hs
        obtain ⟨i, _, rfl⟩ := List.mem_map.1 hs
        rw [sec_round _ _ _ _ _ _ hR2]; exact Nat.le_refl _
      · exact h.all s (List.mem_of_mem_drop hs) hm
/-- some of an append's sectors, others as they were, others unreadable. -/
def Mix (L L' : List (List UInt8)) (T : Nat) (F : List (List UInt8)) : Prop :=
  L'.length = L.length ∧ ∀ i : Nat, L'[i]? = L[i]? ∨ ∃ t, i = T + t ∧ t < F.length ∧ (L'[i]? = F[t]? ∨ L'[i]? = some [])
theorem nil_mg (gen : Nat) : ¬ mg gen [] := fun h => by cases h.1
theorem JI.crash (h : JI L gen R want T) (hg : gen ≠ 0) (hg2 : gen < 4294967296) (hR : R ≠ 0) (hR2 : R < 4294967296) (hb : b.length ≤ 4000) (hw : want.length + 1 < 4294967296) (hfit : T + partsN b.length ≤ L.length)
    (hM : Mix L L' T (frameL gen R want.length b)) : ∃ want2 T2, (want2 = want ∨ want2 = want ++ [b]) ∧ JI L' gen (roundOf gen L' + 1) want2 T2 ∧ roundOf gen L' ≤ R := by
  obtain ⟨hl, hM⟩ := hM
  have hp := partsN_pos hb
  have hFl := frameL_len gen R want.length b
  have hT : L'.take T = L.take T := by
    apply List.ext_getElem?
    intro i
    by_cases hi : i < T
    · rw [List.getElem?_take_of_lt hi, List.getElem?_take_of_lt hi]
      rcases hM i with e | ⟨t, ht, _⟩
      · exact e
      · omega
    · rw [List.getElem?_eq_none (by rw [List.length_take]; omega), List.getElem?_eq_none (by rw [List.length_take]; omega)]
  have hscan := h.scanTo hT hl
  have inD : ∀ {M : List (List UInt8)} {i : Nat} {s : List UInt8}, M[T + i]? = some s → s ∈ M.drop T := fun {M i s} e => List.mem_of_getElem? (i := i) (by rw [List.getElem?_drop]; exact e)
  by_cases hO : OKS (L'.drop T) gen want.length
  · have hmem := oks_mem hO hg2 (by omega)
    have hc := hO.cnt
    have hcl := hO.2.2.1
    -- each of its sectors
    have hat : ∀ i, i < cntK (L'.drop T) → ∃ s, L'[T + i]? = some s ∧ mg gen s ∧ numB s 9 = want.length ∧ numB s 5 = numB ((L'.drop T).headD []) 5 := fun i hi => by
      have h1 : (L'.drop T)[i]? = some ((L'.drop T)[i]'(by omega)) := List.getElem?_eq_getElem (by omega)
      obtain ⟨k1, k2, k3⟩ := hmem _ (mem_take_of hi h1)
      exact ⟨_, by rw [← List.getElem?_drop]; exact h1, k1, k2, k3⟩
    have hhead : L'[T]? = some ((L'.drop T).headD []) := by
      have h0 := hO.1
      have e : (L'.drop T)[0]? = L'[T]? := by rw [List.getElem?_drop, Nat.add_zero]
      rw [← e]
      cases hd : L'.drop T with
      | nil => exact absurd hd h0
      | cons x r => rfl
    obtain ⟨hm0, _, _⟩ := hmem _ hO.head
    -- an old one?
    have old : L'[T]? = L[T]? → False := fun e => by
      have hr := h.rnd _ (inD (i := 0) (by rw [Nat.add_zero, ← e]; exact hhead)) hm0
      have heq : (L'.drop T).take (cntK (L'.drop T)) = (L.drop T).take (cntK (L'.drop T)) := by
        apply List.ext_getElem?
        intro i
        by_cases hi : i < cntK (L'.drop T)
        · rw [List.getElem?_take_of_lt hi, List.getElem?_take_of_lt hi, List.getElem?_drop, List.getElem?_drop]
          obtain ⟨s, k0, k1, k2, k3⟩ := hat i hi
          rcases hM (T + i) with e | ⟨t, ht, htl, e | e⟩
          · exact e
          · rw [k0, frame_get htl] at e
            rw [Option.some.inj e, sec_round _ _ _ _ _ _ hR2] at k3
            omega
          · rw [k0] at e
            rw [Option.some.inj e] at k1
            exact absurd k1 (nil_mg gen)
        · rw [List.getElem?_eq_none (by rw [List.length_take]; omega), List.getElem?_eq_none (by rw [List.length_take]; omega)]
      have hst := stand_more hO ((L.drop T).drop (cntK (L'.drop T)))
      rw [heq, List.take_append_drop] at hst
      have hstop := scan_stop gen (L.length + 1) L 0 (by omega)
      have h2 : scanG gen (L.length + 1) L 0 = (want, T) := h.scan
      rw [h2, Nat.zero_add] at hstop
      rw [standK_no hstop, standK_yes hO] at hst
      exact hc (congrArg Prod.snd hst).symm
    rcases hM T with e | ⟨t, ht, htl, e | e⟩
    · exact (old e).elim
    · have ht0 : t = 0 := by omega
      subst ht0
      rw [hhead, frame_get htl] at e
      have e := Option.some.inj e
      have hn : cntK (L'.drop T) = partsN b.length := by
        unfold cntK
        rw [e]
        show (UInt8.ofNat (partsN b.length)).toNat = _
        have := partsN_le b.length
        rw [UInt8.toNat_ofNat']; omega
      have hrd : numB ((L'.drop T).headD []) 5 = R := by rw [e, sec_round _ _ _ _ _ _ hR2]
      have hL : L' = L.take T ++ (frameL gen R want.length b ++ L.drop (T + partsN b.length)) := by
        apply List.ext_getElem?
        intro i
        have hTl : (L.take T).length = T := by rw [List.length_take]; omega
        rw [List.getElem?_append, hTl, List.getElem?_append, hFl]
        by_cases h0 : i < T
        · rw [if_pos h0, ← hT, List.getElem?_take_of_lt h0]
        · rw [if_neg h0]
          by_cases h1 : i - T < partsN b.length
          · rw [if_pos h1]
            obtain ⟨s, k0, k1, k2, k3⟩ := hat (i - T) (by omega)
            rw [show T + (i - T) = i by omega] at k0
            rcases hM i with e | ⟨t, ht, htl, e | e⟩
            · have := h.rnd s (inD (i := i - T) (by rw [show T + (i - T) = i by omega, ← e]; exact k0)) k1
              omega
            · rw [e]; congr 1; omega
            · rw [k0] at e
              rw [Option.some.inj e] at k1
              exact absurd k1 (nil_mg gen)
          · rw [if_neg h1, List.getElem?_drop, show T + partsN b.length + (i - T - partsN b.length) = i by omega]
            rcases hM i with e | ⟨t, ht, htl, _⟩
            · exact e
            · omega
      have hA := h.app hg hg2 hR hR2 hb hw hfit hL
      exact ⟨_, _, .inr rfl, hA.re, hA.le⟩
    · rw [hhead] at e
      rw [Option.some.inj e] at hm0
      exact absurd hm0 (nil_mg gen)
  · have hall : ∀ {i : Nat} {s : List UInt8}, L'[i]? = some s → mg gen s → s ∈ L ∧ L[i]? = some s ∨ (numB s 9 = want.length ∧ numB s 5 = R) := fun {i s} e hm => by
      rcases hM i with e2 | ⟨t, ht, htl, e2 | e2⟩
      · rw [e] at e2
        exact .inl ⟨List.mem_of_getElem? e2.symm, e2.symm⟩
      · rw [e, frame_get htl] at e2
        rw [Option.some.inj e2]
        exact .inr ⟨sec_seq _ _ _ _ _ _ (by omega), sec_round _ _ _ _ _ _ hR2⟩
      · rw [e] at e2
        rw [Option.some.inj e2] at hm
        exact absurd hm (nil_mg gen)
    have hdrop : ∀ s ∈ L'.drop T, ∃ i : Nat, L'[T + i]? = some s := fun s hs => by
      obtain ⟨i, hi⟩ := List.mem_iff_getElem?.1 hs
      exact ⟨i, by rw [← List.getElem?_drop]; exact hi⟩
    have hJ : JI L' gen (R + 1) want T := by
      refine ⟨by rw [hscan, scan_none _ hO, List.append_nil]; rfl, fun s hs hm => ?_, fun s hs hm => ?_, fun s hs hm => ?_⟩
      · obtain ⟨i, hi⟩ := hdrop s hs
        rcases hall hi hm with ⟨_, e⟩ | ⟨e, _⟩
        · exact h.seq s (inD e) hm
        · omega
      · obtain ⟨i, hi⟩ := hdrop s hs
        rcases hall hi hm with ⟨k, _⟩ | ⟨_, e⟩
        · have := h.all s k hm; omega
        · omega
      · obtain ⟨i, hi⟩ := List.mem_iff_getElem?.1 hs
        rcases hall hi hm with ⟨k, _⟩ | ⟨_, e⟩
        · have := h.all s k hm; omega
        · omega
    have hle : roundOf gen L' ≤ R := roundOf_le L' 0 (Nat.zero_le _) fun s hs hm => by
      obtain ⟨i, hi⟩ := List.mem_iff_getElem?.1 hs
      rcases hall hi hm with ⟨k, _⟩ | ⟨_, e⟩
      · exact h.all s k hm
      · omega
    exact ⟨want, T, .inl rfl, hJ.re, hle⟩
end
end Go.Proofs.Ytidijnfkcpbkiaa

/- Journal: plainly: an append on a disk that may go down in its midst. -/
set_option linter.unusedVariables false
set_option linter.unusedSimpArgs false
set_option maxRecDepth 20000
set_option maxHeartbeats 2000000
namespace Go.Proofs.Ytidijnfkcpbkiaa
open Go Go.Mx Go.Proofs
theorem write_any {d : DS} (h : d.down = false) {i : Int} (h0 : 0 ≤ i) (h1 : i < d.good.length) {b : List UInt8} (hb : b.length = 64) :
    ((writeD d i b).2 = 0 ∧ (writeD d i b).1.down = false ∧ (writeD d i b).1.good = d.good ∧ (writeD d i b).1.pend = d.pend ++ [⟨i, ⟨b, false, hb⟩⟩]) ∨
    ((writeD d i b).2 = 19 ∧ (writeD d i b).1.down = true ∧ (writeD d i b).1.good = d.good ∧ (writeD d i b).1.pend = d.pend ++ [⟨i, ⟨b, true, hb⟩⟩]) := by
  unfold writeD
  rw [if_pos (hasD_up h h0 h1), dif_pos hb]
  split
  · split
    · exact .inr ⟨rfl, rfl, rfl, rfl⟩
    · exact .inl ⟨rfl, h, rfl, rfl⟩
  · exact .inl ⟨rfl, h, rfl, rfl⟩
theorem read_put {d d2 : DS} (h : d.down = false) (h2 : d2.down = false) {i : Int} (h0 : 0 ≤ i) (h1 : i < d.good.length) {b : List UInt8} (hb : b.length = 64) (hg : d2.good = d.good) (hp : d2.pend = d.pend ++ [⟨i, ⟨b, false, hb⟩⟩]) (j : Int) :
    readD d2 j = if j = i then (b, 0) else readD d j := by
  have hs : readS d2 j = if i = j then ⟨b, false, hb⟩ else readS d j := by
    unfold readS
    rw [hg, hp]
    exact lastP_snoc j _ _ _
  have hh : hasD d2 j = hasD d j := by unfold hasD; rw [h, h2, hg]
  unfold readD
  rw [hs, hh]
  by_cases e : j = i
  · subst e
    rw [if_pos (hasD_up h h0 h1), if_pos rfl, if_pos rfl]; rfl
  · rw [if_neg (show ¬ i = j from fun e2 => e e2.symm), if_neg e]
theorem sync_any {d : DS} (h : d.down = false) : (syncD d).2 = 0 ∧ (syncD d).1.down = false ∧ (syncD d).1.pend = [] ∧ (syncD d).1.good.length = d.good.length := by
  unfold syncD
  rw [h]
  exact ⟨rfl, h, rfl, settleL_len _ _ _ _⟩
theorem read_sync2 {m : Nat} {d : DS} (h : d.down = false) (ok : d.ok m) (j : Int) : readD (syncD d).1 j = readD d j := by
  have hh : hasD (syncD d).1 j = hasD d j := by
    unfold hasD
    rw [(sync_any h).2.1, h, (sync_any h).2.2.2]
  unfold readD
  rw [hh]
  by_cases e : hasD d j = 0
  · rw [if_pos e, if_pos e]
    have hr : 0 ≤ j ∧ j < d.good.length := by
      unfold hasD at e
      rw [h] at e
      rw [if_neg (by decide)] at e
      split at e
      · cases e
      · omega
    obtain ⟨k, rfl⟩ := Int.eq_ofNat_of_zero_le hr.1
    have hs : readS (syncD d).1 k = readS d k := by
      unfold syncD
      rw [h]
      show (settleL (fun _ => true) 0 d.good d.pend)[k]?.getD Sec.z = lastP k (d.good[k]?.getD Sec.z) d.pend
      exact settle_all _ _ _ (by omega) fun x hx => (ok.at_ x hx).1
    rw [hs]
  · rw [if_neg e, if_neg e]
theorem writes_any : ∀ (f : List (List UInt8)) (d : DS) (m : Nat) (i : Int), d.down = false → d.ok m → 0 ≤ i → i + f.length ≤ d.good.length → (∀ s ∈ f, s.length = 64) →
    (writesD d i f).1.good = d.good ∧ (((writesD d i f).2 = 0 ∧ (writesD d i f).1.down = false ∧ ∀ j : Int, readD (writesD d i f).1 j = if i ≤ j ∧ j < i + f.length then (f[(j - i).toNat]?.getD [], 0) else readD d j) ∨
      ((writesD d i f).2 = 19 ∧ (writesD d i f).1.down = true ∧ ∀ x ∈ (writesD d i f).1.pend, x ∈ d.pend ∨ ∃ t : Nat, t < f.length ∧ x.i = i + t ∧ f[t]? = some x.s.b))
  | [], d, m, i, h, ok, h0, h1, hs => ⟨rfl, .inl ⟨rfl, h, fun j => by
    rw [if_neg (by simp only [List.length_nil]; omega)]; rfl⟩⟩
  | x :: r, d, m, i, h, ok, h0, h1, hs => by
    rw [List.length_cons] at h1
    have hx : x.length = 64 := hs x (by simp)
    rcases write_any h h0 (by omega) hx with ⟨a1, a2, a3, a4⟩ | ⟨a1, a2, a3, a4⟩
    · have hd : writesD d i (x :: r) = writesD (writeD d i x).1 (i + 1) r := by
        rw [writesD, if_neg (not_not_intro a1)]
      rw [hd]
      obtain ⟨g, ih⟩ := writes_any r (writeD d i x).1 (m + 1) (i + 1) a2 (writeD_ok ok i x) (by omega) (by rw [a3]; omega) fun s hs' => hs s (by simp [hs'])
      refine ⟨g.trans a3, ?_⟩
      rcases ih with ⟨b1, b2, b3⟩ | ⟨b1, b2, b3⟩
      · refine .inl ⟨b1, b2, fun j => ?_⟩
        rw [b3 j, read_put h a2 h0 (by omega) hx a3 a4, List.length_cons]
        by_cases e : j = i
        · subst e
          rw [if_neg (by omega), if_pos rfl, if_pos (by omega), show (j - j).toNat = 0 by omega]; rfl
        · by_cases e2 : i + 1 ≤ j ∧ j < i + 1 + r.length
          · rw [if_pos e2, if_pos (by omega), show (j - i).toNat = (j - (i + 1)).toNat + 1 by omega, List.getElem?_cons_succ]
          · rw [if_neg e2, if_neg e, if_neg (by omega)]
      · refine .inr ⟨b1, b2, fun y hy => ?_⟩
        rcases b3 y hy with hy | ⟨t, t1, t2, t3⟩
        · rw [a4] at hy
          rcases List.mem_append.1 hy with hy | hy
          · exact .inl hy
          · rw [List.mem_singleton.1 hy]
            exact .inr ⟨0, by simp, by show i = i + ((0 : Nat) : Int); omega, rfl⟩
        · exact .inr ⟨t + 1, by rw [List.length_cons]; omega, by omega, t3⟩
    · have hd : writesD d i (x :: r) = writeD d i x := by
        rw [writesD, if_pos (by rw [a1]; decide)]
      rw [hd]
      refine ⟨a3, .inr ⟨a1, a2, fun y hy => ?_⟩⟩
      rw [a4] at hy
      rcases List.mem_append.1 hy with hy | hy
      · exact .inl hy
      · rw [List.mem_singleton.1 hy]
        exact .inr ⟨0, by simp, by show i = i + ((0 : Nat) : Int); omega, rfl⟩
theorem settle_some (k : Nat → Bool) {j : Nat} : ∀ (l : List Wt) (t : Nat) (gl : List Sec), (settleL k t gl l)[j]? = gl[j]? ∨ ∃ x ∈ l, x.i.toNat = j ∧ (settleL k t gl l)[j]? = some x.s
  | [], _, _ => .inl rfl
  | x :: r, t, gl => by
    rw [settleL]
    rcases settle_some k r (t + 1) (if k t then gl.set x.i.toNat x.s else gl) with e | ⟨y, hy, h1, h2⟩
    · rw [e]
      split
      · by_cases hx : x.i.toNat = j
        · by_cases hj : j < gl.length
          · exact .inr ⟨x, by simp, hx, by rw [hx]; exact List.getElem?_set_self hj⟩
          · left
            rw [List.getElem?_eq_none (by rw [List.length_set]; omega), List.getElem?_eq_none (by omega)]
        · exact .inl (List.getElem?_set_ne hx)
      · exact .inl rfl
    · exact .inr ⟨y, by simp [hy], h1, h2⟩
/-- an append: as a whole, or in its midst the disk went down. -/
theorem append_any {d : DS} {m : Nat} {J : JS} {b : List UInt8} (h : d.down = false) (hp0 : d.pend = []) (ok : d.ok m) (hJ : J.ok) (hgen : J.gen ≠ 0) (hro : J.round ≠ 0) (hd : J.dead = false) (hb : b.length ≤ 4000)
    (hfit : J.tail + partsN b.length ≤ J.size) (hdisk : J.base + J.size ≤ d.good.length) {size T : Nat} (hsz : (size : Int) = J.size) (hT : (T : Int) = J.tail) :
    (appendJ d J b).1.1.good.length = d.good.length ∧
    (((appendJ d J b).2 = 0 ∧ (appendJ d J b).1.1.down = false ∧ (appendJ d J b).1.1.pend = [] ∧ (appendJ d J b).1.2 = { J with tail := J.tail + partsN b.length, seq := J.seq + 1 } ∧
      readsD (appendJ d J b).1.1 J.base.toNat size = (readsD d J.base.toNat size).take T ++ (frameL J.gen J.round J.seq.toNat b ++ (readsD d J.base.toNat size).drop (T + partsN b.length))) ∨
    ((appendJ d J b).2 = 19 ∧ (appendJ d J b).1.1.down = true ∧ (appendJ d J b).1.2 = { J with dead := true } ∧ ∀ keep, Mix (readsD d J.base.toNat size) (readsD (restartD (appendJ d J b).1.1 keep) J.base.toNat size) T (frameL J.gen J.round J.seq.toNat b))) := by
  have hp := partsN_pos hb
  obtain ⟨⟨hb0, hb1⟩, ⟨hs0, hs1⟩, hgen2, hrd, ⟨ht0, ht1⟩, ⟨hq0, hq1⟩⟩ := hJ
  have hF : appendF J b = frameL J.gen J.round J.seq.toNat b := by
    unfold appendF frameK
    rw [if_neg (by omega), if_neg (by omega)]
  have hFl : (appendF J b).length = partsN b.length := by rw [hF, frameL_len]
  have hF64 : ∀ s ∈ appendF J b, s.length = 64 := fun s hs => by rw [hF] at hs; exact (sec_mark hs).2
  obtain ⟨wg, hcase⟩ := writes_any (appendF J b) d m (J.base + J.tail) h ok (by omega) (by rw [hFl]; omega) hF64
  have wok := writesD_ok (f := appendF J b) (i := J.base + J.tail) ok
  rcases hcase with ⟨w0, wd, wr⟩ | ⟨w0, wd, wp⟩
  · obtain ⟨s0, sd, sp, sl⟩ := sync_any wd
    have hA : appendJ d J b = (((syncD (writesD d (J.base + J.tail) (appendF J b)).1).1, { J with tail := J.tail + partsN b.length, seq := J.seq + 1 }), 0) := by
      unfold appendJ
      rw [if_neg (by omega), if_neg (by rw [hd]; decide), if_neg (by omega), if_neg (not_not_intro w0), if_neg (not_not_intro s0)]
    rw [hA]
    refine ⟨sl.trans (by rw [wg]), .inl ⟨rfl, sd, sp, rfl, ?_⟩⟩
    rw [← hF, ← hFl]
    refine reads_cut (by rw [hFl]; omega) fun j => ?_
    show (readD (syncD (writesD d (J.base + J.tail) (appendF J b)).1).1 j).1 = _
    rw [read_sync2 wd wok, wr, show ((J.base.toNat : Int)) = J.base by omega, hT]
    split <;> rfl
  · have hA : appendJ d J b = (((writesD d (J.base + J.tail) (appendF J b)).1, { J with dead := true }), 19) := by
      unfold appendJ
      rw [if_neg (by omega), if_neg (by rw [hd]; decide), if_neg (by omega), if_pos (by rw [w0]; decide), w0]
    rw [hA]
    refine ⟨by show (writesD d (J.base + J.tail) (appendF J b)).1.good.length = _; rw [wg], .inr ⟨rfl, wd, rfl, fun keep => ⟨by rw [readsD_len, readsD_len], fun i => ?_⟩⟩⟩
    rw [reads_get, reads_get]
    by_cases hi : i < size
    · rw [if_pos hi, if_pos hi, show ((J.base.toNat : Int)) = J.base by omega]
      obtain ⟨D, hD⟩ : ∃ D, restartD (writesD d (J.base + J.tail) (appendF J b)).1 keep = D := ⟨_, rfl⟩
      have hDg : D.good = settleL (keepF keep) 0 d.good (writesD d (J.base + J.tail) (appendF J b)).1.pend := by rw [← hD, ← wg]; rfl
      have hDp : D.pend = [] := by rw [← hD]; rfl
      have hDd : D.down = false := by rw [← hD]; rfl
      rw [hD]
      have hDl : D.good.length = d.good.length := by rw [hDg]; exact settleL_len _ _ _ _
      have hh : hasD D (J.base + i) = 0 := hasD_up hDd (by omega) (by omega)
      have hh2 : hasD d (J.base + i) = 0 := hasD_up h (by omega) (by omega)
      have hS : readS D (J.base + i) = D.good[(J.base + (i : Int)).toNat]?.getD Sec.z := by unfold readS; rw [hDp]; rfl
      have hS2 : readS d (J.base + i) = d.good[(J.base + (i : Int)).toNat]?.getD Sec.z := by unfold readS; rw [hp0]; rfl
      unfold readD
      rw [if_pos hh, if_pos hh2, hS, hS2, hDg]
      rcases settle_some (keepF keep) (j := (J.base + (i : Int)).toNat) (writesD d (J.base + J.tail) (appendF J b)).1.pend 0 d.good with e | ⟨x, hx, x1, x2⟩
      · rw [e]; exact .inl rfl
      · rcases wp x hx with hx | ⟨t, t1, t2, t3⟩
        · rw [hp0] at hx; cases hx
        · rw [x2]
          refine .inr ⟨t, by omega, by rw [← hF]; exact t1, ?_⟩
          show (some (if x.s.torn = true then ([], (5 : Int)) else (x.s.b, 0)).1 = _) ∨ (some (if x.s.torn = true then ([], (5 : Int)) else (x.s.b, 0)).1 = _)
          rw [← hF, t3]
          cases x.s.torn
          · exact .inl rfl
          · exact .inr rfl
    · rw [if_neg hi, if_neg hi]; exact .inl rfl
end Go.Proofs.Ytidijnfkcpbkiaa

/- Journal: Create, the small ones, and the sectors of a stretch. -/
set_option linter.unusedVariables false
set_option linter.unusedSimpArgs false
set_option maxRecDepth 20000
set_option maxHeartbeats 2000000
namespace Go.Proofs.Ytidijnfkcpbkiaa
open Go Go.Mx Go.Proofs
open W (OwnB GivesW)
def JS.anew (J : JS) : JS := { J with tail := 0, seq := 0 }
theorem openK_kind (d : DS) (base size : Int) (gen : Nat) : ((openK d base size gen).2.2 = 0 → ∃ J, (openK d base size gen).1 = some J) ∧ ((openK d base size gen).2.2 ≠ 0 → (openK d base size gen).1 = none ∧ (openK d base size gen).2.1 = []) := by
  unfold openK
  split
  · rename_i h
    exact ⟨fun e => absurd e h, fun _ => ⟨rfl, rfl⟩⟩
  · split
    · exact ⟨fun e => (by cases e), fun _ => ⟨rfl, rfl⟩⟩
    · exact ⟨fun _ => ⟨_, rfl⟩, fun h => absurd rfl h⟩
theorem readD_bad {d : DS} {i : Int} (h : (readD d i).2 ≠ 0) : (readD d i).1 = [] := by
  unfold readD at h ⊢
  split at h
  · rename_i h0
    rw [if_pos h0]
    split at h
    · rename_i h1
      rw [if_pos h1]
    · exact absurd rfl h
  · rename_i h0
    rw [if_neg h0]
section
variable {w w' w1 : World} {o o' o1 : Own} {q g n N m : Nat} {K : Nat → Prop} {b s : List UInt8} {a : Option Addr} {c : Nat} {l : List BS} {d : DS} {J : JS}
theorem Create_spec (h : DG w o g d) (ok : Tags w o) (hd : d.ok m) (hm : m < 100000) (base size : Int) (gen : Nat) :
    Calls Try.prog 29 #[.pointer (some (blk g)), .int .i64 base, .int .i64 size, .int .u32 gen] w (fun z w' => ∃ o' jp, z = .returned (.tuple #[.pointer jp, .int .i64 (openK d base size gen).2.2]) ∧ Step no w o w' o' ∧
      (∀ J, (openK d base size gen).1 = some J → ∃ q, jp = some (blk q) ∧ w.heap.size ≤ q ∧ JG w' o' q g J.anew)) := by
  refine (journal_Create.go _ _ _ _ (R := fun z w' => ∃ o' jp, z = (.tuple #[.pointer jp, .int .i64 (openK d base size gen).2.2]) ∧ Step no w o w' o' ∧
      (∀ J, (openK d base size gen).1 = some J → ∃ q, jp = some (blk q) ∧ w.heap.size ≤ q ∧ JG w' o' q g J.anew)) ?_).mono fun z w' ⟨u, he, o', jp, hu, hw⟩ => ⟨o', jp, by rw [he, hu], hw⟩
  unfold journal_Create.N
  obtain ⟨k0, k1⟩ := openK_kind d base size gen
  refine (Open_spec h ok hd hm base size gen).mono fun u w8 ⟨o8, jp, la, lc, l, he, s8, hmap, hr, hn, hj⟩ => ⟨_, _, _, _, _, he, fun h0 => ?_, fun h0 => ?_⟩
  · obtain ⟨J, hJ⟩ := k0 h0
    obtain ⟨q, rfl, hq, jg⟩ := hj J hJ
    have ha5 : ((blk q).add 5).add 0 = (blk q).add 5 := by rw [add_add]
    have ha6 : ((blk q).add 6).add 0 = (blk q).add 6 := by rw [add_add]
    refine ⟨_, rfl, ?_⟩
    rw [ha5, ha6]
    refine ⟨jg.mem.cana (i := 5) rfl, thenW_in fun w57 e57 => ?_⟩
    have b57 := jg.mem.seti 5 rfl e57
    refine ⟨b57.cana (i := 6) rfl, thenW_in fun w60 e60 => ?_⟩
    have X60 : Ext (fun b => b = q) w8 w60 := ((Ext.refl (fun b => b = q) w8).x_set (q := q) (i := 5) rfl (.inl rfl) e57).x_set (q := q) (i := 6) rfl (.inl rfl) e60
    obtain ⟨o60, s60⟩ := Step.store1 X60 s8.ok jg.tg
    refine ⟨o60, _, rfl, s8.trans' s60 fun i hi => .inr (by subst hi; exact hq), fun J2 hJ2 => ⟨q, rfl, hq, ?_⟩⟩
    rw [hJ] at hJ2
    cases hJ2
    exact ⟨b57.seti 6 rfl e60, by rw [s60.own jg.mem.lt]; exact jg.tg⟩
  · exact ⟨o8, _, rfl, s8, fun J hJ => by rw [(k1 h0).1] at hJ; cases hJ⟩
theorem jCount_spec (h : JG w o q g J) : Calls Try.prog 43 #[.pointer (some (blk q))] w (Ret (.int .i64 J.seq) fun w' => w' = w) := by
  refine journal_Journal_Count.run _ ?_
  unfold journal_Journal_Count.N
  exact ⟨fun h => (by cases h), fun _ => ⟨_, rfl, _, h.mem.cella (i := 6) rfl, rfl, rfl⟩⟩
theorem jRoom_spec (h : JG w o q g J) (h0 : 0 ≤ J.tail) (h1 : J.tail ≤ 1000000) (h2 : 0 ≤ J.size) (h3 : J.size ≤ 1000000) : Calls Try.prog 44 #[.pointer (some (blk q))] w (Ret (.int .i64 (J.size - J.tail)) fun w' => Ext no w w') := by
  refine journal_Journal_Room.run _ ?_
  unfold journal_Journal_Room.N
  exact ⟨fun h => (by cases h), fun _ => ⟨_, rfl, _, h.mem.cella (i := 2) rfl, _, h.mem.cella (i := 5) rfl, by omega, by omega, fun w3 X3 => ⟨rfl, X3⟩⟩⟩
end
end Go.Proofs.Ytidijnfkcpbkiaa
