/- Disk: predicates. -/
import Derived.Test.YtgcjipbahfpopaaZA
import Derived.Test.YtgcjipbahfpopaaZB
set_option linter.unusedVariables false
set_option linter.unusedSimpArgs false
set_option maxRecDepth 20000
set_option maxHeartbeats 2000000
namespace Go.Proofs.Ytgcjipbahfpopaa
open Go Go.Mx Go.Proofs
/-- disk.New -/
def disk_New.M (n1 : Int) (R : Value → World → Prop) (w : World) : Prop :=
 bif decide (n1 < 1) then (
 R (.tuple #[.pointer none, .int .i64 1]) w) else (
 bif decide (n1 > 400) then (
 R (.tuple #[.pointer none, .int .i64 1]) w) else (
 ∃ (a1 : Option Addr) (a2 : Nat) (a3 : Nat) (a0 : World), (Instr.makeSlice 75 (.int .i64 n1) (.int .i64 n1)).run Try.prog w = .ok (.slice a1 a2 a3) a0 ∧
 thenW (a0.alloc (.cells #[.slice a1 a2 a3, .slice none 0 0, .int .i64 0, .bool false, .int .i64 0, .int .i64 0] 79)) fun a4 =>
 R (.tuple #[.pointer (some (blk a0.heap.size)), .int .i64 0]) a4))

theorem disk_New.eq (n1 : Int) (R : Value → World → Prop) (w : World) : mfunc Try.prog [] 19 [.int .i64 n1] R w = disk_New.M n1 R w := by kernel_rfl
theorem disk_New.ok (n1 : Int) {R : Value → World → Prop} {w : World} (h : disk_New.M n1 R w) : Calls Try.prog 19 #[.int .i64 n1] w fun e w' => ∃ v, e = .returned v ∧ R v w' :=
  mfunc_ok follows (H := []) (args := [.int .i64 n1]) (by rw [disk_New.eq]; exact h)

def disk_New.N (n1 : Int) (R : Value → World → Prop) (w : World) : Prop :=
 (n1 < 1 →
 R (.tuple #[.pointer none, .int .i64 1]) w) ∧
 ((1 : Int) ≤ n1 →
 (n1 > 400 →
 R (.tuple #[.pointer none, .int .i64 1]) w) ∧
 (n1 ≤ 400 →
 ∃ (a3 : Option Addr) (a2 : Nat) (a4 : Nat) (a1 : World), (Instr.makeSlice 75 (.int .i64 n1) (.int .i64 n1)).run Try.prog w = .ok (.slice a3 a2 a4) a1 ∧
 ∀ (a0 : World) (q7 : Nat), Ext no a1 a0 → Blk a0 q7 79 [.slice a3 a2 a4, .slice none 0 0, .int .i64 0, .bool false, .int .i64 0, .int .i64 0] → a1.heap.size ≤ q7 → q7 < a0.heap.size →
 R (.tuple #[.pointer (some (blk q7)), .int .i64 0]) a0))

theorem disk_New.up (n1 : Int) {R : Value → World → Prop} {w : World} (h : disk_New.N n1 R w) : disk_New.M n1 R w := by
  unfold disk_New.M
  unfold disk_New.N at h
  refine bif_of (fun c2 => ?_) (fun c2 => ?_)
  · have h := h.1 (of_decide_eq_true c2)
    exact h
  · have h := h.2 (Int.not_lt.1 (of_decide_eq_false c2))
    refine bif_of (fun c3 => ?_) (fun c3 => ?_)
    · have h := h.1 (of_decide_eq_true c3)
      exact h
    · have h := h.2 (Int.not_lt.1 (of_decide_eq_false c3))
      obtain ⟨a2, a1, a4, a0, hr, h⟩ := h
      refine ⟨a2, a1, a4, a0, hr, ?_⟩
      refine thenW_in fun a3 e6 => ?_
      have h := h a3 a0.heap.size ((Ext.refl no a0).x_alloc e6) (Blk.of_new e6) ((Ext.refl no a0)).size (size_lt_alloc e6)
      exact h

theorem disk_New.go (n1 : Int) {R : Value → World → Prop} {w : World} (h : disk_New.N n1 R w) : Calls Try.prog 19 #[.int .i64 n1] w fun e w' => ∃ v, e = .returned v ∧ R v w' := disk_New.ok n1 (disk_New.up n1 h)
/-- (*disk.Disk).Sectors -/
def disk_Disk_Sectors.M (d1 : Option Addr) (R : Value → World → Prop) (w : World) : Prop :=
 bif Option.isNone d1 then (
 R (.int .i64 0) w) else (
 d1.elim False fun a2 =>
 ∃ (a3 : Option Addr) (a0 : Nat) (a1 : Nat), w.cell? (a2.add 0) = some (.slice a3 a0 a1) ∧
 R (.int .i64 (a0 : Int)) w)

theorem disk_Disk_Sectors.eq (d1 : Option Addr) (R : Value → World → Prop) (w : World) : mfunc Try.prog [] 53 [.pointer d1] R w = disk_Disk_Sectors.M d1 R w := by kernel_rfl
theorem disk_Disk_Sectors.ok (d1 : Option Addr) {R : Value → World → Prop} {w : World} (h : disk_Disk_Sectors.M d1 R w) : Calls Try.prog 53 #[.pointer d1] w fun e w' => ∃ v, e = .returned v ∧ R v w' :=
  mfunc_ok follows (H := []) (args := [.pointer d1]) (by rw [disk_Disk_Sectors.eq]; exact h)

def disk_Disk_Sectors.N (d1 : Option Addr) (R : Value → World → Prop) (w : World) : Prop :=
 (d1 = none →
 R (.int .i64 0) w) ∧
 (d1 ≠ none →
 ∃ a3 : Addr, d1 = some a3 ∧
 ∃ (a1 : Option Addr) (a0 : Nat) (a2 : Nat), w.cell? (a3.add 0) = some (.slice a1 a0 a2) ∧
 R (.int .i64 (a0 : Int)) w)

theorem disk_Disk_Sectors.up (d1 : Option Addr) {R : Value → World → Prop} {w : World} (h : disk_Disk_Sectors.N d1 R w) : disk_Disk_Sectors.M d1 R w := by
  unfold disk_Disk_Sectors.M
  unfold disk_Disk_Sectors.N at h
  refine bif_of (fun c2 => ?_) (fun c2 => ?_)
  · have h := h.1 (isNone_t c2)
    exact h
  · have h := h.2 (isNone_f c2)
    obtain ⟨a3, a5, h⟩ := h
    refine elim_some a5 ?_
    obtain ⟨a2, a1, a0, a4, h⟩ := h
    refine ⟨a2, a1, a0, a4, ?_⟩
    exact h

theorem disk_Disk_Sectors.go (d1 : Option Addr) {R : Value → World → Prop} {w : World} (h : disk_Disk_Sectors.N d1 R w) : Calls Try.prog 53 #[.pointer d1] w fun e w' => ∃ v, e = .returned v ∧ R v w' := disk_Disk_Sectors.ok d1 (disk_Disk_Sectors.up d1 h)
theorem disk_Disk_Sectors.run (d1 : Option Addr) {V : Value} {Q : World → Prop} {w : World} (h : disk_Disk_Sectors.N d1 (fun v w' => v = V ∧ Q w') w) : Calls Try.prog 53 #[.pointer d1] w (Ret V Q) := (disk_Disk_Sectors.go d1 h).mono fun e w' ⟨v, he, hv, hq⟩ => ⟨by rw [he, hv], hq⟩

/-- (*disk.Disk).is -/
def disk_Disk_is.M (d1 : Option Addr) (R : Value → World → Prop) (w : World) : Prop :=
 bif Option.isNone d1 then (
 R (.int .i64 23) w) else (
 d1.elim False fun a2 =>
 ∃ (a0 : Int), w.cell? (a2.add 4) = some (.int .i64 a0) ∧
 bif a0 == 1 then (
 R (.int .i64 19) w) else (
 R (.int .i64 0) w))

theorem disk_Disk_is.eq (d1 : Option Addr) (R : Value → World → Prop) (w : World) : mfunc Try.prog [] 43 [.pointer d1] R w = disk_Disk_is.M d1 R w := by kernel_rfl
theorem disk_Disk_is.ok (d1 : Option Addr) {R : Value → World → Prop} {w : World} (h : disk_Disk_is.M d1 R w) : Calls Try.prog 43 #[.pointer d1] w fun e w' => ∃ v, e = .returned v ∧ R v w' :=
  mfunc_ok follows (H := []) (args := [.pointer d1]) (by rw [disk_Disk_is.eq]; exact h)

def disk_Disk_is.N (d1 : Option Addr) (R : Value → World → Prop) (w : World) : Prop :=
 (d1 = none →
 R (.int .i64 23) w) ∧
 (d1 ≠ none →
 ∃ a3 : Addr, d1 = some a3 ∧
 ∃ (a0 : Int), w.cell? (a3.add 4) = some (.int .i64 a0) ∧
 (a0 = 1 →
 R (.int .i64 19) w) ∧
 (a0 ≠ 1 →
 R (.int .i64 0) w))

theorem disk_Disk_is.up (d1 : Option Addr) {R : Value → World → Prop} {w : World} (h : disk_Disk_is.N d1 R w) : disk_Disk_is.M d1 R w := by
  unfold disk_Disk_is.M
  unfold disk_Disk_is.N at h
  refine bif_of (fun c2 => ?_) (fun c2 => ?_)
  · have h := h.1 (isNone_t c2)
    exact h
  · have h := h.2 (isNone_f c2)
    obtain ⟨a3, a2, h⟩ := h
    refine elim_some a2 ?_
    obtain ⟨a0, a1, h⟩ := h
    refine ⟨a0, a1, ?_⟩
    refine bif_of (fun c6 => ?_) (fun c6 => ?_)
    · have h := h.1 (beq_t c6)
      exact h
    · have h := h.2 (beq_f c6)
      exact h

theorem disk_Disk_is.go (d1 : Option Addr) {R : Value → World → Prop} {w : World} (h : disk_Disk_is.N d1 R w) : Calls Try.prog 43 #[.pointer d1] w fun e w' => ∃ v, e = .returned v ∧ R v w' := disk_Disk_is.ok d1 (disk_Disk_is.up d1 h)
theorem disk_Disk_is.run (d1 : Option Addr) {V : Value} {Q : World → Prop} {w : World} (h : disk_Disk_is.N d1 (fun v w' => v = V ∧ Q w') w) : Calls Try.prog 43 #[.pointer d1] w (Ret V Q) := (disk_Disk_is.go d1 h).mono fun e w' ⟨v, he, hv, hq⟩ => ⟨by rw [he, hv], hq⟩

/-- (*disk.Disk).has -/
def disk_Disk_has.M (d1 : Option Addr) (i2 : Int) (R : Value → World → Prop) (w : World) : Prop :=
 Calls Try.prog 43 #[.pointer d1] w fun a5 a4 => ∃ (a3 : Int), a5 = .returned (.int .i64 a3) ∧
 bif a3 != 0 then (
 R (.int .i64 a3) a4) else (
 bif decide (i2 < 0) then (
 R (.int .i64 2) a4) else (
 d1.elim False fun a6 =>
 ∃ (a2 : Option Addr) (a0 : Nat) (a1 : Nat), a4.cell? (a6.add 0) = some (.slice a2 a0 a1) ∧
 bif decide (i2 ≥ (a0 : Int)) then (
 R (.int .i64 2) a4) else (
 R (.int .i64 0) a4)))

theorem disk_Disk_has.eq (d1 : Option Addr) (i2 : Int) (R : Value → World → Prop) (w : World) : mfunc Try.prog [] 46 [.pointer d1, .int .i64 i2] R w = disk_Disk_has.M d1 i2 R w := by kernel_rfl
theorem disk_Disk_has.ok (d1 : Option Addr) (i2 : Int) {R : Value → World → Prop} {w : World} (h : disk_Disk_has.M d1 i2 R w) : Calls Try.prog 46 #[.pointer d1, .int .i64 i2] w fun e w' => ∃ v, e = .returned v ∧ R v w' :=
  mfunc_ok follows (H := []) (args := [.pointer d1, .int .i64 i2]) (by rw [disk_Disk_has.eq]; exact h)

def disk_Disk_has.N (d1 : Option Addr) (i2 : Int) (R : Value → World → Prop) (w : World) : Prop :=
 Calls Try.prog 43 #[.pointer d1] w fun a5 a4 => ∃ (a3 : Int), a5 = .returned (.int .i64 a3) ∧
 (a3 ≠ 0 →
 R (.int .i64 a3) a4) ∧
 (a3 = 0 →
 (i2 < 0 →
 R (.int .i64 2) a4) ∧
 ((0 : Int) ≤ i2 →
 ∃ a8 : Addr, d1 = some a8 ∧
 ∃ (a2 : Option Addr) (a0 : Nat) (a1 : Nat), a4.cell? (a8.add 0) = some (.slice a2 a0 a1) ∧
 (i2 ≥ (a0 : Int) →
 R (.int .i64 2) a4) ∧
 (i2 < (a0 : Int) →
 R (.int .i64 0) a4)))

theorem disk_Disk_has.up (d1 : Option Addr) (i2 : Int) {R : Value → World → Prop} {w : World} (h : disk_Disk_has.N d1 i2 R w) : disk_Disk_has.M d1 i2 R w := by
  unfold disk_Disk_has.M
  unfold disk_Disk_has.N at h
  refine h.mono fun a9 a7 h => ?_
  obtain ⟨a4, he, h⟩ := h
  refine ⟨a4, he, ?_⟩
  refine bif_of (fun c6 => ?_) (fun c6 => ?_)
  · have h := h.1 (bne_t c6)
    exact h
  · have h := h.2 (bne_f c6)
    refine bif_of (fun c7 => ?_) (fun c7 => ?_)
    · have h := h.1 (of_decide_eq_true c7)
      exact h
    · have h := h.2 (Int.not_lt.1 (of_decide_eq_false c7))
      obtain ⟨a8, a6, h⟩ := h
      refine elim_some a6 ?_
      obtain ⟨a2, a0, a1, a5, h⟩ := h
      refine ⟨a2, a0, a1, a5, ?_⟩
      refine bif_of (fun a3 => ?_) (fun a3 => ?_)
      · have h := h.1 (of_decide_eq_true a3)
        exact h
      · have h := h.2 (Int.not_le.1 (of_decide_eq_false a3))
        exact h

theorem disk_Disk_has.go (d1 : Option Addr) (i2 : Int) {R : Value → World → Prop} {w : World} (h : disk_Disk_has.N d1 i2 R w) : Calls Try.prog 46 #[.pointer d1, .int .i64 i2] w fun e w' => ∃ v, e = .returned v ∧ R v w' := disk_Disk_has.ok d1 i2 (disk_Disk_has.up d1 i2 h)
theorem disk_Disk_has.run (d1 : Option Addr) (i2 : Int) {V : Value} {Q : World → Prop} {w : World} (h : disk_Disk_has.N d1 i2 (fun v w' => v = V ∧ Q w') w) : Calls Try.prog 46 #[.pointer d1, .int .i64 i2] w (Ret V Q) := (disk_Disk_has.go d1 i2 h).mono fun e w' ⟨v, he, hv, hq⟩ => ⟨by rw [he, hv], hq⟩

/-- (*disk.Disk).Read -/
def disk_Disk_Read.M (d1 : Option Addr) (i2 : Int) (R : Value → World → Prop) (w : World) : Prop :=
 Calls Try.prog 46 #[.pointer d1, .int .i64 i2] w fun aq aa => ∃ (ac : Int), aq = .returned (.int .i64 ac) ∧
 bif ac != 0 then (
 R (.tuple #[.slice none 0 0, .int .i64 ac]) aa) else (
 d1.elim False fun a6 =>
 ∃ (a4 : Option Addr) (a3 : Nat) (ad : Nat), aa.cell? (a6.add 0) = some (.slice a4 a3 ad) ∧
 a4.elim False fun a8 =>
 0 ≤ (i2 : Int) ∧ (i2 : Int) < (a3 : Int) ∧
 ∃ x9 : Array Value, szB Try.prog 88 x9.size = true ∧ cellsAt aa (a8.add (Int.toNat i2 * 65)) x9.toList 0 ∧
 thenW (aa.alloc (.cells (List.toArray (List.replicate 64 (.int .u8 0) ++ [.bool false])) 88)) fun ah =>
 bif szB Try.prog 88 x9.size then storesK (blk aa.heap.size) x9.toList 0 ah fun ae =>
 d1.elim False fun ao =>
 ∃ (a2 : Option Addr) (a1 : Nat) (a9 : Nat), ae.cell? (ao.add 1) = some (.slice a2 a1 a9) ∧
 ∃ (I0 : Nat → List Value → World → Prop) (ap : Nat), I0 ap [.int .i64 0] ae ∧ ∀ (ai : Nat) (a0 : World) (ab : Int), I0 ai [.int .i64 ab] a0 →
 bif decide (ab < (a1 : Int)) then (
 a2.elim False fun ar =>
 0 ≤ (ab : Int) ∧ (ab : Int) < (a1 : Int) ∧
 ∃ af : Array Value, szB Try.prog 90 af.size = true ∧ cellsAt a0 (ar.add (Int.toNat ab * 66)) af.toList 0 ∧
 thenW (a0.alloc (.cells (List.toArray ([.int .i64 0] ++ List.replicate 64 (.int .u8 0) ++ [.bool false])) 90)) fun aj =>
 bif szB Try.prog 90 af.size then storesK (blk a0.heap.size) af.toList 0 aj fun a7 =>
 ∃ (am : Int), a7.cell? ((blk a0.heap.size).add 0) = some (.int .i64 am) ∧
 bif am == i2 then (
 ∃ ag : Array Value, szB Try.prog 88 ag.size = true ∧ cellsAt a7 ((blk a0.heap.size).add 1) ag.toList 0 ∧
 bif szB Try.prog 88 ag.size then storesK (blk aa.heap.size) ag.toList 0 a7 fun ak =>
 ∃ an, an < ai ∧ I0 an [.int .i64 (IntKind.i64.wrap (ab + 1))] ak
 else False) else (
 ∃ al, al < ai ∧ I0 al [.int .i64 (IntKind.i64.wrap (ab + 1))] a7)
 else False) else (
 ∃ (a5 : Bool), a0.cell? ((blk aa.heap.size).add 64) = some (.bool a5) ∧
 bif a5 then (
 R (.tuple #[.slice none 0 0, .int .i64 5]) a0) else (
 R (.tuple #[.slice (some (if 64 = 0 then ((blk aa.heap.size).add 0) else ((blk aa.heap.size).add 0).add (0 * 1))) (64 - 0) (64 - 0), .int .i64 0]) a0))
 else False)

theorem disk_Disk_Read.eq (d1 : Option Addr) (i2 : Int) (R : Value → World → Prop) (w : World) : mfunc Try.prog [(0, [1, 7, 26, 27], [(28, (.one (.int .i64)))])] 50 [.pointer d1, .int .i64 i2] R w = disk_Disk_Read.M d1 i2 R w := by kernel_rfl
theorem disk_Disk_Read.ok (d1 : Option Addr) (i2 : Int) {R : Value → World → Prop} {w : World} (h : disk_Disk_Read.M d1 i2 R w) : Calls Try.prog 50 #[.pointer d1, .int .i64 i2] w fun e w' => ∃ v, e = .returned v ∧ R v w' :=
  mfunc_ok follows (H := [(0, [1, 7, 26, 27], [(28, (.one (.int .i64)))])]) (args := [.pointer d1, .int .i64 i2]) (by rw [disk_Disk_Read.eq]; exact h)

def disk_Disk_Read.N (d1 : Option Addr) (i2 : Int) (R : Value → World → Prop) (w : World) : Prop :=
 Calls Try.prog 46 #[.pointer d1, .int .i64 i2] w fun au ah => ∃ (a9 : Int), au = .returned (.int .i64 a9) ∧
 (a9 ≠ 0 →
 R (.tuple #[.slice none 0 0, .int .i64 a9]) ah) ∧
 (a9 = 0 →
 ∃ a7 : Addr, d1 = some a7 ∧
 ∃ (a5 : Option Addr) (a6 : Nat) (ae : Nat), ah.cell? (a7.add 0) = some (.slice a5 a6 ae) ∧
 ∃ ao : Addr, a5 = some ao ∧
 0 ≤ (i2 : Int) ∧ (i2 : Int) < (a6 : Int) ∧
 ∃ ai : Array Value, szB Try.prog 88 ai.size = true ∧ cellsAt ah (ao.add (Int.toNat i2 * 65)) ai.toList 0 ∧
 ∀ (aa : World) (ad : Nat), Ext no ah aa → Blk aa ad 88 (List.replicate 64 (.int .u8 0) ++ [.bool false]) → ah.heap.size ≤ ad → ad < aa.heap.size →
 szB Try.prog 88 ai.size = true ∧
 storesK (blk ad) ai.toList 0 aa fun ag =>
 ∃ (a3 : Option Addr) (a0 : Nat) (ab : Nat), ag.cell? (a7.add 1) = some (.slice a3 a0 ab) ∧
 ∃ (I0 : Nat → List Value → World → Prop) (av : Nat), I0 av [.int .i64 0] ag ∧ ∀ (al : Nat) (a1 : World) (a4 : Int), I0 al [.int .i64 a4] a1 →
 (a4 < (a0 : Int) →
 ∃ ap : Addr, a3 = some ap ∧
 0 ≤ (a4 : Int) ∧ (a4 : Int) < (a0 : Int) ∧
 ∃ ak : Array Value, szB Try.prog 90 ak.size = true ∧ cellsAt a1 (ap.add (Int.toNat a4 * 66)) ak.toList 0 ∧
 ∀ (ac : World) (af : Nat), Ext no a1 ac → Blk ac af 90 ([.int .i64 0] ++ List.replicate 64 (.int .u8 0) ++ [.bool false]) → a1.heap.size ≤ af → af < ac.heap.size →
 szB Try.prog 90 ak.size = true ∧
 storesK (blk af) ak.toList 0 ac fun a8 =>
 ∃ (an : Int), a8.cell? ((blk af).add 0) = some (.int .i64 an) ∧
 (an = i2 →
 ∃ aj : Array Value, szB Try.prog 88 aj.size = true ∧ cellsAt a8 ((blk af).add 1) aj.toList 0 ∧
 szB Try.prog 88 aj.size = true ∧
 storesK (blk ad) aj.toList 0 a8 fun am =>
 (-9223372036854775808 : Int) ≤ (a4 + 1) ∧ (a4 + 1) < 9223372036854775808 ∧
 ∃ aq, aq < al ∧ I0 aq [.int .i64 (a4 + 1)] am) ∧
 (an ≠ i2 →
 (-9223372036854775808 : Int) ≤ (a4 + 1) ∧ (a4 + 1) < 9223372036854775808 ∧
 ∃ ar, ar < al ∧ I0 ar [.int .i64 (a4 + 1)] a8)) ∧
 ((a0 : Int) ≤ a4 →
 ∃ (a2 : Bool), a1.cell? ((blk ad).add 64) = some (.bool a2) ∧
 (a2 = true →
 R (.tuple #[.slice none 0 0, .int .i64 5]) a1) ∧
 (a2 = false →
 R (.tuple #[.slice (some (if 64 = 0 then ((blk ad).add 0) else ((blk ad).add 0).add (0 * 1))) (64 - 0) (64 - 0), .int .i64 0]) a1)))

theorem disk_Disk_Read.up (d1 : Option Addr) (i2 : Int) {R : Value → World → Prop} {w : World} (h : disk_Disk_Read.N d1 i2 R w) : disk_Disk_Read.M d1 i2 R w := by
  unfold disk_Disk_Read.M
  unfold disk_Disk_Read.N at h
  refine h.mono fun bb ah h => ?_
  obtain ⟨ad, he, h⟩ := h
  refine ⟨ad, he, ?_⟩
  refine bif_of (fun c6 => ?_) (fun c6 => ?_)
  · have h := h.1 (bne_t c6)
    exact h
  · have h := h.2 (bne_f c6)
    obtain ⟨a7, aw, h⟩ := h
    refine elim_some aw ?_
    obtain ⟨a5, a8, a4, b4, h⟩ := h
    refine ⟨a5, a8, a4, b4, ?_⟩
    obtain ⟨bc, ac, h⟩ := h
    refine elim_some ac ?_
    obtain ⟨ak, ae, h⟩ := h
    refine ⟨ak, ae, ?_⟩
    obtain ⟨ay, hz, aq, h⟩ := h
    refine ⟨ay, hz, aq, ?_⟩
    refine thenW_in fun ag af => ?_
    have h := h ag ah.heap.size ((Ext.refl no ah).x_alloc af) (Blk.of_new af) ((Ext.refl no ah)).size (size_lt_alloc af)
    obtain ⟨hsz, h⟩ := h
    refine bif_tt hsz ?_
    refine storesK_ext h fun az ba h => ?_
    refine elim_some aw ?_
    obtain ⟨a3, a2, a1, an, h⟩ := h
    refine ⟨a3, a2, a1, an, ?_⟩
    obtain ⟨I0, b3, h0, h⟩ := h
    refine ⟨I0, b3, h0, fun b0 a0 b7 hI => ?_⟩
    have h := h b0 a0 b7 hI
    refine bif_of (fun am => ?_) (fun am => ?_)
    · have h := h.1 (of_decide_eq_true am)
      obtain ⟨be, ap, h⟩ := h
      refine elim_some ap ?_
      obtain ⟨ak, ae, h⟩ := h
      refine ⟨ak, ae, ?_⟩
      obtain ⟨b8, hz, ab, h⟩ := h
      refine ⟨b8, hz, ab, ?_⟩
      refine thenW_in fun aj aa => ?_
      have h := h aj a0.heap.size ((Ext.refl no a0).x_alloc aa) (Blk.of_new aa) ((Ext.refl no a0)).size (size_lt_alloc aa)
      obtain ⟨hsz, h⟩ := h
      refine bif_tt hsz ?_
      refine storesK_ext h fun ax bf h => ?_
      obtain ⟨b9, ar, h⟩ := h
      refine ⟨b9, ar, ?_⟩
      refine bif_of (fun al => ?_) (fun al => ?_)
      · have h := h.1 (beq_t al)
        obtain ⟨b5, hz, ao, h⟩ := h
        refine ⟨b5, hz, ao, ?_⟩
        obtain ⟨hsz, h⟩ := h
        refine bif_tt hsz ?_
        refine storesK_ext h fun b6 bd h => ?_
        obtain ⟨a9, ai, h⟩ := h
        try rw [w64 a9 ai]
        obtain ⟨b1, hk, h⟩ := h
        exact ⟨b1, hk, h⟩
      · have h := h.2 (beq_f al)
        obtain ⟨a9, ai, h⟩ := h
        try rw [w64 a9 ai]
        obtain ⟨b2, hk, h⟩ := h
        exact ⟨b2, hk, h⟩
    · have h := h.2 (Int.not_lt.1 (of_decide_eq_false am))
      obtain ⟨a6, au, h⟩ := h
      refine ⟨a6, au, ?_⟩
      refine bif_of (fun av => ?_) (fun av => ?_)
      · have h := h.1 av
        exact h
      · have h := h.2 av
        exact h

theorem disk_Disk_Read.go (d1 : Option Addr) (i2 : Int) {R : Value → World → Prop} {w : World} (h : disk_Disk_Read.N d1 i2 R w) : Calls Try.prog 50 #[.pointer d1, .int .i64 i2] w fun e w' => ∃ v, e = .returned v ∧ R v w' := disk_Disk_Read.ok d1 i2 (disk_Disk_Read.up d1 i2 h)
/-- (*disk.Disk).settle -/
def disk_Disk_settle.M (d1 : Option Addr) (a0 : Nat) (a7 : Array Value) (aa : Array Value) (R : Value → World → Prop) (w : World) : Prop :=
 d1.elim False fun a3 =>
 ∃ (a8 : Option Addr) (a1 : Nat) (ah : Nat), w.cell? (a3.add 1) = some (.slice a8 a1 ah) ∧
 ∃ (I0 : Nat → List Value → World → Prop) (m6 : Nat), I0 m6 [.int .i64 0] w ∧ ∀ (m7 : Nat) (ab : World) (t5 : Int), I0 m7 [.int .i64 t5] ab →
 bif decide (t5 < (a1 : Int)) then (
 a8.elim False fun a9 =>
 0 ≤ (t5 : Int) ∧ (t5 : Int) < (a1 : Int) ∧
 ∃ al : Array Value, szB Try.prog 90 al.size = true ∧ cellsAt ab (a9.add (Int.toNat t5 * 66)) al.toList 0 ∧
 thenW (ab.alloc (.cells (List.toArray ([.int .i64 0] ++ List.replicate 64 (.int .u8 0) ++ [.bool false])) 90)) fun au =>
 bif szB Try.prog 90 al.size then storesK (blk ab.heap.size) al.toList 0 au fun ai =>
 bif enters Try.prog a0 then Calls Try.prog a0 (a7.toList ++ ([.int .i64 t5] : List Value) ++ aa.toList).toArray ai (fun aw aj => ∃ (ak : Bool), aw = .returned (.bool ak) ∧
 bif ak then (
 thenW (aj.drew) fun ac =>
 d1.elim False fun b3 =>
 ∃ (a4 : Option Addr) (a2 : Nat) (ad : Nat), ac.cell? (b3.add 0) = some (.slice a4 a2 ad) ∧
 ∃ (am : Int), ac.cell? ((blk ab.heap.size).add 0) = some (.int .i64 am) ∧
 ∃ an : Array Value, szB Try.prog 88 an.size = true ∧ cellsAt ac ((blk ab.heap.size).add 1) an.toList 0 ∧
 a4.elim False fun b2 =>
 0 ≤ (am : Int) ∧ (am : Int) < (a2 : Int) ∧
 bif szB Try.prog 88 an.size then storesK (b2.add (Int.toNat am * 65)) an.toList 0 ac fun aq =>
 ∃ az, az < m7 ∧ I0 az [.int .i64 (IntKind.i64.wrap (t5 + 1))] aq
 else False) else (
 ∃ b1, b1 < m7 ∧ I0 b1 [.int .i64 (IntKind.i64.wrap (t5 + 1))] aj)) else (∃ (ak : Bool) (ag : World), (externCall a0 (a7.toList ++ ([.int .i64 t5] : List Value) ++ aa.toList).toArray).run Try.prog ai = .ok (.bool ak) ag ∧
 bif ak then (
 thenW (ag.drew) fun ae =>
 d1.elim False fun b4 =>
 ∃ (a6 : Option Addr) (a5 : Nat) (af : Nat), ae.cell? (b4.add 0) = some (.slice a6 a5 af) ∧
 ∃ (ao : Int), ae.cell? ((blk ab.heap.size).add 0) = some (.int .i64 ao) ∧
 ∃ ap : Array Value, szB Try.prog 88 ap.size = true ∧ cellsAt ae ((blk ab.heap.size).add 1) ap.toList 0 ∧
 a6.elim False fun b5 =>
 0 ≤ (ao : Int) ∧ (ao : Int) < (a5 : Int) ∧
 bif szB Try.prog 88 ap.size then storesK (b5.add (Int.toNat ao * 65)) ap.toList 0 ae fun av =>
 ∃ b0, b0 < m7 ∧ I0 b0 [.int .i64 (IntKind.i64.wrap (t5 + 1))] av
 else False) else (
 ∃ ax, ax < m7 ∧ I0 ax [.int .i64 (IntKind.i64.wrap (t5 + 1))] ag))
 else False) else (
 d1.elim False fun ay =>
 canStore ab ((ay.add 1).add 0) ∧
 thenW (ab.setCell ((ay.add 1).add 0) (.slice none 0 0)) fun ar =>
 R (.tuple #[]) ar)

theorem disk_Disk_settle.eq (d1 : Option Addr) (keep2k : Nat) (keep2f : Array Value) (keep2g : Array Value) (R : Value → World → Prop) (w : World) : mfunc Try.prog [(0, [0, 1, 9, 10], [(11, (.one (.int .i64)))])] 45 [.pointer d1, .func (.func keep2k) keep2f keep2g] R w = disk_Disk_settle.M d1 keep2k keep2f keep2g R w := by kernel_rfl
theorem disk_Disk_settle.ok (d1 : Option Addr) (a0 : Nat) (a2 : Array Value) (a1 : Array Value) {R : Value → World → Prop} {w : World} (h : disk_Disk_settle.M d1 a0 a2 a1 R w) : Calls Try.prog 45 #[.pointer d1, .func (.func a0) a2 a1] w fun e w' => ∃ v, e = .returned v ∧ R v w' :=
  mfunc_ok follows (H := [(0, [0, 1, 9, 10], [(11, (.one (.int .i64)))])]) (args := [.pointer d1, .func (.func a0) a2 a1]) (by rw [disk_Disk_settle.eq]; exact h)

def disk_Disk_settle.N (d1 : Option Addr) (a5 : Nat) (a9 : Array Value) (ab : Array Value) (R : Value → World → Prop) (w : World) : Prop :=
 ∃ a3 : Addr, d1 = some a3 ∧
 ∃ (a6 : Option Addr) (a0 : Nat) (aa : Nat), w.cell? (a3.add 1) = some (.slice a6 a0 aa) ∧
 ∃ (I0 : Nat → List Value → World → Prop) (m7 : Nat), I0 m7 [.int .i64 0] w ∧ ∀ (m8 : Nat) (ac : World) (t6 : Int), I0 m8 [.int .i64 t6] ac →
 (t6 < (a0 : Int) →
 ∃ aq : Addr, a6 = some aq ∧
 0 ≤ (t6 : Int) ∧ (t6 : Int) < (a0 : Int) ∧
 ∃ ag : Array Value, szB Try.prog 90 ag.size = true ∧ cellsAt ac (aq.add (Int.toNat t6 * 66)) ag.toList 0 ∧
 ∀ (a7 : World) (ad : Nat), Ext no ac a7 → Blk a7 ad 90 ([.int .i64 0] ++ List.replicate 64 (.int .u8 0) ++ [.bool false]) → ac.heap.size ≤ ad → ad < a7.heap.size →
 szB Try.prog 90 ag.size = true ∧
 storesK (blk ad) ag.toList 0 a7 fun ai =>
 enters Try.prog a5 = true ∧ Calls Try.prog a5 (a9.toList ++ ([.int .i64 t6] : List Value) ++ ab.toList).toArray ai (fun am a4 => ∃ (ak : Bool), am = .returned (.bool ak) ∧
 (ak = true →
 ∃ (a2 : Option Addr) (a1 : Nat) (a8 : Nat), a4.cell? (a3.add 0) = some (.slice a2 a1 a8) ∧
 ∃ (af : Int), a4.cell? ((blk ad).add 0) = some (.int .i64 af) ∧
 ∃ ah : Array Value, szB Try.prog 88 ah.size = true ∧ cellsAt a4 ((blk ad).add 1) ah.toList 0 ∧
 ∃ ap : Addr, a2 = some ap ∧
 0 ≤ (af : Int) ∧ (af : Int) < (a1 : Int) ∧
 ∀ (ae : World), Ext no a4 ae →
 szB Try.prog 88 ah.size = true ∧
 storesK (ap.add (Int.toNat af * 65)) ah.toList 0 ae fun aj =>
 (-9223372036854775808 : Int) ≤ (t6 + 1) ∧ (t6 + 1) < 9223372036854775808 ∧
 ∃ ao, ao < m8 ∧ I0 ao [.int .i64 (t6 + 1)] aj) ∧
 (ak = false →
 (-9223372036854775808 : Int) ≤ (t6 + 1) ∧ (t6 + 1) < 9223372036854775808 ∧
 ∃ an, an < m8 ∧ I0 an [.int .i64 (t6 + 1)] a4))) ∧
 ((a0 : Int) ≤ t6 →
 canStore ac ((a3.add 1).add 0) ∧
 thenW (ac.setCell ((a3.add 1).add 0) (.slice none 0 0)) fun al =>
 R (.tuple #[]) al)

theorem disk_Disk_settle.up (d1 : Option Addr) (a1 : Nat) (a0 : Array Value) (a2 : Array Value) {R : Value → World → Prop} {w : World} (h : disk_Disk_settle.N d1 a1 a0 a2 R w) : disk_Disk_settle.M d1 a1 a0 a2 R w := by
  unfold disk_Disk_settle.M
  unfold disk_Disk_settle.N at h
  obtain ⟨a3, af, h⟩ := h
  refine elim_some af ?_
  obtain ⟨aa, a8, a9, av, h⟩ := h
  refine ⟨aa, a8, a9, av, ?_⟩
  obtain ⟨I0, m7, h0, h⟩ := h
  refine ⟨I0, m7, h0, fun m8 ab t6 hI => ?_⟩
  have h := h m8 ab t6 hI
  refine bif_of (fun al => ?_) (fun al => ?_)
  · have h := h.1 (of_decide_eq_true al)
    obtain ⟨bb, am, h⟩ := h
    refine elim_some am ?_
    obtain ⟨aq, ai, h⟩ := h
    refine ⟨aq, ai, ?_⟩
    obtain ⟨b0, hz, ao, h⟩ := h
    refine ⟨b0, hz, ao, ?_⟩
    refine thenW_in fun ah ap => ?_
    have h := h ah ab.heap.size ((Ext.refl no ab).x_alloc ap) (Blk.of_new ap) ((Ext.refl no ab)).size (size_lt_alloc ap)
    obtain ⟨hsz, h⟩ := h
    refine bif_tt hsz ?_
    refine storesK_ext h fun ay b8 h => ?_
    obtain ⟨hen, h⟩ := h
    refine bif_tt hen ?_
    refine h.mono fun b5 ad h => ?_
    obtain ⟨b3, he, h⟩ := h
    refine ⟨b3, he, ?_⟩
    refine bif_of (fun ar => ?_) (fun ar => ?_)
    · have h := h.1 ar
      refine thenW_in fun ag b6 => ?_
      have a7 := (Ext.refl no ad).x_drew b6
      refine elim_some af ?_
      obtain ⟨a5, a4, a6, an, h⟩ := h
      refine ⟨a5, a4, a6, (a7).cell an id, ?_⟩
      obtain ⟨aw, ae, h⟩ := h
      refine ⟨aw, (a7).cell ae id, ?_⟩
      obtain ⟨b1, hz, ak, h⟩ := h
      refine ⟨b1, hz, cellsAt_no (a7) ak, ?_⟩
      obtain ⟨ba, aj, h⟩ := h
      refine elim_some aj ?_
      obtain ⟨aq, ai, h⟩ := h
      refine ⟨aq, ai, ?_⟩
      have h := h ag a7
      obtain ⟨hsz, h⟩ := h
      refine bif_tt hsz ?_
      refine storesK_ext h fun az b9 h => ?_
      obtain ⟨ac, au, h⟩ := h
      try rw [w64 ac au]
      obtain ⟨b2, hk, h⟩ := h
      exact ⟨b2, hk, h⟩
    · have h := h.2 ar
      obtain ⟨ac, au, h⟩ := h
      try rw [w64 ac au]
      obtain ⟨ax, hk, h⟩ := h
      exact ⟨ax, hk, h⟩
  · have h := h.2 (Int.not_lt.1 (of_decide_eq_false al))
    refine elim_some af ?_
    obtain ⟨hcs, h⟩ := h
    refine ⟨hcs, thenW_in fun b4 b7 => ?_⟩
    replace h := thenW_out h b7
    exact h

theorem disk_Disk_settle.go (d1 : Option Addr) (a0 : Nat) (a2 : Array Value) (a1 : Array Value) {R : Value → World → Prop} {w : World} (h : disk_Disk_settle.N d1 a0 a2 a1 R w) : Calls Try.prog 45 #[.pointer d1, .func (.func a0) a2 a1] w fun e w' => ∃ v, e = .returned v ∧ R v w' := disk_Disk_settle.ok d1 a0 a2 a1 (disk_Disk_settle.up d1 a0 a2 a1 h)
theorem disk_Disk_settle.run (d1 : Option Addr) (a0 : Nat) (a2 : Array Value) (a1 : Array Value) {V : Value} {Q : World → Prop} {w : World} (h : disk_Disk_settle.N d1 a0 a2 a1 (fun v w' => v = V ∧ Q w') w) : Calls Try.prog 45 #[.pointer d1, .func (.func a0) a2 a1] w (Ret V Q) := (disk_Disk_settle.go d1 a0 a2 a1 h).mono fun e w' ⟨v, he, hv, hq⟩ => ⟨by rw [he, hv], hq⟩

/-- (*disk.Disk).Write -/
def disk_Disk_Write.M (d1 : Option Addr) (i2 : Int) (d7 : Option Addr) (cz : Nat) (d5 : Nat) (R : Value → World → Prop) (w : World) : Prop :=
 Calls Try.prog 46 #[.pointer d1, .int .i64 i2] w fun dd a0 => ∃ (ak : Int), dd = .returned (.int .i64 ak) ∧
 bif ak != 0 then (
 R (.int .i64 ak) a0) else (
 bif (cz : Int) != 64 then (
 R (.int .i64 1) a0) else (
 thenW (a0.alloc (.cells (List.toArray ([.int .i64 0] ++ List.replicate 64 (.int .u8 0) ++ [.bool false])) 90)) fun cy =>
 canStore cy ((blk a0.heap.size).add 0) ∧
 thenW (cy.setCell ((blk a0.heap.size).add 0) (.int .i64 i2)) fun d0 =>
 canStore d0 ((blk a0.heap.size).add 1) ∧
 thenW (d0.setCell ((blk a0.heap.size).add 1) (.int .u8 0)) fun d3 =>
 canStore d3 ((blk a0.heap.size).add 2) ∧
 thenW (d3.setCell ((blk a0.heap.size).add 2) (.int .u8 0)) fun an =>
 canStore an ((blk a0.heap.size).add 3) ∧
 thenW (an.setCell ((blk a0.heap.size).add 3) (.int .u8 0)) fun b0 =>
 canStore b0 ((blk a0.heap.size).add 4) ∧
 thenW (b0.setCell ((blk a0.heap.size).add 4) (.int .u8 0)) fun bl =>
 canStore bl ((blk a0.heap.size).add 5) ∧
 thenW (bl.setCell ((blk a0.heap.size).add 5) (.int .u8 0)) fun ba =>
 canStore ba ((blk a0.heap.size).add 6) ∧
 thenW (ba.setCell ((blk a0.heap.size).add 6) (.int .u8 0)) fun b9 =>
 canStore b9 ((blk a0.heap.size).add 7) ∧
 thenW (b9.setCell ((blk a0.heap.size).add 7) (.int .u8 0)) fun c9 =>
 canStore c9 ((blk a0.heap.size).add 8) ∧
 thenW (c9.setCell ((blk a0.heap.size).add 8) (.int .u8 0)) fun ch =>
 canStore ch ((blk a0.heap.size).add 9) ∧
 thenW (ch.setCell ((blk a0.heap.size).add 9) (.int .u8 0)) fun bp =>
 canStore bp ((blk a0.heap.size).add 10) ∧
 thenW (bp.setCell ((blk a0.heap.size).add 10) (.int .u8 0)) fun bh =>
 canStore bh ((blk a0.heap.size).add 11) ∧
 thenW (bh.setCell ((blk a0.heap.size).add 11) (.int .u8 0)) fun bm =>
 canStore bm ((blk a0.heap.size).add 12) ∧
 thenW (bm.setCell ((blk a0.heap.size).add 12) (.int .u8 0)) fun b3 =>
 canStore b3 ((blk a0.heap.size).add 13) ∧
 thenW (b3.setCell ((blk a0.heap.size).add 13) (.int .u8 0)) fun b8 =>
 canStore b8 ((blk a0.heap.size).add 14) ∧
 thenW (b8.setCell ((blk a0.heap.size).add 14) (.int .u8 0)) fun b5 =>
 canStore b5 ((blk a0.heap.size).add 15) ∧
 thenW (b5.setCell ((blk a0.heap.size).add 15) (.int .u8 0)) fun am =>
 canStore am ((blk a0.heap.size).add 16) ∧
 thenW (am.setCell ((blk a0.heap.size).add 16) (.int .u8 0)) fun c5 =>
 canStore c5 ((blk a0.heap.size).add 17) ∧
 thenW (c5.setCell ((blk a0.heap.size).add 17) (.int .u8 0)) fun az =>
 canStore az ((blk a0.heap.size).add 18) ∧
 thenW (az.setCell ((blk a0.heap.size).add 18) (.int .u8 0)) fun bf =>
 canStore bf ((blk a0.heap.size).add 19) ∧
 thenW (bf.setCell ((blk a0.heap.size).add 19) (.int .u8 0)) fun c8 =>
 canStore c8 ((blk a0.heap.size).add 20) ∧
 thenW (c8.setCell ((blk a0.heap.size).add 20) (.int .u8 0)) fun al =>
 canStore al ((blk a0.heap.size).add 21) ∧
 thenW (al.setCell ((blk a0.heap.size).add 21) (.int .u8 0)) fun aw =>
 canStore aw ((blk a0.heap.size).add 22) ∧
 thenW (aw.setCell ((blk a0.heap.size).add 22) (.int .u8 0)) fun bu =>
 canStore bu ((blk a0.heap.size).add 23) ∧
 thenW (bu.setCell ((blk a0.heap.size).add 23) (.int .u8 0)) fun ck =>
 canStore ck ((blk a0.heap.size).add 24) ∧
 thenW (ck.setCell ((blk a0.heap.size).add 24) (.int .u8 0)) fun c4 =>
 canStore c4 ((blk a0.heap.size).add 25) ∧
 thenW (c4.setCell ((blk a0.heap.size).add 25) (.int .u8 0)) fun aq =>
 canStore aq ((blk a0.heap.size).add 26) ∧
 thenW (aq.setCell ((blk a0.heap.size).add 26) (.int .u8 0)) fun co =>
 canStore co ((blk a0.heap.size).add 27) ∧
 thenW (co.setCell ((blk a0.heap.size).add 27) (.int .u8 0)) fun cd =>
 canStore cd ((blk a0.heap.size).add 28) ∧
 thenW (cd.setCell ((blk a0.heap.size).add 28) (.int .u8 0)) fun cf =>
 canStore cf ((blk a0.heap.size).add 29) ∧
 thenW (cf.setCell ((blk a0.heap.size).add 29) (.int .u8 0)) fun bi =>
 canStore bi ((blk a0.heap.size).add 30) ∧
 thenW (bi.setCell ((blk a0.heap.size).add 30) (.int .u8 0)) fun ar =>
 canStore ar ((blk a0.heap.size).add 31) ∧
 thenW (ar.setCell ((blk a0.heap.size).add 31) (.int .u8 0)) fun c1 =>
 canStore c1 ((blk a0.heap.size).add 32) ∧
 thenW (c1.setCell ((blk a0.heap.size).add 32) (.int .u8 0)) fun b7 =>
 canStore b7 ((blk a0.heap.size).add 33) ∧
 thenW (b7.setCell ((blk a0.heap.size).add 33) (.int .u8 0)) fun bd =>
 canStore bd ((blk a0.heap.size).add 34) ∧
 thenW (bd.setCell ((blk a0.heap.size).add 34) (.int .u8 0)) fun au =>
 canStore au ((blk a0.heap.size).add 35) ∧
 thenW (au.setCell ((blk a0.heap.size).add 35) (.int .u8 0)) fun ca =>
 canStore ca ((blk a0.heap.size).add 36) ∧
 thenW (ca.setCell ((blk a0.heap.size).add 36) (.int .u8 0)) fun bs =>
 canStore bs ((blk a0.heap.size).add 37) ∧
 thenW (bs.setCell ((blk a0.heap.size).add 37) (.int .u8 0)) fun bn =>
 canStore bn ((blk a0.heap.size).add 38) ∧
 thenW (bn.setCell ((blk a0.heap.size).add 38) (.int .u8 0)) fun bt =>
 canStore bt ((blk a0.heap.size).add 39) ∧
 thenW (bt.setCell ((blk a0.heap.size).add 39) (.int .u8 0)) fun bo =>
 canStore bo ((blk a0.heap.size).add 40) ∧
 thenW (bo.setCell ((blk a0.heap.size).add 40) (.int .u8 0)) fun cm =>
 canStore cm ((blk a0.heap.size).add 41) ∧
 thenW (cm.setCell ((blk a0.heap.size).add 41) (.int .u8 0)) fun c2 =>
 canStore c2 ((blk a0.heap.size).add 42) ∧
 thenW (c2.setCell ((blk a0.heap.size).add 42) (.int .u8 0)) fun bc =>
 canStore bc ((blk a0.heap.size).add 43) ∧
 thenW (bc.setCell ((blk a0.heap.size).add 43) (.int .u8 0)) fun bv =>
 canStore bv ((blk a0.heap.size).add 44) ∧
 thenW (bv.setCell ((blk a0.heap.size).add 44) (.int .u8 0)) fun bg =>
 canStore bg ((blk a0.heap.size).add 45) ∧
 thenW (bg.setCell ((blk a0.heap.size).add 45) (.int .u8 0)) fun cl =>
 canStore cl ((blk a0.heap.size).add 46) ∧
 thenW (cl.setCell ((blk a0.heap.size).add 46) (.int .u8 0)) fun ay =>
 canStore ay ((blk a0.heap.size).add 47) ∧
 thenW (ay.setCell ((blk a0.heap.size).add 47) (.int .u8 0)) fun c3 =>
 canStore c3 ((blk a0.heap.size).add 48) ∧
 thenW (c3.setCell ((blk a0.heap.size).add 48) (.int .u8 0)) fun br =>
 canStore br ((blk a0.heap.size).add 49) ∧
 thenW (br.setCell ((blk a0.heap.size).add 49) (.int .u8 0)) fun ax =>
 canStore ax ((blk a0.heap.size).add 50) ∧
 thenW (ax.setCell ((blk a0.heap.size).add 50) (.int .u8 0)) fun bb =>
 canStore bb ((blk a0.heap.size).add 51) ∧
 thenW (bb.setCell ((blk a0.heap.size).add 51) (.int .u8 0)) fun cb =>
 canStore cb ((blk a0.heap.size).add 52) ∧
 thenW (cb.setCell ((blk a0.heap.size).add 52) (.int .u8 0)) fun b4 =>
 canStore b4 ((blk a0.heap.size).add 53) ∧
 thenW (b4.setCell ((blk a0.heap.size).add 53) (.int .u8 0)) fun ao =>
 canStore ao ((blk a0.heap.size).add 54) ∧
 thenW (ao.setCell ((blk a0.heap.size).add 54) (.int .u8 0)) fun bz =>
 canStore bz ((blk a0.heap.size).add 55) ∧
 thenW (bz.setCell ((blk a0.heap.size).add 55) (.int .u8 0)) fun b6 =>
 canStore b6 ((blk a0.heap.size).add 56) ∧
 thenW (b6.setCell ((blk a0.heap.size).add 56) (.int .u8 0)) fun cg =>
 canStore cg ((blk a0.heap.size).add 57) ∧
 thenW (cg.setCell ((blk a0.heap.size).add 57) (.int .u8 0)) fun b1 =>
 canStore b1 ((blk a0.heap.size).add 58) ∧
 thenW (b1.setCell ((blk a0.heap.size).add 58) (.int .u8 0)) fun bj =>
 canStore bj ((blk a0.heap.size).add 59) ∧
 thenW (bj.setCell ((blk a0.heap.size).add 59) (.int .u8 0)) fun b2 =>
 canStore b2 ((blk a0.heap.size).add 60) ∧
 thenW (b2.setCell ((blk a0.heap.size).add 60) (.int .u8 0)) fun c0 =>
 canStore c0 ((blk a0.heap.size).add 61) ∧
 thenW (c0.setCell ((blk a0.heap.size).add 61) (.int .u8 0)) fun c6 =>
 canStore c6 ((blk a0.heap.size).add 62) ∧
 thenW (c6.setCell ((blk a0.heap.size).add 62) (.int .u8 0)) fun bk =>
 canStore bk ((blk a0.heap.size).add 63) ∧
 thenW (bk.setCell ((blk a0.heap.size).add 63) (.int .u8 0)) fun cc =>
 canStore cc ((blk a0.heap.size).add 64) ∧
 thenW (cc.setCell ((blk a0.heap.size).add 64) (.int .u8 0)) fun bq =>
 canStore bq ((blk a0.heap.size).add 65) ∧
 thenW (bq.setCell ((blk a0.heap.size).add 65) (.bool false)) fun cs =>
 ∃ (d9 : Int) (be : World), (Builtin.copy_ #[23, 23] 3 #[.slice (some (if 64 = 0 then (((blk a0.heap.size).add 1).add 0) else (((blk a0.heap.size).add 1).add 0).add (0 * 1))) (64 - 0) (64 - 0), .slice d7 cz d5]).run Try.prog cs = .ok (.int .i64 d9) be ∧
 thenW (be.drew) fun ai =>
 d1.elim False fun d4 =>
 ∃ (a3 : Option Addr) (a5 : Nat) (a4 : Nat), ai.cell? (d4.add 1) = some (.slice a3 a5 a4) ∧
 ∃ cu : Array Value, szB Try.prog 90 cu.size = true ∧ cellsAt ai (blk a0.heap.size) cu.toList 0 ∧
 mslit Try.prog 76 1 [(0, Value.agg cu)] ai fun (bw : Value) (ci : World) =>
 ci.cell? (d4.add 1) = some (.slice a3 a5 a4) ∧
 ∃ (cn : Option Addr) (c7 : Nat) (av : Nat) (aj : World), (Builtin.append_ #[76, 76] 76 #[.slice a3 a5 a4, bw]).run Try.prog ci = .ok (.slice cn c7 av) aj ∧
 d1.elim False fun d2 =>
 canStore aj ((d2.add 1).add 0) ∧
 thenW (aj.setCell ((d2.add 1).add 0) (.slice cn c7 av)) fun a2 =>
 d1.elim False fun db =>
 ∃ (a9 : Bool), a2.cell? (db.add 3) = some (.bool a9) ∧
 bif a9 then (
 d1.elim False fun dc =>
 ∃ (ac : Int), a2.cell? (dc.add 2) = some (.int .i64 ac) ∧
 bif ac == 0 then (
 d1.elim False fun cw =>
 canStore a2 ((cw.add 4).add 0) ∧
 thenW (a2.setCell ((cw.add 4).add 0) (.int .i64 1)) fun cr =>
 thenW (cr.drew) fun ag =>
 d1.elim False fun d8 =>
 ∃ (aa : Option Addr) (ab : Nat) (af : Nat), ag.cell? (d8.add 1) = some (.slice aa ab af) ∧
 d1.elim False fun da =>
 ∃ (ae : Option Addr) (a1 : Nat) (ah : Nat), ag.cell? (da.add 1) = some (.slice ae a1 ah) ∧
 aa.elim False fun cx =>
 0 ≤ ((IntKind.i64.wrap ((a1 : Int) - 1)) : Int) ∧ ((IntKind.i64.wrap ((a1 : Int) - 1)) : Int) < (ab : Int) ∧
 canStore ag ((((cx.add (Int.toNat (IntKind.i64.wrap ((a1 : Int) - 1)) * 66)).add 1).add 64).add 0) ∧
 thenW (ag.setCell ((((cx.add (Int.toNat (IntKind.i64.wrap ((a1 : Int) - 1)) * 66)).add 1).add 64).add 0) (.bool true)) fun ct =>
 R (.int .i64 19) ct) else (
 d1.elim False fun d6 =>
 ∃ (a8 : Int), a2.cell? (d6.add 2) = some (.int .i64 a8) ∧
 d1.elim False fun cp =>
 canStore a2 ((cp.add 2).add 0) ∧
 thenW (a2.setCell ((cp.add 2).add 0) (.int .i64 (IntKind.i64.wrap (a8 - 1)))) fun ad =>
 d1.elim False fun cv =>
 ∃ (a7 : Int), ad.cell? (cv.add 5) = some (.int .i64 a7) ∧
 d1.elim False fun ce =>
 canStore ad ((ce.add 5).add 0) ∧
 thenW (ad.setCell ((ce.add 5).add 0) (.int .i64 (IntKind.i64.wrap (a7 + 1)))) fun ap =>
 R (.int .i64 0) ap)) else (
 d1.elim False fun cq =>
 ∃ (a6 : Int), a2.cell? (cq.add 5) = some (.int .i64 a6) ∧
 d1.elim False fun cj =>
 canStore a2 ((cj.add 5).add 0) ∧
 thenW (a2.setCell ((cj.add 5).add 0) (.int .i64 (IntKind.i64.wrap (a6 + 1)))) fun bx =>
 R (.int .i64 0) bx)))

theorem disk_Disk_Write.eq (d1 : Option Addr) (i2 : Int) (b3a : Option Addr) (b3n : Nat) (b3c : Nat) (R : Value → World → Prop) (w : World) : mfunc Try.prog [] 28 [.pointer d1, .int .i64 i2, .slice b3a b3n b3c] R w = disk_Disk_Write.M d1 i2 b3a b3n b3c R w := by kernel_rfl
theorem disk_Disk_Write.ok (d1 : Option Addr) (i2 : Int) (a0 : Option Addr) (a2 : Nat) (a1 : Nat) {R : Value → World → Prop} {w : World} (h : disk_Disk_Write.M d1 i2 a0 a2 a1 R w) : Calls Try.prog 28 #[.pointer d1, .int .i64 i2, .slice a0 a2 a1] w fun e w' => ∃ v, e = .returned v ∧ R v w' :=
  mfunc_ok follows (H := []) (args := [.pointer d1, .int .i64 i2, .slice a0 a2 a1]) (by rw [disk_Disk_Write.eq]; exact h)

def disk_Disk_Write.N (d1 : Option Addr) (i2 : Int) (b6 : Option Addr) (b1 : Nat) (b4 : Nat) (R : Value → World → Prop) (w : World) : Prop :=
 Calls Try.prog 46 #[.pointer d1, .int .i64 i2] w fun b5 ay => ∃ (aj : Int), b5 = .returned (.int .i64 aj) ∧
 (aj ≠ 0 →
 R (.int .i64 aj) ay) ∧
 (aj = 0 →
 ((b1 : Int) ≠ 64 →
 R (.int .i64 1) ay) ∧
 ((b1 : Int) = 64 →
 ∀ (az : World) (am : Nat), Ext no ay az → Blk az am 90 ([.int .i64 0] ++ List.replicate 64 (.int .u8 0) ++ [.bool false]) → ay.heap.size ≤ am → am < az.heap.size →
 putsK az (blk am) ([.int .i64 i2] ++ List.replicate 64 (.int .u8 0) ++ [.bool false]) 0 fun b2 =>
 ∃ (b3 : Int) (ai : World), (Builtin.copy_ #[23, 23] 3 #[.slice (some (if 64 = 0 then (((blk am).add 1).add 0) else (((blk am).add 1).add 0).add (0 * 1))) (64 - 0) (64 - 0), .slice b6 b1 b4]).run Try.prog b2 = .ok (.int .i64 b3) ai ∧
 ∃ a5 : Addr, d1 = some a5 ∧
 ∃ (a7 : Option Addr) (a8 : Nat) (a6 : Nat), ai.cell? (a5.add 1) = some (.slice a7 a8 a6) ∧
 ∃ b0 : Array Value, szB Try.prog 90 b0.size = true ∧ cellsAt ai (blk am) b0.toList 0 ∧
 szB Try.prog 90 b0.size = true ∧
 ∀ (ah : World) (ax : Nat), Ext no ai ah → Blk ah ax 90 b0.toList → ai.heap.size ≤ ax → ax < ah.heap.size →
 ah.cell? (a5.add 1) = some (.slice a7 a8 a6) ∧
 ∃ (ap : Option Addr) (aw : Nat) (aq : Nat) (al : World), (Builtin.append_ #[76, 76] 76 #[.slice a7 a8 a6, .slice (some (blk ax)) 1 1]).run Try.prog ah = .ok (.slice ap aw aq) al ∧
 canStore al ((a5.add 1).add 0) ∧
 thenW (al.setCell ((a5.add 1).add 0) (.slice ap aw aq)) fun a4 =>
 ∃ (a9 : Bool), a4.cell? (a5.add 3) = some (.bool a9) ∧
 (a9 = true →
 ∃ (ac : Int), a4.cell? (a5.add 2) = some (.int .i64 ac) ∧
 (ac = 0 →
 canStore a4 ((a5.add 4).add 0) ∧
 thenW (a4.setCell ((a5.add 4).add 0) (.int .i64 1)) fun ak =>
 ∃ (aa : Option Addr) (ab : Nat) (ag : Nat), ak.cell? (a5.add 1) = some (.slice aa ab ag) ∧
 ∃ (ad : Option Addr) (a0 : Nat) (af : Nat), ak.cell? (a5.add 1) = some (.slice ad a0 af) ∧
 (-9223372036854775808 : Int) ≤ ((a0 : Int) - 1) ∧ ((a0 : Int) - 1) < 9223372036854775808 ∧
 ∃ ao : Addr, aa = some ao ∧
 0 ≤ (((a0 : Int) - 1) : Int) ∧ (((a0 : Int) - 1) : Int) < (ab : Int) ∧
 ∀ (an : World), Ext no ak an →
 canStore an ((((ao.add (Int.toNat ((a0 : Int) - 1) * 66)).add 1).add 64).add 0) ∧
 thenW (an.setCell ((((ao.add (Int.toNat ((a0 : Int) - 1) * 66)).add 1).add 64).add 0) (.bool true)) fun av =>
 R (.int .i64 19) av) ∧
 (ac ≠ 0 →
 ∃ (a3 : Int), a4.cell? (a5.add 2) = some (.int .i64 a3) ∧
 (-9223372036854775808 : Int) ≤ (a3 - 1) ∧ (a3 - 1) < 9223372036854775808 ∧
 canStore a4 ((a5.add 2).add 0) ∧
 thenW (a4.setCell ((a5.add 2).add 0) (.int .i64 (a3 - 1))) fun ae =>
 ∃ (a1 : Int), ae.cell? (a5.add 5) = some (.int .i64 a1) ∧
 (-9223372036854775808 : Int) ≤ (a1 + 1) ∧ (a1 + 1) < 9223372036854775808 ∧
 canStore ae ((a5.add 5).add 0) ∧
 thenW (ae.setCell ((a5.add 5).add 0) (.int .i64 (a1 + 1))) fun ar =>
 R (.int .i64 0) ar)) ∧
 (a9 = false →
 ∃ (a2 : Int), a4.cell? (a5.add 5) = some (.int .i64 a2) ∧
 (-9223372036854775808 : Int) ≤ (a2 + 1) ∧ (a2 + 1) < 9223372036854775808 ∧
 canStore a4 ((a5.add 5).add 0) ∧
 thenW (a4.setCell ((a5.add 5).add 0) (.int .i64 (a2 + 1))) fun au =>
 R (.int .i64 0) au)))

theorem disk_Disk_Write.up (d1 : Option Addr) (i2 : Int) (bf : Option Addr) (bh : Nat) (be : Nat) {R : Value → World → Prop} {w : World} (h : disk_Disk_Write.N d1 i2 bf bh be R w) : disk_Disk_Write.M d1 i2 bf bh be R w := by
  unfold disk_Disk_Write.M
  unfold disk_Disk_Write.N at h
  refine h.mono fun fs ap h => ?_
  obtain ⟨bd, he, h⟩ := h
  refine ⟨bd, he, ?_⟩
  refine bif_of (fun c7 => ?_) (fun c7 => ?_)
  · have h := h.1 (bne_t c7)
    exact h
  · have h := h.2 (bne_f c7)
    refine bif_of (fun c8 => ?_) (fun c8 => ?_)
    · have h := h.1 (bne_t c8)
      exact h
    · have h := h.2 (bne_f c8)
      refine thenW_in fun f1 e9 => ?_
      have h := h f1 ap.heap.size ((Ext.refl no ap).x_alloc e9) (Blk.of_new e9) ((Ext.refl no ap)).size (size_lt_alloc e9)
      try rw [show (([.int .i64 i2] ++ List.replicate 64 (.int .u8 0) ++ [.bool false])) = [.int .i64 i2, .int .u8 0, .int .u8 0, .int .u8 0, .int .u8 0, .int .u8 0, .int .u8 0, .int .u8 0, .int .u8 0, .int .u8 0, .int .u8 0, .int .u8 0, .int .u8 0, .int .u8 0, .int .u8 0, .int .u8 0, .int .u8 0, .int .u8 0, .int .u8 0, .int .u8 0, .int .u8 0, .int .u8 0, .int .u8 0, .int .u8 0, .int .u8 0, .int .u8 0, .int .u8 0, .int .u8 0, .int .u8 0, .int .u8 0, .int .u8 0, .int .u8 0, .int .u8 0, .int .u8 0, .int .u8 0, .int .u8 0, .int .u8 0, .int .u8 0, .int .u8 0, .int .u8 0, .int .u8 0, .int .u8 0, .int .u8 0, .int .u8 0, .int .u8 0, .int .u8 0, .int .u8 0, .int .u8 0, .int .u8 0, .int .u8 0, .int .u8 0, .int .u8 0, .int .u8 0, .int .u8 0, .int .u8 0, .int .u8 0, .int .u8 0, .int .u8 0, .int .u8 0, .int .u8 0, .int .u8 0, .int .u8 0, .int .u8 0, .int .u8 0, .int .u8 0, .bool false] from rfl] at h
      obtain ⟨hcs, h⟩ := h
      refine ⟨hcs, thenW_in fun c9 fe => ?_⟩
      replace h := thenW_out h fe
      obtain ⟨hcs, h⟩ := h
      refine ⟨hcs, thenW_in fun dn de => ?_⟩
      replace h := thenW_out h de
      obtain ⟨hcs, h⟩ := h
      refine ⟨hcs, thenW_in fun cz bw => ?_⟩
      replace h := thenW_out h bw
      obtain ⟨hcs, h⟩ := h
      refine ⟨hcs, thenW_in fun cw df => ?_⟩
      replace h := thenW_out h df
      obtain ⟨hcs, h⟩ := h
      refine ⟨hcs, thenW_in fun ev d9 => ?_⟩
      replace h := thenW_out h d9
      obtain ⟨hcs, h⟩ := h
      refine ⟨hcs, thenW_in fun f9 eq => ?_⟩
      replace h := thenW_out h eq
      obtain ⟨hcs, h⟩ := h
      refine ⟨hcs, thenW_in fun ds ej => ?_⟩
      replace h := thenW_out h ej
      obtain ⟨hcs, h⟩ := h
      refine ⟨hcs, thenW_in fun dd cn => ?_⟩
      replace h := thenW_out h cn
      obtain ⟨hcs, h⟩ := h
      refine ⟨hcs, thenW_in fun dp ex => ?_⟩
      replace h := thenW_out h ex
      obtain ⟨hcs, h⟩ := h
      refine ⟨hcs, thenW_in fun cf eo => ?_⟩
      replace h := thenW_out h eo
      obtain ⟨hcs, h⟩ := h
      refine ⟨hcs, thenW_in fun cv dk => ?_⟩
      replace h := thenW_out h dk
      obtain ⟨hcs, h⟩ := h
      refine ⟨hcs, thenW_in fun ci es => ?_⟩
      replace h := thenW_out h es
      obtain ⟨hcs, h⟩ := h
      refine ⟨hcs, thenW_in fun bn ed => ?_⟩
      replace h := thenW_out h ed
      obtain ⟨hcs, h⟩ := h
      refine ⟨hcs, thenW_in fun en di => ?_⟩
      replace h := thenW_out h di
      obtain ⟨hcs, h⟩ := h
      refine ⟨hcs, thenW_in fun c4 eg => ?_⟩
      replace h := thenW_out h eg
      obtain ⟨hcs, h⟩ := h
      refine ⟨hcs, thenW_in fun db et => ?_⟩
      replace h := thenW_out h et
      obtain ⟨hcs, h⟩ := h
      refine ⟨hcs, thenW_in fun eu fb => ?_⟩
      replace h := thenW_out h fb
      obtain ⟨hcs, h⟩ := h
      refine ⟨hcs, thenW_in fun bl br => ?_⟩
      replace h := thenW_out h br
      obtain ⟨hcs, h⟩ := h
      refine ⟨hcs, thenW_in fun c1 fp => ?_⟩
      replace h := thenW_out h fp
      obtain ⟨hcs, h⟩ := h
      refine ⟨hcs, thenW_in fun e2 eh => ?_⟩
      replace h := thenW_out h eh
      obtain ⟨hcs, h⟩ := h
      refine ⟨hcs, thenW_in fun fc bv => ?_⟩
      replace h := thenW_out h bv
      obtain ⟨hcs, h⟩ := h
      refine ⟨hcs, thenW_in fun ek fq => ?_⟩
      replace h := thenW_out h fq
      obtain ⟨hcs, h⟩ := h
      refine ⟨hcs, thenW_in fun bs cr => ?_⟩
      replace h := thenW_out h cr
      obtain ⟨hcs, h⟩ := h
      refine ⟨hcs, thenW_in fun fi c0 => ?_⟩
      replace h := thenW_out h c0
      obtain ⟨hcs, h⟩ := h
      refine ⟨hcs, thenW_in fun f6 fa => ?_⟩
      replace h := thenW_out h fa
      obtain ⟨hcs, h⟩ := h
      refine ⟨hcs, thenW_in fun f7 c5 => ?_⟩
      replace h := thenW_out h c5
      obtain ⟨hcs, h⟩ := h
      refine ⟨hcs, thenW_in fun dj cl => ?_⟩
      replace h := thenW_out h cl
      obtain ⟨hcs, h⟩ := h
      refine ⟨hcs, thenW_in fun bt cj => ?_⟩
      replace h := thenW_out h cj
      obtain ⟨hcs, h⟩ := h
      refine ⟨hcs, thenW_in fun eb d0 => ?_⟩
      replace h := thenW_out h d0
      obtain ⟨hcs, h⟩ := h
      refine ⟨hcs, thenW_in fun cu f5 => ?_⟩
      replace h := thenW_out h f5
      obtain ⟨hcs, h⟩ := h
      refine ⟨hcs, thenW_in fun d6 bo => ?_⟩
      replace h := thenW_out h bo
      obtain ⟨hcs, h⟩ := h
      refine ⟨hcs, thenW_in fun bu cb => ?_⟩
      replace h := thenW_out h cb
      obtain ⟨hcs, h⟩ := h
      refine ⟨hcs, thenW_in fun ey ct => ?_⟩
      replace h := thenW_out h ct
      obtain ⟨hcs, h⟩ := h
      refine ⟨hcs, thenW_in fun dy dg => ?_⟩
      replace h := thenW_out h dg
      obtain ⟨hcs, h⟩ := h
      refine ⟨hcs, thenW_in fun dq fh => ?_⟩
      replace h := thenW_out h fh
      obtain ⟨hcs, h⟩ := h
      refine ⟨hcs, thenW_in fun dz ff => ?_⟩
      replace h := thenW_out h ff
      obtain ⟨hcs, h⟩ := h
      refine ⟨hcs, thenW_in fun dr d2 => ?_⟩
      replace h := thenW_out h d2
      obtain ⟨hcs, h⟩ := h
      refine ⟨hcs, thenW_in fun fg bz => ?_⟩
      replace h := thenW_out h bz
      obtain ⟨hcs, h⟩ := h
      refine ⟨hcs, thenW_in fun ee e0 => ?_⟩
      replace h := thenW_out h e0
      obtain ⟨hcs, h⟩ := h
      refine ⟨hcs, thenW_in fun d5 bm => ?_⟩
      replace h := thenW_out h bm
      obtain ⟨hcs, h⟩ := h
      refine ⟨hcs, thenW_in fun e3 ei => ?_⟩
      replace h := thenW_out h ei
      obtain ⟨hcs, h⟩ := h
      refine ⟨hcs, thenW_in fun dc c6 => ?_⟩
      replace h := thenW_out h c6
      obtain ⟨hcs, h⟩ := h
      refine ⟨hcs, thenW_in fun fd co => ?_⟩
      replace h := thenW_out h co
      obtain ⟨hcs, h⟩ := h
      refine ⟨hcs, thenW_in fun c3 em => ?_⟩
      replace h := thenW_out h em
      obtain ⟨hcs, h⟩ := h
      refine ⟨hcs, thenW_in fun ef f3 => ?_⟩
      replace h := thenW_out h f3
      obtain ⟨hcs, h⟩ := h
      refine ⟨hcs, thenW_in fun dw e7 => ?_⟩
      replace h := thenW_out h e7
      obtain ⟨hcs, h⟩ := h
      refine ⟨hcs, thenW_in fun c2 bp => ?_⟩
      replace h := thenW_out h bp
      obtain ⟨hcs, h⟩ := h
      refine ⟨hcs, thenW_in fun d3 dx => ?_⟩
      replace h := thenW_out h dx
      obtain ⟨hcs, h⟩ := h
      refine ⟨hcs, thenW_in fun ez ck => ?_⟩
      replace h := thenW_out h ck
      obtain ⟨hcs, h⟩ := h
      refine ⟨hcs, thenW_in fun cg cy => ?_⟩
      replace h := thenW_out h cy
      obtain ⟨hcs, h⟩ := h
      refine ⟨hcs, thenW_in fun bq e4 => ?_⟩
      replace h := thenW_out h e4
      obtain ⟨hcs, h⟩ := h
      refine ⟨hcs, thenW_in fun e6 f4 => ?_⟩
      replace h := thenW_out h f4
      obtain ⟨hcs, h⟩ := h
      refine ⟨hcs, thenW_in fun cm cd => ?_⟩
      replace h := thenW_out h cd
      obtain ⟨hcs, h⟩ := h
      refine ⟨hcs, thenW_in fun f8 cx => ?_⟩
      replace h := thenW_out h cx
      obtain ⟨hcs, h⟩ := h
      refine ⟨hcs, thenW_in fun ca bx => ?_⟩
      replace h := thenW_out h bx
      obtain ⟨hcs, h⟩ := h
      refine ⟨hcs, thenW_in fun dl fm => ?_⟩
      replace h := thenW_out h fm
      obtain ⟨hcs, h⟩ := h
      refine ⟨hcs, thenW_in fun cc fj => ?_⟩
      replace h := thenW_out h fj
      obtain ⟨hcs, h⟩ := h
      refine ⟨hcs, thenW_in fun e8 ea => ?_⟩
      replace h := thenW_out h ea
      obtain ⟨hcs, h⟩ := h
      refine ⟨hcs, thenW_in fun ep d8 => ?_⟩
      replace h := thenW_out h d8
      obtain ⟨hcs, h⟩ := h
      refine ⟨hcs, thenW_in fun dm dh => ?_⟩
      replace h := thenW_out h dh
      obtain ⟨hcs, h⟩ := h
      refine ⟨hcs, thenW_in fun f2 er => ?_⟩
      replace h := thenW_out h er
      obtain ⟨hcs, h⟩ := h
      refine ⟨hcs, thenW_in fun du ec => ?_⟩
      replace h := thenW_out h ec
      obtain ⟨hcs, h⟩ := h
      refine ⟨hcs, thenW_in fun e5 dv => ?_⟩
      replace h := thenW_out h dv
      obtain ⟨hcs, h⟩ := h
      refine ⟨hcs, thenW_in fun f0 cp => ?_⟩
      replace h := thenW_out h cp
      obtain ⟨hcs, h⟩ := h
      refine ⟨hcs, thenW_in fun da cq => ?_⟩
      replace h := thenW_out h cq
      obtain ⟨hcs, h⟩ := h
      refine ⟨hcs, thenW_in fun ch dt => ?_⟩
      replace h := thenW_out h dt
      obtain ⟨d4, am, hr, h⟩ := h
      refine ⟨d4, am, hr, ?_⟩
      refine thenW_in fun b9 fo => ?_
      have ae := (Ext.refl no am).x_drew fo
      obtain ⟨fr, a0, h⟩ := h
      refine elim_some a0 ?_
      obtain ⟨ac, a9, ab, az, h⟩ := h
      refine ⟨ac, a9, ab, (ae).cell az id, ?_⟩
      obtain ⟨fk, hz, ar, h⟩ := h
      refine ⟨fk, hz, cellsAt_no (ae) ar, ?_⟩
      obtain ⟨hzl, h⟩ := h
      refine mslit_big Try.underlying76 (by kernel_rfl) hzl ?_
      refine thenW_in fun ba ax => ?_
      have h := h ba b9.heap.size (ae.x_alloc ax) (Blk.of_new ax) (ae).size (size_lt_alloc ax)
      obtain ⟨bb, h⟩ := h
      refine ⟨bb, ?_⟩
      obtain ⟨b2, bc, ay, aq, hr, h⟩ := h
      refine ⟨b2, bc, ay, aq, hr, ?_⟩
      refine elim_some a0 ?_
      obtain ⟨hcs, h⟩ := h
      refine ⟨hcs, thenW_in fun el d7 => ?_⟩
      replace h := thenW_out h d7
      refine elim_some a0 ?_
      obtain ⟨ad, b7, h⟩ := h
      refine ⟨ad, b7, ?_⟩
      refine bif_of (fun av => ?_) (fun av => ?_)
      · have h := h.1 av
        refine elim_some a0 ?_
        obtain ⟨ag, b6, h⟩ := h
        refine ⟨ag, b6, ?_⟩
        refine bif_of (fun b1 => ?_) (fun b1 => ?_)
        · have h := h.1 (beq_t b1)
          refine elim_some a0 ?_
          obtain ⟨hcs, h⟩ := h
          refine ⟨hcs, thenW_in fun b3 ew => ?_⟩
          replace h := thenW_out h ew
          refine thenW_in fun b5 cs => ?_
          have ai := (Ext.refl no b3).x_drew cs
          refine elim_some a0 ?_
          obtain ⟨a5, a8, a4, b0, h⟩ := h
          refine ⟨a5, a8, a4, (ai).cell b0 id, ?_⟩
          refine elim_some a0 ?_
          obtain ⟨a3, a7, a1, ao, h⟩ := h
          refine ⟨a3, a7, a1, (ai).cell ao id, ?_⟩
          obtain ⟨ah, af, h⟩ := h
          try rw [w64 ah af]
          obtain ⟨fl, ak, h⟩ := h
          refine elim_some ak ?_
          obtain ⟨ce, e1, h⟩ := h
          refine ⟨ce, e1, ?_⟩
          have h := h b5 ai
          obtain ⟨hcs, h⟩ := h
          refine ⟨hcs, thenW_in fun bk aw => ?_⟩
          replace h := thenW_out h aw
          exact h
        · have h := h.2 (beq_f b1)
          refine elim_some a0 ?_
          obtain ⟨aa, aj, h⟩ := h
          refine ⟨aa, aj, ?_⟩
          obtain ⟨ah, af, h⟩ := h
          try rw [w64 ah af]
          refine elim_some a0 ?_
          obtain ⟨hcs, h⟩ := h
          refine ⟨hcs, thenW_in fun bi b4 => ?_⟩
          replace h := thenW_out h b4
          refine elim_some a0 ?_
          obtain ⟨a6, al, h⟩ := h
          refine ⟨a6, al, ?_⟩
          obtain ⟨ah, af, h⟩ := h
          try rw [w64 ah af]
          refine elim_some a0 ?_
          obtain ⟨hcs, h⟩ := h
          refine ⟨hcs, thenW_in fun bj au => ?_⟩
          replace h := thenW_out h au
          exact h
      · have h := h.2 av
        refine elim_some a0 ?_
        obtain ⟨a2, an, h⟩ := h
        refine ⟨a2, an, ?_⟩
        obtain ⟨ah, af, h⟩ := h
        try rw [w64 ah af]
        refine elim_some a0 ?_
        obtain ⟨hcs, h⟩ := h
        refine ⟨hcs, thenW_in fun bg b8 => ?_⟩
        replace h := thenW_out h b8
        exact h

theorem disk_Disk_Write.go (d1 : Option Addr) (i2 : Int) (a0 : Option Addr) (a2 : Nat) (a1 : Nat) {R : Value → World → Prop} {w : World} (h : disk_Disk_Write.N d1 i2 a0 a2 a1 R w) : Calls Try.prog 28 #[.pointer d1, .int .i64 i2, .slice a0 a2 a1] w fun e w' => ∃ v, e = .returned v ∧ R v w' := disk_Disk_Write.ok d1 i2 a0 a2 a1 (disk_Disk_Write.up d1 i2 a0 a2 a1 h)
theorem disk_Disk_Write.run (d1 : Option Addr) (i2 : Int) (a0 : Option Addr) (a2 : Nat) (a1 : Nat) {V : Value} {Q : World → Prop} {w : World} (h : disk_Disk_Write.N d1 i2 a0 a2 a1 (fun v w' => v = V ∧ Q w') w) : Calls Try.prog 28 #[.pointer d1, .int .i64 i2, .slice a0 a2 a1] w (Ret V Q) := (disk_Disk_Write.go d1 i2 a0 a2 a1 h).mono fun e w' ⟨v, he, hv, hq⟩ => ⟨by rw [he, hv], hq⟩

end Go.Proofs.Ytgcjipbahfpopaa

/- Disk: predicates, the others. -/
set_option linter.unusedVariables false
set_option linter.unusedSimpArgs false
set_option maxRecDepth 20000
set_option maxHeartbeats 2000000
namespace Go.Proofs.Ytgcjipbahfpopaa
open Go Go.Mx Go.Proofs
/-- (*disk.Disk).Sync -/
def disk_Disk_Sync.M (d1 : Option Addr) (R : Value → World → Prop) (w : World) : Prop :=
 Calls Try.prog 43 #[.pointer d1] w fun a3 a1 => ∃ (a0 : Int), a3 = .returned (.int .i64 a0) ∧
 bif a0 != 0 then (
 R (.int .i64 a0) a1) else (
 Calls Try.prog 45 #[.pointer d1, .func (.func 47) #[] #[]] a1 fun a2 a4 => a2 = .returned (.tuple #[]) ∧
 R (.int .i64 0) a4)

theorem disk_Disk_Sync.eq (d1 : Option Addr) (R : Value → World → Prop) (w : World) : mfunc Try.prog [] 29 [.pointer d1] R w = disk_Disk_Sync.M d1 R w := by kernel_rfl
theorem disk_Disk_Sync.ok (d1 : Option Addr) {R : Value → World → Prop} {w : World} (h : disk_Disk_Sync.M d1 R w) : Calls Try.prog 29 #[.pointer d1] w fun e w' => ∃ v, e = .returned v ∧ R v w' :=
  mfunc_ok follows (H := []) (args := [.pointer d1]) (by rw [disk_Disk_Sync.eq]; exact h)

def disk_Disk_Sync.N (d1 : Option Addr) (R : Value → World → Prop) (w : World) : Prop :=
 Calls Try.prog 43 #[.pointer d1] w fun a2 a1 => ∃ (a0 : Int), a2 = .returned (.int .i64 a0) ∧
 (a0 ≠ 0 →
 R (.int .i64 a0) a1) ∧
 (a0 = 0 →
 Calls Try.prog 45 #[.pointer d1, .func (.func 47) #[] #[]] a1 fun a3 a4 => a3 = .returned (.tuple #[]) ∧
 R (.int .i64 0) a4)

theorem disk_Disk_Sync.up (d1 : Option Addr) {R : Value → World → Prop} {w : World} (h : disk_Disk_Sync.N d1 R w) : disk_Disk_Sync.M d1 R w := by
  unfold disk_Disk_Sync.M
  unfold disk_Disk_Sync.N at h
  refine h.mono fun a1 a2 h => ?_
  obtain ⟨a0, he, h⟩ := h
  refine ⟨a0, he, ?_⟩
  refine bif_of (fun c5 => ?_) (fun c5 => ?_)
  · have h := h.1 (bne_t c5)
    exact h
  · have h := h.2 (bne_f c5)
    refine h.mono fun a3 a4 h => ?_
    obtain ⟨he, h⟩ := h
    refine ⟨he, ?_⟩
    exact h

theorem disk_Disk_Sync.go (d1 : Option Addr) {R : Value → World → Prop} {w : World} (h : disk_Disk_Sync.N d1 R w) : Calls Try.prog 29 #[.pointer d1] w fun e w' => ∃ v, e = .returned v ∧ R v w' := disk_Disk_Sync.ok d1 (disk_Disk_Sync.up d1 h)
theorem disk_Disk_Sync.run (d1 : Option Addr) {V : Value} {Q : World → Prop} {w : World} (h : disk_Disk_Sync.N d1 (fun v w' => v = V ∧ Q w') w) : Calls Try.prog 29 #[.pointer d1] w (Ret V Q) := (disk_Disk_Sync.go d1 h).mono fun e w' ⟨v, he, hv, hq⟩ => ⟨by rw [he, hv], hq⟩

/-- (*disk.Disk).Sync$1 -/
def disk_Disk_Sync_1.M (p1 : Int) (R : Value → World → Prop) (w : World) : Prop :=
 R (.bool true) w

theorem disk_Disk_Sync_1.eq (p1 : Int) (R : Value → World → Prop) (w : World) : mfunc Try.prog [] 47 [.int .i64 p1] R w = disk_Disk_Sync_1.M p1 R w := by kernel_rfl
theorem disk_Disk_Sync_1.ok (p1 : Int) {R : Value → World → Prop} {w : World} (h : disk_Disk_Sync_1.M p1 R w) : Calls Try.prog 47 #[.int .i64 p1] w fun e w' => ∃ v, e = .returned v ∧ R v w' :=
  mfunc_ok follows (H := []) (args := [.int .i64 p1]) (by rw [disk_Disk_Sync_1.eq]; exact h)

def disk_Disk_Sync_1.N (p1 : Int) (R : Value → World → Prop) (w : World) : Prop :=
 R (.bool true) w

theorem disk_Disk_Sync_1.up (p1 : Int) {R : Value → World → Prop} {w : World} (h : disk_Disk_Sync_1.N p1 R w) : disk_Disk_Sync_1.M p1 R w := by
  unfold disk_Disk_Sync_1.M
  unfold disk_Disk_Sync_1.N at h
  exact h

theorem disk_Disk_Sync_1.go (p1 : Int) {R : Value → World → Prop} {w : World} (h : disk_Disk_Sync_1.N p1 R w) : Calls Try.prog 47 #[.int .i64 p1] w fun e w' => ∃ v, e = .returned v ∧ R v w' := disk_Disk_Sync_1.ok p1 (disk_Disk_Sync_1.up p1 h)
theorem disk_Disk_Sync_1.run (p1 : Int) {V : Value} {Q : World → Prop} {w : World} (h : disk_Disk_Sync_1.N p1 (fun v w' => v = V ∧ Q w') w) : Calls Try.prog 47 #[.int .i64 p1] w (Ret V Q) := (disk_Disk_Sync_1.go p1 h).mono fun e w' ⟨v, he, hv, hq⟩ => ⟨by rw [he, hv], hq⟩

/-- (*disk.Disk).Down -/
def disk_Disk_Down.M (d1 : Option Addr) (R : Value → World → Prop) (w : World) : Prop :=
 bif !(Option.isNone d1) then (
 d1.elim False fun a2 =>
 ∃ (a0 : Int), w.cell? (a2.add 4) = some (.int .i64 a0) ∧
 R (.bool (a0 == 1)) w) else (
 R (.bool false) w)

theorem disk_Disk_Down.eq (d1 : Option Addr) (R : Value → World → Prop) (w : World) : mfunc Try.prog [] 24 [.pointer d1] R w = disk_Disk_Down.M d1 R w := by kernel_rfl
theorem disk_Disk_Down.ok (d1 : Option Addr) {R : Value → World → Prop} {w : World} (h : disk_Disk_Down.M d1 R w) : Calls Try.prog 24 #[.pointer d1] w fun e w' => ∃ v, e = .returned v ∧ R v w' :=
  mfunc_ok follows (H := []) (args := [.pointer d1]) (by rw [disk_Disk_Down.eq]; exact h)

def disk_Disk_Down.N (d1 : Option Addr) (R : Value → World → Prop) (w : World) : Prop :=
 (d1 ≠ none →
 ∃ a3 : Addr, d1 = some a3 ∧
 ∃ (a0 : Int), w.cell? (a3.add 4) = some (.int .i64 a0) ∧
 R (.bool (a0 == 1)) w) ∧
 (d1 = none →
 R (.bool false) w)

theorem disk_Disk_Down.up (d1 : Option Addr) {R : Value → World → Prop} {w : World} (h : disk_Disk_Down.N d1 R w) : disk_Disk_Down.M d1 R w := by
  unfold disk_Disk_Down.M
  unfold disk_Disk_Down.N at h
  refine bif_of (fun c2 => ?_) (fun c2 => ?_)
  · have h := h.1 (isNone_f (not_t c2))
    obtain ⟨a3, a2, h⟩ := h
    refine elim_some a2 ?_
    obtain ⟨a0, a1, h⟩ := h
    refine ⟨a0, a1, ?_⟩
    exact h
  · have h := h.2 (isNone_t (not_f c2))
    exact h

theorem disk_Disk_Down.go (d1 : Option Addr) {R : Value → World → Prop} {w : World} (h : disk_Disk_Down.N d1 R w) : Calls Try.prog 24 #[.pointer d1] w fun e w' => ∃ v, e = .returned v ∧ R v w' := disk_Disk_Down.ok d1 (disk_Disk_Down.up d1 h)
theorem disk_Disk_Down.run (d1 : Option Addr) {V : Value} {Q : World → Prop} {w : World} (h : disk_Disk_Down.N d1 (fun v w' => v = V ∧ Q w') w) : Calls Try.prog 24 #[.pointer d1] w (Ret V Q) := (disk_Disk_Down.go d1 h).mono fun e w' ⟨v, he, hv, hq⟩ => ⟨by rw [he, hv], hq⟩

end Go.Proofs.Ytgcjipbahfpopaa

/- Disk: sectors and writes as lists; a disk in memory; what the small functions answer. -/
set_option linter.unusedVariables false
set_option linter.unusedSimpArgs false
set_option maxRecDepth 20000
set_option maxHeartbeats 4000000
namespace Go.Proofs.Ytgcjipbahfpopaa
open Go Go.Mx Go.Proofs
open W (OwnB)
theorem inf88 : (Try.prog.info? 88).map (fun i => (i.zero, i.size, i.bytes)) = some (some (.agg (List.toArray (List.replicate 64 (.int .u8 0) ++ [.bool false]))), 65, 65) := by kernel_rfl
theorem inf90 : (Try.prog.info? 90).map (fun i => (i.zero, i.size, i.bytes)) = some (some (.agg (List.toArray ([.int .i64 0] ++ List.replicate 64 (.int .u8 0) ++ [.bool false]))), 66, 80) := by kernel_rfl
/-- a sector. -/
structure Sec where
  b : List UInt8
  torn : Bool
  h : b.length = 64
def Sec.C (s : Sec) : List Value := bytesV s.b ++ [.bool s.torn]
theorem bytesV_length (b : List UInt8) : (bytesV b).length = b.length := by unfold bytesV; simp
theorem Sec.len (s : Sec) : s.C.length = 65 := by unfold Sec.C; rw [List.length_append, bytesV_length, s.h]; rfl
def Sec.z : Sec := ⟨List.replicate 64 0, false, by simp⟩
/-- a write that is pending. -/
structure Wt where
  i : Int
  s : Sec
def Wt.C (x : Wt) : List Value := .int .i64 x.i :: x.s.C
theorem Wt.len (x : Wt) : x.C.length = 66 := by unfold Wt.C; rw [List.length_cons, x.s.len]
theorem bytesV_one {b : List UInt8} : ∀ u ∈ bytesV b, u.oneCell' = true := fun u hu => by
  unfold bytesV at hu
  obtain ⟨x, _, rfl⟩ := List.mem_map.1 hu
  rfl
theorem Sec.one (s : Sec) : ∀ u ∈ s.C, u.oneCell' = true := fun u hu => by
  rcases List.mem_append.1 hu with h | h
  · exact bytesV_one u h
  · simp at h; subst h; rfl
theorem Wt.one (x : Wt) : ∀ u ∈ x.C, u.oneCell' = true := fun u hu => by
  rcases List.mem_cons.1 hu with rfl | h
  · rfl
  · exact x.s.one u h
theorem sz65 : szB Try.prog 88 65 = true := by kernel_rfl
theorem sz66 : szB Try.prog 90 66 = true := by kernel_rfl
/-- a disk. -/
structure DS where
  good : List Sec
  pend : List Wt
  left : Int
  armed : Bool
  down : Bool
  count : Int
def stI (b : Bool) : Int := if b then 1 else 0
def DS.V (d : DS) (ga : Option Addr) (gc : Nat) (pa : Option Addr) (pc : Nat) : List Value := [.slice ga d.good.length gc, .slice pa d.pend.length pc, .int .i64 d.left, .bool d.armed, .int .i64 (stI d.down), .int .i64 d.count]
abbrev SRw (w : World) (o : Own) (g : Nat) (a : Option Addr) (c : Nat) (l : List Sec) : Prop := Grows 88 65 w o g a l.length c (l.flatMap Sec.C)
abbrev WRw (w : World) (o : Own) (g : Nat) (a : Option Addr) (c : Nat) (l : List Wt) : Prop := Grows 90 66 w o g a l.length c (l.flatMap Wt.C)
/-- a disk in memory, with all that is its own. -/
structure DG (w : World) (o : Own) (g : Nat) (d : DS) : Prop where
  mem : ∃ ga gc pa pc, Blk w g 79 (d.V ga gc pa pc) ∧ SRw w o g ga gc d.good ∧ WRw w o g pa pc d.pend
  tg : o g = some g
structure DS.ok (d : DS) (m : Nat) : Prop where
  n1 : 1 ≤ d.good.length
  n2 : d.good.length ≤ 400
  at_ : ∀ x ∈ d.pend, 0 ≤ x.i ∧ x.i < d.good.length
  pl : d.pend.length ≤ m
  cl : 0 ≤ d.count ∧ d.count ≤ m
  left : 0 ≤ d.left ∧ d.left < 9223372036854775808
def isD (d : DS) : Int := if d.down then 19 else 0
def hasD (d : DS) (i : Int) : Int := if d.down then 19 else if i < 0 ∨ (d.good.length : Int) ≤ i then 2 else 0
def lastP (i : Int) : Sec → List Wt → Sec
  | s, [] => s
  | s, x :: r => lastP i (if x.i = i then x.s else s) r
def readS (d : DS) (i : Int) : Sec := lastP i (d.good[i.toNat]?.getD Sec.z) d.pend
def readD (d : DS) (i : Int) : List UInt8 × Int := if hasD d i = 0 then (if (readS d i).torn then ([], 5) else ((readS d i).b, 0)) else ([], hasD d i)
def writeD (d : DS) (i : Int) (b : List UInt8) : DS × Int :=
  if hasD d i = 0 then
    (if h : b.length = 64 then
      (if d.armed then
        (if d.left = 0 then ({ d with pend := d.pend ++ [⟨i, ⟨b, true, h⟩⟩], down := true }, 19)
         else ({ d with pend := d.pend ++ [⟨i, ⟨b, false, h⟩⟩], left := d.left - 1, count := d.count + 1 }, 0))
       else ({ d with pend := d.pend ++ [⟨i, ⟨b, false, h⟩⟩], count := d.count + 1 }, 0))
     else (d, 1))
  else (d, hasD d i)
def settleL (k : Nat → Bool) : Nat → List Sec → List Wt → List Sec
  | _, g, [] => g
  | t, g, x :: r => settleL k (t + 1) (if k t then g.set x.i.toNat x.s else g) r
def settleD (d : DS) (k : Nat → Bool) : DS := { d with good := settleL k 0 d.good d.pend, pend := [] }
def syncD (d : DS) : DS × Int := if d.down then (d, 19) else (settleD d fun _ => true, 0)
def keepF (l : List Bool) (t : Nat) : Bool := l[t]?.getD false
section
variable {K : Nat → Prop} {w w' w1 : World} {o o' o1 : Own} {g g2 : Nat} {d : DS} {i : Int}
theorem DG.step (h : DG w o g d) (s : Step K w o w' o') (hk : ¬ K g) : DG w' o' g d := by
  obtain ⟨⟨ga, gc, pa, pc, hb, hg, hp⟩, tg⟩ := h
  exact ⟨⟨ga, gc, pa, pc, s.blk hb tg hk, hg.step s hk, hp.step s hk⟩, by rw [s.own hb.lt]; exact tg⟩
theorem DG.lt (h : DG w o g d) : g < w.heap.size := by
  obtain ⟨⟨ga, gc, pa, pc, hb, hg, hp⟩, tg⟩ := h
  exact hb.lt
/-- the disk's numbers turned. -/
theorem DG.turn {ga pa : Option Addr} {gc pc : Nat} {d2 : DS} {cs0 : List Value} (hg : SRw w o g ga gc d2.good) (hp : WRw w o g pa pc d2.pend) (tg : o g = some g) (hb0 : Blk w g 79 cs0) (ok : Tags w o) (X : Ext (fun b => b = g) w w')
    (hb : Blk w' g 79 (d2.V ga gc pa pc)) : Step (fun j => j = g) w o w' (grow w o) ∧ DG w' (grow w o) g d2 := by
  have s : Step (fun j => j = g) w o w' (grow w o) := Step.of_ext X ok fun b hb _ => by subst hb; exact tg
  refine ⟨s, ⟨ga, gc, pa, pc, hb, ?_, ?_⟩, by rw [s.own hb0.lt]; exact tg⟩
  · exact hg.keep X (hg.ne hb0 (by decide)) fun b hb => s.own hb
  · exact hp.keep X (hp.ne hb0 (by decide)) fun b hb => s.own hb
theorem is_spec (h : DG w o g d) : Calls Try.prog 43 #[.pointer (some (blk g))] w (Ret (.int .i64 (isD d)) fun w' => w' = w) := by
  obtain ⟨⟨ga, gc, pa, pc, hb, hg, hp⟩, tg⟩ := h
  refine disk_Disk_is.run _ ?_
  unfold disk_Disk_is.N
  refine ⟨fun h => (by cases h), fun _ => ⟨_, rfl, stI d.down, hb.celli 4 rfl rfl, fun h => ⟨?_, rfl⟩, fun h => ⟨?_, rfl⟩⟩⟩
  all_goals unfold stI at h; unfold isD
  · cases hd : d.down
    · rw [hd] at h; cases h
    · rfl
  · cases hd : d.down
    · rfl
    · rw [hd] at h; exact absurd rfl h
theorem has_spec (h : DG w o g d) (i : Int) : Calls Try.prog 46 #[.pointer (some (blk g)), .int .i64 i] w (Ret (.int .i64 (hasD d i)) fun w' => w' = w) := by
  refine disk_Disk_has.run _ _ ?_
  unfold disk_Disk_has.N
  refine (is_spec h).mono fun e w5 ⟨he, hw⟩ => ⟨_, he, fun hn => ?_, fun h0 => ?_⟩
  · subst hw
    refine ⟨?_, rfl⟩
    unfold isD at hn ⊢; unfold hasD
    cases hd : d.down
    · rw [hd] at hn; exact absurd rfl hn
    · rfl
  · subst hw
    have hd : d.down = false := by
      unfold isD at h0
      cases hd : d.down
      · rfl
      · rw [hd] at h0; cases h0
    obtain ⟨⟨ga, gc, pa, pc, hb, hg, hp⟩, tg⟩ := h
    unfold hasD
    rw [hd]
    refine ⟨fun hi => ⟨?_, rfl⟩, fun hi => ⟨_, rfl, ga, _, gc, hb.celli 0 rfl rfl, fun hn => ⟨?_, rfl⟩, fun hn => ⟨?_, rfl⟩⟩⟩
    · rw [if_neg (by decide), if_pos (.inl hi)]
    · rw [if_neg (by decide), if_pos (.inr hn)]
    · rw [if_neg (by decide), if_neg (by omega)]
theorem Down_spec (h : DG w o g d) : Calls Try.prog 24 #[.pointer (some (blk g))] w (Ret (.bool d.down) fun w' => w' = w) := by
  obtain ⟨⟨ga, gc, pa, pc, hb, hg, hp⟩, tg⟩ := h
  refine disk_Disk_Down.run _ ?_
  unfold disk_Disk_Down.N
  refine ⟨fun _ => ⟨_, rfl, stI d.down, hb.celli 4 rfl rfl, ?_, rfl⟩, fun h => (by cases h)⟩
  unfold stI
  cases d.down <;> rfl
theorem Sectors_spec (h : DG w o g d) : Calls Try.prog 53 #[.pointer (some (blk g))] w (Ret (.int .i64 d.good.length) fun w' => w' = w) := by
  obtain ⟨⟨ga, gc, pa, pc, hb, hg, hp⟩, tg⟩ := h
  refine disk_Disk_Sectors.run _ ?_
  unfold disk_Disk_Sectors.N
  exact ⟨fun h => (by cases h), fun _ => ⟨_, rfl, ga, _, gc, hb.celli 0 rfl rfl, rfl, rfl⟩⟩
end
end Go.Proofs.Ytgcjipbahfpopaa

/- Disk: Read and Write. -/
set_option linter.unusedVariables false
set_option linter.unusedSimpArgs false
set_option maxRecDepth 20000
set_option maxHeartbeats 4000000
namespace Go.Proofs.Ytgcjipbahfpopaa
open Go Go.Mx Go.Proofs
open W (OwnB)
theorem inf5 : (Try.prog.info? 5).map (fun i => (i.zero, i.size, i.bytes)) = some (some (.int .u8 0), 1, 1) := by kernel_rfl
section
variable {K : Nat → Prop} {w w' w1 : World} {o o' o1 : Own} {g g2 m : Nat} {d : DS} {i : Int}
/-- bytes that are read: a fresh array, the reader's. -/
def RdD (w : World) (o : Own) (r : List UInt8 × Int) (a : Option Addr) (n c : Nat) (w' : World) (o' : Own) : Prop :=
  n = r.1.length ∧ n ≤ c ∧ Step no w o w' o' ∧ (r.2 ≠ 0 → a = none ∧ r.1 = []) ∧ (r.2 = 0 → ∃ q t, a = some (blk q) ∧ Blk w' q 88 (bytesV r.1 ++ [.bool t]) ∧ r.1.length = 64 ∧ w.heap.size ≤ q ∧ o' q = some q)
theorem lastP_snoc (i : Int) (x : Wt) : ∀ (l : List Wt) (s : Sec), lastP i s (l ++ [x]) = if x.i = i then x.s else lastP i s l
  | [], _ => rfl
  | y :: r, s => lastP_snoc i x r _
theorem hasD_0 (h : hasD d i = 0) : d.down = false ∧ 0 ≤ i ∧ i < d.good.length := by
  unfold hasD at h
  cases hd : d.down
  · rw [hd, if_neg (by decide)] at h
    by_cases hi : i < 0 ∨ (d.good.length : Int) ≤ i
    · rw [if_pos hi] at h; cases h
    · exact ⟨rfl, by omega, by omega⟩
  · rw [hd, if_pos rfl] at h; cases h
theorem Sec.arr (s : Sec) : szB Try.prog 88 s.C.toArray.size = true := by rw [List.size_toArray, s.len]; exact sz65
theorem Wt.arr (x : Wt) : szB Try.prog 90 x.C.toArray.size = true := by rw [List.size_toArray, x.len]; exact sz66
theorem setAll_all {vs cs : List Value} (h : vs.length = cs.length) : setAll cs 0 vs = vs := by
  have := setAll_head (cs := []) h
  simpa using this
/-- a whole value stored into a block of its size. -/
theorem stores_all {q : Nat} {t : TypeId} {cs vs : List Value} {Φ : World → Prop} (hb : Blk w q t cs) (hl : vs.length = cs.length) (h1 : ∀ v ∈ vs, v.oneCell' = true) (h : ∀ w', Ext (fun b => b = q) w w' → Blk w' q t vs → Φ w') : storesK (blk q) vs 0 w Φ := by
  have := storesK_blk (k := 0) (j := 0) hb (vs := vs) (by omega) h1 (Φ := Φ) fun w' X hb' => h w' X (by rwa [Nat.zero_add, setAll_all hl] at hb')
  exact this
theorem dRead_spec (h : DG w o g d) (ok : Tags w o) (i : Int) (hpl : d.pend.length < 1000000) :
    Calls Try.prog 50 #[.pointer (some (blk g)), .int .i64 i] w (fun x w' => ∃ a n c o', x = .returned (.tuple #[.slice a n c, .int .i64 (readD d i).2]) ∧ RdD w o (readD d i) a n c w' o') := by
  refine (disk_Disk_Read.go _ _ (R := fun v w' => ∃ a n c o', v = (.tuple #[.slice a n c, .int .i64 (readD d i).2]) ∧ RdD w o (readD d i) a n c w' o') ?_).mono fun x w' ⟨v, he, a, n, c, o', hv, hR⟩ => ⟨a, n, c, o', by rw [he, hv], hR⟩
  unfold disk_Disk_Read.N
  refine (has_spec h i).mono fun e w5 ⟨he, hw⟩ => ⟨_, he, fun hn => ?_, fun h0 => ?_⟩
  · subst hw
    unfold readD
    rw [if_neg hn]
    exact ⟨none, 0, 0, o, rfl, rfl, Nat.le_refl _, Step.refl _ ok, fun _ => ⟨rfl, rfl⟩, fun h => absurd h hn⟩
  subst hw
  obtain ⟨hd, hi0, hi1⟩ := hasD_0 h0
  have h' := h
  obtain ⟨⟨ga, gc, pa, pc, hb, hg, hp⟩, tg⟩ := h
  have hgt : d.good[i.toNat]? = some d.good[i.toNat] := List.getElem?_eq_getElem (by omega)
  have hrd : readS d i = lastP i (d.good[i.toNat]'(by omega)) d.pend := by unfold readS; rw [hgt]; rfl
  generalize hs0 : d.good[i.toNat]'(by omega) = s0 at *
  have hgr := hg.row
  obtain ⟨ad, rfl⟩ := hgr.faddr Sec.len (by decide) (i := i.toNat) (by omega)
  refine ⟨_, rfl, some ad, _, gc, hb.celli 0 rfl rfl, ad, rfl, hi0, hi1, s0.C.toArray, s0.arr, hgr.floads Sec.len hgt, fun w13 q14 X13 hb13 hq hq' => ⟨s0.arr, stores_all hb13 (by rw [s0.len]; simp) s0.one fun w15 X15 hb15 => ?_⟩⟩
  have s13 := (Step.of_no X13 ok).tag (j := q14) hq hq'
  have M13 : Mine [q14] w13 (tag (grow w5 o) q14 q14) := fun p hp => by rw [show p = q14 by simpa using hp]; exact ⟨hq', tag_self⟩
  have s15' := Step.stores X15 s13.ok M13 (by simp)
  have s15 : Step no w5 o w15 _ := s13.trans' s15' fun j hj => .inr (by simp at hj; omega)
  have hbk : ∀ {w1 : World} {o1 : Own}, Step no w5 o w1 o1 → Blk w1 g 79 (d.V (some ad) gc pa pc) := fun s => s.blk hb tg id
  refine ⟨pa, _, pc, (hbk s15).celli 1 rfl rfl, fun k vs w1 => ∃ (t : Nat) (o1 : Own), vs = [.int .i64 t] ∧ k + t = d.pend.length ∧ Step no w5 o w1 o1 ∧ Mine [q14] w1 o1 ∧ Blk w1 q14 88 (lastP i s0 (d.pend.take t)).C, d.pend.length, ⟨0, _, rfl, rfl, s15, M13.step s15', hb15⟩, ?_⟩
  rintro k w21 t0 ⟨t, o21, hi, hk, s21, M21, hb21⟩
  simp only [List.cons.injEq, Value.int.injEq, true_and, and_true] at hi
  subst hi
  refine ⟨fun ht => ?_, fun ht => ?_⟩
  · have htl : t < d.pend.length := by omega
    have hgp : d.pend[t]? = some d.pend[t] := List.getElem?_eq_getElem htl
    have htk : d.pend.take (t + 1) = d.pend.take t ++ [d.pend[t]] := by rw [List.take_add_one, hgp]; rfl
    generalize d.pend[t] = x at *
    have hpr := (hp.step s21 id).row
    obtain ⟨pd, rfl⟩ := hpr.faddr Wt.len (by decide) htl
    refine ⟨pd, rfl, by omega, by omega, x.C.toArray, x.arr, by rw [Int.toNat_natCast]; exact hpr.floads Wt.len hgp, fun w26 q27 X26 hb26 hq2 hq2' => ⟨x.arr, stores_all hb26 (by rw [x.len]; simp) x.one fun w28 X28 hb28 => ?_⟩⟩
    have s26 := (Step.of_no X26 s21.ok).tag (j := q27) hq2 hq2'
    have M26 : Mine [q27] w26 (tag (grow w21 o21) q27 q27) := fun p hp => by rw [show p = q27 by simpa using hp]; exact ⟨hq2', tag_self⟩
    have s28' := Step.stores X28 s26.ok M26 (by simp)
    have s28 : Step no w21 o21 w28 _ := s26.trans' s28' fun j hj => .inr (by simp at hj; omega)
    have hq14 := M21.lt (p := q14) (by simp)
    have M28 := M21.step s28
    have hb14 := s28.blk hb21 (M21 q14 (by simp)).2 id
    have s528 := s21.trans s28
    refine ⟨x.i, hb28.celli 0 rfl rfl, fun hxi => ⟨x.s.C.toArray, x.s.arr, ?_, x.s.arr, stores_all hb14 (by rw [x.s.len, Sec.len]) x.s.one fun w34 X34 hb34 => ⟨by omega, by omega, ?_⟩⟩, fun hxi => ⟨by omega, by omega, k - 1, by omega, t + 1, _, rfl, by omega, s528, M28, ?_⟩⟩
    · exact cellsAt_blk hb28 _ 0 fun n v hv => by rw [show 1 + 0 + n = n + 1 by omega]; exact hv
    · have s34' := Step.stores X34 s528.ok M28 (by simp)
      exact ⟨k - 1, by omega, t + 1, _, rfl, by omega, s528.trans' s34' fun j hj => .inr (by simp at hj; omega), M28.step s34', by rw [htk, lastP_snoc, if_pos hxi]; exact hb34⟩
    · rw [htk, lastP_snoc, if_neg hxi]; exact hb14
  · rw [List.take_of_length_le (by omega), ← hrd] at hb21
    have hcell : w21.cell? ((blk q14).add 64) = some (.bool (readS d i).torn) := hb21.celli 64 rfl (by
      unfold Sec.C
      rw [List.getElem?_append_right (by rw [bytesV_length, (readS d i).h]; omega), bytesV_length, (readS d i).h]; rfl)
    refine ⟨_, hcell, fun htn => ?_, fun htn => ?_⟩
    · unfold readD
      rw [if_pos h0, if_pos htn]
      exact ⟨none, 0, 0, o21, rfl, rfl, Nat.le_refl _, s21, fun _ => ⟨rfl, rfl⟩, fun h => absurd h (by decide)⟩
    · unfold readD
      rw [if_pos h0, if_neg (by rw [htn]; decide)]
      exact ⟨some (blk q14), 64, 64, o21, rfl, (readS d i).h.symm, Nat.le_refl _, s21, fun h => absurd rfl h, fun _ => ⟨q14, _, rfl, hb21, (readS d i).h, hq, (M21 q14 (by simp)).2⟩⟩
end
end Go.Proofs.Ytgcjipbahfpopaa

/- Disk: Write. -/
set_option linter.unusedVariables false
set_option linter.unusedSimpArgs false
set_option maxRecDepth 20000
set_option maxHeartbeats 4000000
namespace Go.Proofs.Ytgcjipbahfpopaa
open Go Go.Mx Go.Proofs
open W (OwnB)
section
variable {K : Nat → Prop} {w w' w1 : World} {o o' o1 : Own} {g g2 m : Nat} {d : DS} {i : Int} {a : Option Addr} {c : Nat} {l : List Wt}
theorem Wts.one {l : List Wt} : ∀ u ∈ l.flatMap Wt.C, u.oneCell' = true := fun u hu => by
  obtain ⟨x, _, h⟩ := List.mem_flatMap.1 hu
  exact x.one u h
theorem WRw.push (h : WRw w o g a c l) (ok : Tags w o) (hg : g < w.heap.size) (hl : l.length < 1000000) {xa : Option Addr} {xc : Nat} {r : List Wt} (hr : RowAt w xa (r.flatMap Wt.C)) (hrl : r.length < 1000000) :
    ∃ a' n' c' w' o', (Builtin.append_ #[76, 76] 76 #[.slice a l.length c, .slice xa r.length xc]).run Try.prog w = .ok (.slice a' n' c') w' ∧ n' = (l ++ r).length ∧ Step (fun j => j = g) w o w' o' ∧ WRw w' o' g a' c' (l ++ r) ∧ Ext (fun b => ∃ ad, a = some ad ∧ b = ad.block) w w' := by
  obtain ⟨i, hi, hz, hsz, hby⟩ := info_of inf90
  obtain ⟨a', c', w', o', hrun, s2, hrow, hk, _⟩ := Grows.push (ty := 76) Try.underlying76 hi hz hsz hby rfl (by decide) h ok hg (xa := xa) (m := r.length) (xc := xc) (news := r.flatMap Wt.C) (flat_length Wt.len r) hr Wts.one (by omega) (by omega)
  exact ⟨a', _, c', w', o', hrun, by simp, s2, by unfold WRw; rw [List.length_append, List.flatMap_append]; exact hrow, ⟨s2.ext.os, s2.ext.tape, s2.ext.output, s2.ext.size, fun b hb hn => hk b hb fun ad ha hb' => hn ⟨ad, ha, hb'⟩⟩⟩
theorem last_set (l : List Wt) (x y : Wt) (k : Nat) (v : Value) (hk : k < 66) (h : x.C.set k v = y.C) : ((l ++ [x]).flatMap Wt.C).set (l.length * 66 + k) v = (l ++ [y]).flatMap Wt.C := by
  rw [List.flatMap_append, List.set_append_right _ _ (by rw [flat_length Wt.len]; omega), flat_length Wt.len, List.flatMap_append]
  congr 1
  rw [show l.length * 66 + k - l.length * 66 = k by omega]
  simpa using h
/-- a write is pending. -/
theorem pend_spec (h : DG w o g d) (ok : Tags w o) (hpl : d.pend.length < 100000) (x : Wt) {q : Nat} (hb : Blk w q 90 x.C) :
    ∃ pa n pc, w.cell? ((blk g).add 1) = some (.slice pa n pc) ∧ ∃ a' n' c' w' o', (Builtin.append_ #[76, 76] 76 #[.slice pa n pc, .slice (some (blk q)) 1 1]).run Try.prog w = .ok (.slice a' n' c') w' ∧ Step (fun j => j = g) w o w' o' ∧
      canStore w' ((blk g).add 1) ∧ ∀ w2, w2 = w'.setCell ((blk g).add 1) (.slice a' n' c') → Step (fun j => j = g) w o w2 (grow w' o') ∧ DG w2 (grow w' o') g { d with pend := d.pend ++ [x] } := by
  obtain ⟨⟨ga, gc, pa, pc, hbk, hg, hp⟩, tg⟩ := h
  obtain ⟨a', n', c', w', o', hrun, hn, s2, hp2, X2⟩ := hp.push ok hbk.lt (by omega) (xa := some (blk q)) (xc := 1) (r := [x]) (by simpa using RowAt.of_blk hb) (by simp)
  subst hn
  have hb2 : Blk w' g 79 (d.V ga gc pa pc) := hbk.ext X2 fun ⟨ad, h1, h2⟩ => hp.ne hbk (by decide) ad h1 h2.symm
  have hg2 : SRw w' o' g ga gc d.good := hg.keep X2 (fun ad ha ⟨ad', h1, h2⟩ => hg.apart hp (by decide) ad ad' ha h1 h2) fun b hb => s2.own hb
  have tg2 : o' g = some g := by rw [s2.own hbk.lt]; exact tg
  refine ⟨pa, _, pc, hbk.celli 1 rfl rfl, a', _, c', w', o', hrun, s2, hb2.cani 1 rfl rfl, fun w3 e3 => ?_⟩
  have X3 := (Ext.refl (fun b => b = g) w').x_set (q := g) (i := 1) rfl (.inl rfl) e3
  have b3 := hb2.seti 1 (v := .slice a' (d.pend ++ [x]).length c') rfl e3
  obtain ⟨s3, D3⟩ := DG.turn (d2 := { d with pend := d.pend ++ [x] }) hg2 hp2 tg2 hb2 s2.ok X3 b3
  exact ⟨s2.trans s3, D3⟩
/-- the last one that is pending is torn. -/
theorem tear_spec {x y : Wt} (h : DG w o g { d with pend := d.pend ++ [x] }) (ok : Tags w o) (hpl : d.pend.length < 100000) (hxy : x.C.set 65 (.bool true) = y.C) :
    ∃ pa n pc, w.cell? ((blk g).add 1) = some (.slice pa n pc) ∧ n = d.pend.length + 1 ∧ ∃ ad, pa = some ad ∧ ∀ w2, Ext no w w2 → canStore w2 (ad.add (d.pend.length * 66 + 65)) ∧ ∀ w3, w3 = w2.setCell (ad.add (d.pend.length * 66 + 65)) (.bool true) → ∃ o', Step (fun j => j = g) w o w3 o' ∧ DG w3 o' g { d with pend := d.pend ++ [y] } := by
  have hh := h
  obtain ⟨⟨ga, gc, pa, pc, hbk, hg, hp⟩, tg⟩ := h
  have hl : (d.pend ++ [x]).length = d.pend.length + 1 := by simp
  have hne : (d.pend ++ [x]).flatMap Wt.C ≠ [] := fun e => by
    have := congrArg List.length e
    rw [flat_length Wt.len, hl] at this; simp at this
  obtain ⟨b, cur, ha, hb, hle, hob, hbl, hput⟩ := Grows.put (j := d.pend.length * 66 + 65) (vs := [.bool true]) hp ok hne
  subst ha
  have hj : d.pend.length * 66 + 65 < cur.length := by
    have : ((d.pend ++ [x]).flatMap Wt.C).length = (d.pend.length + 1) * 66 := by rw [flat_length Wt.len, hl]
    have hle' : ((d.pend ++ [x]).flatMap Wt.C).length ≤ cur.length := hle
    omega
  refine ⟨_, _, pc, hbk.celli 1 rfl rfl, hl, blk b, rfl, fun w2 X => ⟨?_, fun w3 e3 => ?_⟩⟩
  · have hb2 := hb.ext X (fun h => h)
    exact hb2.cana (List.getElem?_eq_getElem hj)
  · have hb2 := hb.ext X (fun h => h)
    rw [add_blk] at e3
    have X3 : Ext (fun q => q = b) w w3 := (X.mono fun _ h _ => h.elim : Ext (fun q => q = b) w w2).x_set (q := b) (i := d.pend.length * 66 + 65) rfl (.inl rfl) e3
    have b3 := hb2.seti (d.pend.length * 66 + 65) (v := .bool true) rfl e3
    obtain ⟨s3, h3⟩ := hput w3 X3 b3
    have hset : setAll ((d.pend ++ [x]).flatMap Wt.C) (d.pend.length * 66 + 65) [.bool true] = (d.pend ++ [y]).flatMap Wt.C := last_set d.pend x y 65 _ (by decide) hxy
    refine ⟨_, s3, ⟨ga, gc, some (blk b), pc, ?_, ?_, ?_⟩, by rw [s3.own hbk.lt]; exact tg⟩
    · have hgb : g ≠ b := fun e => hp.ne hbk (by decide) _ rfl (by rw [e])
      have := hbk.ext X3 hgb
      have e : (DS.V { d with pend := d.pend ++ [y] } ga gc (some (blk b)) pc) = (DS.V { d with pend := d.pend ++ [x] } ga gc (some (blk b)) pc) := by unfold DS.V; simp
      rw [e]; exact this
    · exact hg.keep X3 (fun ad ha h2 => hg.apart hp (by decide) ad (blk b) ha rfl h2) fun b hb => s3.own hb
    · unfold WRw
      rw [← hset, show (d.pend ++ [y]).length = (d.pend ++ [x]).length by simp]
      exact h3
theorem zeros_write (i : Int) (b : List UInt8) (t : Bool) (h : b.length = 64) : setAll ([Value.int .i64 i] ++ List.replicate 64 (.int .u8 0) ++ [.bool t]) 1 (bytesV b) = Wt.C ⟨i, ⟨b, t, h⟩⟩ := by
  have := setAll_mid (u := [Value.int .i64 i]) (x := List.replicate 64 (.int .u8 0)) (y := [.bool t]) (v := bytesV b) (by rw [bytesV_length, h]; simp)
  rw [show ([Value.int .i64 i] : List Value).length = 1 from rfl] at this
  rw [this]; rfl
theorem dWrite_spec (h : DG w o g d) (ok : Tags w o) (hd : d.ok m) (hm : m < 100000) (i : Int) {ba : Option Addr} {bc : Nat} {b : List UInt8} (hb : RowAt w ba (bytesV b)) :
    Calls Try.prog 28 #[.pointer (some (blk g)), .int .i64 i, .slice ba b.length bc] w (Ret (.int .i64 (writeD d i b).2) fun w' => ∃ o', Step (fun j => j = g) w o w' o' ∧ DG w' o' g (writeD d i b).1) := by
  refine disk_Disk_Write.run _ _ _ _ _ ?_
  unfold disk_Disk_Write.N
  refine (has_spec h i).mono fun e w6 ⟨he, hw⟩ => ⟨_, he, fun hn => ?_, fun h0 => ?_⟩
  · subst hw
    unfold writeD
    rw [if_neg hn]
    exact ⟨rfl, o, Step.refl _ ok, h⟩
  subst hw
  refine ⟨fun hn => ?_, fun h64 w9 q10 X9 hb9 hq hq' => ?_⟩
  · unfold writeD
    rw [if_pos h0, dif_neg (by omega)]
    exact ⟨rfl, o, Step.refl _ ok, h⟩
  have hbl : b.length = 64 := by omega
  have hpl := hd.pl
  have s9 := (Step.of_no X9 ok).tag (j := q10) hq hq'
  have M9 : Mine [q10] w9 (tag (grow w6 o) q10 q10) := fun p hp => by rw [show p = q10 by simpa using hp]; exact ⟨hq', tag_self⟩
  refine putsK_ok (k := 0) hb9 (by simp) fun w76 X76 hb76 => ?_
  rw [Nat.zero_add, setAll_all (by simp)] at hb76
  have s76' := Step.stores X76 s9.ok M9 (by simp)
  have s76 : Step no w6 o w76 _ := s9.trans' s76' fun j hj => .inr (by simp at hj; omega)
  have M76 := M9.step s76'
  have hb6 : RowAt w76 ba (bytesV b) := (hb.no X9).ext' X76 fun hne ad ha (e : ad.block = q10) => by have := hb.lt hne ha; omega
  obtain ⟨bd, rfl⟩ := hb6.addr fun e => by have := congrArg List.length e; rw [bytesV_length, hbl] at this; cases this
  obtain ⟨u8, hu, hz, hsz, hby⟩ := info_of inf5
  have hcl : (bytesV b).length = 64 := by rw [bytesV_length, hbl]
  have hcopy := run_copy_gen (P := Try.prog) (dT := 23) (sT := 23) (ty := 3) (dLen := 64) (dCap := 64) (sLen := b.length) (sCap := bc) (n := 64) (sz := 1) (o := 1) (a := bd) Try.underlying23 hu hsz (by rw [hbl]; rfl) (by rw [hcl]) (fun j v hv => hb6.at_ hv) hb76 (by rw [hcl]; simp) bytesV_one
  obtain ⟨hb78, X78⟩ := setCells_setAll (cs := bytesV b) (o := 1) hb76 (by rw [hcl]; simp)
  generalize w76.setCells q10 1 (bytesV b) = w78 at *
  have s78' := Step.stores X78 s76.ok M76 (by simp)
  have s78 : Step no w6 o w78 _ := s76.trans' s78' fun j hj => .inr (by simp at hj; omega)
  rw [zeros_write i b false hbl] at hb78
  refine ⟨_, w78, hcopy, ?_⟩
  have D78 := h.step s78 id
  obtain ⟨x, hx⟩ : ∃ x : Wt, x = ⟨i, ⟨b, false, hbl⟩⟩ := ⟨_, rfl⟩
  rw [← hx] at hb78
  have hcell1 : ∃ pa n pc, w78.cell? ((blk g).add 1) = some (.slice pa n pc) := by
    obtain ⟨⟨ga, gc, pa, pc, hbk, _, _⟩, _⟩ := D78
    exact ⟨pa, _, pc, hbk.celli 1 rfl rfl⟩
  obtain ⟨pa, pn, pc, hc78⟩ := hcell1
  refine ⟨blk g, rfl, pa, pn, pc, hc78, x.C.toArray, x.arr, cellsAt_blk (k := 0) hb78 _ 0 fun n v hv => by rw [show 0 + 0 + n = n by omega]; exact hv, x.arr, fun w85 q86 X85 hb85 hq2 hq2' => ?_⟩
  have s85' := Step.of_no X85 s78.ok
  have s85 := s78.trans s85'
  have D85 := D78.step s85' id
  obtain ⟨pa2, pn2, pc2, hc85, a', n', c', w89, o89, hrun, s89, hcan, hst⟩ := pend_spec D85 s85.ok (by omega) x hb85
  have e2 : (Value.slice pa pn pc) = .slice pa2 pn2 pc2 := by
    have := X85.cell hc78 id
    rw [hc85] at this
    exact (Option.some.inj this).symm
  cases e2
  refine ⟨hc85, a', n', c', w89, hrun, hcan, thenW_in fun w90 e90 => ?_⟩
  obtain ⟨s90', D90⟩ := hst w90 e90
  have s90 : Step (fun j => j = g) w6 o w90 _ := s85.none.trans s90'
  have hW : writeD d i b = if d.armed then (if d.left = 0 then ({ d with pend := d.pend ++ [⟨i, ⟨b, true, hbl⟩⟩], down := true }, 19) else ({ d with pend := d.pend ++ [x], left := d.left - 1, count := d.count + 1 }, 0)) else ({ d with pend := d.pend ++ [x], count := d.count + 1 }, 0) := by
    unfold writeD; rw [if_pos h0, dif_pos hbl, ← hx]
  have hx' : ∀ y : Wt, y = ⟨i, ⟨b, true, hbl⟩⟩ → x.C.set 65 (.bool true) = y.C := fun y hy => by
    subst hx; subst hy
    show (Value.int .i64 i :: (bytesV b ++ [.bool false])).set 65 (.bool true) = Value.int .i64 i :: (bytesV b ++ [.bool true])
    rw [List.set_cons_succ, List.set_append_right _ _ (by rw [hcl]; omega), hcl]; rfl
  have hcl := hd.cl
  have hleft := hd.left
  have D90' := D90
  obtain ⟨⟨ga, gc, pa3, pc3, hbk, hg3, hp3⟩, tg⟩ := D90
  refine ⟨d.armed, hbk.celli 3 rfl rfl, fun har => ⟨d.left, hbk.celli 2 rfl rfl, fun hl0 => ?_, fun hl0 => ?_⟩, fun har => ?_⟩
  · rw [hW, if_pos har, if_pos hl0]
    refine ⟨hbk.cani 4 rfl rfl, thenW_in fun w97 e97 => ?_⟩
    have X97 := (Ext.refl (fun b => b = g) w90).x_set (q := g) (i := 4) rfl (.inl rfl) e97
    have b97 := hbk.seti 4 (v := .int .i64 1) rfl e97
    obtain ⟨s97, D97⟩ := DG.turn (d2 := { d with pend := d.pend ++ [x], down := true }) hg3 hp3 tg hbk s90'.ok X97 b97
    obtain ⟨pa4, pn4, pc4, hc97, hpn, ad, hpa, hfin⟩ := tear_spec (d := { d with down := true }) (x := x) (y := ⟨i, ⟨b, true, hbl⟩⟩) D97 s97.ok (by show d.pend.length < _; omega) (hx' _ rfl)
    subst hpn; subst hpa
    refine ⟨_, _, _, hc97, _, _, _, hc97, by show _ ≤ ((d.pend.length + 1 : Nat) : Int) - 1; omega, by show ((d.pend.length + 1 : Nat) : Int) - 1 < _; omega, ad, rfl, by show _ ≤ ((d.pend.length + 1 : Nat) : Int) - 1; omega, by show ((d.pend.length + 1 : Nat) : Int) - 1 < ((d.pend.length + 1 : Nat) : Int); omega, fun w98 X98 => ?_⟩
    obtain ⟨hcs, hst3⟩ := hfin w98 X98
    have e5 : (((ad.add (Int.toNat (((d.pend.length + 1 : Nat) : Int) - 1) * 66)).add 1).add 64).add 0 = ad.add (d.pend.length * 66 + 65) := by
      rw [add_add, add_add, add_add]; congr 1; omega
    show canStore w98 ((((ad.add (Int.toNat (((d.pend.length + 1 : Nat) : Int) - 1) * 66)).add 1).add 64).add 0) ∧ thenW (w98.setCell ((((ad.add (Int.toNat (((d.pend.length + 1 : Nat) : Int) - 1) * 66)).add 1).add 64).add 0) (.bool true)) _
    rw [e5]
    refine ⟨hcs, thenW_in fun w104 e104 => ?_⟩
    obtain ⟨o104, s104, D104⟩ := hst3 w104 e104
    exact ⟨rfl, _, (s90.trans s97).trans s104, D104⟩
  · rw [hW, if_pos har, if_neg hl0]
    refine ⟨d.left, hbk.celli 2 rfl rfl, by omega, by omega, hbk.cani 2 rfl rfl, thenW_in fun w107 e107 => ?_⟩
    have X107 := (Ext.refl (fun b => b = g) w90).x_set (q := g) (i := 2) rfl (.inl rfl) e107
    have b107 := hbk.seti 2 (v := .int .i64 (d.left - 1)) rfl e107
    refine ⟨d.count, b107.celli 5 rfl rfl, by omega, by omega, b107.cani 5 rfl rfl, thenW_in fun w110 e110 => ?_⟩
    have X110 := X107.x_set (q := g) (i := 5) rfl (.inl rfl) e110
    have b110 := b107.seti 5 (v := .int .i64 (d.count + 1)) rfl e110
    obtain ⟨s97, D97⟩ := DG.turn (d2 := { d with pend := d.pend ++ [x], left := d.left - 1, count := d.count + 1 }) hg3 hp3 tg hbk s90'.ok X110 b110
    exact ⟨rfl, _, s90.trans s97, D97⟩
  · rw [hW, if_neg (by rw [har]; decide)]
    refine ⟨d.count, hbk.celli 5 rfl rfl, by omega, by omega, hbk.cani 5 rfl rfl, thenW_in fun w113 e113 => ?_⟩
    have X113 := (Ext.refl (fun b => b = g) w90).x_set (q := g) (i := 5) rfl (.inl rfl) e113
    have b113 := hbk.seti 5 (v := .int .i64 (d.count + 1)) rfl e113
    obtain ⟨s97, D97⟩ := DG.turn (d2 := { d with pend := d.pend ++ [x], count := d.count + 1 }) hg3 hp3 tg hbk s90'.ok X113 b113
    exact ⟨rfl, _, s90.trans s97, D97⟩
end
end Go.Proofs.Ytgcjipbahfpopaa

/- Disk: settle, Sync, Restart, Copy, New. -/
set_option linter.unusedVariables false
set_option linter.unusedSimpArgs false
set_option maxRecDepth 20000
set_option maxHeartbeats 4000000
namespace Go.Proofs.Ytgcjipbahfpopaa
open Go Go.Mx Go.Proofs
open W (OwnB)
section
variable {K : Nat → Prop} {w w' w1 : World} {o o' o1 : Own} {g g2 m : Nat} {d : DS} {i : Int} {a : Option Addr} {c : Nat} {l : List Wt}
/-- a disk in memory whose rows lie where they lay. -/
structure DGa (w : World) (o : Own) (g : Nat) (d : DS) (ga : Option Addr) (gc : Nat) (pa : Option Addr) (pc : Nat) : Prop where
  b : Blk w g 79 (d.V ga gc pa pc)
  hg : SRw w o g ga gc d.good
  hp : WRw w o g pa pc d.pend
  tg : o g = some g
variable {ga pa : Option Addr} {gc pc : Nat}
theorem DGa.dg (h : DGa w o g d ga gc pa pc) : DG w o g d := ⟨⟨ga, gc, pa, pc, h.b, h.hg, h.hp⟩, h.tg⟩
theorem DGa.step (h : DGa w o g d ga gc pa pc) (s : Step K w o w' o') (hk : ¬ K g) : DGa w' o' g d ga gc pa pc :=
  ⟨s.blk h.b h.tg hk, h.hg.step s hk, h.hp.step s hk, by rw [s.own h.b.lt]; exact h.tg⟩
/-- a sector of its stored. -/
theorem DGa.put (h : DGa w o g d ga gc pa pc) (ok : Tags w o) {j : Nat} (hj : j < d.good.length) (s : Sec) {ad : Addr} (ha : ga = some ad) {Φ : World → Prop}
    (hΦ : ∀ w' o', Step (fun i => i = g) w o w' o' → DGa w' o' g { d with good := d.good.set j s } ga gc pa pc → Φ w') : storesK (ad.add (j * 65)) s.C 0 w Φ := by
  have hne : d.good.flatMap Sec.C ≠ [] := fun e => by
    have := congrArg List.length e
    rw [flat_length Sec.len] at this; simp at this; omega
  obtain ⟨b, cur, hb, hbb, hle, hob, hbl, hput⟩ := Grows.put (j := j * 65) (vs := s.C) h.hg ok hne
  rw [ha] at hb
  cases hb
  rw [flat_length Sec.len] at hle
  have h2 : (j + 1) * 65 ≤ d.good.length * 65 := Nat.mul_le_mul_right _ hj
  refine storesK_blk (k := j * 65) (j := 0) hbb (by rw [s.len]; omega) s.one fun w' X hb' => ?_
  obtain ⟨st, hg2⟩ := hput w' X hb'
  rw [setAll_flat Sec.len s hj] at hg2
  have hgb : g ≠ b := fun e => h.hg.ne h.b (by decide) (blk b) ha (by rw [e])
  refine hΦ w' _ st ⟨?_, by unfold SRw; rw [List.length_set]; exact hg2, h.hp.keep X (fun ad2 h3 h4 => h.hp.apart h.hg (by decide) ad2 (blk b) h3 ha h4) (fun b hb => st.own hb), by rw [st.own h.b.lt]; exact h.tg⟩
  have e : DS.V { d with good := d.good.set j s } ga gc pa pc = d.V ga gc pa pc := by unfold DS.V; simp
  rw [e]
  exact h.b.ext X hgb
theorem settleL_len (k : Nat → Bool) : ∀ (l : List Wt) (t : Nat) (gl : List Sec), (settleL k t gl l).length = gl.length
  | [], _, _ => rfl
  | x :: r, t, gl => by
    rw [settleL, settleL_len k r]
    split
    · rw [List.length_set]
    · rfl
theorem settle_spec (h : DG w o g d) (ok : Tags w o) (hd : d.ok m) (hm : m < 100000) {kk : Nat} {kf kg : Array Value} {k : Nat → Bool}
    (hk : ∀ (t : Nat) w1 o1, t < d.pend.length → Step (fun j => j = g) w o w1 o1 → enters Try.prog kk = true ∧ Calls Try.prog kk (kf.toList ++ ([.int .i64 (t : Int)] : List Value) ++ kg.toList).toArray w1 (Ret (.bool (k t)) fun w2 => w2 = w1)) :
    Calls Try.prog 45 #[.pointer (some (blk g)), .func (.func kk) kf kg] w (Ret (.tuple #[]) fun w' => ∃ o', Step (fun j => j = g) w o w' o' ∧ DG w' o' g (settleD d k)) := by
  refine disk_Disk_settle.run _ _ _ _ ?_
  unfold disk_Disk_settle.N
  obtain ⟨⟨ga, gc, pa, pc, hb, hg, hp⟩, tg⟩ := h
  have hpl := hd.pl
  refine ⟨_, rfl, pa, _, pc, hb.celli 1 rfl rfl, fun q vs w1 => ∃ (t : Nat) (gl : List Sec) (o1 : Own), vs = [.int .i64 t] ∧ q + t = d.pend.length ∧ Step (fun j => j = g) w o w1 o1 ∧ DGa w1 o1 g { d with good := gl } ga gc pa pc ∧ gl.length = d.good.length ∧ settleL k t gl (d.pend.drop t) = settleL k 0 d.good d.pend, d.pend.length, ⟨0, d.good, o, rfl, rfl, Step.refl _ ok, ⟨hb, hg, hp, tg⟩, rfl, rfl⟩, ?_⟩
  rintro q w9 t0 ⟨t, gl, o9, hi, hq, s9, D, hgl, hset⟩
  simp only [List.cons.injEq, Value.int.injEq, true_and, and_true] at hi
  subst hi
  refine ⟨fun ht => ?_, fun ht => ?_⟩
  · have htl : t < d.pend.length := by omega
    have hgp : d.pend[t]? = some d.pend[t] := List.getElem?_eq_getElem htl
    have hat := hd.at_ _ (List.getElem_mem htl)
    rw [List.drop_eq_getElem_cons htl, settleL] at hset
    generalize d.pend[t] = x at *
    have hpr := D.hp.row
    obtain ⟨pd, hpd⟩ := hpr.faddr Wt.len (by decide) htl
    subst hpd
    refine ⟨pd, rfl, by omega, by omega, x.C.toArray, x.arr, by rw [Int.toNat_natCast]; exact hpr.floads Wt.len hgp, fun w14 q15 X14 hb14 hq1 hq2 => ⟨x.arr, stores_all hb14 (by rw [x.len]; simp) x.one fun w16 X16 hb16 => ?_⟩⟩
    have s14 := (Step.of_no X14 s9.ok).tag (j := q15) hq1 hq2
    have M14 : Mine [q15] w14 (tag (grow w9 o9) q15 q15) := fun p hp => by rw [show p = q15 by simpa using hp]; exact ⟨hq2, tag_self⟩
    have s16' := Step.stores X16 s14.ok M14 (by simp)
    have s16 : Step no w9 o9 w16 _ := s14.trans' s16' fun j hj => .inr (by simp at hj; omega)
    have sw16 := s9.trans s16.none
    obtain ⟨hen, hcall⟩ := hk t w16 _ htl sw16
    have D16 := D.step s16 id
    refine ⟨hen, hcall.mono fun e w19 ⟨he, hw⟩ => ⟨_, he, fun hr => ?_, fun hr => ?_⟩⟩
    all_goals subst hw
    · rw [if_pos hr] at hset
      have hgr := D16.hg.row
      obtain ⟨gd, hgd⟩ := hgr.faddr Sec.len (by decide) (i := x.i.toNat) (by show _ < gl.length; omega)
      subst hgd
      refine ⟨some gd, _, gc, D16.b.celli 0 rfl rfl, x.i, hb16.celli 0 rfl rfl, x.s.C.toArray, x.s.arr, cellsAt_blk (k := 1) hb16 _ 0 fun n v hv => by rw [show 1 + 0 + n = n + 1 by omega]; exact hv, gd, rfl, hat.1, by show x.i < ((gl.length : Nat) : Int); omega, fun w21 X21 => ⟨x.s.arr, ?_⟩⟩
      have s21' := Step.of_no X21 sw16.ok
      have D21 := D16.step s21' id
      refine D21.put s21'.ok (j := x.i.toNat) (by show _ < gl.length; omega) x.s rfl fun w29 o29 s29 D29 => ⟨by omega, by omega, q - 1, by omega, t + 1, gl.set x.i.toNat x.s, o29, rfl, by omega, (sw16.trans s21'.none).trans s29, D29, by rw [List.length_set]; exact hgl, hset⟩
    · rw [if_neg (by rw [hr]; decide)] at hset
      exact ⟨by omega, by omega, q - 1, by omega, t + 1, gl, _, rfl, by omega, sw16, D16, hgl, hset⟩
  · have htt : t = d.pend.length := by omega
    rw [List.drop_eq_nil_of_le (by omega)] at hset
    refine ⟨D.b.cani 1 rfl rfl, thenW_in fun w32 e32 => ?_⟩
    have X32 := (Ext.refl (fun b => b = g) w9).x_set (q := g) (i := 1) rfl (.inl rfl) e32
    have b32 := D.b.seti 1 (v := .slice none 0 0) rfl e32
    obtain ⟨s32, D32⟩ := DG.turn (d2 := { d with good := gl, pend := [] }) D.hg (Grows.nil _ _ _ _ _) D.tg D.b s9.ok X32 b32
    refine ⟨rfl, _, s9.trans s32, ?_⟩
    have e : settleD d k = { d with good := gl, pend := [] } := by
      unfold settleD; rw [← hset]; rfl
    rw [e]; exact D32
theorem settleD_ok (hd : d.ok m) (k : Nat → Bool) : (settleD d k).ok m := by
  have h := settleL_len k d.pend 0 d.good
  exact ⟨by show 1 ≤ (settleL _ _ _ _).length; rw [h]; exact hd.n1, by show (settleL _ _ _ _).length ≤ 400; rw [h]; exact hd.n2, fun x hx => (by cases hx), Nat.zero_le _, hd.cl, hd.left⟩
theorem dSync_spec (h : DG w o g d) (ok : Tags w o) (hd : d.ok m) (hm : m < 100000) : Calls Try.prog 29 #[.pointer (some (blk g))] w (Ret (.int .i64 (syncD d).2) fun w' => ∃ o', Step (fun j => j = g) w o w' o' ∧ DG w' o' g (syncD d).1) := by
  refine disk_Disk_Sync.run _ ?_
  unfold disk_Disk_Sync.N
  refine (is_spec h).mono fun e w4 ⟨he, hw⟩ => ⟨_, he, fun hn => ?_, fun h0 => ?_⟩
  all_goals subst hw
  · unfold isD at hn ⊢; unfold syncD
    cases hdn : d.down
    · rw [hdn] at hn; exact absurd rfl hn
    · exact ⟨rfl, o, Step.refl _ ok, h⟩
  · have hS : syncD d = (settleD d fun _ => true, 0) := by
      unfold syncD; rw [if_neg]
      intro hdn; unfold isD at h0; rw [if_pos hdn] at h0; cases h0
    rw [hS]
    refine (settle_spec h ok hd hm (k := fun _ => true) fun t w1 o1 ht s => ⟨by kernel_rfl, by refine disk_Disk_Sync_1.run _ ?_; exact ⟨rfl, rfl⟩⟩).mono fun e w7 ⟨he, o', s, D⟩ => ⟨he, rfl, o', s, D⟩
def boolsV (l : List Bool) : List Value := l.map Value.bool
theorem zero_sectors (n : Nat) (z : Array Value) (hz : z.toList = Sec.z.C) : madeCells z (n * 65) = ((List.replicate n Sec.z).flatMap Sec.C).toArray := by
  apply Array.ext'
  apply List.ext_getElem?
  intro j
  have hzs : z.size = 65 := by rw [← Array.length_toList, hz, Sec.len]
  by_cases hj : j < n * 65
  · have h1 : j / 65 < n := by omega
    have h2 : (List.replicate n Sec.z)[j / 65]? = some Sec.z := by rw [List.getElem?_replicate, if_pos h1]
    have h3 := flat_get Sec.len h2 (j % 65) (by omega)
    rw [show j / 65 * 65 + j % 65 = j by omega] at h3
    show _ = ((List.replicate n Sec.z).flatMap Sec.C)[j]?
    rw [h3]
    have h4 : j % 65 < z.size := by omega
    have h5 : (madeCells z (n * 65)).toList[j]? = some (z[j % z.size]!) := by
      unfold madeCells
      simp [hj]
    rw [h5, hzs, getElem!_pos z (j % 65) h4, ← hz, List.getElem?_eq_getElem (by simpa using h4)]
    simp
  · rw [List.getElem?_eq_none (by unfold madeCells; simp; omega), List.getElem?_eq_none (by show ((List.replicate n Sec.z).flatMap Sec.C).length ≤ j; rw [flat_length Sec.len]; simp; omega)]
def newDS (n : Nat) : DS := ⟨List.replicate n Sec.z, [], 0, false, false, 0⟩
theorem dNew_spec (ok : Tags w o) {n : Nat} (h1 : 1 ≤ n) (h2 : n ≤ 400) : Calls Try.prog 19 #[.int .i64 n] w (fun x w' => ∃ q o', x = .returned (.tuple #[.pointer (some (blk q)), .int .i64 0]) ∧ w.heap.size ≤ q ∧ Step no w o w' o' ∧ DG w' o' q (newDS n)) := by
  refine (disk_New.go _ (R := fun v w' => ∃ q o', v = (.tuple #[.pointer (some (blk q)), .int .i64 0]) ∧ w.heap.size ≤ q ∧ Step no w o w' o' ∧ DG w' o' q (newDS n)) ?_).mono fun x w' ⟨v, he, q, o', hv, hw⟩ => ⟨q, o', by rw [he, hv], hw⟩
  unfold disk_New.N
  obtain ⟨i, hi, hz, hs, hb⟩ := info_of inf88
  have hmk := run_makeSlice (P := Try.prog) (w := w) 75 88 i _ Try.underlying75 hi hz .i64 .i64 n n (by omega) (Int.le_refl _) (by rw [hs]; omega) (by rw [hb]; omega) (by omega)
  have hzz : madeCells (Value.agg (List.replicate 64 (Value.int IntKind.u8 0) ++ [Value.bool false]).toArray).cells (n * 65) = ((List.replicate n Sec.z).flatMap Sec.C).toArray := zero_sectors n _ rfl
  rw [hs, Int.toNat_natCast, hzz] at hmk
  refine ⟨fun h => by omega, fun _ => ⟨fun h => by omega, fun _ => ⟨_, _, _, _, hmk, fun w6 q7 X6 hb6 hq hq' => ?_⟩⟩⟩
  have X5 : Ext no w (w.alloc (.cells ((List.replicate n Sec.z).flatMap Sec.C).toArray 88)) := (Ext.refl _ _).alloc _
  have b5 : Blk (w.alloc (.cells ((List.replicate n Sec.z).flatMap Sec.C).toArray 88)) w.heap.size 88 ((List.replicate n Sec.z).flatMap Sec.C) := Blk.new _ _ _
  have b6 := b5.ext X6 fun h => h
  have hsz : (w.alloc (.cells ((List.replicate n Sec.z).flatMap Sec.C).toArray 88)).heap.size = w.heap.size + 1 := by simp
  rw [hsz] at hq
  have s6 := ((Step.of_no (X5.trans X6) ok).tag (p := w.heap.size) (j := q7) (Nat.le_refl _) hq').tag (p := q7) (j := q7) (by omega) hq'
  refine ⟨q7, _, rfl, by omega, s6, ⟨some (blk w.heap.size), n, none, 0, ?_, ⟨?_, fun ad ha => ?_⟩, Grows.nil _ _ _ _ _⟩, tag_self⟩
  · have e : (newDS n).V (some (blk w.heap.size)) n none 0 = [.slice (some (blk w.heap.size)) n n, .slice none 0 0, .int .i64 0, .bool false, .int .i64 0, .int .i64 0] := by unfold DS.V newDS; simp [stI]
    rw [e]; exact hb6
  · have hn : (newDS n).good.length = n := by unfold newDS; simp
    rw [hn]
    exact owns_of_blk b6 (by rw [flat_length Sec.len, hn]) (by unfold maxLen; omega)
  · cases ha
    exact ⟨by rw [tag_ne (by show w.heap.size ≠ q7; omega)]; exact tag_self, b6.lt⟩
end
end Go.Proofs.Ytgcjipbahfpopaa

/- Journal: predicates of a journal on a disk. -/
set_option linter.unusedVariables false
set_option linter.unusedSimpArgs false
set_option maxRecDepth 20000
set_option maxHeartbeats 4000000
namespace Go.Proofs.Ytgcjipbahfpopaa
open Go Go.Mx Go.Proofs
/-- journal.stretch -/
def journal_stretch.M (d1 : Option Addr) (a1 : Int) (a2 : Int) (ah : Int) (R : Value → World → Prop) (w : World) : Prop :=
 Calls Try.prog 53 #[.pointer d1] w fun cl a3 => ∃ (a0 : Int), cl = .returned (.int .i64 a0) ∧
 bif Option.isNone d1 then (
 bif ah != 0 then (
 bif decide (a1 ≥ 0) then (
 bif decide (a2 ≥ 1) then (
 R (.tuple #[.slice none 0 0, .int .i64 23]) a3) else (
 bif ah == 0 then (
 R (.tuple #[.slice none 0 0, .int .i64 1]) a3) else (
 bif decide (a1 < 0) then (
 R (.tuple #[.slice none 0 0, .int .i64 1]) a3) else (
 bif decide (a2 < 1) then (
 R (.tuple #[.slice none 0 0, .int .i64 1]) a3) else (
 bif decide (a1 > a0) then (
 R (.tuple #[.slice none 0 0, .int .i64 1]) a3) else (
 bif decide (a2 > (IntKind.i64.wrap (a0 - a1))) then (
 R (.tuple #[.slice none 0 0, .int .i64 1]) a3) else (
 Calls Try.prog 24 #[.pointer d1] a3 fun ck b7 => ∃ (ak : Bool), ck = .returned (.bool ak) ∧
 bif ak then (
 R (.tuple #[.slice none 0 0, .int .i64 19]) b7) else (
 ∃ (I1 : Nat → List Value → World → Prop) (co : Nat), I1 co [.slice none 0 0, .int .i64 0] b7 ∧ ∀ (ch : Nat) (b2 : World) (au : Option Addr) (aq : Nat) (al : Nat) (bw : Int), I1 ch [.slice au aq al, .int .i64 bw] b2 →
 bif decide (bw < a2) then (
 Calls Try.prog 50 #[.pointer d1, .int .i64 (IntKind.i64.wrap (a1 + bw))] b2 fun ca bn => ∃ (af : Option Addr) (a6 : Nat) (ab : Nat) (b3 : Int), ca = .returned (.tuple #[.slice af a6 ab, .int .i64 b3]) ∧
 thenW (bn.alloc (.cells #[.slice af a6 ab] 23)) fun c0 =>
 ∃ (bg : Option Addr) (bb : Nat) (bh : Nat) (bd : World), (Builtin.append_ #[25, 25] 25 #[.slice au aq al, .slice (some (blk bn.heap.size)) 1 1]).run Try.prog c0 = .ok (.slice bg bb bh) bd ∧
 ∃ ci, ci < ch ∧ I1 ci [.slice bg bb bh, .int .i64 (IntKind.i64.wrap (bw + 1))] bd) else (
 R (.tuple #[.slice au aq al, .int .i64 0]) b2))))))))) else (
 bif ah == 0 then (
 R (.tuple #[.slice none 0 0, .int .i64 1]) a3) else (
 bif decide (a1 < 0) then (
 R (.tuple #[.slice none 0 0, .int .i64 1]) a3) else (
 bif decide (a2 < 1) then (
 R (.tuple #[.slice none 0 0, .int .i64 1]) a3) else (
 bif decide (a1 > a0) then (
 R (.tuple #[.slice none 0 0, .int .i64 1]) a3) else (
 bif decide (a2 > (IntKind.i64.wrap (a0 - a1))) then (
 R (.tuple #[.slice none 0 0, .int .i64 1]) a3) else (
 Calls Try.prog 24 #[.pointer d1] a3 fun c4 bj => ∃ (aj : Bool), c4 = .returned (.bool aj) ∧
 bif aj then (
 R (.tuple #[.slice none 0 0, .int .i64 19]) bj) else (
 ∃ (I1 : Nat → List Value → World → Prop) (cj : Nat), I1 cj [.slice none 0 0, .int .i64 0] bj ∧ ∀ (cc : Nat) (b5 : World) (b6 : Option Addr) (am : Nat) (az : Nat) (bz : Int), I1 cc [.slice b6 am az, .int .i64 bz] b5 →
 bif decide (bz < a2) then (
 Calls Try.prog 50 #[.pointer d1, .int .i64 (IntKind.i64.wrap (a1 + bz))] b5 fun c3 bs => ∃ (ae : Option Addr) (a5 : Nat) (aa : Nat) (aw : Int), c3 = .returned (.tuple #[.slice ae a5 aa, .int .i64 aw]) ∧
 thenW (bs.alloc (.cells #[.slice ae a5 aa] 23)) fun c9 =>
 ∃ (bf : Option Addr) (bp : Nat) (bt : Nat) (b8 : World), (Builtin.append_ #[25, 25] 25 #[.slice b6 am az, .slice (some (blk bs.heap.size)) 1 1]).run Try.prog c9 = .ok (.slice bf bp bt) b8 ∧
 ∃ cf, cf < cc ∧ I1 cf [.slice bf bp bt, .int .i64 (IntKind.i64.wrap (bz + 1))] b8) else (
 R (.tuple #[.slice b6 am az, .int .i64 0]) b5))))))))) else (
 bif ah == 0 then (
 R (.tuple #[.slice none 0 0, .int .i64 1]) a3) else (
 bif decide (a1 < 0) then (
 R (.tuple #[.slice none 0 0, .int .i64 1]) a3) else (
 bif decide (a2 < 1) then (
 R (.tuple #[.slice none 0 0, .int .i64 1]) a3) else (
 bif decide (a1 > a0) then (
 R (.tuple #[.slice none 0 0, .int .i64 1]) a3) else (
 bif decide (a2 > (IntKind.i64.wrap (a0 - a1))) then (
 R (.tuple #[.slice none 0 0, .int .i64 1]) a3) else (
 Calls Try.prog 24 #[.pointer d1] a3 fun c6 b9 => ∃ (ag : Bool), c6 = .returned (.bool ag) ∧
 bif ag then (
 R (.tuple #[.slice none 0 0, .int .i64 19]) b9) else (
 ∃ (I1 : Nat → List Value → World → Prop) (cm : Nat), I1 cm [.slice none 0 0, .int .i64 0] b9 ∧ ∀ (ce : Nat) (ay : World) (an : Option Addr) (ax : Nat) (b1 : Nat) (bv : Int), I1 ce [.slice an ax b1, .int .i64 bv] ay →
 bif decide (bv < a2) then (
 Calls Try.prog 50 #[.pointer d1, .int .i64 (IntKind.i64.wrap (a1 + bv))] ay fun c8 bo => ∃ (ac : Option Addr) (a8 : Nat) (a7 : Nat) (av : Int), c8 = .returned (.tuple #[.slice ac a8 a7, .int .i64 av]) ∧
 thenW (bo.alloc (.cells #[.slice ac a8 a7] 23)) fun c1 =>
 ∃ (be : Option Addr) (bk : Nat) (bl : Nat) (ba : World), (Builtin.append_ #[25, 25] 25 #[.slice an ax b1, .slice (some (blk bo.heap.size)) 1 1]).run Try.prog c1 = .ok (.slice be bk bl) ba ∧
 ∃ cg, cg < ce ∧ I1 cg [.slice be bk bl, .int .i64 (IntKind.i64.wrap (bv + 1))] ba) else (
 R (.tuple #[.slice an ax b1, .int .i64 0]) ay))))))))) else (
 bif ah == 0 then (
 R (.tuple #[.slice none 0 0, .int .i64 1]) a3) else (
 bif decide (a1 < 0) then (
 R (.tuple #[.slice none 0 0, .int .i64 1]) a3) else (
 bif decide (a2 < 1) then (
 R (.tuple #[.slice none 0 0, .int .i64 1]) a3) else (
 bif decide (a1 > a0) then (
 R (.tuple #[.slice none 0 0, .int .i64 1]) a3) else (
 bif decide (a2 > (IntKind.i64.wrap (a0 - a1))) then (
 R (.tuple #[.slice none 0 0, .int .i64 1]) a3) else (
 Calls Try.prog 24 #[.pointer d1] a3 fun c2 bi => ∃ (ai : Bool), c2 = .returned (.bool ai) ∧
 bif ai then (
 R (.tuple #[.slice none 0 0, .int .i64 19]) bi) else (
 ∃ (I1 : Nat → List Value → World → Prop) (cn : Nat), I1 cn [.slice none 0 0, .int .i64 0] bi ∧ ∀ (cd : Nat) (ao : World) (b4 : Option Addr) (b0 : Nat) (ap : Nat) (bx : Int), I1 cd [.slice b4 b0 ap, .int .i64 bx] ao →
 bif decide (bx < a2) then (
 Calls Try.prog 50 #[.pointer d1, .int .i64 (IntKind.i64.wrap (a1 + bx))] ao fun c7 bc => ∃ (ad : Option Addr) (a9 : Nat) (a4 : Nat) (ar : Int), c7 = .returned (.tuple #[.slice ad a9 a4, .int .i64 ar]) ∧
 thenW (bc.alloc (.cells #[.slice ad a9 a4] 23)) fun c5 =>
 ∃ (br : Option Addr) (bq : Nat) (bu : Nat) (bm : World), (Builtin.append_ #[25, 25] 25 #[.slice b4 b0 ap, .slice (some (blk bc.heap.size)) 1 1]).run Try.prog c5 = .ok (.slice br bq bu) bm ∧
 ∃ cb, cb < cd ∧ I1 cb [.slice br bq bu, .int .i64 (IntKind.i64.wrap (bx + 1))] bm) else (
 R (.tuple #[.slice b4 b0 ap, .int .i64 0]) ao))))))))

theorem journal_stretch.eq (d1 : Option Addr) (base2 : Int) (size3 : Int) (gen4 : Int) (R : Value → World → Prop) (w : World) : mfunc Try.prog [(1, [0, 1, 57], [(8, (.one .slice)), (58, (.one (.int .i64)))])] 42 [.pointer d1, .int .i64 base2, .int .i64 size3, .int .u32 gen4] R w = journal_stretch.M d1 base2 size3 gen4 R w := by kernel_rfl
theorem journal_stretch.ok (d1 : Option Addr) (a0 : Int) (a1 : Int) (a2 : Int) {R : Value → World → Prop} {w : World} (h : journal_stretch.M d1 a0 a1 a2 R w) : Calls Try.prog 42 #[.pointer d1, .int .i64 a0, .int .i64 a1, .int .u32 a2] w fun e w' => ∃ v, e = .returned v ∧ R v w' :=
  mfunc_ok follows (H := [(1, [0, 1, 57], [(8, (.one .slice)), (58, (.one (.int .i64)))])]) (args := [.pointer d1, .int .i64 a0, .int .i64 a1, .int .u32 a2]) (by rw [journal_stretch.eq]; exact h)

def journal_stretch.N (d1 : Option Addr) (a1 : Int) (a2 : Int) (a4 : Int) (R : Value → World → Prop) (w : World) : Prop :=
 Calls Try.prog 53 #[.pointer d1] w fun c5 a3 => ∃ (a0 : Int), c5 = .returned (.int .i64 a0) ∧
 (d1 = none →
 (a4 ≠ 0 →
 (a1 ≥ 0 →
 (a2 ≥ 1 →
 R (.tuple #[.slice none 0 0, .int .i64 23]) a3) ∧
 (a2 < 1 →
 (a4 = 0 →
 R (.tuple #[.slice none 0 0, .int .i64 1]) a3) ∧
 (a4 ≠ 0 →
 (a1 < 0 →
 R (.tuple #[.slice none 0 0, .int .i64 1]) a3) ∧
 ((0 : Int) ≤ a1 →
 (a2 < 1 →
 R (.tuple #[.slice none 0 0, .int .i64 1]) a3) ∧
 ((1 : Int) ≤ a2 →
 (a1 > a0 →
 R (.tuple #[.slice none 0 0, .int .i64 1]) a3) ∧
 (a1 ≤ a0 →
 (-9223372036854775808 : Int) ≤ (a0 - a1) ∧ (a0 - a1) < 9223372036854775808 ∧
 (a2 > (a0 - a1) →
 R (.tuple #[.slice none 0 0, .int .i64 1]) a3) ∧
 (a2 ≤ (a0 - a1) →
 Calls Try.prog 24 #[.pointer d1] a3 fun bs b4 => ∃ (a5 : Bool), bs = .returned (.bool a5) ∧
 (a5 = true →
 R (.tuple #[.slice none 0 0, .int .i64 19]) b4) ∧
 (a5 = false →
 ∃ (I1 : Nat → List Value → World → Prop) (c4 : Nat), I1 c4 [.slice none 0 0, .int .i64 0] b4 ∧ ∀ (bx : Nat) (ax : World) (an : Option Addr) (ap : Nat) (au : Nat) (ah : Int), I1 bx [.slice an ap au, .int .i64 ah] ax →
 (ah < a2 →
 (-9223372036854775808 : Int) ≤ (a1 + ah) ∧ (a1 + ah) < 9223372036854775808 ∧
 Calls Try.prog 50 #[.pointer d1, .int .i64 (a1 + ah)] ax fun bq b9 => ∃ (a8 : Option Addr) (a9 : Nat) (aa : Nat) (aw : Int), bq = .returned (.tuple #[.slice a8 a9 aa, .int .i64 aw]) ∧
 ∀ (al : World) (bo : Nat), Ext no b9 al → Blk al bo 23 [.slice a8 a9 aa] → b9.heap.size ≤ bo → bo < al.heap.size →
 ∃ (bb : Option Addr) (bk : Nat) (bh : Nat) (bi : World), (Builtin.append_ #[25, 25] 25 #[.slice an ap au, .slice (some (blk bo)) 1 1]).run Try.prog al = .ok (.slice bb bk bh) bi ∧
 (-9223372036854775808 : Int) ≤ (ah + 1) ∧ (ah + 1) < 9223372036854775808 ∧
 ∃ bv, bv < bx ∧ I1 bv [.slice bb bk bh, .int .i64 (ah + 1)] bi) ∧
 (a2 ≤ ah →
 R (.tuple #[.slice an ap au, .int .i64 0]) ax))))))))) ∧
 (a1 < 0 →
 (a4 = 0 →
 R (.tuple #[.slice none 0 0, .int .i64 1]) a3) ∧
 (a4 ≠ 0 →
 (a1 < 0 →
 R (.tuple #[.slice none 0 0, .int .i64 1]) a3) ∧
 ((0 : Int) ≤ a1 →
 (a2 < 1 →
 R (.tuple #[.slice none 0 0, .int .i64 1]) a3) ∧
 ((1 : Int) ≤ a2 →
 (a1 > a0 →
 R (.tuple #[.slice none 0 0, .int .i64 1]) a3) ∧
 (a1 ≤ a0 →
 (-9223372036854775808 : Int) ≤ (a0 - a1) ∧ (a0 - a1) < 9223372036854775808 ∧
 (a2 > (a0 - a1) →
 R (.tuple #[.slice none 0 0, .int .i64 1]) a3) ∧
 (a2 ≤ (a0 - a1) →
 Calls Try.prog 24 #[.pointer d1] a3 fun bu b8 => ∃ (a6 : Bool), bu = .returned (.bool a6) ∧
 (a6 = true →
 R (.tuple #[.slice none 0 0, .int .i64 19]) b8) ∧
 (a6 = false →
 ∃ (I1 : Nat → List Value → World → Prop) (c2 : Nat), I1 c2 [.slice none 0 0, .int .i64 0] b8 ∧ ∀ (bw : Nat) (b0 : World) (az : Option Addr) (ao : Nat) (b3 : Nat) (ai : Int), I1 bw [.slice az ao b3, .int .i64 ai] b0 →
 (ai < a2 →
 (-9223372036854775808 : Int) ≤ (a1 + ai) ∧ (a1 + ai) < 9223372036854775808 ∧
 Calls Try.prog 50 #[.pointer d1, .int .i64 (a1 + ai)] b0 fun bp bd => ∃ (ag : Option Addr) (ae : Nat) (ab : Nat) (b2 : Int), bp = .returned (.tuple #[.slice ag ae ab, .int .i64 b2]) ∧
 ∀ (am : World) (bm : Nat), Ext no bd am → Blk am bm 23 [.slice ag ae ab] → bd.heap.size ≤ bm → bm < am.heap.size →
 ∃ (bj : Option Addr) (bc : Nat) (b6 : Nat) (ba : World), (Builtin.append_ #[25, 25] 25 #[.slice az ao b3, .slice (some (blk bm)) 1 1]).run Try.prog am = .ok (.slice bj bc b6) ba ∧
 (-9223372036854775808 : Int) ≤ (ai + 1) ∧ (ai + 1) < 9223372036854775808 ∧
 ∃ bz, bz < bw ∧ I1 bz [.slice bj bc b6, .int .i64 (ai + 1)] ba) ∧
 (a2 ≤ ai →
 R (.tuple #[.slice az ao b3, .int .i64 0]) b0))))))))) ∧
 (a4 = 0 →
 R (.tuple #[.slice none 0 0, .int .i64 1]) a3)) ∧
 (d1 ≠ none →
 (a4 = 0 →
 R (.tuple #[.slice none 0 0, .int .i64 1]) a3) ∧
 (a4 ≠ 0 →
 (a1 < 0 →
 R (.tuple #[.slice none 0 0, .int .i64 1]) a3) ∧
 ((0 : Int) ≤ a1 →
 (a2 < 1 →
 R (.tuple #[.slice none 0 0, .int .i64 1]) a3) ∧
 ((1 : Int) ≤ a2 →
 (a1 > a0 →
 R (.tuple #[.slice none 0 0, .int .i64 1]) a3) ∧
 (a1 ≤ a0 →
 (-9223372036854775808 : Int) ≤ (a0 - a1) ∧ (a0 - a1) < 9223372036854775808 ∧
 (a2 > (a0 - a1) →
 R (.tuple #[.slice none 0 0, .int .i64 1]) a3) ∧
 (a2 ≤ (a0 - a1) →
 Calls Try.prog 24 #[.pointer d1] a3 fun bt bf => ∃ (a7 : Bool), bt = .returned (.bool a7) ∧
 (a7 = true →
 R (.tuple #[.slice none 0 0, .int .i64 19]) bf) ∧
 (a7 = false →
 ∃ (I1 : Nat → List Value → World → Prop) (c3 : Nat), I1 c3 [.slice none 0 0, .int .i64 0] bf ∧ ∀ (c0 : Nat) (av : World) (b1 : Option Addr) (ar : Nat) (ay : Nat) (ak : Int), I1 c0 [.slice b1 ar ay, .int .i64 ak] av →
 (ak < a2 →
 (-9223372036854775808 : Int) ≤ (a1 + ak) ∧ (a1 + ak) < 9223372036854775808 ∧
 Calls Try.prog 50 #[.pointer d1, .int .i64 (a1 + ak)] av fun br bl => ∃ (af : Option Addr) (ad : Nat) (ac : Nat) (aq : Int), br = .returned (.tuple #[.slice af ad ac, .int .i64 aq]) ∧
 ∀ (aj : World) (bn : Nat), Ext no bl aj → Blk aj bn 23 [.slice af ad ac] → bl.heap.size ≤ bn → bn < aj.heap.size →
 ∃ (b7 : Option Addr) (bg : Nat) (be : Nat) (b5 : World), (Builtin.append_ #[25, 25] 25 #[.slice b1 ar ay, .slice (some (blk bn)) 1 1]).run Try.prog aj = .ok (.slice b7 bg be) b5 ∧
 (-9223372036854775808 : Int) ≤ (ak + 1) ∧ (ak + 1) < 9223372036854775808 ∧
 ∃ c1, c1 < c0 ∧ I1 c1 [.slice b7 bg be, .int .i64 (ak + 1)] b5) ∧
 (a2 ≤ ak →
 R (.tuple #[.slice b1 ar ay, .int .i64 0]) av))))))))

theorem journal_stretch.up (d1 : Option Addr) (ac : Int) (ad : Int) (an : Int) {R : Value → World → Prop} {w : World} (h : journal_stretch.N d1 ac ad an R w) : journal_stretch.M d1 ac ad an R w := by
  unfold journal_stretch.M
  unfold journal_stretch.N at h
  refine h.mono fun cw cv h => ?_
  obtain ⟨a2, he, h⟩ := h
  refine ⟨a2, he, ?_⟩
  refine bif_of (fun c8 => ?_) (fun c8 => ?_)
  · have h := h.1 (isNone_t c8)
    refine bif_of (fun c9 => ?_) (fun c9 => ?_)
    · have h := h.1 (bne_t c9)
      refine bif_of (fun bl => ?_) (fun bl => ?_)
      · have h := h.1 (of_decide_eq_true bl)
        refine bif_of (fun bg => ?_) (fun bg => ?_)
        · have h := h.1 (of_decide_eq_true bg)
          exact h
        · have h := h.2 (Int.not_le.1 (of_decide_eq_false bg))
          refine bif_of (fun bd => ?_) (fun bd => ?_)
          · have h := h.1 (beq_t bd)
            exact h
          · have h := h.2 (beq_f bd)
            refine bif_of (fun ao => ?_) (fun ao => ?_)
            · have h := h.1 (of_decide_eq_true ao)
              exact h
            · have h := h.2 (Int.not_lt.1 (of_decide_eq_false ao))
              refine bif_of (fun az => ?_) (fun az => ?_)
              · have h := h.1 (of_decide_eq_true az)
                exact h
              · have h := h.2 (Int.not_lt.1 (of_decide_eq_false az))
                refine bif_of (fun bi => ?_) (fun bi => ?_)
                · have h := h.1 (of_decide_eq_true bi)
                  exact h
                · have h := h.2 (Int.not_lt.1 (of_decide_eq_false bi))
                  obtain ⟨a1, a0, h⟩ := h
                  try rw [w64 a1 a0]
                  refine bif_of (fun c5 => ?_) (fun c5 => ?_)
                  · have h := h.1 (of_decide_eq_true c5)
                    exact h
                  · have h := h.2 (Int.not_lt.1 (of_decide_eq_false c5))
                    refine h.mono fun ct ck h => ?_
                    obtain ⟨ae, he, h⟩ := h
                    refine ⟨ae, he, ?_⟩
                    refine bif_of (fun bs => ?_) (fun bs => ?_)
                    · have h := h.1 bs
                      exact h
                    · have h := h.2 bs
                      obtain ⟨I1, cs, h0, h⟩ := h
                      refine ⟨I1, cs, h0, fun cd ax ap ar au cg hI => ?_⟩
                      have h := h cd ax ap ar au cg hI
                      refine bif_of (fun bn => ?_) (fun bn => ?_)
                      · have h := h.1 (of_decide_eq_true bn)
                        obtain ⟨a1, a0, h⟩ := h
                        try rw [w64 a1 a0]
                        refine h.mono fun ch aj h => ?_
                        obtain ⟨a9, aa, a6, ai, he, h⟩ := h
                        refine ⟨a9, aa, a6, ai, he, ?_⟩
                        refine thenW_in fun c0 av => ?_
                        have h := h c0 aj.heap.size ((Ext.refl no aj).x_alloc av) (Blk.of_new av) ((Ext.refl no aj)).size (size_lt_alloc av)
                        obtain ⟨bz, bf, b2, c3, hr, h⟩ := h
                        refine ⟨bz, bf, b2, c3, hr, ?_⟩
                        obtain ⟨a1, a0, h⟩ := h
                        try rw [w64 a1 a0]
                        obtain ⟨co, hk, h⟩ := h
                        exact ⟨co, hk, h⟩
                      · have h := h.2 (Int.not_lt.1 (of_decide_eq_false bn))
                        exact h
      · have h := h.2 (Int.not_le.1 (of_decide_eq_false bl))
        refine bif_of (fun b0 => ?_) (fun b0 => ?_)
        · have h := h.1 (beq_t b0)
          exact h
        · have h := h.2 (beq_f b0)
          refine bif_of (fun aq => ?_) (fun aq => ?_)
          · have h := h.1 (of_decide_eq_true aq)
            exact h
          · have h := h.2 (Int.not_lt.1 (of_decide_eq_false aq))
            refine bif_of (fun bw => ?_) (fun bw => ?_)
            · have h := h.1 (of_decide_eq_true bw)
              exact h
            · have h := h.2 (Int.not_lt.1 (of_decide_eq_false bw))
              refine bif_of (fun bt => ?_) (fun bt => ?_)
              · have h := h.1 (of_decide_eq_true bt)
                exact h
              · have h := h.2 (Int.not_lt.1 (of_decide_eq_false bt))
                obtain ⟨a1, a0, h⟩ := h
                try rw [w64 a1 a0]
                refine bif_of (fun b8 => ?_) (fun b8 => ?_)
                · have h := h.1 (of_decide_eq_true b8)
                  exact h
                · have h := h.2 (Int.not_lt.1 (of_decide_eq_false b8))
                  refine h.mono fun cu cm h => ?_
                  obtain ⟨af, he, h⟩ := h
                  refine ⟨af, he, ?_⟩
                  refine bif_of (fun c1 => ?_) (fun c1 => ?_)
                  · have h := h.1 c1
                    exact h
                  · have h := h.2 c1
                    obtain ⟨I1, cp, h0, h⟩ := h
                    refine ⟨I1, cp, h0, fun cr bp bb b4 be ca hI => ?_⟩
                    have h := h cr bp bb b4 be ca hI
                    refine bif_of (fun b6 => ?_) (fun b6 => ?_)
                    · have h := h.1 (of_decide_eq_true b6)
                      obtain ⟨a1, a0, h⟩ := h
                      try rw [w64 a1 a0]
                      refine h.mono fun cj ag h => ?_
                      obtain ⟨a8, a7, a3, am, he, h⟩ := h
                      refine ⟨a8, a7, a3, am, he, ?_⟩
                      refine thenW_in fun bq bv => ?_
                      have h := h bq ag.heap.size ((Ext.refl no ag).x_alloc bv) (Blk.of_new bv) ((Ext.refl no ag)).size (size_lt_alloc bv)
                      obtain ⟨c4, bo, bh, b7, hr, h⟩ := h
                      refine ⟨c4, bo, bh, b7, hr, ?_⟩
                      obtain ⟨a1, a0, h⟩ := h
                      try rw [w64 a1 a0]
                      obtain ⟨ce, hk, h⟩ := h
                      exact ⟨ce, hk, h⟩
                    · have h := h.2 (Int.not_lt.1 (of_decide_eq_false b6))
                      exact h
    · have h := h.2 (bne_f c9)
      refine bif_tt (cong1 (r := true) (fun z => z == 0) (bne_f c9) (by decide)) ?_
      exact h
  · have h := h.2 (isNone_f c8)
    refine bif_of (fun aw => ?_) (fun aw => ?_)
    · have h := h.1 (beq_t aw)
      exact h
    · have h := h.2 (beq_f aw)
      refine bif_of (fun bu => ?_) (fun bu => ?_)
      · have h := h.1 (of_decide_eq_true bu)
        exact h
      · have h := h.2 (Int.not_lt.1 (of_decide_eq_false bu))
        refine bif_of (fun bj => ?_) (fun bj => ?_)
        · have h := h.1 (of_decide_eq_true bj)
          exact h
        · have h := h.2 (Int.not_lt.1 (of_decide_eq_false bj))
          refine bif_of (fun c2 => ?_) (fun c2 => ?_)
          · have h := h.1 (of_decide_eq_true c2)
            exact h
          · have h := h.2 (Int.not_lt.1 (of_decide_eq_false c2))
            obtain ⟨a1, a0, h⟩ := h
            try rw [w64 a1 a0]
            refine bif_of (fun bc => ?_) (fun bc => ?_)
            · have h := h.1 (of_decide_eq_true bc)
              exact h
            · have h := h.2 (Int.not_lt.1 (of_decide_eq_false bc))
              refine h.mono fun cl cc h => ?_
              obtain ⟨ah, he, h⟩ := h
              refine ⟨ah, he, ?_⟩
              refine bif_of (fun c7 => ?_) (fun c7 => ?_)
              · have h := h.1 c7
                exact h
              · have h := h.2 c7
                obtain ⟨I1, cb, h0, h⟩ := h
                refine ⟨I1, cb, h0, fun ci bm br bk ay cq hI => ?_⟩
                have h := h ci bm br bk ay cq hI
                refine bif_of (fun b9 => ?_) (fun b9 => ?_)
                · have h := h.1 (of_decide_eq_true b9)
                  obtain ⟨a1, a0, h⟩ := h
                  try rw [w64 a1 a0]
                  refine h.mono fun cn ak h => ?_
                  obtain ⟨ab, a5, a4, al, he, h⟩ := h
                  refine ⟨ab, a5, a4, al, he, ?_⟩
                  refine thenW_in fun bx c6 => ?_
                  have h := h bx ak.heap.size ((Ext.refl no ak).x_alloc c6) (Blk.of_new c6) ((Ext.refl no ak)).size (size_lt_alloc c6)
                  obtain ⟨b5, b1, ba, b3, hr, h⟩ := h
                  refine ⟨b5, b1, ba, b3, hr, ?_⟩
                  obtain ⟨a1, a0, h⟩ := h
                  try rw [w64 a1 a0]
                  obtain ⟨cf, hk, h⟩ := h
                  exact ⟨cf, hk, h⟩
                · have h := h.2 (Int.not_lt.1 (of_decide_eq_false b9))
                  exact h

theorem journal_stretch.go (d1 : Option Addr) (a0 : Int) (a1 : Int) (a2 : Int) {R : Value → World → Prop} {w : World} (h : journal_stretch.N d1 a0 a1 a2 R w) : Calls Try.prog 42 #[.pointer d1, .int .i64 a0, .int .i64 a1, .int .u32 a2] w fun e w' => ∃ v, e = .returned v ∧ R v w' := journal_stretch.ok d1 a0 a1 a2 (journal_stretch.up d1 a0 a1 a2 h)
/-- journal.Open -/
def journal_Open.M (d1 : Option Addr) (a9 : Int) (aa : Int) (ac : Int) (R : Value → World → Prop) (w : World) : Prop :=
 Calls Try.prog 42 #[.pointer d1, .int .i64 a9, .int .i64 aa, .int .u32 ac] w fun ag af => ∃ (a1 : Option Addr) (a3 : Nat) (a2 : Nat) (a0 : Int), ag = .returned (.tuple #[.slice a1 a3 a2, .int .i64 a0]) ∧
 bif a0 != 0 then (
 R (.tuple #[.pointer none, .slice none 0 0, .int .i64 a0]) af) else (
 Calls Try.prog 16 #[.slice a1 a3 a2, .int .u32 ac] af fun ad ab => ∃ (a7 : Option Addr) (a5 : Nat) (a8 : Nat) (a6 : Int) (a4 : Int), ad = .returned (.tuple #[.slice a7 a5 a8, .int .i64 a6, .int .u32 a4]) ∧
 bif (IntKind.u32.wrap (a4 + 1)) == 0 then (
 R (.tuple #[.pointer none, .slice none 0 0, .int .i64 2]) ab) else (
 thenW (ab.alloc (.cells #[.pointer d1, .int .i64 a9, .int .i64 aa, .int .u32 ac, .int .u32 (IntKind.u32.wrap (a4 + 1)), .int .i64 a6, .int .i64 (a5 : Int), .bool false] 82)) fun ae =>
 R (.tuple #[.pointer (some (blk ab.heap.size)), .slice a7 a5 a8, .int .i64 0]) ae))

theorem journal_Open.eq (d1 : Option Addr) (base2 : Int) (size3 : Int) (gen4 : Int) (R : Value → World → Prop) (w : World) : mfunc Try.prog [] 20 [.pointer d1, .int .i64 base2, .int .i64 size3, .int .u32 gen4] R w = journal_Open.M d1 base2 size3 gen4 R w := by kernel_rfl
theorem journal_Open.ok (d1 : Option Addr) (a0 : Int) (a1 : Int) (a2 : Int) {R : Value → World → Prop} {w : World} (h : journal_Open.M d1 a0 a1 a2 R w) : Calls Try.prog 20 #[.pointer d1, .int .i64 a0, .int .i64 a1, .int .u32 a2] w fun e w' => ∃ v, e = .returned v ∧ R v w' :=
  mfunc_ok follows (H := []) (args := [.pointer d1, .int .i64 a0, .int .i64 a1, .int .u32 a2]) (by rw [journal_Open.eq]; exact h)

def journal_Open.N (d1 : Option Addr) (aa : Int) (ab : Int) (ac : Int) (R : Value → World → Prop) (w : World) : Prop :=
 Calls Try.prog 42 #[.pointer d1, .int .i64 aa, .int .i64 ab, .int .u32 ac] w fun ah ag => ∃ (a1 : Option Addr) (a2 : Nat) (a3 : Nat) (a0 : Int), ah = .returned (.tuple #[.slice a1 a2 a3, .int .i64 a0]) ∧
 (a0 ≠ 0 →
 R (.tuple #[.pointer none, .slice none 0 0, .int .i64 a0]) ag) ∧
 (a0 = 0 →
 Calls Try.prog 16 #[.slice a1 a2 a3, .int .u32 ac] ag fun af ad => ∃ (a6 : Option Addr) (a4 : Nat) (a7 : Nat) (a8 : Int) (a5 : Int), af = .returned (.tuple #[.slice a6 a4 a7, .int .i64 a8, .int .u32 a5]) ∧
 ((IntKind.u32.wrap (a5 + 1)) = 0 →
 R (.tuple #[.pointer none, .slice none 0 0, .int .i64 2]) ad) ∧
 ((IntKind.u32.wrap (a5 + 1)) ≠ 0 →
 ∀ (a9 : World) (ae : Nat), Ext no ad a9 → Blk a9 ae 82 [.pointer d1, .int .i64 aa, .int .i64 ab, .int .u32 ac, .int .u32 (IntKind.u32.wrap (a5 + 1)), .int .i64 a8, .int .i64 (a4 : Int), .bool false] → ad.heap.size ≤ ae → ae < a9.heap.size →
 R (.tuple #[.pointer (some (blk ae)), .slice a6 a4 a7, .int .i64 0]) a9))

theorem journal_Open.up (d1 : Option Addr) (a8 : Int) (a7 : Int) (ac : Int) {R : Value → World → Prop} {w : World} (h : journal_Open.N d1 a8 a7 ac R w) : journal_Open.M d1 a8 a7 ac R w := by
  unfold journal_Open.M
  unfold journal_Open.N at h
  refine h.mono fun ah ai h => ?_
  obtain ⟨a2, a1, a0, a3, he, h⟩ := h
  refine ⟨a2, a1, a0, a3, he, ?_⟩
  refine bif_of (fun c9 => ?_) (fun c9 => ?_)
  · have h := h.1 (bne_t c9)
    exact h
  · have h := h.2 (bne_f c9)
    refine h.mono fun ag a9 h => ?_
    obtain ⟨a4, a6, a5, aa, ab, he, h⟩ := h
    refine ⟨a4, a6, a5, aa, ab, he, ?_⟩
    refine bif_of (fun ad => ?_) (fun ad => ?_)
    · have h := h.1 (beq_t ad)
      exact h
    · have h := h.2 (beq_f ad)
      refine thenW_in fun ae af => ?_
      have h := h ae a9.heap.size ((Ext.refl no a9).x_alloc af) (Blk.of_new af) ((Ext.refl no a9)).size (size_lt_alloc af)
      exact h

theorem journal_Open.go (d1 : Option Addr) (a0 : Int) (a1 : Int) (a2 : Int) {R : Value → World → Prop} {w : World} (h : journal_Open.N d1 a0 a1 a2 R w) : Calls Try.prog 20 #[.pointer d1, .int .i64 a0, .int .i64 a1, .int .u32 a2] w fun e w' => ∃ v, e = .returned v ∧ R v w' := journal_Open.ok d1 a0 a1 a2 (journal_Open.up d1 a0 a1 a2 h)
/-- (*journal.Journal).Append -/
def journal_Journal_Append.M (j1 : Option Addr) (bi : Option Addr) (bb : Nat) (bp : Nat) (R : Value → World → Prop) (w : World) : Prop :=
 Calls Try.prog 12 #[.int .i64 (bb : Int)] w fun be av => ∃ (a1 : Int), be = .returned (.int .i64 a1) ∧
 bif Option.isNone j1 then (
 R (.int .i64 23) av) else (
 bif a1 == 0 then (
 R (.int .i64 3) av) else (
 j1.elim False fun a6 =>
 ∃ (am : Bool), av.cell? (a6.add 7) = some (.bool am) ∧
 bif am then (
 R (.int .i64 19) av) else (
 thenW (av.drew) fun aw =>
 j1.elim False fun a9 =>
 ∃ (af : Int), aw.cell? (a9.add 2) = some (.int .i64 af) ∧
 j1.elim False fun bq =>
 ∃ (ad : Int), aw.cell? (bq.add 5) = some (.int .i64 ad) ∧
 bif decide (a1 > (IntKind.i64.wrap (af - ad))) then (
 R (.int .i64 18) aw) else (
 thenW (aw.drew) fun ah =>
 j1.elim False fun bm =>
 ∃ (aj : Int), ah.cell? (bm.add 3) = some (.int .u32 aj) ∧
 j1.elim False fun bg =>
 ∃ (a5 : Int), ah.cell? (bg.add 4) = some (.int .u32 a5) ∧
 j1.elim False fun bk =>
 ∃ (al : Int), ah.cell? (bk.add 6) = some (.int .i64 al) ∧
 Calls Try.prog 9 #[.int .u32 aj, .int .u32 a5, .int .u32 (IntKind.u32.wrap al), .slice bi bb bp] ah fun b3 ax => ∃ (a3 : Option Addr) (a0 : Nat) (ab : Nat) (ai : Int), b3 = .returned (.tuple #[.slice a3 a0 ab, .int .i64 ai]) ∧
 ∃ (I1 : Nat → List Value → World → Prop) (br : Nat), I1 br [.int .i64 0] ax ∧ ∀ (b4 : Nat) (a8 : World) (an : Int), I1 b4 [.int .i64 an] a8 →
 bif decide (an < (a0 : Int)) then (
 a3.elim False fun bl =>
 0 ≤ (an : Int) ∧ (an : Int) < (a0 : Int) ∧
 ∃ (aq : Option Addr) (ar : Nat) (au : Nat), a8.cell? (bl.add (Int.toNat an * 1)) = some (.slice aq ar au) ∧
 thenW (a8.drew) fun ag =>
 j1.elim False fun bo =>
 ∃ (bc : Option Addr), ag.cell? (bo.add 0) = some (.pointer bc) ∧
 j1.elim False fun bf =>
 ∃ (ae : Int), ag.cell? (bf.add 1) = some (.int .i64 ae) ∧
 j1.elim False fun bh =>
 ∃ (aa : Int), ag.cell? (bh.add 5) = some (.int .i64 aa) ∧
 Calls Try.prog 28 #[.pointer bc, .int .i64 (IntKind.i64.wrap ((IntKind.i64.wrap (ae + aa)) + an)), .slice aq ar au] ag fun ay ao => ∃ (a2 : Int), ay = .returned (.int .i64 a2) ∧
 bif a2 != 0 then (
 j1.elim False fun ba =>
 canStore ao ((ba.add 7).add 0) ∧
 thenW (ao.setCell ((ba.add 7).add 0) (.bool true)) fun b0 =>
 R (.int .i64 a2) b0) else (
 ∃ b6, b6 < b4 ∧ I1 b6 [.int .i64 (IntKind.i64.wrap (an + 1))] ao)) else (
 j1.elim False fun bj =>
 ∃ (b5 : Option Addr), a8.cell? (bj.add 0) = some (.pointer b5) ∧
 Calls Try.prog 29 #[.pointer b5] a8 fun az a7 => ∃ (a4 : Int), az = .returned (.int .i64 a4) ∧
 bif a4 != 0 then (
 j1.elim False fun b7 =>
 canStore a7 ((b7.add 7).add 0) ∧
 thenW (a7.setCell ((b7.add 7).add 0) (.bool true)) fun b2 =>
 R (.int .i64 a4) b2) else (
 j1.elim False fun bd =>
 ∃ (ac : Int), a7.cell? (bd.add 5) = some (.int .i64 ac) ∧
 j1.elim False fun b9 =>
 canStore a7 ((b9.add 5).add 0) ∧
 thenW (a7.setCell ((b9.add 5).add 0) (.int .i64 (IntKind.i64.wrap (ac + a1)))) fun ap =>
 j1.elim False fun bn =>
 ∃ (ak : Int), ap.cell? (bn.add 6) = some (.int .i64 ak) ∧
 j1.elim False fun b8 =>
 canStore ap ((b8.add 6).add 0) ∧
 thenW (ap.setCell ((b8.add 6).add 0) (.int .i64 (IntKind.i64.wrap (ak + 1)))) fun b1 =>
 R (.int .i64 0) b1))))))

theorem journal_Journal_Append.eq (j1 : Option Addr) (b2a : Option Addr) (b2n : Nat) (b2c : Nat) (R : Value → World → Prop) (w : World) : mfunc Try.prog [(1, [0, 5, 56, 57], [(58, (.one (.int .i64)))])] 23 [.pointer j1, .slice b2a b2n b2c] R w = journal_Journal_Append.M j1 b2a b2n b2c R w := by kernel_rfl
theorem journal_Journal_Append.ok (j1 : Option Addr) (a0 : Option Addr) (a1 : Nat) (a2 : Nat) {R : Value → World → Prop} {w : World} (h : journal_Journal_Append.M j1 a0 a1 a2 R w) : Calls Try.prog 23 #[.pointer j1, .slice a0 a1 a2] w fun e w' => ∃ v, e = .returned v ∧ R v w' :=
  mfunc_ok follows (H := [(1, [0, 5, 56, 57], [(58, (.one (.int .i64)))])]) (args := [.pointer j1, .slice a0 a1 a2]) (by rw [journal_Journal_Append.eq]; exact h)

def journal_Journal_Append.N (j1 : Option Addr) (b8 : Option Addr) (al : Nat) (ba : Nat) (R : Value → World → Prop) (w : World) : Prop :=
 (j1 = none →
 ∀ (aj : World), Ext no w aj →
 R (.int .i64 23) aj) ∧
 (j1 ≠ none →
 ((journal_Parts.F (al : Int)) = 0 →
 ∀ (aj : World), Ext no w aj →
 R (.int .i64 3) aj) ∧
 ((journal_Parts.F (al : Int)) ≠ 0 →
 ∃ a6 : Addr, j1 = some a6 ∧
 ∃ (ae : Bool), w.cell? (a6.add 7) = some (.bool ae) ∧
 (ae = true →
 ∀ (aj : World), Ext no w aj →
 R (.int .i64 19) aj) ∧
 (ae = false →
 ∃ (a5 : Int), w.cell? (a6.add 2) = some (.int .i64 a5) ∧
 ∃ (a4 : Int), w.cell? (a6.add 5) = some (.int .i64 a4) ∧
 (-9223372036854775808 : Int) ≤ (a5 - a4) ∧ (a5 - a4) < 9223372036854775808 ∧
 ((journal_Parts.F (al : Int)) > (a5 - a4) →
 ∀ (ap : World), Ext no w ap →
 R (.int .i64 18) ap) ∧
 ((journal_Parts.F (al : Int)) ≤ (a5 - a4) →
 ∃ (ai : Int), w.cell? (a6.add 3) = some (.int .u32 ai) ∧
 ∃ (ab : Int), w.cell? (a6.add 4) = some (.int .u32 ab) ∧
 ∃ (ak : Int), w.cell? (a6.add 6) = some (.int .i64 ak) ∧
 ∀ (ar : World), Ext no w ar →
 Calls Try.prog 9 #[.int .u32 ai, .int .u32 ab, .int .u32 (IntKind.u32.wrap ak), .slice b8 al ba] ar fun ay b1 => ∃ (aa : Option Addr) (a0 : Nat) (ag : Nat) (ah : Int), ay = .returned (.tuple #[.slice aa a0 ag, .int .i64 ah]) ∧
 ∃ (I1 : Nat → List Value → World → Prop) (b9 : Nat), I1 b9 [.int .i64 0] b1 ∧ ∀ (b6 : Nat) (a9 : World) (ad : Int), I1 b6 [.int .i64 ad] a9 →
 (ad < (a0 : Int) →
 ∃ b5 : Addr, aa = some b5 ∧
 0 ≤ (ad : Int) ∧ (ad : Int) < (a0 : Int) ∧
 ∃ (av : Option Addr) (au : Nat) (ao : Nat), a9.cell? (b5.add (Int.toNat ad * 1)) = some (.slice av au ao) ∧
 ∃ (b7 : Option Addr), a9.cell? (a6.add 0) = some (.pointer b7) ∧
 ∃ (a2 : Int), a9.cell? (a6.add 1) = some (.int .i64 a2) ∧
 ∃ (a1 : Int), a9.cell? (a6.add 5) = some (.int .i64 a1) ∧
 (-9223372036854775808 : Int) ≤ (a2 + a1) ∧ (a2 + a1) < 9223372036854775808 ∧
 (-9223372036854775808 : Int) ≤ ((a2 + a1) + ad) ∧ ((a2 + a1) + ad) < 9223372036854775808 ∧
 ∀ (aq : World), Ext no a9 aq →
 Calls Try.prog 28 #[.pointer b7, .int .i64 ((a2 + a1) + ad), .slice av au ao] aq fun b0 am => ∃ (a3 : Int), b0 = .returned (.int .i64 a3) ∧
 (a3 ≠ 0 →
 canStore am ((a6.add 7).add 0) ∧
 thenW (am.setCell ((a6.add 7).add 0) (.bool true)) fun ax =>
 R (.int .i64 a3) ax) ∧
 (a3 = 0 →
 (-9223372036854775808 : Int) ≤ (ad + 1) ∧ (ad + 1) < 9223372036854775808 ∧
 ∃ b4, b4 < b6 ∧ I1 b4 [.int .i64 (ad + 1)] am)) ∧
 ((a0 : Int) ≤ ad →
 ∃ (b3 : Option Addr), a9.cell? (a6.add 0) = some (.pointer b3) ∧
 Calls Try.prog 29 #[.pointer b3] a9 fun aw af => ∃ (a8 : Int), aw = .returned (.int .i64 a8) ∧
 (a8 ≠ 0 →
 canStore af ((a6.add 7).add 0) ∧
 thenW (af.setCell ((a6.add 7).add 0) (.bool true)) fun az =>
 R (.int .i64 a8) az) ∧
 (a8 = 0 →
 ∃ (a7 : Int), af.cell? (a6.add 5) = some (.int .i64 a7) ∧
 (-9223372036854775808 : Int) ≤ (a7 + (journal_Parts.F (al : Int))) ∧ (a7 + (journal_Parts.F (al : Int))) < 9223372036854775808 ∧
 canStore af ((a6.add 5).add 0) ∧
 thenW (af.setCell ((a6.add 5).add 0) (.int .i64 (a7 + (journal_Parts.F (al : Int))))) fun an =>
 ∃ (ac : Int), an.cell? (a6.add 6) = some (.int .i64 ac) ∧
 (-9223372036854775808 : Int) ≤ (ac + 1) ∧ (ac + 1) < 9223372036854775808 ∧
 canStore an ((a6.add 6).add 0) ∧
 thenW (an.setCell ((a6.add 6).add 0) (.int .i64 (ac + 1))) fun b2 =>
 R (.int .i64 0) b2))))))

theorem journal_Journal_Append.up (j1 : Option Addr) (bf : Option Addr) (ap : Nat) (bg : Nat) {R : Value → World → Prop} {w : World} (h : journal_Journal_Append.N j1 bf ap bg R w) : journal_Journal_Append.M j1 bf ap bg R w := by
  unfold journal_Journal_Append.M
  unfold journal_Journal_Append.N at h
  refine (journal_Parts.pure (ap : Int)).mono fun ee ww3 ⟨he, hxx⟩ => ⟨(journal_Parts.F (ap : Int)), he, ?_⟩
  have aj := (Ext.refl no w).trans hxx
  refine bif_of (fun c4 => ?_) (fun c4 => ?_)
  · have h := h.1 (isNone_t c4)
    have h := h ww3 aj
    exact h
  · have h := h.2 (isNone_f c4)
    refine bif_of (fun c5 => ?_) (fun c5 => ?_)
    · have h := h.1 (beq_t c5)
      have h := h ww3 aj
      exact h
    · have h := h.2 (beq_f c5)
      obtain ⟨a6, a0, h⟩ := h
      refine elim_some a0 ?_
      obtain ⟨al, bh, h⟩ := h
      refine ⟨al, (aj).cell bh id, ?_⟩
      refine bif_of (fun c9 => ?_) (fun c9 => ?_)
      · have h := h.1 c9
        have h := h ww3 aj
        exact h
      · have h := h.2 c9
        refine thenW_in fun ar bm => ?_
        have aa := aj.x_drew bm
        refine elim_some a0 ?_
        obtain ⟨af, bd, h⟩ := h
        refine ⟨af, (aa).cell bd id, ?_⟩
        refine elim_some a0 ?_
        obtain ⟨ae, az, h⟩ := h
        refine ⟨ae, (aa).cell az id, ?_⟩
        obtain ⟨a2, a1, h⟩ := h
        try rw [w64 a2 a1]
        refine bif_of (fun b3 => ?_) (fun b3 => ?_)
        · have h := h.1 (of_decide_eq_true b3)
          have h := h ar aa
          exact h
        · have h := h.2 (Int.not_lt.1 (of_decide_eq_false b3))
          refine thenW_in fun b8 c3 => ?_
          have ac := aa.x_drew c3
          refine elim_some a0 ?_
          obtain ⟨ak, av, h⟩ := h
          refine ⟨ak, (ac).cell av id, ?_⟩
          refine elim_some a0 ?_
          obtain ⟨a9, b5, h⟩ := h
          refine ⟨a9, (ac).cell b5 id, ?_⟩
          refine elim_some a0 ?_
          obtain ⟨ao, b9, h⟩ := h
          refine ⟨ao, (ac).cell b9 id, ?_⟩
          have h := h b8 ac
          refine h.mono fun bz bs h => ?_
          obtain ⟨a3, a4, a5, ab, he, h⟩ := h
          refine ⟨a3, a4, a5, ab, he, ?_⟩
          obtain ⟨I1, c0, h0, h⟩ := h
          refine ⟨I1, c0, h0, fun bo am bu hI => ?_⟩
          have h := h bo am bu hI
          refine bif_of (fun b6 => ?_) (fun b6 => ?_)
          · have h := h.1 (of_decide_eq_true b6)
            obtain ⟨cb, b4, h⟩ := h
            refine elim_some b4 ?_
            obtain ⟨bn, bv, h⟩ := h
            refine ⟨bn, bv, ?_⟩
            obtain ⟨be, b2, aw, bc, h⟩ := h
            refine ⟨be, b2, aw, bc, ?_⟩
            refine thenW_in fun b7 c7 => ?_
            have a7 := (Ext.refl no am).x_drew c7
            refine elim_some a0 ?_
            obtain ⟨bp, ba, h⟩ := h
            refine ⟨bp, (a7).cell ba id, ?_⟩
            refine elim_some a0 ?_
            obtain ⟨ad, au, h⟩ := h
            refine ⟨ad, (a7).cell au id, ?_⟩
            refine elim_some a0 ?_
            obtain ⟨ag, ax, h⟩ := h
            refine ⟨ag, (a7).cell ax id, ?_⟩
            obtain ⟨a2, a1, h⟩ := h
            try rw [w64 a2 a1]
            obtain ⟨a2, a1, h⟩ := h
            try rw [w64 a2 a1]
            have h := h b7 a7
            refine h.mono fun c1 bw h => ?_
            obtain ⟨a8, he, h⟩ := h
            refine ⟨a8, he, ?_⟩
            refine bif_of (fun b0 => ?_) (fun b0 => ?_)
            · have h := h.1 (bne_t b0)
              refine elim_some a0 ?_
              obtain ⟨hcs, h⟩ := h
              refine ⟨hcs, thenW_in fun bx ca => ?_⟩
              replace h := thenW_out h ca
              exact h
            · have h := h.2 (bne_f b0)
              obtain ⟨a2, a1, h⟩ := h
              try rw [w64 a2 a1]
              obtain ⟨c8, hk, h⟩ := h
              exact ⟨c8, hk, h⟩
          · have h := h.2 (Int.not_lt.1 (of_decide_eq_false b6))
            refine elim_some a0 ?_
            obtain ⟨bj, b1, h⟩ := h
            refine ⟨bj, b1, ?_⟩
            refine h.mono fun c6 bt h => ?_
            obtain ⟨ah, he, h⟩ := h
            refine ⟨ah, he, ?_⟩
            refine bif_of (fun bb => ?_) (fun bb => ?_)
            · have h := h.1 (bne_t bb)
              refine elim_some a0 ?_
              obtain ⟨hcs, h⟩ := h
              refine ⟨hcs, thenW_in fun bl c2 => ?_⟩
              replace h := thenW_out h c2
              exact h
            · have h := h.2 (bne_f bb)
              refine elim_some a0 ?_
              obtain ⟨ai, ay, h⟩ := h
              refine ⟨ai, ay, ?_⟩
              obtain ⟨a2, a1, h⟩ := h
              try rw [w64 a2 a1]
              refine elim_some a0 ?_
              obtain ⟨hcs, h⟩ := h
              refine ⟨hcs, thenW_in fun bk bi => ?_⟩
              replace h := thenW_out h bi
              refine elim_some a0 ?_
              obtain ⟨an, aq, h⟩ := h
              refine ⟨an, aq, ?_⟩
              obtain ⟨a2, a1, h⟩ := h
              try rw [w64 a2 a1]
              refine elim_some a0 ?_
              obtain ⟨hcs, h⟩ := h
              refine ⟨hcs, thenW_in fun bq br => ?_⟩
              replace h := thenW_out h br
              exact h

theorem journal_Journal_Append.go (j1 : Option Addr) (a0 : Option Addr) (a1 : Nat) (a2 : Nat) {R : Value → World → Prop} {w : World} (h : journal_Journal_Append.N j1 a0 a1 a2 R w) : Calls Try.prog 23 #[.pointer j1, .slice a0 a1 a2] w fun e w' => ∃ v, e = .returned v ∧ R v w' := journal_Journal_Append.ok j1 a0 a1 a2 (journal_Journal_Append.up j1 a0 a1 a2 h)
theorem journal_Journal_Append.run (j1 : Option Addr) (a0 : Option Addr) (a1 : Nat) (a2 : Nat) {V : Value} {Q : World → Prop} {w : World} (h : journal_Journal_Append.N j1 a0 a1 a2 (fun v w' => v = V ∧ Q w') w) : Calls Try.prog 23 #[.pointer j1, .slice a0 a1 a2] w (Ret V Q) := (journal_Journal_Append.go j1 a0 a1 a2 h).mono fun e w' ⟨v, he, hv, hq⟩ => ⟨by rw [he, hv], hq⟩

/-- cachettelaw10.alive -/
def cachettelaw10_alive.M  (R : Value → World → Prop) (w : World) : Prop :=
 thenW (w.alloc (.cells #[.int .u8 97, .int .u8 98] 5)) fun bl =>
 ∃ (bh : Option Addr) (be : Nat) (bb : Nat) (bf : World), (convert 23 23 (.slice (some (blk w.heap.size)) 2 2)).run Try.prog bl = .ok (.slice bh be bb) bf ∧
 Calls Try.prog 9 #[.int .u32 1, .int .u32 1, .int .u32 0, .slice bh be bb] bf fun bt br => ∃ (a2 : Option Addr) (a1 : Nat) (ae : Nat) (aa : Int), bt = .returned (.tuple #[.slice a2 a1 ae, .int .i64 aa]) ∧
 Calls Try.prog 19 #[.int .i64 4] br fun b1 b6 => ∃ (ag : Option Addr) (b3 : Int), b1 = .returned (.tuple #[.pointer ag, .int .i64 b3]) ∧
 Calls Try.prog 20 #[.pointer ag, .int .i64 0, .int .i64 4, .int .u32 1] b6 fun b8 aq => ∃ (a7 : Option Addr) (a9 : Option Addr) (ad : Nat) (ab : Nat) (a8 : Int), b8 = .returned (.tuple #[.pointer a7, .slice a9 ad ab, .int .i64 a8]) ∧
 thenW (aq.alloc (.cells #[.int .u8 97, .int .u8 98] 5)) fun az =>
 ∃ (ao : Option Addr) (al : Nat) (am : Nat) (ai : World), (convert 23 23 (.slice (some (blk aq.heap.size)) 2 2)).run Try.prog az = .ok (.slice ao al am) ai ∧
 Calls Try.prog 23 #[.pointer a7, .slice ao al am] ai fun b2 b9 => ∃ (a5 : Int), b2 = .returned (.int .i64 a5) ∧
 Calls Try.prog 20 #[.pointer ag, .int .i64 0, .int .i64 4, .int .u32 1] b9 fun ay a0 => ∃ (af : Option Addr) (a4 : Option Addr) (a3 : Nat) (ac : Nat) (a6 : Int), ay = .returned (.tuple #[.pointer af, .slice a4 a3 ac, .int .i64 a6]) ∧
 bif aa == 0 then (
 bif (a1 : Int) == 1 then (
 a2.elim False fun bq =>
 0 ≤ (0 : Int) ∧ (0 : Int) < (a1 : Int) ∧
 ∃ (b0 : Option Addr) (ak : Nat) (b4 : Nat), a0.cell? (bq.add (Int.toNat 0 * 1)) = some (.slice b0 ak b4) ∧
 bif (ak : Int) == 64 then (
 a2.elim False fun bj =>
 0 ≤ (0 : Int) ∧ (0 : Int) < (a1 : Int) ∧
 ∃ (ap : Option Addr) (ah : Nat) (ba : Nat), a0.cell? (bj.add (Int.toNat 0 * 1)) = some (.slice ap ah ba) ∧
 ap.elim False fun bp =>
 0 ≤ (0 : Int) ∧ (0 : Int) < (ah : Int) ∧
 ∃ (bc : Int), a0.cell? (bp.add (Int.toNat 0 * 1)) = some (.int .u8 bc) ∧
 bif bc == 197 then (
 a2.elim False fun bo =>
 0 ≤ (0 : Int) ∧ (0 : Int) < (a1 : Int) ∧
 ∃ (av : Option Addr) (ar : Nat) (b5 : Nat), a0.cell? (bo.add (Int.toNat 0 * 1)) = some (.slice av ar b5) ∧
 av.elim False fun bn =>
 0 ≤ (15 : Int) ∧ (15 : Int) < (ar : Int) ∧
 ∃ (bi : Int), a0.cell? (bn.add (Int.toNat 15 * 1)) = some (.int .u8 bi) ∧
 bif bi == 2 then (
 a2.elim False fun bm =>
 0 ≤ (0 : Int) ∧ (0 : Int) < (a1 : Int) ∧
 ∃ (au : Option Addr) (aw : Nat) (b7 : Nat), a0.cell? (bm.add (Int.toNat 0 * 1)) = some (.slice au aw b7) ∧
 au.elim False fun bs =>
 0 ≤ (17 : Int) ∧ (17 : Int) < (aw : Int) ∧
 ∃ (bd : Int), a0.cell? (bs.add (Int.toNat 17 * 1)) = some (.int .u8 bd) ∧
 bif bd == 98 then (
 bif a8 == 0 then (
 bif a5 == 0 then (
 bif a6 == 0 then (
 bif (a3 : Int) == 1 then (
 a4.elim False fun bk =>
 0 ≤ (0 : Int) ∧ (0 : Int) < (a3 : Int) ∧
 ∃ (ax : Option Addr) (an : Nat) (aj : Nat), a0.cell? (bk.add (Int.toNat 0 * 1)) = some (.slice ax an aj) ∧
 ∃ (bg : ByteArray), (convert 23 9 (.slice ax an aj)).run Try.prog a0 = .ok (.string bg) a0 ∧
 R (.bool (bg.toList == (ByteArray.mk #[97, 98]).toList)) a0) else (
 R (.bool false) a0)) else (
 R (.bool false) a0)) else (
 R (.bool false) a0)) else (
 R (.bool false) a0)) else (
 R (.bool false) a0)) else (
 R (.bool false) a0)) else (
 R (.bool false) a0)) else (
 R (.bool false) a0)) else (
 R (.bool false) a0)) else (
 R (.bool false) a0)

theorem cachettelaw10_alive.eq  (R : Value → World → Prop) (w : World) : mfunc Try.prog [] 8 [] R w = cachettelaw10_alive.M  R w := by kernel_rfl
theorem cachettelaw10_alive.ok  {R : Value → World → Prop} {w : World} (h : cachettelaw10_alive.M  R w) : Calls Try.prog 8 #[] w fun e w' => ∃ v, e = .returned v ∧ R v w' :=
  mfunc_ok follows (H := []) (args := []) (by rw [cachettelaw10_alive.eq]; exact h)

def cachettelaw10_alive.N  (R : Value → World → Prop) (w : World) : Prop :=
 ∀ (b1 : World) (q2 : Nat), Ext no w b1 → Blk b1 q2 5 [.int .u8 97, .int .u8 98] → w.heap.size ≤ q2 → q2 < b1.heap.size →
 ∃ (bj : Option Addr) (bk : Nat) (bn : Nat) (bp : World), (convert 23 23 (.slice (some (blk q2)) 2 2)).run Try.prog b1 = .ok (.slice bj bk bn) bp ∧
 Calls Try.prog 9 #[.int .u32 1, .int .u32 1, .int .u32 0, .slice bj bk bn] bp fun bq br => ∃ (a9 : Option Addr) (a1 : Nat) (ae : Nat) (a7 : Int), bq = .returned (.tuple #[.slice a9 a1 ae, .int .i64 a7]) ∧
 Calls Try.prog 19 #[.int .i64 4] br fun bc b3 => ∃ (ah : Option Addr) (al : Int), bc = .returned (.tuple #[.pointer ah, .int .i64 al]) ∧
 Calls Try.prog 20 #[.pointer ah, .int .i64 0, .int .i64 4, .int .u32 1] b3 fun b6 am => ∃ (a8 : Option Addr) (ab : Option Addr) (aa : Nat) (ac : Nat) (a5 : Int), b6 = .returned (.tuple #[.pointer a8, .slice ab aa ac, .int .i64 a5]) ∧
 ∀ (ag : World) (b2 : Nat), Ext no am ag → Blk ag b2 5 [.int .u8 97, .int .u8 98] → am.heap.size ≤ b2 → b2 < ag.heap.size →
 ∃ (aj : Option Addr) (ax : Nat) (aq : Nat) (an : World), (convert 23 23 (.slice (some (blk b2)) 2 2)).run Try.prog ag = .ok (.slice aj ax aq) an ∧
 Calls Try.prog 23 #[.pointer a8, .slice aj ax aq] an fun b8 bd => ∃ (a3 : Int), b8 = .returned (.int .i64 a3) ∧
 Calls Try.prog 20 #[.pointer ah, .int .i64 0, .int .i64 4, .int .u32 1] bd fun b9 a0 => ∃ (af : Option Addr) (a6 : Option Addr) (a2 : Nat) (ad : Nat) (a4 : Int), b9 = .returned (.tuple #[.pointer af, .slice a6 a2 ad, .int .i64 a4]) ∧
 (a7 = 0 →
 ((a1 : Int) = 1 →
 ∃ av : Addr, a9 = some av ∧
 (0 : Int) < (a1 : Int) ∧
 ∃ (bf : Option Addr) (ai : Nat) (b4 : Nat), a0.cell? (av.add (Int.toNat 0 * 1)) = some (.slice bf ai b4) ∧
 ((ai : Int) = 64 →
 (0 : Int) < (a1 : Int) ∧
 ∃ (ak : Option Addr) (au : Nat) (bb : Nat), a0.cell? (av.add (Int.toNat 0 * 1)) = some (.slice ak au bb) ∧
 ∃ bl : Addr, ak = some bl ∧
 (0 : Int) < (au : Int) ∧
 ∃ (be : Int), a0.cell? (bl.add (Int.toNat 0 * 1)) = some (.int .u8 be) ∧
 (be = 197 →
 (0 : Int) < (a1 : Int) ∧
 ∃ (az : Option Addr) (ar : Nat) (b7 : Nat), a0.cell? (av.add (Int.toNat 0 * 1)) = some (.slice az ar b7) ∧
 ∃ bo : Addr, az = some bo ∧
 (15 : Int) < (ar : Int) ∧
 ∃ (ba : Int), a0.cell? (bo.add (Int.toNat 15 * 1)) = some (.int .u8 ba) ∧
 (ba = 2 →
 (0 : Int) < (a1 : Int) ∧
 ∃ (ay : Option Addr) (ap : Nat) (bg : Nat), a0.cell? (av.add (Int.toNat 0 * 1)) = some (.slice ay ap bg) ∧
 ∃ bh : Addr, ay = some bh ∧
 (17 : Int) < (ap : Int) ∧
 ∃ (b5 : Int), a0.cell? (bh.add (Int.toNat 17 * 1)) = some (.int .u8 b5) ∧
 (b5 = 98 →
 (a5 = 0 →
 (a3 = 0 →
 (a4 = 0 →
 ((a2 : Int) = 1 →
 ∃ bi : Addr, a6 = some bi ∧
 (0 : Int) < (a2 : Int) ∧
 ∃ (ao : Option Addr) (b0 : Nat) (aw : Nat), a0.cell? (bi.add (Int.toNat 0 * 1)) = some (.slice ao b0 aw) ∧
 ∃ (bm : ByteArray), (convert 23 9 (.slice ao b0 aw)).run Try.prog a0 = .ok (.string bm) a0 ∧
 R (.bool (bm.toList == (ByteArray.mk #[97, 98]).toList)) a0) ∧
 ((a2 : Int) ≠ 1 →
 R (.bool false) a0)) ∧
 (a4 ≠ 0 →
 R (.bool false) a0)) ∧
 (a3 ≠ 0 →
 R (.bool false) a0)) ∧
 (a5 ≠ 0 →
 R (.bool false) a0)) ∧
 (b5 ≠ 98 →
 R (.bool false) a0)) ∧
 (ba ≠ 2 →
 R (.bool false) a0)) ∧
 (be ≠ 197 →
 R (.bool false) a0)) ∧
 ((ai : Int) ≠ 64 →
 R (.bool false) a0)) ∧
 ((a1 : Int) ≠ 1 →
 R (.bool false) a0)) ∧
 (a7 ≠ 0 →
 R (.bool false) a0)

theorem cachettelaw10_alive.up  {R : Value → World → Prop} {w : World} (h : cachettelaw10_alive.N  R w) : cachettelaw10_alive.M  R w := by
  unfold cachettelaw10_alive.M
  unfold cachettelaw10_alive.N at h
  refine thenW_in fun c8 e1 => ?_
  have h := h c8 w.heap.size ((Ext.refl no w).x_alloc e1) (Blk.of_new e1) ((Ext.refl no w)).size (size_lt_alloc e1)
  obtain ⟨c1, c4, bx, c6, hr, h⟩ := h
  refine ⟨c1, c4, bx, c6, hr, ?_⟩
  refine h.mono fun ch cg h => ?_
  obtain ⟨aa, a9, ac, ah, he, h⟩ := h
  refine ⟨aa, a9, ac, ah, he, ?_⟩
  refine h.mono fun bw c2 h => ?_
  obtain ⟨bc, ai, he, h⟩ := h
  refine ⟨bc, ai, he, ?_⟩
  refine h.mono fun c3 ag h => ?_
  obtain ⟨a8, a1, a2, a6, af, he, h⟩ := h
  refine ⟨a8, a1, a2, a6, af, he, ?_⟩
  refine thenW_in fun b4 av => ?_
  have h := h b4 ag.heap.size ((Ext.refl no ag).x_alloc av) (Blk.of_new av) ((Ext.refl no ag)).size (size_lt_alloc av)
  obtain ⟨b9, b5, bl, az, hr, h⟩ := h
  refine ⟨b9, b5, bl, az, hr, ?_⟩
  refine h.mono fun ca c7 h => ?_
  obtain ⟨a4, he, h⟩ := h
  refine ⟨a4, he, ?_⟩
  refine h.mono fun bz bv h => ?_
  obtain ⟨ad, a7, a3, a5, ae, he, h⟩ := h
  refine ⟨ad, a7, a3, a5, ae, he, ?_⟩
  refine bif_of (fun bf => ?_) (fun bf => ?_)
  · have h := h.1 (beq_t bf)
    refine bif_of (fun bh => ?_) (fun bh => ?_)
    · have h := h.1 (beq_t bh)
      obtain ⟨ce, ab, h⟩ := h
      refine elim_some ab ?_
      obtain ⟨a0, h⟩ := h
      refine ⟨by decide, a0, ?_⟩
      obtain ⟨bt, b7, au, bs, h⟩ := h
      refine ⟨bt, b7, au, bs, ?_⟩
      refine bif_of (fun bm => ?_) (fun bm => ?_)
      · have h := h.1 (beq_t bm)
        refine elim_some ab ?_
        obtain ⟨a0, h⟩ := h
        refine ⟨by decide, a0, ?_⟩
        obtain ⟨aw, be, an, bo, h⟩ := h
        refine ⟨aw, be, an, bo, ?_⟩
        obtain ⟨cf, ak, h⟩ := h
        refine elim_some ak ?_
        obtain ⟨a0, h⟩ := h
        refine ⟨by decide, a0, ?_⟩
        obtain ⟨c0, bd, h⟩ := h
        refine ⟨c0, bd, ?_⟩
        refine bif_of (fun bg => ?_) (fun bg => ?_)
        · have h := h.1 (beq_t bg)
          refine elim_some ab ?_
          obtain ⟨a0, h⟩ := h
          refine ⟨by decide, a0, ?_⟩
          obtain ⟨aq, am, ax, ay, h⟩ := h
          refine ⟨aq, am, ax, ay, ?_⟩
          obtain ⟨cd, bq, h⟩ := h
          refine elim_some bq ?_
          obtain ⟨a0, h⟩ := h
          refine ⟨by decide, a0, ?_⟩
          obtain ⟨c5, bk, h⟩ := h
          refine ⟨c5, bk, ?_⟩
          refine bif_of (fun bj => ?_) (fun bj => ?_)
          · have h := h.1 (beq_t bj)
            refine elim_some ab ?_
            obtain ⟨a0, h⟩ := h
            refine ⟨by decide, a0, ?_⟩
            obtain ⟨ao, bb, bi, b6, h⟩ := h
            refine ⟨ao, bb, bi, b6, ?_⟩
            obtain ⟨cc, bn, h⟩ := h
            refine elim_some bn ?_
            obtain ⟨a0, h⟩ := h
            refine ⟨by decide, a0, ?_⟩
            obtain ⟨c9, al, h⟩ := h
            refine ⟨c9, al, ?_⟩
            refine bif_of (fun bp => ?_) (fun bp => ?_)
            · have h := h.1 (beq_t bp)
              refine bif_of (fun b0 => ?_) (fun b0 => ?_)
              · have h := h.1 (beq_t b0)
                refine bif_of (fun br => ?_) (fun br => ?_)
                · have h := h.1 (beq_t br)
                  refine bif_of (fun b8 => ?_) (fun b8 => ?_)
                  · have h := h.1 (beq_t b8)
                    refine bif_of (fun b1 => ?_) (fun b1 => ?_)
                    · have h := h.1 (beq_t b1)
                      obtain ⟨cb, ap, h⟩ := h
                      refine elim_some ap ?_
                      obtain ⟨a0, h⟩ := h
                      refine ⟨by decide, a0, ?_⟩
                      obtain ⟨ba, ar, b2, aj, h⟩ := h
                      refine ⟨ba, ar, b2, aj, ?_⟩
                      obtain ⟨bu, b3, h⟩ := h
                      refine ⟨bu, b3, ?_⟩
                      exact h
                    · have h := h.2 (beq_f b1)
                      exact h
                  · have h := h.2 (beq_f b8)
                    exact h
                · have h := h.2 (beq_f br)
                  exact h
              · have h := h.2 (beq_f b0)
                exact h
            · have h := h.2 (beq_f bp)
              exact h
          · have h := h.2 (beq_f bj)
            exact h
        · have h := h.2 (beq_f bg)
          exact h
      · have h := h.2 (beq_f bm)
        exact h
    · have h := h.2 (beq_f bh)
      exact h
  · have h := h.2 (beq_f bf)
    exact h

theorem cachettelaw10_alive.go  {R : Value → World → Prop} {w : World} (h : cachettelaw10_alive.N  R w) : Calls Try.prog 8 #[] w fun e w' => ∃ v, e = .returned v ∧ R v w' := cachettelaw10_alive.ok  (cachettelaw10_alive.up  h)
theorem cachettelaw10_alive.run  {V : Value} {Q : World → Prop} {w : World} (h : cachettelaw10_alive.N  (fun v w' => v = V ∧ Q w') w) : Calls Try.prog 8 #[] w (Ret V Q) := (cachettelaw10_alive.go  h).mono fun e w' ⟨v, he, hv, hq⟩ => ⟨by rw [he, hv], hq⟩

/-- cachettelaw10.Bytes -/
def cachettelaw10_Bytes.M (ak : Int) (af : Int) (ap : Int) (aw : Option Addr) (ax : Nat) (ay : Nat) (ah : Int) (av : Int) (au : Int) (R : Value → World → Prop) (w : World) : Prop :=
 thenW (w.alloc (.cells #[.int .u32 ak, .int .u32 af, .int .u32 ap, .slice aw ax ay, .int .i64 ah, .int .i64 av, .int .u8 au] 38)) fun aq =>
 ∃ (am : Int), aq.cell? ((blk w.heap.size).add 0) = some (.int .u32 am) ∧
 ∃ (a6 : Int), aq.cell? ((blk w.heap.size).add 1) = some (.int .u32 a6) ∧
 ∃ (ag : Int), aq.cell? ((blk w.heap.size).add 2) = some (.int .u32 ag) ∧
 ∃ (aj : Option Addr) (ao : Nat) (al : Nat), aq.cell? ((blk w.heap.size).add 3) = some (.slice aj ao al) ∧
 Calls Try.prog 10 #[.int .u32 am, .int .u32 a6, .int .u32 ag, .slice aj ao al] aq fun b0 a0 => ∃ (a3 : Option Addr) (a1 : Nat) (ac : Nat) (a5 : Int), b0 = .returned (.tuple #[.slice a3 a1 ac, .int .i64 a5]) ∧
 bif a5 != 0 then (
 R (.tuple #[.slice none 0 0, .bool false]) a0) else (
 ∃ (ab : Int), a0.cell? ((blk w.heap.size).add 4) = some (.int .i64 ab) ∧
 bif decide (ab < 0) then (
 R (.tuple #[.slice none 0 0, .bool false]) a0) else (
 ∃ (aa : Int), a0.cell? ((blk w.heap.size).add 4) = some (.int .i64 aa) ∧
 bif decide (aa ≥ (a1 : Int)) then (
 R (.tuple #[.slice none 0 0, .bool false]) a0) else (
 ∃ (a2 : Int), a0.cell? ((blk w.heap.size).add 4) = some (.int .i64 a2) ∧
 a3.elim False fun b3 =>
 0 ≤ (a2 : Int) ∧ (a2 : Int) < (a1 : Int) ∧
 ∃ (a7 : Option Addr) (a4 : Nat) (ae : Nat), a0.cell? (b3.add (Int.toNat a2 * 1)) = some (.slice a7 a4 ae) ∧
 ∃ (ar : Int), a0.cell? ((blk w.heap.size).add 5) = some (.int .i64 ar) ∧
 bif decide (ar ≥ 0) then (
 ∃ (ai : Int), a0.cell? ((blk w.heap.size).add 5) = some (.int .i64 ai) ∧
 bif decide (ai < (a4 : Int)) then (
 thenW (a0.drew) fun a8 =>
 ∃ (a9 : Int), a8.cell? ((blk w.heap.size).add 5) = some (.int .i64 a9) ∧
 ∃ (ad : Int), a8.cell? ((blk w.heap.size).add 5) = some (.int .i64 ad) ∧
 a7.elim False fun b4 =>
 0 ≤ (ad : Int) ∧ (ad : Int) < (a4 : Int) ∧
 ∃ (b2 : Int), a8.cell? (b4.add (Int.toNat ad * 1)) = some (.int .u8 b2) ∧
 ∃ (an : Int), a8.cell? ((blk w.heap.size).add 6) = some (.int .u8 an) ∧
 a7.elim False fun b1 =>
 0 ≤ (a9 : Int) ∧ (a9 : Int) < (a4 : Int) ∧
 canStore a8 ((b1.add (Int.toNat a9 * 1)).add 0) ∧
 thenW (a8.setCell ((b1.add (Int.toNat a9 * 1)).add 0) (.int .u8 (IntKind.u8.wrap ((BitVec.ofInt (IntKind.bits .u8) b2 ^^^ BitVec.ofInt (IntKind.bits .u8) an).toNat)))) fun az =>
 R (.tuple #[.slice a7 a4 ae, .bool true]) az) else (
 R (.tuple #[.slice a7 a4 ae, .bool true]) a0)) else (
 R (.tuple #[.slice a7 a4 ae, .bool true]) a0))))

theorem cachettelaw10_Bytes.eq (rGen1 : Int) (rRound2 : Int) (rSeq3 : Int) (rB4a : Option Addr) (rB4n : Nat) (rB4c : Nat) (rPart5 : Int) (rAt6 : Int) (rBy7 : Int) (R : Value → World → Prop) (w : World) : mfunc Try.prog [] 15 [.agg #[.int .u32 rGen1, .int .u32 rRound2, .int .u32 rSeq3, .slice rB4a rB4n rB4c, .int .i64 rPart5, .int .i64 rAt6, .int .u8 rBy7]] R w = cachettelaw10_Bytes.M rGen1 rRound2 rSeq3 rB4a rB4n rB4c rPart5 rAt6 rBy7 R w := by kernel_rfl
theorem cachettelaw10_Bytes.ok (a3 : Int) (a0 : Int) (a2 : Int) (a5 : Option Addr) (a8 : Nat) (a4 : Nat) (a1 : Int) (a7 : Int) (a6 : Int) {R : Value → World → Prop} {w : World} (h : cachettelaw10_Bytes.M a3 a0 a2 a5 a8 a4 a1 a7 a6 R w) : Calls Try.prog 15 #[.agg #[.int .u32 a3, .int .u32 a0, .int .u32 a2, .slice a5 a8 a4, .int .i64 a1, .int .i64 a7, .int .u8 a6]] w fun e w' => ∃ v, e = .returned v ∧ R v w' :=
  mfunc_ok follows (H := []) (args := [.agg #[.int .u32 a3, .int .u32 a0, .int .u32 a2, .slice a5 a8 a4, .int .i64 a1, .int .i64 a7, .int .u8 a6]]) (by rw [cachettelaw10_Bytes.eq]; exact h)

def cachettelaw10_Bytes.N (ac : Int) (aa : Int) (ad : Int) (ah : Option Addr) (aj : Nat) (ak : Nat) (a0 : Int) (a2 : Int) (ag : Int) (R : Value → World → Prop) (w : World) : Prop :=
 ∀ (af : World) (p9 : Nat), Ext no w af → Priv w af [p9] →
 Calls Try.prog 10 #[.int .u32 ac, .int .u32 aa, .int .u32 ad, .slice ah aj ak] af fun ai a4 => ∃ (a5 : Option Addr) (a1 : Nat) (a8 : Nat) (a3 : Int), ai = .returned (.tuple #[.slice a5 a1 a8, .int .i64 a3]) ∧
 Keep [p9] af a4 ∧
 (a3 ≠ 0 →
 R (.tuple #[.slice none 0 0, .bool false]) a4) ∧
 (a3 = 0 →
 (a0 < 0 →
 R (.tuple #[.slice none 0 0, .bool false]) a4) ∧
 ((0 : Int) ≤ a0 →
 (a0 ≥ (a1 : Int) →
 R (.tuple #[.slice none 0 0, .bool false]) a4) ∧
 (a0 < (a1 : Int) →
 ∃ am : Addr, a5 = some am ∧
 0 ≤ (a0 : Int) ∧ (a0 : Int) < (a1 : Int) ∧
 ∃ (a7 : Option Addr) (a6 : Nat) (a9 : Nat), a4.cell? (am.add (Int.toNat a0 * 1)) = some (.slice a7 a6 a9) ∧
 (a2 ≥ 0 →
 (a2 < (a6 : Int) →
 ∃ ae : Addr, a7 = some ae ∧
 0 ≤ (a2 : Int) ∧ (a2 : Int) < (a6 : Int) ∧
 ∃ (an : Int), a4.cell? (ae.add (Int.toNat a2 * 1)) = some (.int .u8 an) ∧
 0 ≤ (a2 : Int) ∧ (a2 : Int) < (a6 : Int) ∧
 ∀ (ab : World), Ext no a4 ab →
 canStore ab ((ae.add (Int.toNat a2 * 1)).add 0) ∧
 thenW (ab.setCell ((ae.add (Int.toNat a2 * 1)).add 0) (.int .u8 (IntKind.u8.wrap ((BitVec.ofInt (IntKind.bits .u8) an ^^^ BitVec.ofInt (IntKind.bits .u8) ag).toNat)))) fun al =>
 R (.tuple #[.slice a7 a6 a9, .bool true]) al) ∧
 ((a6 : Int) ≤ a2 →
 R (.tuple #[.slice a7 a6 a9, .bool true]) a4)) ∧
 (a2 < 0 →
 R (.tuple #[.slice a7 a6 a9, .bool true]) a4))))

theorem cachettelaw10_Bytes.up (a4 : Int) (a1 : Int) (a7 : Int) (ab : Option Addr) (ac : Nat) (ad : Nat) (a0 : Int) (a3 : Int) (aa : Int) {R : Value → World → Prop} {w : World} (h : cachettelaw10_Bytes.N a4 a1 a7 ab ac ad a0 a3 aa R w) : cachettelaw10_Bytes.M a4 a1 a7 ab ac ad a0 a3 aa R w := by
  unfold cachettelaw10_Bytes.M
  unfold cachettelaw10_Bytes.N at h
  refine thenW_in fun b3 e8 => ?_
  have a2 := Blk.of_new e8
  have az := ((Ext.refl no w)).size
  have b2 := (Ext.refl no w).x_alloc e8
  refine ⟨a4, a2.celli 0 rfl rfl, ?_⟩
  refine ⟨a1, a2.celli 1 rfl rfl, ?_⟩
  refine ⟨a7, a2.celli 2 rfl rfl, ?_⟩
  refine ⟨ab, ac, ad, a2.celli 3 rfl rfl, ?_⟩
  have h := h b3 (w.heap.size) b2 (Priv.cons az a2.lt Priv.nil)
  refine h.mono fun b0 am h => ?_
  obtain ⟨a5, a6, a8, a9, he, hk, h⟩ := h
  refine ⟨a5, a6, a8, a9, he, ?_⟩
  have a2 := hk.blk a2 (by simp)
  refine bif_of (fun ap => ?_) (fun ap => ?_)
  · have h := h.1 (bne_t ap)
    exact h
  · have h := h.2 (bne_f ap)
    refine ⟨a0, a2.celli 4 rfl rfl, ?_⟩
    refine bif_of (fun aj => ?_) (fun aj => ?_)
    · have h := h.1 (of_decide_eq_true aj)
      exact h
    · have h := h.2 (Int.not_lt.1 (of_decide_eq_false aj))
      refine ⟨a0, a2.celli 4 rfl rfl, ?_⟩
      refine bif_of (fun au => ?_) (fun au => ?_)
      · have h := h.1 (of_decide_eq_true au)
        exact h
      · have h := h.2 (Int.not_le.1 (of_decide_eq_false au))
        refine ⟨a0, a2.celli 4 rfl rfl, ?_⟩
        obtain ⟨b6, ak, h⟩ := h
        refine elim_some ak ?_
        obtain ⟨ag, ae, h⟩ := h
        refine ⟨ag, ae, ?_⟩
        obtain ⟨an, av, ao, al, h⟩ := h
        refine ⟨an, av, ao, al, ?_⟩
        refine ⟨a3, a2.celli 5 rfl rfl, ?_⟩
        refine bif_of (fun aw => ?_) (fun aw => ?_)
        · have h := h.1 (of_decide_eq_true aw)
          refine ⟨a3, a2.celli 5 rfl rfl, ?_⟩
          refine bif_of (fun aq => ?_) (fun aq => ?_)
          · have h := h.1 (of_decide_eq_true aq)
            refine thenW_in fun ar ax => ?_
            have af := (Ext.refl no am).x_drew ax
            have a2 := a2.x_drew ax
            refine ⟨a3, a2.celli 5 rfl rfl, ?_⟩
            refine ⟨a3, a2.celli 5 rfl rfl, ?_⟩
            obtain ⟨b5, ah, h⟩ := h
            refine elim_some ah ?_
            obtain ⟨ag, ae, h⟩ := h
            refine ⟨ag, ae, ?_⟩
            obtain ⟨b4, ai, h⟩ := h
            refine ⟨b4, (af).cell ai id, ?_⟩
            refine ⟨aa, a2.celli 6 rfl rfl, ?_⟩
            refine elim_some ah ?_
            obtain ⟨ag, ae, h⟩ := h
            refine ⟨ag, ae, ?_⟩
            have h := h ar af
            obtain ⟨hcs, h⟩ := h
            refine ⟨hcs, thenW_in fun b1 ay => ?_⟩
            replace h := thenW_out h ay
            exact h
          · have h := h.2 (Int.not_lt.1 (of_decide_eq_false aq))
            exact h
        · have h := h.2 (Int.not_le.1 (of_decide_eq_false aw))
          exact h

theorem cachettelaw10_Bytes.go (a3 : Int) (a0 : Int) (a2 : Int) (a5 : Option Addr) (a8 : Nat) (a4 : Nat) (a1 : Int) (a7 : Int) (a6 : Int) {R : Value → World → Prop} {w : World} (h : cachettelaw10_Bytes.N a3 a0 a2 a5 a8 a4 a1 a7 a6 R w) : Calls Try.prog 15 #[.agg #[.int .u32 a3, .int .u32 a0, .int .u32 a2, .slice a5 a8 a4, .int .i64 a1, .int .i64 a7, .int .u8 a6]] w fun e w' => ∃ v, e = .returned v ∧ R v w' := cachettelaw10_Bytes.ok a3 a0 a2 a5 a8 a4 a1 a7 a6 (cachettelaw10_Bytes.up a3 a0 a2 a5 a8 a4 a1 a7 a6 h)
/-- cachettelaw10.lightRaw -/
def cachettelaw10_lightRaw.M (a4 : Option Addr) (a1 : Nat) (a7 : Nat) (R : Value → World → Prop) (w : World) : Prop :=
 bif decide ((a1 : Int) > 40) then (
 R (.bool false) w) else (
 ∃ (I0 : Nat → List Value → World → Prop) (m3 : Nat), I0 m3 [.int .i64 0] w ∧ ∀ (m4 : Nat) (a0 : World) (i2 : Int), I0 m4 [.int .i64 i2] a0 →
 bif decide (i2 < (a1 : Int)) then (
 a4.elim False fun a6 =>
 0 ≤ (i2 : Int) ∧ (i2 : Int) < (a1 : Int) ∧
 ∃ (a3 : Option Addr) (a2 : Nat) (a5 : Nat), a0.cell? ((a6.add (Int.toNat i2 * 7)).add 3) = some (.slice a3 a2 a5) ∧
 bif decide ((a2 : Int) > 500) then (
 R (.bool false) a0) else (
 ∃ m8, m8 < m4 ∧ I0 m8 [.int .i64 (IntKind.i64.wrap (i2 + 1))] a0)) else (
 R (.bool true) a0))

theorem cachettelaw10_lightRaw.eq (l1a : Option Addr) (l1n : Nat) (l1c : Nat) (R : Value → World → Prop) (w : World) : mfunc Try.prog [(0, [0], [(3, (.one (.int .i64)))])] 14 [.slice l1a l1n l1c] R w = cachettelaw10_lightRaw.M l1a l1n l1c R w := by kernel_rfl
theorem cachettelaw10_lightRaw.ok (a2 : Option Addr) (a0 : Nat) (a1 : Nat) {R : Value → World → Prop} {w : World} (h : cachettelaw10_lightRaw.M a2 a0 a1 R w) : Calls Try.prog 14 #[.slice a2 a0 a1] w fun e w' => ∃ v, e = .returned v ∧ R v w' :=
  mfunc_ok follows (H := [(0, [0], [(3, (.one (.int .i64)))])]) (args := [.slice a2 a0 a1]) (by rw [cachettelaw10_lightRaw.eq]; exact h)

def cachettelaw10_lightRaw.N (a6 : Option Addr) (a1 : Nat) (a7 : Nat) (R : Value → World → Prop) (w : World) : Prop :=
 ((a1 : Int) > 40 →
 R (.bool false) w) ∧
 ((a1 : Int) ≤ 40 →
 ∃ (I0 : Nat → List Value → World → Prop) (m4 : Nat), I0 m4 [.int .i64 0] w ∧ ∀ (m5 : Nat) (a2 : World) (i3 : Int), I0 m5 [.int .i64 i3] a2 →
 (i3 < (a1 : Int) →
 ∃ a8 : Addr, a6 = some a8 ∧
 0 ≤ (i3 : Int) ∧ (i3 : Int) < (a1 : Int) ∧
 ∃ (a4 : Option Addr) (a0 : Nat) (a3 : Nat), a2.cell? ((a8.add (Int.toNat i3 * 7)).add 3) = some (.slice a4 a0 a3) ∧
 ((a0 : Int) > 500 →
 R (.bool false) a2) ∧
 ((a0 : Int) ≤ 500 →
 (-9223372036854775808 : Int) ≤ (i3 + 1) ∧ (i3 + 1) < 9223372036854775808 ∧
 ∃ a5, a5 < m5 ∧ I0 a5 [.int .i64 (i3 + 1)] a2)) ∧
 ((a1 : Int) ≤ i3 →
 R (.bool true) a2))

theorem cachettelaw10_lightRaw.up (a6 : Option Addr) (a4 : Nat) (a5 : Nat) {R : Value → World → Prop} {w : World} (h : cachettelaw10_lightRaw.N a6 a4 a5 R w) : cachettelaw10_lightRaw.M a6 a4 a5 R w := by
  unfold cachettelaw10_lightRaw.M
  unfold cachettelaw10_lightRaw.N at h
  refine bif_of (fun c2 => ?_) (fun c2 => ?_)
  · have h := h.1 (of_decide_eq_true c2)
    exact h
  · have h := h.2 (Int.not_lt.1 (of_decide_eq_false c2))
    obtain ⟨I0, m4, h0, h⟩ := h
    refine ⟨I0, m4, h0, fun m5 ad i3 hI => ?_⟩
    have h := h m5 ad i3 hI
    refine bif_of (fun c7 => ?_) (fun c7 => ?_)
    · have h := h.1 (of_decide_eq_true c7)
      obtain ⟨a8, ae, h⟩ := h
      refine elim_some ae ?_
      obtain ⟨a7, af, h⟩ := h
      refine ⟨a7, af, ?_⟩
      obtain ⟨a2, a3, a1, ab, h⟩ := h
      refine ⟨a2, a3, a1, ab, ?_⟩
      refine bif_of (fun a0 => ?_) (fun a0 => ?_)
      · have h := h.1 (of_decide_eq_true a0)
        exact h
      · have h := h.2 (Int.not_lt.1 (of_decide_eq_false a0))
        obtain ⟨a9, aa, h⟩ := h
        try rw [w64 a9 aa]
        obtain ⟨ac, hk, h⟩ := h
        exact ⟨ac, hk, h⟩
    · have h := h.2 (Int.not_lt.1 (of_decide_eq_false c7))
      exact h

theorem cachettelaw10_lightRaw.go (a2 : Option Addr) (a0 : Nat) (a1 : Nat) {R : Value → World → Prop} {w : World} (h : cachettelaw10_lightRaw.N a2 a0 a1 R w) : Calls Try.prog 14 #[.slice a2 a0 a1] w fun e w' => ∃ v, e = .returned v ∧ R v w' := cachettelaw10_lightRaw.ok a2 a0 a1 (cachettelaw10_lightRaw.up a2 a0 a1 h)
theorem cachettelaw10_lightRaw.run (a2 : Option Addr) (a0 : Nat) (a1 : Nat) {V : Value} {Q : World → Prop} {w : World} (h : cachettelaw10_lightRaw.N a2 a0 a1 (fun v w' => v = V ∧ Q w') w) : Calls Try.prog 14 #[.slice a2 a0 a1] w (Ret V Q) := (cachettelaw10_lightRaw.go a2 a0 a1 h).mono fun e w' ⟨v, he, hv, hq⟩ => ⟨by rw [he, hv], hq⟩

/-- cachettelaw10.JournalScans -/
def cachettelaw10_JournalScans.M (cm : Option Addr) (bx : Nat) (co : Nat) (av : Option Addr) (a7 : Nat) (ca : Nat) (bj : Int) (R : Value → World → Prop) (w : World) : Prop :=
 Calls Try.prog 14 #[.slice cm bx co] w fun cu cd => ∃ (a3 : Bool), cu = .returned (.bool a3) ∧
 bif !a3 then (
 Calls Try.prog 8 #[] cd fun cn cr => ∃ (ar : Bool), cn = .returned (.bool ar) ∧
 R (.bool ar) cr) else (
 ∃ (I0 : Nat → List Value → World → Prop) (cq : Nat), I0 cq [.slice none 0 0, .int .i64 0] cd ∧ ∀ (b5 : Nat) (aw : World) (a8 : Option Addr) (a6 : Nat) (a4 : Nat) (a5 : Int), I0 b5 [.slice a8 a6 a4, .int .i64 a5] aw →
 bif decide (a5 < (bx : Int)) then (
 cm.elim False fun cp =>
 0 ≤ (a5 : Int) ∧ (a5 : Int) < (bx : Int) ∧
 ∃ (am : Int) (aa : Int) (aq : Int) (az : Option Addr) (b1 : Nat) (b2 : Nat) (af : Int) (b0 : Int) (ay : Int), cellsAt aw (cp.add (Int.toNat a5 * 7)) [.int .u32 am, .int .u32 aa, .int .u32 aq, .slice az b1 b2, .int .i64 af, .int .i64 b0, .int .u8 ay] 0 ∧
 Calls Try.prog 15 #[.agg #[.int .u32 am, .int .u32 aa, .int .u32 aq, .slice az b1 b2, .int .i64 af, .int .i64 b0, .int .u8 ay]] aw fun c4 ab => ∃ (a0 : Option Addr) (a2 : Nat) (a1 : Nat) (ah : Bool), c4 = .returned (.tuple #[.slice a0 a2 a1, .bool ah]) ∧
 bif !ah then (
 ∃ (b6 : Option Addr) (b4 : Nat) (b3 : Nat) (a9 : World), (Instr.makeSlice 23 (.int .i64 64) (.int .i64 64)).run Try.prog ab = .ok (.slice b6 b4 b3) a9 ∧
 bif decide (a5 < (a7 : Int)) then (
 av.elim False fun cs =>
 0 ≤ (a5 : Int) ∧ (a5 : Int) < (a7 : Int) ∧
 ∃ (ce : Bool), a9.cell? (cs.add (Int.toNat a5 * 1)) = some (.bool ce) ∧
 bif ce then (
 thenW (a9.alloc (.cells #[.slice none 0 0] 23)) fun cb =>
 ∃ (bp : Option Addr) (be : Nat) (bb : Nat) (b7 : World), (Builtin.append_ #[25, 25] 25 #[.slice a8 a6 a4, .slice (some (blk a9.heap.size)) 1 1]).run Try.prog cb = .ok (.slice bp be bb) b7 ∧
 ∃ ck, ck < b5 ∧ I0 ck [.slice bp be bb, .int .i64 (IntKind.i64.wrap (a5 + 1))] b7) else (
 thenW (a9.alloc (.cells #[.slice b6 b4 b3] 23)) fun c7 =>
 ∃ (ba : Option Addr) (bd : Nat) (bq : Nat) (bg : World), (Builtin.append_ #[25, 25] 25 #[.slice a8 a6 a4, .slice (some (blk a9.heap.size)) 1 1]).run Try.prog c7 = .ok (.slice ba bd bq) bg ∧
 ∃ ch, ch < b5 ∧ I0 ch [.slice ba bd bq, .int .i64 (IntKind.i64.wrap (a5 + 1))] bg)) else (
 thenW (a9.alloc (.cells #[.slice b6 b4 b3] 23)) fun c5 =>
 ∃ (bm : Option Addr) (bs : Nat) (bt : Nat) (bc : World), (Builtin.append_ #[25, 25] 25 #[.slice a8 a6 a4, .slice (some (blk a9.heap.size)) 1 1]).run Try.prog c5 = .ok (.slice bm bs bt) bc ∧
 ∃ ci, ci < b5 ∧ I0 ci [.slice bm bs bt, .int .i64 (IntKind.i64.wrap (a5 + 1))] bc)) else (
 bif decide (a5 < (a7 : Int)) then (
 av.elim False fun ct =>
 0 ≤ (a5 : Int) ∧ (a5 : Int) < (a7 : Int) ∧
 ∃ (cj : Bool), ab.cell? (ct.add (Int.toNat a5 * 1)) = some (.bool cj) ∧
 bif cj then (
 thenW (ab.alloc (.cells #[.slice none 0 0] 23)) fun c2 =>
 ∃ (bv : Option Addr) (b9 : Nat) (bu : Nat) (bi : World), (Builtin.append_ #[25, 25] 25 #[.slice a8 a6 a4, .slice (some (blk ab.heap.size)) 1 1]).run Try.prog c2 = .ok (.slice bv b9 bu) bi ∧
 ∃ cl, cl < b5 ∧ I0 cl [.slice bv b9 bu, .int .i64 (IntKind.i64.wrap (a5 + 1))] bi) else (
 thenW (ab.alloc (.cells #[.slice a0 a2 a1] 23)) fun c6 =>
 ∃ (br : Option Addr) (bn : Nat) (bf : Nat) (bl : World), (Builtin.append_ #[25, 25] 25 #[.slice a8 a6 a4, .slice (some (blk ab.heap.size)) 1 1]).run Try.prog c6 = .ok (.slice br bn bf) bl ∧
 ∃ cf, cf < b5 ∧ I0 cf [.slice br bn bf, .int .i64 (IntKind.i64.wrap (a5 + 1))] bl)) else (
 thenW (ab.alloc (.cells #[.slice a0 a2 a1] 23)) fun cc =>
 ∃ (bk : Option Addr) (bh : Nat) (b8 : Nat) (bo : World), (Builtin.append_ #[25, 25] 25 #[.slice a8 a6 a4, .slice (some (blk ab.heap.size)) 1 1]).run Try.prog cc = .ok (.slice bk bh b8) bo ∧
 ∃ cg, cg < b5 ∧ I0 cg [.slice bk bh b8, .int .i64 (IntKind.i64.wrap (a5 + 1))] bo))) else (
 Calls Try.prog 16 #[.slice a8 a6 a4, .int .u32 bj] aw fun c9 bw => ∃ (ai : Option Addr) (ad : Nat) (al : Nat) (ap : Int) (au : Int), c9 = .returned (.tuple #[.slice ai ad al, .int .i64 ap, .int .u32 au]) ∧
 Calls Try.prog 17 #[.slice a8 a6 a4, .int .u32 bj] bw fun c8 c1 => ∃ (ag : Option Addr) (ak : Nat) (ac : Nat) (an : Int) (ao : Int), c8 = .returned (.tuple #[.slice ag ak ac, .int .i64 an, .int .u32 ao]) ∧
 Calls Try.prog 11 #[.slice ai ad al, .slice ag ak ac] c1 fun c0 ax => ∃ (aj : Bool), c0 = .returned (.bool aj) ∧
 bif aj then (
 bif ap == an then (
 bif au == ao then (
 Calls Try.prog 8 #[] ax fun bz c3 => ∃ (ae : Bool), bz = .returned (.bool ae) ∧
 R (.bool ae) c3) else (
 R (.bool false) ax)) else (
 R (.bool false) ax)) else (
 R (.bool false) ax)))

theorem cachettelaw10_JournalScans.eq (l1a : Option Addr) (l1n : Nat) (l1c : Nat) (gone2a : Option Addr) (gone2n : Nat) (gone2c : Nat) (gen3 : Int) (R : Value → World → Prop) (w : World) : mfunc Try.prog [(0, [0, 1, 2], [(7, (.one .slice)), (8, (.one (.int .i64)))])] 4 [.slice l1a l1n l1c, .slice gone2a gone2n gone2c, .int .u32 gen3] R w = cachettelaw10_JournalScans.M l1a l1n l1c gone2a gone2n gone2c gen3 R w := by kernel_rfl
theorem cachettelaw10_JournalScans.ok (a6 : Option Addr) (a4 : Nat) (a5 : Nat) (a0 : Option Addr) (a2 : Nat) (a1 : Nat) (a3 : Int) {R : Value → World → Prop} {w : World} (h : cachettelaw10_JournalScans.M a6 a4 a5 a0 a2 a1 a3 R w) : Calls Try.prog 4 #[.slice a6 a4 a5, .slice a0 a2 a1, .int .u32 a3] w fun e w' => ∃ v, e = .returned v ∧ R v w' :=
  mfunc_ok follows (H := [(0, [0, 1, 2], [(7, (.one .slice)), (8, (.one (.int .i64)))])]) (args := [.slice a6 a4 a5, .slice a0 a2 a1, .int .u32 a3]) (by rw [cachettelaw10_JournalScans.eq]; exact h)

def cachettelaw10_JournalScans.N (cw : Option Addr) (c4 : Nat) (cy : Nat) (av : Option Addr) (a2 : Nat) (ck : Nat) (bm : Int) (R : Value → World → Prop) (w : World) : Prop :=
 Calls Try.prog 14 #[.slice cw c4 cy] w fun d0 cm => ∃ (a1 : Bool), d0 = .returned (.bool a1) ∧
 (a1 = false →
 Calls Try.prog 8 #[] cm fun cx ca => ∃ (au : Bool), cx = .returned (.bool au) ∧
 R (.bool au) ca) ∧
 (a1 = true →
 ∃ (I0 : Nat → List Value → World → Prop) (cz : Nat), I0 cz [.slice none 0 0, .int .i64 0] cm ∧ ∀ (bc : Nat) (b0 : World) (a9 : Option Addr) (a7 : Nat) (a8 : Nat) (a0 : Int), I0 bc [.slice a9 a7 a8, .int .i64 a0] b0 →
 (a0 < (c4 : Int) →
 ∃ cr : Addr, cw = some cr ∧
 0 ≤ (a0 : Int) ∧ (a0 : Int) < (c4 : Int) ∧
 ∃ (aq : Int) (ac : Int) (ar : Int) (b4 : Option Addr) (b7 : Nat) (b5 : Nat) (ao : Int) (b6 : Int) (b8 : Int), cellsAt b0 (cr.add (Int.toNat a0 * 7)) [.int .u32 aq, .int .u32 ac, .int .u32 ar, .slice b4 b7 b5, .int .i64 ao, .int .i64 b6, .int .u8 b8] 0 ∧
 Calls Try.prog 15 #[.agg #[.int .u32 aq, .int .u32 ac, .int .u32 ar, .slice b4 b7 b5, .int .i64 ao, .int .i64 b6, .int .u8 b8]] b0 fun cg ab => ∃ (a5 : Option Addr) (a4 : Nat) (a3 : Nat) (a6 : Bool), cg = .returned (.tuple #[.slice a5 a4 a3, .bool a6]) ∧
 (a6 = false →
 ∃ (bb : Option Addr) (ba : Nat) (b9 : Nat) (ad : World), (Instr.makeSlice 23 (.int .i64 64) (.int .i64 64)).run Try.prog ab = .ok (.slice bb ba b9) ad ∧
 (a0 < (a2 : Int) →
 ∃ cn : Addr, av = some cn ∧
 0 ≤ (a0 : Int) ∧ (a0 : Int) < (a2 : Int) ∧
 ∃ (cc : Bool), ad.cell? (cn.add (Int.toNat a0 * 1)) = some (.bool cc) ∧
 (cc = true →
 ∀ (aw : World) (c5 : Nat), Ext no ad aw → Blk aw c5 23 [.slice none 0 0] → ad.heap.size ≤ c5 → c5 < aw.heap.size →
 ∃ (bp : Option Addr) (bw : Nat) (bz : Nat) (bi : World), (Builtin.append_ #[25, 25] 25 #[.slice a9 a7 a8, .slice (some (blk c5)) 1 1]).run Try.prog aw = .ok (.slice bp bw bz) bi ∧
 (-9223372036854775808 : Int) ≤ (a0 + 1) ∧ (a0 + 1) < 9223372036854775808 ∧
 ∃ ct, ct < bc ∧ I0 ct [.slice bp bw bz, .int .i64 (a0 + 1)] bi) ∧
 (cc = false →
 ∀ (b1 : World) (c7 : Nat), Ext no ad b1 → Blk b1 c7 23 [.slice bb ba b9] → ad.heap.size ≤ c7 → c7 < b1.heap.size →
 ∃ (bf : Option Addr) (bx : Nat) (bl : Nat) (bn : World), (Builtin.append_ #[25, 25] 25 #[.slice a9 a7 a8, .slice (some (blk c7)) 1 1]).run Try.prog b1 = .ok (.slice bf bx bl) bn ∧
 (-9223372036854775808 : Int) ≤ (a0 + 1) ∧ (a0 + 1) < 9223372036854775808 ∧
 ∃ cu, cu < bc ∧ I0 cu [.slice bf bx bl, .int .i64 (a0 + 1)] bn)) ∧
 ((a2 : Int) ≤ a0 →
 ∀ (b3 : World) (c8 : Nat), Ext no ad b3 → Blk b3 c8 23 [.slice bb ba b9] → ad.heap.size ≤ c8 → c8 < b3.heap.size →
 ∃ (bu : Option Addr) (bq : Nat) (bj : Nat) (bo : World), (Builtin.append_ #[25, 25] 25 #[.slice a9 a7 a8, .slice (some (blk c8)) 1 1]).run Try.prog b3 = .ok (.slice bu bq bj) bo ∧
 (-9223372036854775808 : Int) ≤ (a0 + 1) ∧ (a0 + 1) < 9223372036854775808 ∧
 ∃ cq, cq < bc ∧ I0 cq [.slice bu bq bj, .int .i64 (a0 + 1)] bo)) ∧
 (a6 = true →
 (a0 < (a2 : Int) →
 ∃ cv : Addr, av = some cv ∧
 0 ≤ (a0 : Int) ∧ (a0 : Int) < (a2 : Int) ∧
 ∃ (cf : Bool), ab.cell? (cv.add (Int.toNat a0 * 1)) = some (.bool cf) ∧
 (cf = true →
 ∀ (ay : World) (c9 : Nat), Ext no ab ay → Blk ay c9 23 [.slice none 0 0] → ab.heap.size ≤ c9 → c9 < ay.heap.size →
 ∃ (br : Option Addr) (be : Nat) (bs : Nat) (bd : World), (Builtin.append_ #[25, 25] 25 #[.slice a9 a7 a8, .slice (some (blk c9)) 1 1]).run Try.prog ay = .ok (.slice br be bs) bd ∧
 (-9223372036854775808 : Int) ≤ (a0 + 1) ∧ (a0 + 1) < 9223372036854775808 ∧
 ∃ cp, cp < bc ∧ I0 cp [.slice br be bs, .int .i64 (a0 + 1)] bd) ∧
 (cf = false →
 ∀ (ax : World) (c6 : Nat), Ext no ab ax → Blk ax c6 23 [.slice a5 a4 a3] → ab.heap.size ≤ c6 → c6 < ax.heap.size →
 ∃ (c1 : Option Addr) (bh : Nat) (c0 : Nat) (bk : World), (Builtin.append_ #[25, 25] 25 #[.slice a9 a7 a8, .slice (some (blk c6)) 1 1]).run Try.prog ax = .ok (.slice c1 bh c0) bk ∧
 (-9223372036854775808 : Int) ≤ (a0 + 1) ∧ (a0 + 1) < 9223372036854775808 ∧
 ∃ co, co < bc ∧ I0 co [.slice c1 bh c0, .int .i64 (a0 + 1)] bk)) ∧
 ((a2 : Int) ≤ a0 →
 ∀ (az : World) (c3 : Nat), Ext no ab az → Blk az c3 23 [.slice a5 a4 a3] → ab.heap.size ≤ c3 → c3 < az.heap.size →
 ∃ (bt : Option Addr) (bg : Nat) (c2 : Nat) (bv : World), (Builtin.append_ #[25, 25] 25 #[.slice a9 a7 a8, .slice (some (blk c3)) 1 1]).run Try.prog az = .ok (.slice bt bg c2) bv ∧
 (-9223372036854775808 : Int) ≤ (a0 + 1) ∧ (a0 + 1) < 9223372036854775808 ∧
 ∃ cs, cs < bc ∧ I0 cs [.slice bt bg c2, .int .i64 (a0 + 1)] bv))) ∧
 ((c4 : Int) ≤ a0 →
 Calls Try.prog 16 #[.slice a9 a7 a8, .int .u32 bm] b0 fun cb ci => ∃ (ak : Option Addr) (am : Nat) (ap : Nat) (ae : Int) (ah : Int), cb = .returned (.tuple #[.slice ak am ap, .int .i64 ae, .int .u32 ah]) ∧
 Calls Try.prog 17 #[.slice a9 a7 a8, .int .u32 bm] ci fun cd ce => ∃ (an : Option Addr) (aj : Nat) (al : Nat) (af : Int) (ag : Int), cd = .returned (.tuple #[.slice an aj al, .int .i64 af, .int .u32 ag]) ∧
 Calls Try.prog 11 #[.slice ak am ap, .slice an aj al] ce fun cl b2 => ∃ (aa : Bool), cl = .returned (.bool aa) ∧
 (aa = true →
 (ae = af →
 (ah = ag →
 Calls Try.prog 8 #[] b2 fun cj ch => ∃ (ai : Bool), cj = .returned (.bool ai) ∧
 R (.bool ai) ch) ∧
 (ah ≠ ag →
 R (.bool false) b2)) ∧
 (ae ≠ af →
 R (.bool false) b2)) ∧
 (aa = false →
 R (.bool false) b2)))

theorem cachettelaw10_JournalScans.up (ct : Option Addr) (cr : Nat) (cs : Nat) (aa : Option Addr) (a7 : Nat) (a9 : Nat) (aw : Int) {R : Value → World → Prop} {w : World} (h : cachettelaw10_JournalScans.N ct cr cs aa a7 a9 aw R w) : cachettelaw10_JournalScans.M ct cr cs aa a7 a9 aw R w := by
  unfold cachettelaw10_JournalScans.M
  unfold cachettelaw10_JournalScans.N at h
  refine h.mono fun dj df h => ?_
  obtain ⟨a2, he, h⟩ := h
  refine ⟨a2, he, ?_⟩
  refine bif_of (fun c7 => ?_) (fun c7 => ?_)
  · have h := h.1 (not_t c7)
    refine h.mono fun di cu h => ?_
    obtain ⟨au, he, h⟩ := h
    refine ⟨au, he, ?_⟩
    exact h
  · have h := h.2 (not_f c7)
    obtain ⟨I0, dc, h0, h⟩ := h
    refine ⟨I0, dc, h0, fun da cc cj bq c1 cy hI => ?_⟩
    have h := h da cc cj bq c1 cy hI
    refine bif_of (fun cp => ?_) (fun cp => ?_)
    · have h := h.1 (of_decide_eq_true cp)
      obtain ⟨dh, bw, h⟩ := h
      refine elim_some bw ?_
      obtain ⟨av, ax, h⟩ := h
      refine ⟨av, ax, ?_⟩
      obtain ⟨ao, a4, aq, ay, b1, az, aj, b0, b2, cf, h⟩ := h
      refine ⟨ao, a4, aq, ay, b1, az, aj, b0, b2, cf, ?_⟩
      refine h.mono fun d4 a1 h => ?_
      obtain ⟨ab, a8, a3, ag, he, h⟩ := h
      refine ⟨ab, a8, a3, ag, he, ?_⟩
      refine bif_of (fun c2 => ?_) (fun c2 => ?_)
      · have h := h.1 (not_t c2)
        obtain ⟨c9, bv, bu, a0, hr, h⟩ := h
        refine ⟨c9, bv, bu, a0, hr, ?_⟩
        refine bif_of (fun bt => ?_) (fun bt => ?_)
        · have h := h.1 (of_decide_eq_true bt)
          obtain ⟨dg, b8, h⟩ := h
          refine elim_some b8 ?_
          obtain ⟨av, ax, h⟩ := h
          refine ⟨av, ax, ?_⟩
          obtain ⟨cx, bc, h⟩ := h
          refine ⟨cx, bc, ?_⟩
          refine bif_of (fun b4 => ?_) (fun b4 => ?_)
          · have h := h.1 b4
            refine thenW_in fun b5 bf => ?_
            have h := h b5 a0.heap.size ((Ext.refl no a0).x_alloc bf) (Blk.of_new bf) ((Ext.refl no a0)).size (size_lt_alloc bf)
            obtain ⟨c5, ch, cl, bl, hr, h⟩ := h
            refine ⟨c5, ch, cl, bl, hr, ?_⟩
            obtain ⟨a6, a5, h⟩ := h
            try rw [w64 a6 a5]
            obtain ⟨d9, hk, h⟩ := h
            exact ⟨d9, hk, h⟩
          · have h := h.2 b4
            refine thenW_in fun cd bh => ?_
            have h := h cd a0.heap.size ((Ext.refl no a0).x_alloc bh) (Blk.of_new bh) ((Ext.refl no a0)).size (size_lt_alloc bh)
            obtain ⟨bb, ci, bs, bz, hr, h⟩ := h
            refine ⟨bb, ci, bs, bz, hr, ?_⟩
            obtain ⟨a6, a5, h⟩ := h
            try rw [w64 a6 a5]
            obtain ⟨db, hk, h⟩ := h
            exact ⟨db, hk, h⟩
        · have h := h.2 (Int.not_lt.1 (of_decide_eq_false bt))
          refine thenW_in fun ck b6 => ?_
          have h := h ck a0.heap.size ((Ext.refl no a0).x_alloc b6) (Blk.of_new b6) ((Ext.refl no a0)).size (size_lt_alloc b6)
          obtain ⟨ce, c6, bo, c0, hr, h⟩ := h
          refine ⟨ce, c6, bo, c0, hr, ?_⟩
          obtain ⟨a6, a5, h⟩ := h
          try rw [w64 a6 a5]
          obtain ⟨d1, hk, h⟩ := h
          exact ⟨d1, hk, h⟩
      · have h := h.2 (not_f c2)
        refine bif_of (fun cm => ?_) (fun cm => ?_)
        · have h := h.1 (of_decide_eq_true cm)
          obtain ⟨dk, bp, h⟩ := h
          refine elim_some bp ?_
          obtain ⟨av, ax, h⟩ := h
          refine ⟨av, ax, ?_⟩
          obtain ⟨d3, bj, h⟩ := h
          refine ⟨d3, bj, ?_⟩
          refine bif_of (fun bk => ?_) (fun bk => ?_)
          · have h := h.1 bk
            refine thenW_in fun bi bx => ?_
            have h := h bi a1.heap.size ((Ext.refl no a1).x_alloc bx) (Blk.of_new bx) ((Ext.refl no a1)).size (size_lt_alloc bx)
            obtain ⟨c8, b7, ca, b3, hr, h⟩ := h
            refine ⟨c8, b7, ca, b3, hr, ?_⟩
            obtain ⟨a6, a5, h⟩ := h
            try rw [w64 a6 a5]
            obtain ⟨cz, hk, h⟩ := h
            exact ⟨cz, hk, h⟩
          · have h := h.2 bk
            refine thenW_in fun bg ba => ?_
            have h := h bg a1.heap.size ((Ext.refl no a1).x_alloc ba) (Blk.of_new ba) ((Ext.refl no a1)).size (size_lt_alloc ba)
            obtain ⟨co, be, cn, br, hr, h⟩ := h
            refine ⟨co, be, cn, br, hr, ?_⟩
            obtain ⟨a6, a5, h⟩ := h
            try rw [w64 a6 a5]
            obtain ⟨cv, hk, h⟩ := h
            exact ⟨cv, hk, h⟩
        · have h := h.2 (Int.not_lt.1 (of_decide_eq_false cm))
          refine thenW_in fun c3 c4 => ?_
          have h := h c3 a1.heap.size ((Ext.refl no a1).x_alloc c4) (Blk.of_new c4) ((Ext.refl no a1)).size (size_lt_alloc c4)
          obtain ⟨cb, bd, cq, cg, hr, h⟩ := h
          refine ⟨cb, bd, cq, cg, hr, ?_⟩
          obtain ⟨a6, a5, h⟩ := h
          try rw [w64 a6 a5]
          obtain ⟨d6, hk, h⟩ := h
          exact ⟨d6, hk, h⟩
    · have h := h.2 (Int.not_lt.1 (of_decide_eq_false cp))
      refine h.mono fun cw d7 h => ?_
      obtain ⟨ae, ah, ak, am, ar, he, h⟩ := h
      refine ⟨ae, ah, ak, am, ar, he, ?_⟩
      refine h.mono fun d0 d2 h => ?_
      obtain ⟨ai, ad, af, an, ap, he, h⟩ := h
      refine ⟨ai, ad, af, an, ap, he, ?_⟩
      refine h.mono fun dd de h => ?_
      obtain ⟨al, he, h⟩ := h
      refine ⟨al, he, ?_⟩
      refine bif_of (fun bn => ?_) (fun bn => ?_)
      · have h := h.1 bn
        refine bif_of (fun b9 => ?_) (fun b9 => ?_)
        · have h := h.1 (beq_t b9)
          refine bif_of (fun bm => ?_) (fun bm => ?_)
          · have h := h.1 (beq_t bm)
            refine h.mono fun d8 d5 h => ?_
            obtain ⟨ac, he, h⟩ := h
            refine ⟨ac, he, ?_⟩
            exact h
          · have h := h.2 (beq_f bm)
            exact h
        · have h := h.2 (beq_f b9)
          exact h
      · have h := h.2 bn
        exact h

theorem cachettelaw10_JournalScans.go (a6 : Option Addr) (a4 : Nat) (a5 : Nat) (a0 : Option Addr) (a2 : Nat) (a1 : Nat) (a3 : Int) {R : Value → World → Prop} {w : World} (h : cachettelaw10_JournalScans.N a6 a4 a5 a0 a2 a1 a3 R w) : Calls Try.prog 4 #[.slice a6 a4 a5, .slice a0 a2 a1, .int .u32 a3] w fun e w' => ∃ v, e = .returned v ∧ R v w' := cachettelaw10_JournalScans.ok a6 a4 a5 a0 a2 a1 a3 (cachettelaw10_JournalScans.up a6 a4 a5 a0 a2 a1 a3 h)
theorem cachettelaw10_JournalScans.run (a6 : Option Addr) (a4 : Nat) (a5 : Nat) (a0 : Option Addr) (a2 : Nat) (a1 : Nat) (a3 : Int) {V : Value} {Q : World → Prop} {w : World} (h : cachettelaw10_JournalScans.N a6 a4 a5 a0 a2 a1 a3 (fun v w' => v = V ∧ Q w') w) : Calls Try.prog 4 #[.slice a6 a4 a5, .slice a0 a2 a1, .int .u32 a3] w (Ret V Q) := (cachettelaw10_JournalScans.go a6 a4 a5 a0 a2 a1 a3 h).mono fun e w' ⟨v, he, hv, hq⟩ => ⟨by rw [he, hv], hq⟩

end Go.Proofs.Ytgcjipbahfpopaa

/- Disk: the statements' small functions: Sector, light, what is given, the chapter's example. -/
set_option linter.unusedVariables false
set_option linter.unusedSimpArgs false
set_option maxRecDepth 20000
set_option maxHeartbeats 4000000
namespace Go.Proofs.Ytgcjipbahfpopaa
open Go Go.Mx Go.Proofs
open W (OwnB)
section
variable {K : Nat → Prop} {w w' w1 : World} {o o' o1 : Own} {g g2 m : Nat} {d : DS} {i : Int} {a : Option Addr} {c : Nat}
theorem dmk_bytes (w : World) (n : Nat) (hn : n < 1000000) : ∃ w', (Instr.makeSlice 23 (.int .i64 n) (.int .i64 n)).run Try.prog w = .ok (.slice (some (blk w.heap.size)) n n) w' ∧ Ext no w w' ∧ Blk w' w.heap.size 5 (bytesV (List.replicate n 0)) ∧ w.heap.size < w'.heap.size := by
  obtain ⟨i, hi, hz, hs, hb⟩ := info_of inf5
  have hmk := run_makeSlice (P := Try.prog) (w := w) 23 5 i _ Try.underlying23 hi hz .i64 .i64 n n (by omega) (Int.le_refl _) (by rw [hs]; omega) (by rw [hb]; omega) (by omega)
  rw [hs, Int.toNat_natCast] at hmk
  have hcells : (madeCells (Value.int .u8 0).cells (n * 1)) = (bytesV (List.replicate n 0)).toArray := by
    apply Array.ext'
    rw [show (Value.int .u8 0).cells = #[Value.int .u8 0] from rfl, toList_madeCells_one, Nat.mul_one]
    show _ = bytesV _
    rw [bytesV, List.map_replicate]; rfl
  rw [hcells] at hmk
  exact ⟨_, hmk, (Ext.refl _ _).alloc _, Blk.new _ _ _, by simp⟩
def BoolsQ (W : World) (cs : List Value) : Prop := ∃ (a : Option Addr) (c : Nat) (l : List Bool), cs = [.slice a l.length c] ∧ l.length ≤ c ∧ c ≤ maxLen ∧ RowAt W a (boolsV l)
theorem flat_bools (l : List Bool) : (l.flatMap fun b => [Value.bool b]) = boolsV l := by
  unfold boolsV
  induction l with
  | nil => rfl
  | cons x r ih => rw [List.flatMap_cons, ih]; rfl
theorem opens_bools : Opens Try.prog 33 BoolsQ := (opens_rows (size := 1) (f := fun b => [Value.bool b]) (G := fun _ _ => True) Try.underlying33 (by kernel_rfl) ((opens_bool Try.underlying4).mono fun W cs ⟨b, h⟩ => ⟨b, h, trivial⟩)).mono
  fun W cs ⟨a, c, l, h1, h2, h3, h4, _⟩ => ⟨a, c, l, h1, h2, h3, by rw [← flat_bools]; exact h4⟩
end
end Go.Proofs.Ytgcjipbahfpopaa

/- Disk: the chapter's example; DiskArms. -/
set_option linter.unusedVariables false
set_option linter.unusedSimpArgs false
set_option maxRecDepth 20000
set_option maxHeartbeats 4000000
namespace Go.Proofs.Ytgcjipbahfpopaa
open Go Go.Mx Go.Proofs
open W (OwnB)
section
variable {K : Nat → Prop} {w w' w1 : World} {o o' o1 : Own} {g g2 m : Nat} {d : DS} {i : Int} {a : Option Addr} {c : Nat}
theorem DS.ok.up {n : Nat} (h : d.ok m) (hm : m ≤ n) : d.ok n := ⟨h.n1, h.n2, h.at_, by have := h.pl; omega, by have := h.cl; omega, h.left⟩
theorem newDS_ok {n : Nat} (h1 : 1 ≤ n) (h2 : n ≤ 400) : (newDS n).ok 0 := by
  have hn : (newDS n).good.length = n := by unfold newDS; simp
  exact ⟨by omega, by omega, fun x hx => (by cases hx), Nat.le_refl _, ⟨Int.le_refl _, Int.le_refl _⟩, by show (0 : Int) ≤ 0; decide, by show (0 : Int) < _; decide⟩
theorem syncD_ok (h : d.ok m) : (syncD d).1.ok m := by
  unfold syncD
  split
  · exact h
  · exact settleD_ok h _
theorem writeD_ok (h : d.ok m) (i : Int) (b : List UInt8) : (writeD d i b).1.ok (m + 1) := by
  have hpl := h.pl
  have hcl := h.cl
  have hl := h.left
  have hu := h.up (Nat.le_succ m)
  have key : ∀ (s : Sec), hasD d i = 0 → ∀ x ∈ d.pend ++ [⟨i, s⟩], 0 ≤ x.i ∧ x.i < (d.good.length : Int) := fun s h0 x hx => by
    rcases List.mem_append.1 hx with hx | hx
    · exact h.at_ x hx
    · simp at hx; subst hx; exact (hasD_0 h0).2
  unfold writeD
  split
  · rename_i h0
    split
    · split
      · split
        · exact ⟨h.n1, h.n2, key _ h0, by show (d.pend ++ [_]).length ≤ _; rw [List.length_append]; show d.pend.length + 1 ≤ m + 1; omega, by show 0 ≤ d.count ∧ d.count ≤ ((m + 1 : Nat) : Int); omega, hl⟩
        · exact ⟨h.n1, h.n2, key _ h0, by show (d.pend ++ [_]).length ≤ _; rw [List.length_append]; show d.pend.length + 1 ≤ m + 1; omega, by show 0 ≤ d.count + 1 ∧ d.count + 1 ≤ ((m + 1 : Nat) : Int); omega, by show 0 ≤ d.left - 1 ∧ d.left - 1 < 9223372036854775808; omega⟩
      · exact ⟨h.n1, h.n2, key _ h0, by show (d.pend ++ [_]).length ≤ _; rw [List.length_append]; show d.pend.length + 1 ≤ m + 1; omega, by show 0 ≤ d.count + 1 ∧ d.count + 1 ≤ ((m + 1 : Nat) : Int); omega, hl⟩
    · exact hu
  · exact hu
end
end Go.Proofs.Ytgcjipbahfpopaa

/- Journal: a journal on a disk. -/
set_option linter.unusedVariables false
set_option linter.unusedSimpArgs false
set_option maxRecDepth 20000
set_option maxHeartbeats 2000000
namespace Go.Proofs.Ytgcjipbahfpopaa
open Go Go.Mx Go.Proofs
open W (OwnB GivesW)
def readsD (d : DS) (base size : Nat) : List (List UInt8) := (List.range size).map fun i : Nat => (readD d ((base : Int) + (i : Int))).1
def stretchK (d : DS) (base size : Int) (gen : Nat) : List (List UInt8) × Int :=
  if gen = 0 ∨ base < 0 ∨ size < 1 ∨ base > d.good.length ∨ size > (d.good.length : Int) - base then ([], 1) else if d.down then ([], 19) else (readsD d base.toNat size.toNat, 0)
structure JS where
  base : Int
  size : Int
  gen : Nat
  round : Nat
  tail : Int
  seq : Int
  dead : Bool
def openK (d : DS) (base size : Int) (gen : Nat) : Option JS × List (List UInt8) × Int :=
  if (stretchK d base size gen).2 ≠ 0 then (none, [], (stretchK d base size gen).2)
  else if (scanK (stretchK d base size gen).1 gen).2 = 4294967295 then (none, [], 2)
  else (some ⟨base, size, gen, (scanK (stretchK d base size gen).1 gen).2 + 1, (scanK (stretchK d base size gen).1 gen).1.2, (scanK (stretchK d base size gen).1 gen).1.1.length, false⟩, (scanK (stretchK d base size gen).1 gen).1.1, 0)
def JS.V (J : JS) (g : Nat) : List Value := [.pointer (some (blk g)), .int .i64 J.base, .int .i64 J.size, .int .u32 J.gen, .int .u32 J.round, .int .i64 J.tail, .int .i64 J.seq, .bool J.dead]
structure JG (w : World) (o : Own) (q g : Nat) (J : JS) : Prop where
  mem : Blk w q 82 (J.V g)
  tg : o q = some q
def writesD : DS → Int → List (List UInt8) → DS × Int
  | d, _, [] => (d, 0)
  | d, i, x :: r => if (writeD d i x).2 ≠ 0 then writeD d i x else writesD (writeD d i x).1 (i + 1) r
def appendF (J : JS) (b : List UInt8) : List (List UInt8) := (frameK J.gen J.round J.seq.toNat b).1
def appendJ (d : DS) (J : JS) (b : List UInt8) : (DS × JS) × Int :=
  if partsN b.length = 0 then ((d, J), 3)
  else if J.dead then ((d, J), 19)
  else if (partsN b.length : Int) > J.size - J.tail then ((d, J), 18)
  else if (writesD d (J.base + J.tail) (appendF J b)).2 ≠ 0 then (((writesD d (J.base + J.tail) (appendF J b)).1, { J with dead := true }), (writesD d (J.base + J.tail) (appendF J b)).2)
  else if (syncD (writesD d (J.base + J.tail) (appendF J b)).1).2 ≠ 0 then (((syncD (writesD d (J.base + J.tail) (appendF J b)).1).1, { J with dead := true }), (syncD (writesD d (J.base + J.tail) (appendF J b)).1).2)
  else (((syncD (writesD d (J.base + J.tail) (appendF J b)).1).1, { J with tail := J.tail + partsN b.length, seq := J.seq + 1 }), 0)
structure JS.ok (J : JS) : Prop where
  base : 0 ≤ J.base ∧ J.base ≤ 1000000
  size : 0 ≤ J.size ∧ J.size ≤ 1000000
  gen : J.gen < 4294967296
  round : J.round < 4294967296
  tail : 0 ≤ J.tail ∧ J.tail ≤ 1000000
  seq : 0 ≤ J.seq ∧ J.seq ≤ 1000000
section
variable {w w' w1 : World} {o o' o1 : Own} {q g n N m : Nat} {K : Nat → Prop} {b s : List UInt8} {a : Option Addr} {c : Nat} {l : List BS} {d : DS} {J : JS}
theorem JG.step (h : JG w o q g J) (s : Step K w o w' o') (hk : ¬ K q) : JG w' o' q g J := ⟨s.blk h.mem h.tg hk, by rw [s.own h.mem.lt]; exact h.tg⟩
theorem readsD_len (d : DS) (base size : Nat) : (readsD d base size).length = size := by unfold readsD; simp
theorem stretch_loop (h : DG w o g d) (ok : Tags w o) (hd : d.ok m) (hm : m < 100000) {base size : Int} (hb0 : 0 ≤ base) (hb1 : base ≤ 1000000) (hs0 : 0 ≤ size) (hs1 : size ≤ 100000) {End : Value → World → Prop}
    (hE : ∀ w2 o2 la lc (l : List BS), Step no w o w2 o2 → l.map BS.bs = readsD d base.toNat size.toNat → BsRow w2 o2 la lc l → End (.slice la l.length lc) w2) :
    ∃ (I1 : Nat → List Value → World → Prop) (m71 : Nat), I1 m71 [.slice none 0 0, .int .i64 0] w ∧ ∀ (m72 : Nat) (ww73 : World) (la : Option Addr) (ln : Nat) (lc : Nat) (t : Int), I1 m72 [.slice la ln lc, .int .i64 t] ww73 →
      (t < size →
        (-9223372036854775808 : Int) ≤ (base + t) ∧ (base + t) < 9223372036854775808 ∧
        Calls Try.prog 50 #[.pointer (some (blk g)), .int .i64 (base + t)] ww73 fun ee ww78 => ∃ (ra : Option Addr) (rn : Nat) (rc : Nat) (rk : Int), ee = .returned (.tuple #[.slice ra rn rc, .int .i64 rk]) ∧
        ∀ (ww79 : World) (q80 : Nat), Ext no ww78 ww79 → Blk ww79 q80 23 [.slice ra rn rc] → ww78.heap.size ≤ q80 → q80 < ww79.heap.size →
        ∃ (a81a : Option Addr) (a81n : Nat) (a81c : Nat) (ww82 : World), (Builtin.append_ #[25, 25] 25 #[.slice la ln lc, .slice (some (blk q80)) 1 1]).run Try.prog ww79 = .ok (.slice a81a a81n a81c) ww82 ∧
        (-9223372036854775808 : Int) ≤ (t + 1) ∧ (t + 1) < 9223372036854775808 ∧
        ∃ m83, m83 < m72 ∧ I1 m83 [.slice a81a a81n a81c, .int .i64 (t + 1)] ww82) ∧
      (size ≤ t → End (.slice la ln lc) ww73) := by
  refine ⟨fun m vs w1 => ∃ (t : Nat) (o1 : Own) (la : Option Addr) (lc : Nat) (l : List BS), vs = [.slice la l.length lc, .int .i64 t] ∧ m + t = size.toNat ∧ Step no w o w1 o1 ∧ BsL w.heap.size w1 o1 la lc l ∧ l.map BS.bs = readsD d base.toNat t, size.toNat, ⟨0, o, none, 0, [], rfl, rfl, Step.refl _ ok, BsL.nil _ _ _, rfl⟩, ?_⟩
  rintro k w7 la ln lc i ⟨t, o7, la', lc', l, hi, hk, s7, L7, hmap⟩
  simp only [List.cons.injEq, Value.slice.injEq, Value.int.injEq, true_and, and_true] at hi
  obtain ⟨⟨rfl, rfl, rfl⟩, rfl⟩ := hi
  have hll : l.length = t := by have := congrArg List.length hmap; rwa [List.length_map, readsD_len] at this
  refine ⟨fun ht => ⟨by omega, by omega, ?_⟩, fun ht => ?_⟩
  · refine (dRead_spec (h.step s7 id) s7.ok (base + t) (by have := hd.pl; omega)).mono fun u w11 ⟨ra, rn, rc, o11, he, hn, hnc, s11, hR1, hR0⟩ => ⟨ra, rn, rc, _, he, fun w12 q12 X12 hb hq hq' => ?_⟩
    have X11 : Ext no w7 w11 := s11.ext.mono fun b ⟨_, _, h⟩ _ => h
    have t11 := Step.of_no X11 s7.ok
    have okx : BSok w11 (grow w7 o7) ⟨ra, rc, (readD d (base + t)).1⟩ := by
      by_cases hz : (readD d (base + t)).2 = 0
      · obtain ⟨q, tt, e, hbk, hl, hq, _⟩ := hR0 hz
        subst e
        refine ⟨Row.fresh ?_ fun ad ha => by cases ha; exact hq, by rw [← hn]; exact hnc⟩
        have := (RowAt.of_blk hbk).take (bytesV (readD d (base + t)).1).length
        rwa [List.take_left] at this
      · obtain ⟨e1, e2⟩ := hR1 hz
        rw [e2]
        exact ⟨Row.nil _ _ _, Nat.zero_le _⟩
    have l7 := s7.size
    subst hn
    obtain ⟨a', c', w39, o39, hr, s39, L39⟩ := (L7.step t11 fun _ h => h.elim).push t11.ok (by omega) okx X12 hb hq hq' (by have := X11.size; omega)
    refine ⟨a', _, c', w39, hr, by omega, by omega, k - 1, by omega, t + 1, o39, a', c', _, rfl, by omega, (s7.trans t11).trans' s39 fun i hi => .inr hi, L39, ?_⟩
    rw [List.map_append, hmap]
    unfold readsD
    rw [List.range_succ, List.map_append]
    simp only [List.map_cons, List.map_nil]
    congr 3
    rw [show ((base.toNat : Nat) : Int) = base by omega]
  · have htt : t = size.toNat := by omega
    exact hE w7 _ la lc l (Step.of_no (s7.ext.mono fun b ⟨_, _, h⟩ _ => h) ok) (by rw [← htt]; exact hmap) (L7.give s7 (Nat.le_refl _))
theorem stretch_spec (h : DG w o g d) (ok : Tags w o) (hd : d.ok m) (hm : m < 100000) (base size : Int) (gen : Nat) :
    Calls Try.prog 42 #[.pointer (some (blk g)), .int .i64 base, .int .i64 size, .int .u32 gen] w (fun z w' => ∃ o' la lc, ∃ l : List BS, z = .returned (.tuple #[.slice la l.length lc, .int .i64 (stretchK d base size gen).2]) ∧ Step no w o w' o' ∧ l.map BS.bs = (stretchK d base size gen).1 ∧ BsRow w' o' la lc l) := by
  refine (journal_stretch.go _ _ _ _ (R := fun z w' => ∃ o' la lc, ∃ l : List BS, z = (.tuple #[.slice la l.length lc, .int .i64 (stretchK d base size gen).2]) ∧ Step no w o w' o' ∧ l.map BS.bs = (stretchK d base size gen).1 ∧ BsRow w' o' la lc l) ?_).mono fun z w' ⟨u, he, o', la, lc, l, hu, hw⟩ => ⟨o', la, lc, l, by rw [he, hu], hw⟩
  unfold journal_stretch.N
  refine (Sectors_spec h).mono fun u w7 ⟨he, hw⟩ => ⟨_, he, fun h => (by cases h), fun _ => ?_⟩
  subst hw
  have n2 := hd.n2
  have leaf : ∀ (k : Int), stretchK d base size gen = ([], k) → ∃ o' la lc, ∃ l : List BS, Value.tuple #[.slice none 0 0, .int .i64 k] = (.tuple #[.slice la l.length lc, .int .i64 (stretchK d base size gen).2]) ∧ Step no w7 o w7 o' ∧ l.map BS.bs = (stretchK d base size gen).1 ∧ BsRow w7 o' la lc l := fun k hk => ⟨o, none, 0, [], by rw [hk]; rfl, Step.refl _ ok, by rw [hk]; rfl, BsRow.nil _ _⟩
  have bad : (gen = 0 ∨ base < 0 ∨ size < 1 ∨ base > d.good.length ∨ size > (d.good.length : Int) - base) → _ := fun hb => leaf 1 (by unfold stretchK; rw [if_pos hb])
  refine ⟨fun h1 => bad (by omega), fun h1 => ⟨fun h2 => bad (by omega), fun h2 => ⟨fun h3 => bad (by omega), fun h3 => ⟨fun h4 => bad (by omega), fun h4 => ⟨by omega, by omega, fun h5 => bad (by omega), fun h5 => ?_⟩⟩⟩⟩⟩
  have hgood : ¬ (gen = 0 ∨ base < 0 ∨ size < 1 ∨ base > d.good.length ∨ size > (d.good.length : Int) - base) := by omega
  refine (Down_spec h).mono fun u w67 ⟨he, hw⟩ => ⟨_, he, fun hdn => ?_, fun hdn => ?_⟩
  · subst hw
    exact leaf 19 (by unfold stretchK; rw [if_neg hgood, if_pos hdn])
  subst hw
  have hK : stretchK d base size gen = (readsD d base.toNat size.toNat, 0) := by unfold stretchK; rw [if_neg hgood, if_neg (by rw [hdn]; decide)]
  exact stretch_loop (End := fun v w2 => ∃ o' la lc, ∃ l : List BS, Value.tuple #[v, .int .i64 0] = (.tuple #[.slice la l.length lc, .int .i64 (stretchK d base size gen).2]) ∧ Step no w67 o w2 o' ∧ l.map BS.bs = (stretchK d base size gen).1 ∧ BsRow w2 o' la lc l) h ok hd hm (by omega) (by omega) (by omega) (by omega) fun w2 o2 la lc l s2 hmap hr => ⟨o2, la, lc, l, by rw [hK], s2, by rw [hK]; exact hmap, hr⟩
theorem stretchK_len (d : DS) (base size : Int) (gen : Nat) (h : d.good.length ≤ 400) : (stretchK d base size gen).1.length ≤ 400 := by
  unfold stretchK
  split
  · exact Nat.zero_le _
  · split
    · exact Nat.zero_le _
    · rw [readsD_len]; omega
theorem Open_spec (h : DG w o g d) (ok : Tags w o) (hd : d.ok m) (hm : m < 100000) (base size : Int) (gen : Nat) :
    Calls Try.prog 20 #[.pointer (some (blk g)), .int .i64 base, .int .i64 size, .int .u32 gen] w (fun z w' => ∃ o' jp la lc, ∃ l : List BS, z = .returned (.tuple #[.pointer jp, .slice la l.length lc, .int .i64 (openK d base size gen).2.2]) ∧ Step no w o w' o' ∧ l.map BS.bs = (openK d base size gen).2.1 ∧ BsRow w' o' la lc l ∧
      ((openK d base size gen).1 = none → jp = none) ∧ (∀ J, (openK d base size gen).1 = some J → ∃ q, jp = some (blk q) ∧ w.heap.size ≤ q ∧ JG w' o' q g J)) := by
  refine (journal_Open.go _ _ _ _ (R := fun z w' => ∃ o' jp la lc, ∃ l : List BS, z = (.tuple #[.pointer jp, .slice la l.length lc, .int .i64 (openK d base size gen).2.2]) ∧ Step no w o w' o' ∧ l.map BS.bs = (openK d base size gen).2.1 ∧ BsRow w' o' la lc l ∧
      ((openK d base size gen).1 = none → jp = none) ∧ (∀ J, (openK d base size gen).1 = some J → ∃ q, jp = some (blk q) ∧ w.heap.size ≤ q ∧ JG w' o' q g J)) ?_).mono fun z w' ⟨u, he, o', jp, la, lc, l, hu, hw⟩ => ⟨o', jp, la, lc, l, by rw [he, hu], hw⟩
  unfold journal_Open.N
  have hlen := stretchK_len d base size gen hd.n2
  refine (stretch_spec h ok hd hm base size gen).mono fun u w8 ⟨o8, la, lc, l, he, s8, hmap, hr⟩ => ⟨_, _, _, _, he, fun hne => ?_, fun heq => ?_⟩
  · have hK : openK d base size gen = (none, [], (stretchK d base size gen).2) := by unfold openK; rw [if_pos hne]
    rw [hK]
    exact ⟨o8, none, none, 0, [], rfl, s8, rfl, BsRow.nil _ _, fun _ => rfl, fun J h => by cases h⟩
  · have hll : l.length ≤ 400 := by have := congrArg List.length hmap; rw [List.length_map] at this; omega
    refine (scan_spec s8.ok hr.at (by omega) gen).mono fun u w14 ⟨o14, ra, rc, r, he, s14, hrm, hrr⟩ => ⟨_, _, _, _, _, he, ?_⟩
    rw [hmap] at hrm ⊢
    have hrl := roundOf_lt gen (stretchK d base size gen).1
    have hrr2 : (scanK (stretchK d base size gen).1 gen).2 = roundOf gen (stretchK d base size gen).1 := rfl
    have hwrap : ¬ (scanK (stretchK d base size gen).1 gen).2 = 4294967295 → IntKind.u32.wrap (((scanK (stretchK d base size gen).1 gen).2 : Int) + 1) = (((scanK (stretchK d base size gen).1 gen).2 + 1 : Nat) : Int) := fun hn => by rw [IntKind.wrap_u32]; omega
    have hwrap0 : (scanK (stretchK d base size gen).1 gen).2 = 4294967295 → IntKind.u32.wrap (((scanK (stretchK d base size gen).1 gen).2 : Int) + 1) = 0 := fun hn => by rw [hn]; rfl
    have s814 := s8.trans s14
    refine ⟨fun hz => ?_, fun hz w16 q17 X16 hb hq hq' => ?_⟩
    · by_cases h0 : (scanK (stretchK d base size gen).1 gen).2 = 4294967295
      · have hK : openK d base size gen = (none, [], 2) := by unfold openK; rw [if_neg (not_not_intro heq), if_pos h0]
        rw [hK]
        exact ⟨o14, none, none, 0, [], rfl, s814, rfl, BsRow.nil _ _, fun _ => rfl, fun J h => by cases h⟩
      · rw [hwrap h0] at hz; omega
    · have h0 : ¬ (scanK (stretchK d base size gen).1 gen).2 = 4294967295 := fun h0 => hz (hwrap0 h0)
      rw [hwrap h0] at hb
      have hK : openK d base size gen = (some ⟨base, size, gen, (scanK (stretchK d base size gen).1 gen).2 + 1, (scanK (stretchK d base size gen).1 gen).1.2, (scanK (stretchK d base size gen).1 gen).1.1.length, false⟩, (scanK (stretchK d base size gen).1 gen).1.1, 0) := by unfold openK; rw [if_neg (not_not_intro heq), if_neg h0]
      rw [hK]
      have s16 := (Step.of_no X16 s14.ok).tag hq hq'
      have l8 := s814.size
      have hrlen : r.length = (scanK (stretchK d base size gen).1 gen).1.1.length := by rw [← hrm, List.length_map]
      rw [hrlen] at hb
      refine ⟨_, some (blk q17), ra, rc, r, rfl, s814.trans s16, hrm, hrr.step s16, fun h => (by cases h), fun J hJ => ?_⟩
      cases hJ
      exact ⟨q17, rfl, by omega, hb, tag_self⟩
end
end Go.Proofs.Ytgcjipbahfpopaa

/- Journal: Append, and the small ones; the chapter's example. -/
set_option linter.unusedVariables false
set_option linter.unusedSimpArgs false
set_option maxRecDepth 20000
set_option maxHeartbeats 2000000
namespace Go.Proofs.Ytgcjipbahfpopaa
open Go Go.Mx Go.Proofs
open W (OwnB GivesW)
section
variable {w w' w1 : World} {o o' o1 : Own} {q g n N m : Nat} {K : Nat → Prop} {b s : List UInt8} {a : Option Addr} {c : Nat} {l : List BS} {d : DS} {J : JS}
theorem writesD_ok : ∀ {f : List (List UInt8)} {d : DS} {m : Nat} {i : Int}, d.ok m → (writesD d i f).1.ok (m + f.length)
  | [], d, m, i, h => h
  | x :: r, d, m, i, h => by
    have hw := writeD_ok h i x
    unfold writesD
    split
    · exact hw.up (by rw [List.length_cons]; omega)
    · have := writesD_ok (f := r) (i := i + 1) hw
      rw [List.length_cons]
      exact this.up (by omega)
theorem appendF_len (J : JS) (b : List UInt8) : (appendF J b).length ≤ 84 := by
  unfold appendF frameK
  split
  · exact Nat.zero_le _
  · split
    · exact Nat.zero_le _
    · show (frameL _ _ _ _).length ≤ 84
      unfold frameL
      rw [List.length_map, List.length_range]
      exact partsN_le _
theorem appendJ_ok (h : d.ok m) (J : JS) (b : List UInt8) : (appendJ d J b).1.1.ok (m + 84) := by
  have hu := h.up (Nat.le_add_right m 84)
  have hf := appendF_len J b
  have hw : (writesD d (J.base + J.tail) (appendF J b)).1.ok (m + 84) := (writesD_ok h).up (by omega)
  unfold appendJ
  repeat' split
  all_goals first | exact hu | exact hw | exact syncD_ok hw
theorem kill_spec (h : JG w o q g J) (hd : DG w o g d) (ok : Tags w o) (hqg : q ≠ g) {Φ : World → Prop}
    (hΦ : ∀ w2 o2, Step (fun i => i = q) w o w2 o2 → JG w2 o2 q g { J with dead := true } → DG w2 o2 g d → Φ w2) :
    canStore w (((blk q).add 7).add 0) ∧ thenW (w.setCell (((blk q).add 7).add 0) (.bool true)) fun w2 => Φ w2 := by
  have hadd : ((blk q).add 7).add 0 = (blk q).add 7 := by rw [add_add]
  rw [hadd]
  refine ⟨h.mem.cana (i := 7) rfl, thenW_in fun w2 e2 => ?_⟩
  have X : Ext (fun b => b = q) w w2 := (Ext.refl (fun b => b = q) w).x_set (q := q) (i := 7) rfl (.inl rfl) e2
  obtain ⟨o2, s2⟩ := Step.store1 X ok h.tg
  exact hΦ w2 o2 s2 ⟨h.mem.seti 7 rfl e2, by rw [s2.own h.mem.lt]; exact h.tg⟩ (hd.step s2 (fun e => hqg e.symm))
theorem Append_spec (h : JG w o q g J) (hD : DG w o g d) (ok : Tags w o) (hqg : q ≠ g) (hd : d.ok m) (hm : m + 100 < 100000) (hJ : J.ok) (hb : RowAt w a (bytesV b)) (hc : b.length ≤ c) (hbl : b.length < 1000000) :
    Calls Try.prog 23 #[.pointer (some (blk q)), .slice a b.length c] w (Ret (.int .i64 (appendJ d J b).2) fun w' => ∃ o', Step (fun i => i = q ∨ i = g) w o w' o' ∧ JG w' o' q g (appendJ d J b).1.2 ∧ DG w' o' g (appendJ d J b).1.1) := by
  refine journal_Journal_Append.run _ _ _ _ ?_
  unfold journal_Journal_Append.N
  rw [parts_F, partsI_nat]
  obtain ⟨⟨hb0, hb1⟩, ⟨hs0, hs1⟩, hgen, hrd, ⟨ht0, ht1⟩, ⟨hq0, hq1⟩⟩ := hJ
  have h84 := partsN_le b.length
  have leaf : ∀ (k : Int), appendJ d J b = ((d, J), k) → ∀ w2, Ext no w w2 → Value.int .i64 k = .int .i64 (appendJ d J b).2 ∧ ∃ o', Step (fun i => i = q ∨ i = g) w o w2 o' ∧ JG w2 o' q g (appendJ d J b).1.2 ∧ DG w2 o' g (appendJ d J b).1.1 := fun k hk w2 X => by
    have s := Step.of_no X ok
    rw [hk]; exact ⟨rfl, _, s.none, h.step s id, hD.step s id⟩
  refine ⟨fun e => (by cases e), fun _ => ⟨fun h0 w3 X => leaf 3 (by unfold appendJ; rw [if_pos (by omega)]) w3 X, fun h0 => ?_⟩⟩
  have hp0 : ¬ partsN b.length = 0 := by omega
  refine ⟨_, rfl, J.dead, h.mem.cella (i := 7) rfl, fun hdd w3 X => leaf 19 (by unfold appendJ; rw [if_neg hp0, if_pos hdd]) w3 X, fun hdd => ?_⟩
  have hdd' : ¬ J.dead = true := by rw [hdd]; decide
  refine ⟨_, h.mem.cella (i := 2) rfl, _, h.mem.cella (i := 5) rfl, by omega, by omega, fun hf w10 X => leaf 18 (by unfold appendJ; rw [if_neg hp0, if_neg hdd', if_pos hf]) w10 X, fun hf => ?_⟩
  have hf' : ¬ (partsN b.length : Int) > J.size - J.tail := by omega
  have hK : appendJ d J b = if (writesD d (J.base + J.tail) (appendF J b)).2 ≠ 0 then (((writesD d (J.base + J.tail) (appendF J b)).1, { J with dead := true }), (writesD d (J.base + J.tail) (appendF J b)).2)
      else if (syncD (writesD d (J.base + J.tail) (appendF J b)).1).2 ≠ 0 then (((syncD (writesD d (J.base + J.tail) (appendF J b)).1).1, { J with dead := true }), (syncD (writesD d (J.base + J.tail) (appendF J b)).1).2)
      else (((syncD (writesD d (J.base + J.tail) (appendF J b)).1).1, { J with tail := J.tail + partsN b.length, seq := J.seq + 1 }), 0) := by
    unfold appendJ; rw [if_neg hp0, if_neg hdd', if_neg hf']
  rw [hK]
  refine ⟨_, h.mem.cella (i := 3) rfl, _, h.mem.cella (i := 4) rfl, _, h.mem.cella (i := 6) rfl, fun w16 X16 => ?_⟩
  have s16 := Step.of_no X16 ok
  have hwq : IntKind.u32.wrap J.seq = ((J.seq.toNat : Nat) : Int) := by rw [IntKind.wrap_u32]; omega
  rw [hwq]
  refine (fFrame_spec s16.ok (hb.no X16) hc hbl J.gen J.round J.seq.toNat).mono fun u w26 ⟨o26, fa, fc, f, he, s26', hfm, hfr⟩ => ⟨_, _, _, _, he, ?_⟩
  have s26 := s16.trans s26'
  have hfm' : f.map BS.bs = appendF J b := hfm
  have hfl : f.length = (appendF J b).length := by rw [← hfm', List.length_map]
  have h84f := appendF_len J b
  obtain ⟨W, hW⟩ : ∃ W, writesD d (J.base + J.tail) (appendF J b) = W := ⟨_, rfl⟩
  rw [hW]
  have hWok : W.1.ok (m + 84) := by rw [← hW]; exact (writesD_ok hd).up (by omega)
  refine ⟨fun k vs w1 => ∃ (t : Nat) (o1 : Own) (d1 : DS), vs = [.int .i64 t] ∧ k + t = f.length ∧ Step (fun i => i = g) w o w1 o1 ∧ JG w1 o1 q g J ∧ DG w1 o1 g d1 ∧ BsRow w1 o1 fa fc f ∧ d1.ok (m + t) ∧ writesD d1 (J.base + J.tail + t) ((appendF J b).drop t) = W, f.length, ⟨0, o26, d, rfl, rfl, s26.none, h.step s26 id, hD.step s26 id, hfr, hd, by rw [List.drop_zero, ← hW]; simp⟩, ?_⟩
  rintro k w30 i ⟨t, o30, d1, hi, hk, s30, J30, D30, F30, k30, hWt⟩
  simp only [List.cons.injEq, Value.int.injEq, true_and, and_true] at hi
  subst hi
  have hgq : ¬ q = g := hqg
  refine ⟨fun ht => ?_, fun ht => ?_⟩
  · have htl : t < f.length := by omega
    have gt : f[t]? = some f[t] := List.getElem?_eq_getElem htl
    have hmt := List.getElem_mem htl
    have gF : (appendF J b)[t]? = some (f[t]).bs := by rw [← hfm']; exact get_map_bs gt
    generalize f[t] = x at *
    obtain ⟨fd, hfd, cx⟩ := F30.at.cell gt
    obtain ⟨rx, ex⟩ := F30.oks x hmt
    have hdrop : (appendF J b).drop t = x.bs :: (appendF J b).drop (t + 1) := by
      have h1 : t < (appendF J b).length := by omega
      rw [List.drop_eq_getElem_cons h1]
      rw [List.getElem?_eq_getElem h1] at gF
      injection gF with gF
      rw [gF]
    rw [hdrop] at hWt
    unfold writesD at hWt
    refine ⟨fd, hfd, by omega, by omega, x.a, x.bs.length, x.c, by rw [Int.toNat_natCast]; exact cx, _, J30.mem.cella (i := 0) rfl, _, J30.mem.cella (i := 1) rfl, _, J30.mem.cella (i := 5) rfl, by omega, by omega, by omega, by omega, fun w35 X35 => ?_⟩
    have s35' := Step.of_no X35 s30.ok
    refine (dWrite_spec (D30.step s35' id) s35'.ok k30 (by omega) (J.base + J.tail + t) (rx.step s35').1).mono fun u w44 ⟨he, o44, s44', D44⟩ => ⟨_, he, fun hne => ?_, fun heq => ?_⟩
    all_goals have s44 := s35'.none.trans s44'
    all_goals have J44 := J30.step s44 hgq
    · rw [if_pos hne] at hWt
      have e1 : W.2 = (writeD d1 (J.base + J.tail + t) x.bs).2 := by rw [← hWt]
      have e2 : W.1 = (writeD d1 (J.base + J.tail + t) x.bs).1 := by rw [← hWt]
      rw [if_pos (by rw [e1]; exact hne)]
      refine kill_spec J44 D44 s44.ok hqg fun w2 o2 s2 J2 D2 => ?_
      exact ⟨by rw [e1], o2, ((s30.trans s44).mono fun _ h _ => .inr h).trans (s2.mono fun _ h _ => .inl h), J2, by rw [e2]; exact D2⟩
    · rw [if_neg (not_not_intro heq)] at hWt
      exact ⟨by omega, by omega, k - 1, by omega, t + 1, o44, _, rfl, by omega, s30.trans s44, J44, D44, F30.step s44, writeD_ok k30 _ _, by rw [← hWt]; congr 1; omega⟩
  · have htt : t = f.length := by omega
    rw [List.drop_of_length_le (by omega)] at hWt
    have hW1 : W = (d1, 0) := by rw [← hWt]; rfl
    refine ⟨_, J30.mem.cella (i := 0) rfl, ?_⟩
    refine (dSync_spec D30 s30.ok k30 (by omega)).mono fun u w52 ⟨he, o52, s52, D52⟩ => ⟨_, he, fun hne => ?_, fun heq => ?_⟩
    all_goals have J52 := J30.step s52 hgq
    all_goals have st := s30.trans s52
    all_goals rw [hW1, if_neg (show ¬ ((d1, (0 : Int)).2 ≠ 0) from not_not_intro rfl)]
    · rw [if_pos hne]
      refine kill_spec J52 D52 s52.ok hqg fun w2 o2 s2 J2 D2 => ?_
      exact ⟨rfl, o2, (st.mono fun _ h _ => .inr h).trans (s2.mono fun _ h _ => .inl h), J2, D2⟩
    · rw [if_neg (not_not_intro heq)]
      have ha5 : ((blk q).add 5).add 0 = (blk q).add 5 := by rw [add_add]
      have ha6 : ((blk q).add 6).add 0 = (blk q).add 6 := by rw [add_add]
      rw [ha5]
      refine ⟨_, J52.mem.cella (i := 5) rfl, by omega, by omega, J52.mem.cana (i := 5) rfl, thenW_in fun w57 e57 => ?_⟩
      have b57 := J52.mem.seti 5 rfl e57
      rw [ha6]
      refine ⟨_, b57.cella (i := 6) rfl, by omega, by omega, b57.cana (i := 6) rfl, thenW_in fun w60 e60 => ?_⟩
      have X60 : Ext (fun b => b = q) w52 w60 := ((Ext.refl (fun b => b = q) w52).x_set (q := q) (i := 5) rfl (.inl rfl) e57).x_set (q := q) (i := 6) rfl (.inl rfl) e60
      obtain ⟨o60, s60⟩ := Step.store1 X60 s52.ok J52.tg
      have b60 := b57.seti 6 rfl e60
      exact ⟨rfl, o60, (st.mono fun _ h _ => .inr h).trans (s60.mono fun _ h _ => .inl h), ⟨b60, by rw [s60.own J52.mem.lt]; exact J52.tg⟩, D52.step s60 (fun e => hqg e.symm)⟩
end
end Go.Proofs.Ytgcjipbahfpopaa

/- Journal: the chapter's example. -/
set_option linter.unusedVariables false
set_option linter.unusedSimpArgs false
set_option maxRecDepth 100000
set_option maxHeartbeats 4000000
namespace Go.Proofs.Ytgcjipbahfpopaa
open Go Go.Mx Go.Proofs
open W (OwnB GivesW)
def exJ : JS := ⟨0, 4, 1, 1, 0, 0, false⟩
def exD : DS := (appendJ (newDS 4) exJ [97, 98]).1.1
theorem ex_frame : frameK 1 1 0 [97, 98] = ([secL 1 1 0 0 1 [97, 98]], 0) := by kernel_rfl
theorem ex_open : openK (newDS 4) 0 4 1 = (some exJ, [], 0) := by kernel_rfl
theorem ex_append : (appendJ (newDS 4) exJ [97, 98]).2 = 0 := by kernel_rfl
theorem ex_open2 : (openK exD 0 4 1).2 = ([[97, 98]], 0) := by kernel_rfl
theorem litJ {w w1 : World} (bs : List UInt8) {q : Nat} (X : Ext no w w1) (hb : Blk w1 q 5 (bytesV bs)) (hq : w.heap.size ≤ q) :
    ∃ w2, (convert 23 23 (.slice (some (blk q)) bs.length bs.length)).run Try.prog w1 = .ok (.slice (some (blk q)) bs.length bs.length) w2 ∧ RowAt w2 (some (blk q)) (bytesV bs) ∧ Ext no w w2 :=
  ⟨_, conv_mark Try.underlying23 Try.underlying5 hb, (RowAt.of_blk hb).freeze _ _, X.freeze (.inr hq) _⟩
theorem alive10_spec (w : World) : Calls Try.prog 8 #[] w (Ret (.bool true) fun w' => Ext no w w') := by
  refine cachettelaw10_alive.run ?_
  unfold cachettelaw10_alive.N
  intro w1 q2 X1 hb2 hq2 hq2'
  obtain ⟨w4, hc4, r4, X4⟩ := litJ [97, 98] X1 hb2 hq2
  refine ⟨_, _, _, w4, hc4, ?_⟩
  have ok4 : Tags w4 (fun _ => none) := fun b j _ h => by cases h
  refine (fFrame_spec (c := 2) ok4 r4 (by decide) (by decide) 1 1 0).mono fun u w8 ⟨o8, fa, fc, f, he, s8, hfm, hf⟩ => ⟨_, _, _, _, he, ?_⟩
  rw [ex_frame] at hfm
  refine (dNew_spec (n := 4) s8.ok (by decide) (by decide)).mono fun u w12 ⟨g, o12, he, hg, s12, D12⟩ => ⟨_, _, he, ?_⟩
  have kD := newDS_ok (n := 4) (by decide) (by decide)
  refine (Open_spec D12 s12.ok kD (by decide) 0 4 1).mono fun u w17 ⟨o17, jp, la, lc, l, he, s17, _, _, _, hJ⟩ => ⟨_, _, _, _, _, he, fun w18 q19 X18 hb19 hq19 hq19' => ?_⟩
  obtain ⟨q, rfl, hq, J17⟩ := hJ exJ (by rw [ex_open])
  have hgl := D12.lt
  obtain ⟨w21, hc21, r21, X21⟩ := litJ [97, 98] X18 hb19 hq19
  refine ⟨_, _, _, w21, hc21, ?_⟩
  have s21 := Step.of_no X21 s17.ok
  refine (Append_spec (c := 2) (b := [97, 98]) (J17.step s21 id) ((D12.step s17 id).step s21 id) s21.ok (by omega) kD (by decide) ⟨by decide, by decide, by decide, by decide, by decide, by decide⟩ r21 (by decide) (by decide)).mono fun u w24 ⟨he, o24, s24, J24, D24⟩ => ⟨_, he, ?_⟩
  have kD2 : exD.ok 84 := appendJ_ok kD exJ [97, 98]
  have D24' : DG w24 o24 g exD := D24
  refine (Open_spec D24' s24.ok kD2 (by decide) 0 4 1).mono fun u w29 ⟨o29, jp2, ra, rc, r, he, s29, hrm, hr, _, _⟩ => ⟨_, _, _, _, _, he, ?_⟩
  have hl8 := D12.lt
  have l12 := s12.size
  have l17 := s17.size
  have l18 := X18.size
  have sAll : Step no w8 o8 w29 o29 := ((s12.trans s17).trans s21.none).trans' (s24.trans s29.none) fun i hi => .inr (by omega)
  have fin : Ext no w w29 := (X4.trans (s8.ext.mono fun b ⟨_, _, h⟩ _ => h)).trans (sAll.ext.mono fun b ⟨_, _, h⟩ _ => h)
  have hfl : f.length = 1 := by have := congrArg List.length hfm; simpa using this
  have hrl : r.length = 1 := by have := congrArg List.length hrm; rw [ex_open2] at this; simpa using this
  have hf29 := (hf.step sAll).at
  have g0 : f[0]? = some f[0] := List.getElem?_eq_getElem (by omega)
  have hm0 := List.getElem_mem (show 0 < f.length by omega)
  have hx : (f[0]).bs = secL 1 1 0 0 1 [97, 98] := by
    have := get_map_bs g0
    rw [hfm] at this
    simp at this
    exact this.symm
  generalize f[0] = x at *
  obtain ⟨fd, rfl, c0⟩ := hf29.cell g0
  obtain ⟨rx, ex⟩ := hf29.oks x hm0
  have hxl : x.bs.length = 64 := by rw [hx]; rfl
  have e2 : (appendJ (newDS 4) exJ [97, 98]).2 = 0 := ex_append
  have e3 : (openK exD 0 4 1).2.2 = 0 := by rw [ex_open2]
  have e4 : (openK (newDS 4) 0 4 1).2.2 = 0 := by rw [ex_open]
  refine ⟨fun _ => ⟨fun _ => ?_, fun h => absurd (by rw [hfl]; rfl) h⟩, fun h => absurd (by rw [ex_frame]) h⟩
  refine ⟨fd, rfl, by omega, x.a, x.bs.length, x.c, c0, fun _ => ?_, fun h => absurd (by rw [hxl]; rfl) h⟩
  obtain ⟨xd, hxd, k0⟩ := byte_cell rx (i := 0) (by omega)
  obtain ⟨_, e, k15⟩ := byte_cell rx (i := 15) (by omega)
  rw [hxd] at e; cases e
  obtain ⟨_, e, k17⟩ := byte_cell rx (i := 17) (by omega)
  rw [hxd] at e; cases e
  rw [hx] at k0 k15 k17
  refine ⟨by omega, x.a, x.bs.length, x.c, c0, xd, hxd, by omega, _, k0, fun _ => ?_, fun h => absurd rfl h⟩
  refine ⟨by omega, x.a, x.bs.length, x.c, c0, xd, hxd, by omega, _, k15, fun _ => ?_, fun h => absurd rfl h⟩
  refine ⟨by omega, x.a, x.bs.length, x.c, c0, xd, hxd, by omega, _, k17, fun _ => ⟨fun _ => ⟨fun _ => ⟨fun _ => ⟨fun _ => ?_, fun h => absurd (by rw [hrl]; rfl) h⟩, fun h => absurd e3 h⟩, fun h => absurd e2 h⟩, fun h => absurd e4 h⟩, fun h => absurd rfl h⟩
  have hr29 := hr.at
  have h0 : r[0]? = some r[0] := List.getElem?_eq_getElem (by omega)
  have hmr := List.getElem_mem (show 0 < r.length by omega)
  have hy : (r[0]).bs = [97, 98] := by
    have := get_map_bs h0
    rw [hrm, ex_open2] at this
    simp at this
    exact this.symm
  generalize r[0] = y at *
  obtain ⟨rd, rfl, d0⟩ := hr29.cell h0
  obtain ⟨ry, _⟩ := hr29.oks y hmr
  refine ⟨rd, rfl, by omega, y.a, y.bs.length, y.c, d0, _, conv_str Try.underlying23 Try.underlying5 Try.underlying9 ry, ?_, fin⟩
  rw [hy]; simp
end Go.Proofs.Ytgcjipbahfpopaa

/- JournalFrames, JournalScans. -/
set_option linter.unusedVariables false
set_option linter.unusedSimpArgs false
set_option maxRecDepth 20000
set_option maxHeartbeats 2000000
namespace Go.Proofs.Ytgcjipbahfpopaa
open Go Go.Mx Go.Proofs
open W (OwnB GivesW)
/-- a raw sector that is handed in. -/
structure RW where
  gen : Int
  round : Int
  seq : Int
  a : Option Addr
  c : Nat
  B : List UInt8
  part : Int
  at_ : Int
  by_ : Int
def RW.C (r : RW) : List Value := [.int .u32 r.gen, .int .u32 r.round, .int .u32 r.seq, .slice r.a r.B.length r.c, .int .i64 r.part, .int .i64 r.at_, .int .u8 r.by_]
theorem RW.len (r : RW) : r.C.length = 7 := rfl
structure RW.good (W : World) (r : RW) : Prop where
  gen : 0 ≤ r.gen ∧ r.gen < 4294967296
  round : 0 ≤ r.round ∧ r.round < 4294967296
  seq : 0 ≤ r.seq ∧ r.seq < 4294967296
  la : r.B.length ≤ r.c
  ra : RowAt W r.a (bytesV r.B)
theorem wf_u32 {n : Int} (h : (Lit.int .u32 n).wf = true) : 0 ≤ n ∧ n < 4294967296 := by
  simp [Lit.wf, IntKind.min, IntKind.max, IntKind.signed, IntKind.bits] at h; omega
theorem opens_raw : Opens Try.prog 38 fun W cs => ∃ p : RW, cs = p.C ∧ p.good W :=
  (opens_seq (qs := [(1, _), (1, _), (1, _), (1, _), (1, _), (1, _), (1, _)]) (size := 7) Try.underlying38 (by kernel_rfl)
    ⟨⟨rfl, by kernel_rfl, opens_int Try.underlying22⟩, ⟨rfl, by kernel_rfl, opens_int Try.underlying22⟩, ⟨rfl, by kernel_rfl, opens_int Try.underlying22⟩,
     ⟨rfl, by kernel_rfl, opens_bytes Try.underlying23 (by kernel_rfl) Try.underlying5⟩, ⟨rfl, by kernel_rfl, opens_int Try.underlying3⟩, ⟨rfl, by kernel_rfl, opens_int Try.underlying3⟩, ⟨rfl, by kernel_rfl, opens_int Try.underlying5⟩, rfl⟩).mono
    fun W cs ⟨_, _, e0, _, ⟨gen, q0, f0⟩, _, _, e1, _, ⟨round, q1, f1⟩, _, _, e2, _, ⟨seq, q2, f2⟩, _, _, e3, _, ⟨aa, ac, A, q3, la, _, ra⟩, _, _, e4, _, ⟨part, q4, _⟩, _, _, e5, _, ⟨at_, q5, _⟩, _, _, e6, _, ⟨by_, q6, _⟩, q7⟩ => by
      subst q0; subst q1; subst q2; subst q3; subst q4; subst q5; subst q6; subst q7; subst e6; subst e5; subst e4; subst e3; subst e2; subst e1; subst e0
      exact ⟨⟨gen, round, seq, aa, ac, A, part, at_, by_⟩, rfl, wf_u32 f0, wf_u32 f1, wf_u32 f2, la, ra⟩
def RWsQ (W : World) (cs : List Value) : Prop := ∃ (a : Option Addr) (c : Nat) (l : List RW), cs = [.slice a l.length c] ∧ l.length ≤ c ∧ c ≤ maxLen ∧ RowAt W a (l.flatMap RW.C) ∧ ∀ x ∈ l, x.good W
theorem opens_raws : Opens Try.prog 32 RWsQ := opens_rows (size := 7) Try.underlying32 (by kernel_rfl) opens_raw
section
variable {w w' w1 : World} {o o' o1 : Own} {q g n N : Nat} {K : Nat → Prop} {b s : List UInt8} {a : Option Addr} {c : Nat} {l : List BS}
/-- a store into bytes of one's own. -/
theorem ownB_set (h : OwnB N w a c b) {i : Nat} (hi : i < b.length) (v : UInt8) :
    ∃ ad, a = some ad ∧ canStore w (ad.add i) ∧ N ≤ ad.block ∧ ∀ w', w' = w.setCell (ad.add i) (u8V v) → OwnB N w' a c (b.set i v) ∧ Ext (fun x => x = ad.block) w w' := by
  have hl := h.own.1
  rcases h.own.2 with ⟨hv, h0⟩ | ⟨g, cap, cur, hv, hb0, hgb, hnc, hcm, hcs, htk⟩
  · rw [h0] at hi; omega
  cases hv
  have hfr := h.fr ⟨g, 0, none⟩ rfl
  have hblk : Blk w g 5 cur.toList := by unfold Blk; simpa using hgb
  have hjc : i < cur.toList.length := by
    have := congrArg List.length htk
    rw [List.length_take, bytesV_length] at this
    omega
  have hadd : (⟨g, 0, none⟩ : Addr).add i = ⟨g, i, none⟩ := by simp [Addr.add_lit]
  refine ⟨_, rfl, by rw [hadd]; exact hblk.can (v := cur.toList[i]) (List.getElem?_eq_getElem hjc), hfr.1, fun w' hw' => ?_⟩
  have X : Ext (fun x => x = g) w w' := by subst hw'; rw [hadd]; exact (Ext.refl (fun x => x = g) w).setCell (a := ⟨g, i, none⟩) (.inl rfl) (u8V v)
  have hb2 : Blk w' g 5 (cur.toList.set i (u8V v)) := by subst hw'; rw [hadd]; exact hblk.set i (u8V v)
  have hbl : bytesV (b.set i v) = (bytesV b).set i (u8V v) := by unfold bytesV; rw [List.map_set]
  refine ⟨⟨?_, fun ad ha => ?_⟩, X⟩
  · rw [List.length_set]
    refine ⟨by rw [bytesV_length, List.length_set]; rw [bytesV_length] at hl; exact hl, .inr ⟨g, c, _, rfl, hb0, hb2, hnc, hcm, by simpa using hcs, ?_⟩⟩
    show (cur.toList.set i (u8V v)).take (b.length * 1) = _
    rw [List.take_set, htk, hbl]
  · cases ha; exact ⟨hfr.1, Nat.lt_of_lt_of_le hfr.2 X.size⟩
theorem raw_spec (ok : Tags w o) {r : RW} {W0 : World} (hg : r.good W0) (hr : RowAt w r.a (bytesV r.B)) (hl : r.B.length < 1000000) :
    Calls Try.prog 15 #[.agg #[.int .u32 r.gen, .int .u32 r.round, .int .u32 r.seq, .slice r.a r.B.length r.c, .int .i64 r.part, .int .i64 r.at_, .int .u8 r.by_]] w (fun z w' => ∃ o', ∃ x : BS, ∃ t : Bool, z = .returned (.tuple #[x.v, .bool t]) ∧ Step no w o w' o' ∧ BSok w' o' x) := by
  refine (cachettelaw10_Bytes.go r.gen r.round r.seq r.a r.B.length r.c r.part r.at_ r.by_ (R := fun z w' => ∃ o', ∃ x : BS, ∃ t : Bool, z = (.tuple #[x.v, .bool t]) ∧ Step no w o w' o' ∧ BSok w' o' x) ?_).mono fun z w' ⟨u, he, o', x, t, hu, hw⟩ => ⟨o', x, t, by rw [he, hu], hw⟩
  unfold cachettelaw10_Bytes.N
  obtain ⟨⟨g0, g1⟩, ⟨r0, r1⟩, ⟨s0, s1⟩, hla, _⟩ := hg
  obtain ⟨gen, hgen⟩ := Int.eq_ofNat_of_zero_le g0
  obtain ⟨round, hround⟩ := Int.eq_ofNat_of_zero_le r0
  obtain ⟨seq, hseq⟩ := Int.eq_ofNat_of_zero_le s0
  rw [hgen, hround, hseq]
  intro w8 p9 X8 hp9
  obtain ⟨s8, M8⟩ := Step.priv X8 hp9 ok
  refine (rFrame_spec s8.ok (hr.no X8) hla hl (gen := gen) (round := round) (seq := seq) (by omega) (by omega) (by omega)).mono fun u w13 ⟨o13, fa, fc, f, he, s13', hfm, hf, hown⟩ => ⟨_, _, _, _, he, M8.keep s13' (fun _ _ => id), ?_⟩
  have s13 := s8.trans s13'
  have none_ : ∃ o', ∃ x : BS, ∃ t : Bool, (Value.tuple #[.slice none 0 0, .bool false]) = (.tuple #[x.v, .bool t]) ∧ Step no w o w13 o' ∧ BSok w13 o' x := ⟨o13, ⟨none, 0, []⟩, false, rfl, s13, Row.nil _ _ _, Nat.le_refl _⟩
  refine ⟨fun _ => none_, fun _ => ⟨fun _ => none_, fun hp0 => ⟨fun _ => none_, fun hp1 => ?_⟩⟩⟩
  have hi : r.part.toNat < f.length := by omega
  have gt : f[r.part.toNat]? = some f[r.part.toNat] := List.getElem?_eq_getElem hi
  have hmt := List.getElem_mem hi
  generalize f[r.part.toNat] = x at *
  obtain ⟨fd, rfl, cx⟩ := hf.at.cell gt
  have okx := hf.oks x hmt
  have ox := hown x hmt
  have done : ∃ o', ∃ y : BS, ∃ t : Bool, (Value.tuple #[.slice x.a x.bs.length x.c, .bool true]) = (.tuple #[y.v, .bool t]) ∧ Step no w o w13 o' ∧ BSok w13 o' y := ⟨o13, x, true, rfl, s13, okx⟩
  refine ⟨fd, rfl, by omega, by omega, x.a, x.bs.length, x.c, cx, fun ha0 => ⟨fun ha1 => ?_, fun _ => done⟩, fun _ => done⟩
  have hil : r.at_.toNat < x.bs.length := by omega
  obtain ⟨xd, hxd, cb⟩ := byte_cell okx.1.1 hil
  refine ⟨xd, hxd, by omega, by omega, _, cb, by omega, by omega, fun w22 X22 => ?_⟩
  have ox22 := W.OwnB.no ox X22
  obtain ⟨xd', hxd', hcan, hN, hset⟩ := ownB_set ox22 hil (UInt8.ofNat ((BitVec.ofInt (IntKind.bits .u8) (byteN x.bs r.at_.toNat : Int) ^^^ BitVec.ofInt (IntKind.bits .u8) r.by_).toNat))
  rw [hxd] at hxd'; cases hxd'
  have hadd : (xd.add (Int.toNat r.at_ * 1)).add 0 = xd.add r.at_.toNat := by rw [add_add, Nat.mul_one, Nat.add_zero]
  rw [hadd]
  refine ⟨hcan, thenW_in fun w26 e26 => ?_⟩
  have hv : Value.int .u8 (IntKind.u8.wrap (((BitVec.ofInt (IntKind.bits .u8) (byteN x.bs r.at_.toNat : Int) ^^^ BitVec.ofInt (IntKind.bits .u8) r.by_).toNat : Nat) : Int)) = u8V _ := wrapU8i (Int.natCast_nonneg _)
  rw [hv] at e26
  obtain ⟨o26, X26⟩ := hset w26 e26
  have X13 : Ext no w w13 := s13.ext.mono fun b ⟨_, _, h⟩ _ => h
  have X : Ext no w w26 := (X13.trans X22).then X26 fun b hb => .inr (by have := X8.size; subst hb; omega)
  refine ⟨_, ⟨x.a, x.c, _⟩, true, ?_, Step.of_no X ok, ⟨Row.fresh o26.row fun ad ha => ?_, o26.le⟩⟩
  · unfold BS.v; simp only [List.length_set]
  · have := (o26.fr ad ha).1
    have := X8.size
    omega
def light10 (l : List RW) : Bool := decide (l.length ≤ 40) && l.all fun r => decide (r.B.length ≤ 500)
theorem lightRaw_spec {la : Option Addr} {lc : Nat} {l : List RW} (hl : RowAt w la (l.flatMap RW.C)) : Calls Try.prog 14 #[.slice la l.length lc] w (Ret (.bool (light10 l)) fun w' => w' = w) := by
  refine cachettelaw10_lightRaw.run _ _ _ ?_
  unfold cachettelaw10_lightRaw.N
  refine ⟨fun h => ⟨by unfold light10; rw [decide_eq_false (by omega)]; rfl, rfl⟩, fun h => ?_⟩
  have h40 : decide (l.length ≤ 40) = true := decide_eq_true (by omega)
  refine ⟨fun m vs w1 => ∃ t : Nat, vs = [.int .i64 t] ∧ m + t = l.length ∧ w1 = w ∧ ∀ i x, i < t → l[i]? = some x → x.B.length ≤ 500, l.length, ⟨0, rfl, rfl, rfl, fun i x h => absurd h (by omega)⟩, ?_⟩
  rintro m w6 i ⟨t, hi, hm, rfl, hs⟩
  simp only [List.cons.injEq, Value.int.injEq, true_and, and_true] at hi
  subst hi
  refine ⟨fun ht => ?_, fun ht => ?_⟩
  · have htl : t < l.length := by omega
    have gt : l[t]? = some l[t] := List.getElem?_eq_getElem htl
    have hmt := List.getElem_mem htl
    obtain ⟨ad, rfl⟩ := hl.faddr RW.len (by decide) htl
    generalize l[t] = x at *
    refine ⟨ad, rfl, by omega, by omega, x.a, x.B.length, x.c, by rw [Int.toNat_natCast]; exact hl.fcell RW.len gt 3 rfl, fun hb => ⟨?_, rfl⟩, fun hb => ⟨by omega, by omega, m - 1, by omega, t + 1, rfl, by omega, rfl, fun i y hi hy => ?_⟩⟩
    · unfold light10
      rw [h40, Bool.true_and]
      congr 1
      exact (List.all_eq_false.2 ⟨x, hmt, by simp; omega⟩).symm
    · by_cases hit : i = t
      · subst hit; rw [gt] at hy; cases hy; omega
      · exact hs i y (by omega) hy
  · refine ⟨?_, rfl⟩
    unfold light10
    rw [h40, Bool.true_and]
    congr 1
    refine (List.all_eq_true.2 fun x hx => ?_).symm
    obtain ⟨i, hi⟩ := List.getElem?_of_mem hx
    exact decide_eq_true (hs i x (by have := (List.getElem?_eq_some_iff.1 hi).1; omega) hi)
theorem light10_of {l : List RW} (h : light10 l = true) : l.length ≤ 40 ∧ ∀ r ∈ l, r.B.length ≤ 500 := by
  unfold light10 at h
  simp only [Bool.and_eq_true, decide_eq_true_eq, List.all_eq_true] at h
  exact h
end
theorem JournalScans_spec (W : World) {la ga : Option Addr} {lc gc : Nat} {l : List RW} {gone : List Bool} {gen : Nat} (hl : RowAt W la (l.flatMap RW.C)) (hgd : ∀ r ∈ l, r.good W) (hgo : RowAt W ga (boolsV gone)) (hg : gen < 4294967296) :
    Calls Try.prog 4 #[.slice la l.length lc, .slice ga gone.length gc, .int .u32 gen] W (Ret (.bool true) fun w' => Ext no W w') := by
  refine cachettelaw10_JournalScans.run _ _ _ _ _ _ _ ?_
  unfold cachettelaw10_JournalScans.N
  have hal : ∀ w1, Ext no W w1 → Calls Try.prog 8 #[] w1 fun ee w2 => ∃ b : Bool, ee = .returned (.bool b) ∧ Value.bool b = Value.bool true ∧ Ext no W w2 := fun w1 X =>
    (alive10_spec w1).mono fun v w2 ⟨hx, X2⟩ => ⟨_, hx, rfl, X.trans X2⟩
  refine (lightRaw_spec hl).mono fun u w6 ⟨he, hw⟩ => ⟨_, he, fun _ => by subst hw; exact hal _ (Ext.refl _ _), fun hL => ?_⟩
  have hw' := hw.symm
  subst hw'
  obtain ⟨hL1, hL2⟩ := light10_of hL
  have ok0 : Tags W (fun _ => none) := fun b j _ h => by cases h
  refine ⟨fun m vs w1 => ∃ (t : Nat) (o1 : Own) (sa : Option Addr) (sc : Nat) (s : List BS), vs = [.slice sa s.length sc, .int .i64 t] ∧ m + t = l.length ∧ Step no W (fun _ => none) w1 o1 ∧ BsL W.heap.size w1 o1 sa sc s ∧ s.length = t, l.length, ⟨0, _, none, 0, [], rfl, rfl, Step.refl _ ok0, BsL.nil _ _ _, rfl⟩, ?_⟩
  rintro m w15 sa sn sc i ⟨t, o15, sa', sc', s, hi, hm, s15, S15, hst⟩
  simp only [List.cons.injEq, Value.slice.injEq, Value.int.injEq, true_and, and_true] at hi
  obtain ⟨⟨rfl, rfl, rfl⟩, rfl⟩ := hi
  have X15 : Ext no W w15 := s15.ext.mono fun b ⟨_, _, h⟩ _ => h
  refine ⟨fun ht => ?_, fun ht => ?_⟩
  · have htl : t < l.length := by omega
    have gt : l[t]? = some l[t] := List.getElem?_eq_getElem htl
    have hmt := List.getElem_mem htl
    have hl15 := hl.no X15
    obtain ⟨ad, rfl⟩ := hl.faddr RW.len (by decide) htl
    have hgx := hgd _ hmt
    have hBx := hL2 _ hmt
    generalize l[t] = x at *
    refine ⟨ad, rfl, by omega, by omega, x.gen, x.round, x.seq, x.a, x.B.length, x.c, x.part, x.at_, x.by_, by rw [Int.toNat_natCast]; exact hl15.floads RW.len gt, ?_⟩
    have l15 := s15.size
    -- one more
    have push : ∀ {w2 : World} {o2 : Own} (y : BS), Step no w15 o15 w2 o2 → BSok w2 o2 y → ∀ (w3 : World) (q : Nat), Ext no w2 w3 → Blk w3 q 23 [.slice y.a y.bs.length y.c] → w2.heap.size ≤ q → q < w3.heap.size →
        ∃ (a' : Option Addr) (n' c' : Nat) (w4 : World), (Builtin.append_ #[25, 25] 25 #[.slice sa s.length sc, .slice (some (blk q)) 1 1]).run Try.prog w3 = .ok (.slice a' n' c') w4 ∧
          (-9223372036854775808 : Int) ≤ ((t : Int) + 1) ∧ ((t : Int) + 1) < 9223372036854775808 ∧ ∃ m', m' < m ∧ ∃ (t' : Nat) (o1 : Own) (sa : Option Addr) (sc : Nat) (s : List BS), [Value.slice a' n' c', Value.int .i64 ((t : Int) + 1)] = [.slice sa s.length sc, .int .i64 t'] ∧ m' + t' = l.length ∧ Step no W (fun _ => none) w4 o1 ∧ BsL W.heap.size w4 o1 sa sc s ∧ s.length = t' := fun {w2 o2} y st hy w3 q X3 hb hq hq' => by
      obtain ⟨a', c', w4, o4, hr, s4, L4⟩ := (S15.step st fun _ h => h.elim).push st.ok (by omega) hy X3 hb hq hq' (by have := st.size; omega)
      exact ⟨a', _, c', w4, hr, by omega, by omega, m - 1, by omega, t + 1, o4, a', c', _, rfl, by omega, (s15.trans st).trans' s4 fun i hi => .inr hi, L4, by rw [List.length_append, hst]; rfl⟩
    have nilOk : ∀ (w2 : World) (o2 : Own), BSok w2 o2 ⟨none, 0, []⟩ := fun w2 o2 => ⟨Row.nil _ _ _, Nat.le_refl _⟩
    have gcell : ∀ {w2 : World}, Ext no w15 w2 → t < gone.length → ∃ gd, ga = some gd ∧ ∃ v : Bool, w2.cell? (gd.add (Int.toNat (t : Int) * 1)) = some (.bool v) := fun X2 htg => by
      obtain ⟨gd, h1, h2⟩ := hgo t (.bool gone[t]) (by unfold boolsV; rw [List.getElem?_map, List.getElem?_eq_getElem htg]; rfl)
      exact ⟨gd, h1, _, by rw [Int.toNat_natCast, Nat.mul_one]; exact (X15.trans X2).cell h2 id⟩
    refine (raw_spec s15.ok hgx (hgx.ra.no X15) (by omega)).mono fun u w29 ⟨o29, y, is, he, s29, oky⟩ => ⟨_, _, _, _, he, fun _ => ?_, fun _ => ?_⟩
    · obtain ⟨w32, hmk, X32, hb32, hlt32⟩ := dmk_bytes w29 64 (by decide)
      have t32 := Step.of_no X32 s29.ok
      have s32 := s29.trans t32
      have okm : BSok w32 (grow w29 o29) ⟨some (blk w29.heap.size), 64, List.replicate 64 0⟩ := ⟨Row.fresh (RowAt.of_blk hb32) fun ad ha => by cases ha; exact Nat.le_refl _, Nat.le_refl _⟩
      refine ⟨_, _, _, w32, hmk, fun htg => ?_, fun _ w3 q X3 hb hq hq' => push _ s32 okm w3 q X3 hb hq hq'⟩
      obtain ⟨gd, rfl, v, cv⟩ := gcell (s32.ext.mono fun b ⟨_, _, h⟩ _ => h) (by omega)
      exact ⟨gd, rfl, by omega, by omega, v, cv, fun _ w3 q X3 hb hq hq' => push _ s32 (nilOk _ _) w3 q X3 hb hq hq', fun _ w3 q X3 hb hq hq' => push _ s32 okm w3 q X3 hb hq hq'⟩
    · refine ⟨fun htg => ?_, fun _ w3 q X3 hb hq hq' => push y s29 oky w3 q X3 hb hq hq'⟩
      obtain ⟨gd, rfl, v, cv⟩ := gcell (s29.ext.mono fun b ⟨_, _, h⟩ _ => h) (by omega)
      exact ⟨gd, rfl, by omega, by omega, v, cv, fun _ w3 q X3 hb hq hq' => push _ s29 (nilOk _ _) w3 q X3 hb hq hq', fun _ w3 q X3 hb hq hq' => push y s29 oky w3 q X3 hb hq hq'⟩
  · have R15 := S15.give s15 (Nat.le_refl _)
    have g15 := Step.of_no X15 ok0
    refine (scan_spec g15.ok R15.at (by omega) gen).mono fun u w77 ⟨o77, ra, rc, r, he, s77, hrm, hr⟩ => ⟨_, _, _, _, _, he, ?_⟩
    refine (rScan_spec s77.ok (R15.step s77).at (by omega) hg).mono fun u w82 ⟨o82, ra2, rc2, r2, he, s82, hrm2, hr2⟩ => ⟨_, _, _, _, _, he, ?_⟩
    have hsg := scanG_le gen ((s.map BS.bs).length + 1) (s.map BS.bs) 0
    have hrl : r.length < 1000000 := by
      have := congrArg List.length hrm
      rw [List.length_map] at this
      rw [this]
      show (scanG gen ((s.map BS.bs).length + 1) (s.map BS.bs) 0).1.length < _
      have h9 : (s.map BS.bs).length = s.length := List.length_map _
      omega
    refine (lists_spec (ac := rc) (bc := rc2) (hr.step s82).row.1 hr2.row.1 (fun x hx => ⟨((hr.step s82).oks x hx).1.1, ?_⟩) (fun x hx => (hr2.oks x hx).1.1) hrl).mono fun u w85 ⟨he, X85⟩ => ⟨_, he, fun _ => ⟨fun _ => ⟨fun _ => hal _ ?_, fun h => absurd rfl h⟩, fun h => absurd rfl h⟩, fun h => absurd (by rw [hrm, hrm2]) (of_decide_eq_false h)⟩
    · have hm : x.bs ∈ (scanK (s.map BS.bs) gen).1.1 := by rw [← hrm]; exact List.mem_map_of_mem hx
      have : ∀ (k : Nat) (L : List (List UInt8)) (q : Nat) (y : List UInt8), y ∈ (scanG gen k L q).1 → y.length ≤ 4000 := by
        intro k
        induction k with
        | zero => intro L q y hy; cases hy
        | succ k ih =>
          intro L q y hy
          unfold scanG at hy
          split at hy
          · cases hy
          · rename_i hne
            rcases List.mem_cons.1 hy with rfl | hy
            · by_cases hK : OKS L gen q
              · rw [standK_yes hK]; exact (frameK_zero hK.2.2.2.2).1
              · rw [standK_no hK] at hne; exact absurd rfl hne
            · exact ih _ _ _ hy
      have := this _ _ _ _ hm
      omega
    · exact ((X15.trans (s77.ext.mono fun b ⟨_, _, h⟩ _ => h)).trans (s82.ext.mono fun b ⟨_, _, h⟩ _ => h)).trans X85
theorem JournalScans_walk (W : World) (a0 : Option Addr) (len0 cap0 : Nat) (a1 : Option Addr) (len1 cap1 : Nat) (n2 : Int) (o0 : RWsQ W [.slice a0 len0 cap0]) (o1 : BoolsQ W [.slice a1 len1 cap1]) (w2 : (Lit.int .u32 n2).wf = true) :
    Calls Try.prog 4 #[.slice a0 len0 cap0, .slice a1 len1 cap1, .int .u32 n2] W (Ret (.bool true) fun w' => Ext no W w') := by
  obtain ⟨_, c0, l, e0, l0, _, r0, f0⟩ := o0
  obtain ⟨_, c1, g, e1, l1, _, r1⟩ := o1
  cases e0; cases e1
  have f2 := wf_u32 w2
  obtain ⟨gen, rfl⟩ := Int.eq_ofNat_of_zero_le f2.1
  exact JournalScans_spec W r0 f0 r1 (by omega)
end Go.Proofs.Ytgcjipbahfpopaa
