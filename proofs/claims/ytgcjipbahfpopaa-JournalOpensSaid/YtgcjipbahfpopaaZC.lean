/- Disk: predicates. -/
import Derived.Test.YtgcjipbahfpopaaZA
import Derived.Test.YtgcjipbahfpopaaZB
set_option linter.unusedVariables false
set_option linter.unusedSimpArgs false
set_option maxRecDepth 20000
set_option maxHeartbeats 2000000
namespace Go.Proofs.Ytgcjipbahfpopaa
open Go Go.Mx Go.Proofs
/-- disk.New -/
def disk_New.M (n1 : Int) (R : Value → World → Prop) (w : World) : Prop :=
 bif decide (n1 < 1) then (
 R (.tuple #[.pointer none, .int .i64 1]) w) else (
 bif decide (n1 > 400) then (
 R (.tuple #[.pointer none, .int .i64 1]) w) else (
 ∃ (a2 : Option Addr) (a1 : Nat) (a3 : Nat) (a0 : World), (Instr.makeSlice 75 (.int .i64 n1) (.int .i64 n1)).run Try.prog w = .ok (.slice a2 a1 a3) a0 ∧
 thenW (a0.alloc (.cells #[.slice a2 a1 a3, .slice none 0 0, .int .i64 0, .bool false, .int .i64 0, .int .i64 0] 79)) fun a4 =>
 R (.tuple #[.pointer (some (blk a0.heap.size)), .int .i64 0]) a4))

theorem disk_New.eq (n1 : Int) (R : Value → World → Prop) (w : World) : mfunc Try.prog [] 19 [.int .i64 n1] R w = disk_New.M n1 R w := by kernel_rfl
theorem disk_New.ok (n1 : Int) {R : Value → World → Prop} {w : World} (h : disk_New.M n1 R w) : Calls Try.prog 19 #[.int .i64 n1] w fun e w' => ∃ v, e = .returned v ∧ R v w' :=
  mfunc_ok follows (H := []) (args := [.int .i64 n1]) (by rw [disk_New.eq]; exact h)

def disk_New.N (n1 : Int) (R : Value → World → Prop) (w : World) : Prop :=
 (n1 < 1 →
 R (.tuple #[.pointer none, .int .i64 1]) w) ∧
 ((1 : Int) ≤ n1 →
 (n1 > 400 →
 R (.tuple #[.pointer none, .int .i64 1]) w) ∧
 (n1 ≤ 400 →
 ∃ (a3 : Option Addr) (a2 : Nat) (a4 : Nat) (a1 : World), (Instr.makeSlice 75 (.int .i64 n1) (.int .i64 n1)).run Try.prog w = .ok (.slice a3 a2 a4) a1 ∧
 ∀ (a0 : World) (q7 : Nat), Ext no a1 a0 → Blk a0 q7 79 [.slice a3 a2 a4, .slice none 0 0, .int .i64 0, .bool false, .int .i64 0, .int .i64 0] → a1.heap.size ≤ q7 → q7 < a0.heap.size →
 R (.tuple #[.pointer (some (blk q7)), .int .i64 0]) a0))

theorem disk_New.up (n1 : Int) {R : Value → World → Prop} {w : World} (h : disk_New.N n1 R w) : disk_New.M n1 R w := by
  unfold disk_New.M
  unfold disk_New.N at h
  refine bif_of (fun c2 => ?_) (fun c2 => ?_)
  · have h := h.1 (of_decide_eq_true c2)
    exact h
  · have h := h.2 (Int.not_lt.1 (of_decide_eq_false c2))
    refine bif_of (fun c3 => ?_) (fun c3 => ?_)
    · have h := h.1 (of_decide_eq_true c3)
      exact h
    · have h := h.2 (Int.not_lt.1 (of_decide_eq_false c3))
      obtain ⟨a2, a1, a4, a0, hr, h⟩ := h
      refine ⟨a2, a1, a4, a0, hr, ?_⟩
      refine thenW_in fun a3 e6 => ?_
      have h := h a3 a0.heap.size ((Ext.refl no a0).x_alloc e6) (Blk.of_new e6) ((Ext.refl no a0)).size (size_lt_alloc e6)
      exact h

theorem disk_New.go (n1 : Int) {R : Value → World → Prop} {w : World} (h : disk_New.N n1 R w) : Calls Try.prog 19 #[.int .i64 n1] w fun e w' => ∃ v, e = .returned v ∧ R v w' := disk_New.ok n1 (disk_New.up n1 h)
/-- (*disk.Disk).Sectors -/
def disk_Disk_Sectors.M (d1 : Option Addr) (R : Value → World → Prop) (w : World) : Prop :=
 bif Option.isNone d1 then (
 R (.int .i64 0) w) else (
 d1.elim False fun a2 =>
 ∃ (a3 : Option Addr) (a0 : Nat) (a1 : Nat), w.cell? (a2.add 0) = some (.slice a3 a0 a1) ∧
 R (.int .i64 (a0 : Int)) w)

theorem disk_Disk_Sectors.eq (d1 : Option Addr) (R : Value → World → Prop) (w : World) : mfunc Try.prog [] 53 [.pointer d1] R w = disk_Disk_Sectors.M d1 R w := by kernel_rfl
theorem disk_Disk_Sectors.ok (d1 : Option Addr) {R : Value → World → Prop} {w : World} (h : disk_Disk_Sectors.M d1 R w) : Calls Try.prog 53 #[.pointer d1] w fun e w' => ∃ v, e = .returned v ∧ R v w' :=
  mfunc_ok follows (H := []) (args := [.pointer d1]) (by rw [disk_Disk_Sectors.eq]; exact h)

def disk_Disk_Sectors.N (d1 : Option Addr) (R : Value → World → Prop) (w : World) : Prop :=
 (d1 = none →
 R (.int .i64 0) w) ∧
 (d1 ≠ none →
 ∃ a3 : Addr, d1 = some a3 ∧
 ∃ (a2 : Option Addr) (a0 : Nat) (a1 : Nat), w.cell? (a3.add 0) = some (.slice a2 a0 a1) ∧
 R (.int .i64 (a0 : Int)) w)

theorem disk_Disk_Sectors.up (d1 : Option Addr) {R : Value → World → Prop} {w : World} (h : disk_Disk_Sectors.N d1 R w) : disk_Disk_Sectors.M d1 R w := by
  unfold disk_Disk_Sectors.M
  unfold disk_Disk_Sectors.N at h
  refine bif_of (fun c2 => ?_) (fun c2 => ?_)
  · have h := h.1 (isNone_t c2)
    exact h
  · have h := h.2 (isNone_f c2)
    obtain ⟨a3, a5, h⟩ := h
    refine elim_some a5 ?_
    obtain ⟨a2, a0, a1, a4, h⟩ := h
    refine ⟨a2, a0, a1, a4, ?_⟩
    exact h

theorem disk_Disk_Sectors.go (d1 : Option Addr) {R : Value → World → Prop} {w : World} (h : disk_Disk_Sectors.N d1 R w) : Calls Try.prog 53 #[.pointer d1] w fun e w' => ∃ v, e = .returned v ∧ R v w' := disk_Disk_Sectors.ok d1 (disk_Disk_Sectors.up d1 h)
theorem disk_Disk_Sectors.run (d1 : Option Addr) {V : Value} {Q : World → Prop} {w : World} (h : disk_Disk_Sectors.N d1 (fun v w' => v = V ∧ Q w') w) : Calls Try.prog 53 #[.pointer d1] w (Ret V Q) := (disk_Disk_Sectors.go d1 h).mono fun e w' ⟨v, he, hv, hq⟩ => ⟨by rw [he, hv], hq⟩

/-- (*disk.Disk).is -/
def disk_Disk_is.M (d1 : Option Addr) (R : Value → World → Prop) (w : World) : Prop :=
 bif Option.isNone d1 then (
 R (.int .i64 23) w) else (
 d1.elim False fun a2 =>
 ∃ (a0 : Int), w.cell? (a2.add 4) = some (.int .i64 a0) ∧
 bif a0 == 1 then (
 R (.int .i64 19) w) else (
 R (.int .i64 0) w))

theorem disk_Disk_is.eq (d1 : Option Addr) (R : Value → World → Prop) (w : World) : mfunc Try.prog [] 43 [.pointer d1] R w = disk_Disk_is.M d1 R w := by kernel_rfl
theorem disk_Disk_is.ok (d1 : Option Addr) {R : Value → World → Prop} {w : World} (h : disk_Disk_is.M d1 R w) : Calls Try.prog 43 #[.pointer d1] w fun e w' => ∃ v, e = .returned v ∧ R v w' :=
  mfunc_ok follows (H := []) (args := [.pointer d1]) (by rw [disk_Disk_is.eq]; exact h)

def disk_Disk_is.N (d1 : Option Addr) (R : Value → World → Prop) (w : World) : Prop :=
 (d1 = none →
 R (.int .i64 23) w) ∧
 (d1 ≠ none →
 ∃ a3 : Addr, d1 = some a3 ∧
 ∃ (a0 : Int), w.cell? (a3.add 4) = some (.int .i64 a0) ∧
 (a0 = 1 →
 R (.int .i64 19) w) ∧
 (a0 ≠ 1 →
 R (.int .i64 0) w))

theorem disk_Disk_is.up (d1 : Option Addr) {R : Value → World → Prop} {w : World} (h : disk_Disk_is.N d1 R w) : disk_Disk_is.M d1 R w := by
  unfold disk_Disk_is.M
  unfold disk_Disk_is.N at h
  refine bif_of (fun c2 => ?_) (fun c2 => ?_)
  · have h := h.1 (isNone_t c2)
    exact h
  · have h := h.2 (isNone_f c2)
    obtain ⟨a3, a2, h⟩ := h
    refine elim_some a2 ?_
    obtain ⟨a0, a1, h⟩ := h
    refine ⟨a0, a1, ?_⟩
    refine bif_of (fun c6 => ?_) (fun c6 => ?_)
    · have h := h.1 (beq_t c6)
      exact h
    · have h := h.2 (beq_f c6)
      exact h

theorem disk_Disk_is.go (d1 : Option Addr) {R : Value → World → Prop} {w : World} (h : disk_Disk_is.N d1 R w) : Calls Try.prog 43 #[.pointer d1] w fun e w' => ∃ v, e = .returned v ∧ R v w' := disk_Disk_is.ok d1 (disk_Disk_is.up d1 h)
theorem disk_Disk_is.run (d1 : Option Addr) {V : Value} {Q : World → Prop} {w : World} (h : disk_Disk_is.N d1 (fun v w' => v = V ∧ Q w') w) : Calls Try.prog 43 #[.pointer d1] w (Ret V Q) := (disk_Disk_is.go d1 h).mono fun e w' ⟨v, he, hv, hq⟩ => ⟨by rw [he, hv], hq⟩

/-- (*disk.Disk).has -/
def disk_Disk_has.M (d1 : Option Addr) (i2 : Int) (R : Value → World → Prop) (w : World) : Prop :=
 Calls Try.prog 43 #[.pointer d1] w fun a5 a4 => ∃ (a2 : Int), a5 = .returned (.int .i64 a2) ∧
 bif a2 != 0 then (
 R (.int .i64 a2) a4) else (
 bif decide (i2 < 0) then (
 R (.int .i64 2) a4) else (
 d1.elim False fun a6 =>
 ∃ (a1 : Option Addr) (a0 : Nat) (a3 : Nat), a4.cell? (a6.add 0) = some (.slice a1 a0 a3) ∧
 bif decide (i2 ≥ (a0 : Int)) then (
 R (.int .i64 2) a4) else (
 R (.int .i64 0) a4)))

theorem disk_Disk_has.eq (d1 : Option Addr) (i2 : Int) (R : Value → World → Prop) (w : World) : mfunc Try.prog [] 46 [.pointer d1, .int .i64 i2] R w = disk_Disk_has.M d1 i2 R w := by kernel_rfl
theorem disk_Disk_has.ok (d1 : Option Addr) (i2 : Int) {R : Value → World → Prop} {w : World} (h : disk_Disk_has.M d1 i2 R w) : Calls Try.prog 46 #[.pointer d1, .int .i64 i2] w fun e w' => ∃ v, e = .returned v ∧ R v w' :=
  mfunc_ok follows (H := []) (args := [.pointer d1, .int .i64 i2]) (by rw [disk_Disk_has.eq]; exact h)

def disk_Disk_has.N (d1 : Option Addr) (i2 : Int) (R : Value → World → Prop) (w : World) : Prop :=
 Calls Try.prog 43 #[.pointer d1] w fun a5 a4 => ∃ (a3 : Int), a5 = .returned (.int .i64 a3) ∧
 (a3 ≠ 0 →
 R (.int .i64 a3) a4) ∧
 (a3 = 0 →
 (i2 < 0 →
 R (.int .i64 2) a4) ∧
 ((0 : Int) ≤ i2 →
 ∃ a8 : Addr, d1 = some a8 ∧
 ∃ (a2 : Option Addr) (a0 : Nat) (a1 : Nat), a4.cell? (a8.add 0) = some (.slice a2 a0 a1) ∧
 (i2 ≥ (a0 : Int) →
 R (.int .i64 2) a4) ∧
 (i2 < (a0 : Int) →
 R (.int .i64 0) a4)))

theorem disk_Disk_has.up (d1 : Option Addr) (i2 : Int) {R : Value → World → Prop} {w : World} (h : disk_Disk_has.N d1 i2 R w) : disk_Disk_has.M d1 i2 R w := by
  unfold disk_Disk_has.M
  unfold disk_Disk_has.N at h
  refine h.mono fun a9 a7 h => ?_
  obtain ⟨a4, he, h⟩ := h
  refine ⟨a4, he, ?_⟩
  refine bif_of (fun c6 => ?_) (fun c6 => ?_)
  · have h := h.1 (bne_t c6)
    exact h
  · have h := h.2 (bne_f c6)
    refine bif_of (fun c7 => ?_) (fun c7 => ?_)
    · have h := h.1 (of_decide_eq_true c7)
      exact h
    · have h := h.2 (Int.not_lt.1 (of_decide_eq_false c7))
      obtain ⟨a8, a6, h⟩ := h
      refine elim_some a6 ?_
      obtain ⟨a1, a2, a0, a5, h⟩ := h
      refine ⟨a1, a2, a0, a5, ?_⟩
      refine bif_of (fun a3 => ?_) (fun a3 => ?_)
      · have h := h.1 (of_decide_eq_true a3)
        exact h
      · have h := h.2 (Int.not_le.1 (of_decide_eq_false a3))
        exact h

theorem disk_Disk_has.go (d1 : Option Addr) (i2 : Int) {R : Value → World → Prop} {w : World} (h : disk_Disk_has.N d1 i2 R w) : Calls Try.prog 46 #[.pointer d1, .int .i64 i2] w fun e w' => ∃ v, e = .returned v ∧ R v w' := disk_Disk_has.ok d1 i2 (disk_Disk_has.up d1 i2 h)
theorem disk_Disk_has.run (d1 : Option Addr) (i2 : Int) {V : Value} {Q : World → Prop} {w : World} (h : disk_Disk_has.N d1 i2 (fun v w' => v = V ∧ Q w') w) : Calls Try.prog 46 #[.pointer d1, .int .i64 i2] w (Ret V Q) := (disk_Disk_has.go d1 i2 h).mono fun e w' ⟨v, he, hv, hq⟩ => ⟨by rw [he, hv], hq⟩

/-- (*disk.Disk).Read -/
def disk_Disk_Read.M (d1 : Option Addr) (i2 : Int) (R : Value → World → Prop) (w : World) : Prop :=
 Calls Try.prog 46 #[.pointer d1, .int .i64 i2] w fun aq aa => ∃ (ac : Int), aq = .returned (.int .i64 ac) ∧
 bif ac != 0 then (
 R (.tuple #[.slice none 0 0, .int .i64 ac]) aa) else (
 d1.elim False fun a6 =>
 ∃ (a3 : Option Addr) (a4 : Nat) (ad : Nat), aa.cell? (a6.add 0) = some (.slice a3 a4 ad) ∧
 a3.elim False fun a8 =>
 0 ≤ (i2 : Int) ∧ (i2 : Int) < (a4 : Int) ∧
 ∃ x9 : Array Value, szB Try.prog 88 x9.size = true ∧ cellsAt aa (a8.add (Int.toNat i2 * 65)) x9.toList 0 ∧
 thenW (aa.alloc (.cells (List.toArray (List.replicate 64 (.int .u8 0) ++ [.bool false])) 88)) fun ah =>
 bif szB Try.prog 88 x9.size then storesK (blk aa.heap.size) x9.toList 0 ah fun ae =>
 d1.elim False fun ar =>
 ∃ (a2 : Option Addr) (a0 : Nat) (a7 : Nat), ae.cell? (ar.add 1) = some (.slice a2 a0 a7) ∧
 ∃ (I0 : Nat → List Value → World → Prop) (ap : Nat), I0 ap [.int .i64 0] ae ∧ ∀ (ai : Nat) (a1 : World) (ab : Int), I0 ai [.int .i64 ab] a1 →
 bif decide (ab < (a0 : Int)) then (
 a2.elim False fun ao =>
 0 ≤ (ab : Int) ∧ (ab : Int) < (a0 : Int) ∧
 ∃ ag : Array Value, szB Try.prog 90 ag.size = true ∧ cellsAt a1 (ao.add (Int.toNat ab * 66)) ag.toList 0 ∧
 thenW (a1.alloc (.cells (List.toArray ([.int .i64 0] ++ List.replicate 64 (.int .u8 0) ++ [.bool false])) 90)) fun aj =>
 bif szB Try.prog 90 ag.size then storesK (blk a1.heap.size) ag.toList 0 aj fun a9 =>
 ∃ (am : Int), a9.cell? ((blk a1.heap.size).add 0) = some (.int .i64 am) ∧
 bif am == i2 then (
 ∃ af : Array Value, szB Try.prog 88 af.size = true ∧ cellsAt a9 ((blk a1.heap.size).add 1) af.toList 0 ∧
 bif szB Try.prog 88 af.size then storesK (blk aa.heap.size) af.toList 0 a9 fun ak =>
 ∃ an, an < ai ∧ I0 an [.int .i64 (IntKind.i64.wrap (ab + 1))] ak
 else False) else (
 ∃ al, al < ai ∧ I0 al [.int .i64 (IntKind.i64.wrap (ab + 1))] a9)
 else False) else (
 ∃ (a5 : Bool), a1.cell? ((blk aa.heap.size).add 64) = some (.bool a5) ∧
 bif a5 then (
 R (.tuple #[.slice none 0 0, .int .i64 5]) a1) else (
 R (.tuple #[.slice (some (if 64 = 0 then ((blk aa.heap.size).add 0) else ((blk aa.heap.size).add 0).add (0 * 1))) (64 - 0) (64 - 0), .int .i64 0]) a1))
 else False)

theorem disk_Disk_Read.eq (d1 : Option Addr) (i2 : Int) (R : Value → World → Prop) (w : World) : mfunc Try.prog [(0, [1, 7, 26, 27], [(28, (.one (.int .i64)))])] 50 [.pointer d1, .int .i64 i2] R w = disk_Disk_Read.M d1 i2 R w := by kernel_rfl
theorem disk_Disk_Read.ok (d1 : Option Addr) (i2 : Int) {R : Value → World → Prop} {w : World} (h : disk_Disk_Read.M d1 i2 R w) : Calls Try.prog 50 #[.pointer d1, .int .i64 i2] w fun e w' => ∃ v, e = .returned v ∧ R v w' :=
  mfunc_ok follows (H := [(0, [1, 7, 26, 27], [(28, (.one (.int .i64)))])]) (args := [.pointer d1, .int .i64 i2]) (by rw [disk_Disk_Read.eq]; exact h)

def disk_Disk_Read.N (d1 : Option Addr) (i2 : Int) (R : Value → World → Prop) (w : World) : Prop :=
 Calls Try.prog 46 #[.pointer d1, .int .i64 i2] w fun av ah => ∃ (ac : Int), av = .returned (.int .i64 ac) ∧
 (ac ≠ 0 →
 R (.tuple #[.slice none 0 0, .int .i64 ac]) ah) ∧
 (ac = 0 →
 ∃ a7 : Addr, d1 = some a7 ∧
 ∃ (a5 : Option Addr) (a6 : Nat) (ae : Nat), ah.cell? (a7.add 0) = some (.slice a5 a6 ae) ∧
 ∃ ap : Addr, a5 = some ap ∧
 0 ≤ (i2 : Int) ∧ (i2 : Int) < (a6 : Int) ∧
 ∃ ai : Array Value, szB Try.prog 88 ai.size = true ∧ cellsAt ah (ap.add (Int.toNat i2 * 65)) ai.toList 0 ∧
 ∀ (ab : World) (ad : Nat), Ext no ah ab → Blk ab ad 88 (List.replicate 64 (.int .u8 0) ++ [.bool false]) → ah.heap.size ≤ ad → ad < ab.heap.size →
 szB Try.prog 88 ai.size = true ∧
 storesK (blk ad) ai.toList 0 ab fun ag =>
 ∃ (a3 : Option Addr) (a0 : Nat) (a9 : Nat), ag.cell? (a7.add 1) = some (.slice a3 a0 a9) ∧
 ∃ (I0 : Nat → List Value → World → Prop) (au : Nat), I0 au [.int .i64 0] ag ∧ ∀ (am : Nat) (a1 : World) (a4 : Int), I0 am [.int .i64 a4] a1 →
 (a4 < (a0 : Int) →
 ∃ ar : Addr, a3 = some ar ∧
 0 ≤ (a4 : Int) ∧ (a4 : Int) < (a0 : Int) ∧
 ∃ ak : Array Value, szB Try.prog 90 ak.size = true ∧ cellsAt a1 (ar.add (Int.toNat a4 * 66)) ak.toList 0 ∧
 ∀ (aa : World) (af : Nat), Ext no a1 aa → Blk aa af 90 ([.int .i64 0] ++ List.replicate 64 (.int .u8 0) ++ [.bool false]) → a1.heap.size ≤ af → af < aa.heap.size →
 szB Try.prog 90 ak.size = true ∧
 storesK (blk af) ak.toList 0 aa fun a8 =>
 ∃ (an : Int), a8.cell? ((blk af).add 0) = some (.int .i64 an) ∧
 (an = i2 →
 ∃ aj : Array Value, szB Try.prog 88 aj.size = true ∧ cellsAt a8 ((blk af).add 1) aj.toList 0 ∧
 szB Try.prog 88 aj.size = true ∧
 storesK (blk ad) aj.toList 0 a8 fun al =>
 (-9223372036854775808 : Int) ≤ (a4 + 1) ∧ (a4 + 1) < 9223372036854775808 ∧
 ∃ ao, ao < am ∧ I0 ao [.int .i64 (a4 + 1)] al) ∧
 (an ≠ i2 →
 (-9223372036854775808 : Int) ≤ (a4 + 1) ∧ (a4 + 1) < 9223372036854775808 ∧
 ∃ aq, aq < am ∧ I0 aq [.int .i64 (a4 + 1)] a8)) ∧
 ((a0 : Int) ≤ a4 →
 ∃ (a2 : Bool), a1.cell? ((blk ad).add 64) = some (.bool a2) ∧
 (a2 = true →
 R (.tuple #[.slice none 0 0, .int .i64 5]) a1) ∧
 (a2 = false →
 R (.tuple #[.slice (some (if 64 = 0 then ((blk ad).add 0) else ((blk ad).add 0).add (0 * 1))) (64 - 0) (64 - 0), .int .i64 0]) a1)))

theorem disk_Disk_Read.up (d1 : Option Addr) (i2 : Int) {R : Value → World → Prop} {w : World} (h : disk_Disk_Read.N d1 i2 R w) : disk_Disk_Read.M d1 i2 R w := by
  unfold disk_Disk_Read.M
  unfold disk_Disk_Read.N at h
  refine h.mono fun be ap h => ?_
  obtain ⟨ao, he, h⟩ := h
  refine ⟨ao, he, ?_⟩
  refine bif_of (fun c6 => ?_) (fun c6 => ?_)
  · have h := h.1 (bne_t c6)
    exact h
  · have h := h.2 (bne_f c6)
    obtain ⟨a7, aw, h⟩ := h
    refine elim_some aw ?_
    obtain ⟨a4, a8, a5, b0, h⟩ := h
    refine ⟨a4, a8, a5, b0, ?_⟩
    obtain ⟨bc, aj, h⟩ := h
    refine elim_some aj ?_
    obtain ⟨aq, af, h⟩ := h
    refine ⟨aq, af, ?_⟩
    obtain ⟨az, hz, ad, h⟩ := h
    refine ⟨az, hz, ad, ?_⟩
    refine thenW_in fun ah aa => ?_
    have h := h ah ap.heap.size ((Ext.refl no ap).x_alloc aa) (Blk.of_new aa) ((Ext.refl no ap)).size (size_lt_alloc aa)
    obtain ⟨hsz, h⟩ := h
    refine bif_tt hsz ?_
    refine storesK_ext h fun b4 bb h => ?_
    refine elim_some aw ?_
    obtain ⟨a3, a2, a1, am, h⟩ := h
    refine ⟨a3, a2, a1, am, ?_⟩
    obtain ⟨I0, b3, h0, h⟩ := h
    refine ⟨I0, b3, h0, fun b2 a0 b8 hI => ?_⟩
    have h := h b2 a0 b8 hI
    refine bif_of (fun al => ?_) (fun al => ?_)
    · have h := h.1 (of_decide_eq_true al)
      obtain ⟨bd, ac, h⟩ := h
      refine elim_some ac ?_
      obtain ⟨aq, af, h⟩ := h
      refine ⟨aq, af, ?_⟩
      obtain ⟨b9, hz, ar, h⟩ := h
      refine ⟨b9, hz, ar, ?_⟩
      refine thenW_in fun ag a9 => ?_
      have h := h ag a0.heap.size ((Ext.refl no a0).x_alloc a9) (Blk.of_new a9) ((Ext.refl no a0)).size (size_lt_alloc a9)
      obtain ⟨hsz, h⟩ := h
      refine bif_tt hsz ?_
      refine storesK_ext h fun ay ba h => ?_
      obtain ⟨b6, ae, h⟩ := h
      refine ⟨b6, ae, ?_⟩
      refine bif_of (fun av => ?_) (fun av => ?_)
      · have h := h.1 (beq_t av)
        obtain ⟨b1, hz, au, h⟩ := h
        refine ⟨b1, hz, au, ?_⟩
        obtain ⟨hsz, h⟩ := h
        refine bif_tt hsz ?_
        refine storesK_ext h fun ax bf h => ?_
        obtain ⟨ai, an, h⟩ := h
        try rw [w64 ai an]
        obtain ⟨b5, hk, h⟩ := h
        exact ⟨b5, hk, h⟩
      · have h := h.2 (beq_f av)
        obtain ⟨ai, an, h⟩ := h
        try rw [w64 ai an]
        obtain ⟨b7, hk, h⟩ := h
        exact ⟨b7, hk, h⟩
    · have h := h.2 (Int.not_lt.1 (of_decide_eq_false al))
      obtain ⟨a6, ak, h⟩ := h
      refine ⟨a6, ak, ?_⟩
      refine bif_of (fun ab => ?_) (fun ab => ?_)
      · have h := h.1 ab
        exact h
      · have h := h.2 ab
        exact h

theorem disk_Disk_Read.go (d1 : Option Addr) (i2 : Int) {R : Value → World → Prop} {w : World} (h : disk_Disk_Read.N d1 i2 R w) : Calls Try.prog 50 #[.pointer d1, .int .i64 i2] w fun e w' => ∃ v, e = .returned v ∧ R v w' := disk_Disk_Read.ok d1 i2 (disk_Disk_Read.up d1 i2 h)
/-- (*disk.Disk).settle -/
def disk_Disk_settle.M (d1 : Option Addr) (a0 : Nat) (a7 : Array Value) (aa : Array Value) (R : Value → World → Prop) (w : World) : Prop :=
 d1.elim False fun a3 =>
 ∃ (a8 : Option Addr) (a1 : Nat) (ag : Nat), w.cell? (a3.add 1) = some (.slice a8 a1 ag) ∧
 ∃ (I0 : Nat → List Value → World → Prop) (m6 : Nat), I0 m6 [.int .i64 0] w ∧ ∀ (m7 : Nat) (ab : World) (t5 : Int), I0 m7 [.int .i64 t5] ab →
 bif decide (t5 < (a1 : Int)) then (
 a8.elim False fun a9 =>
 0 ≤ (t5 : Int) ∧ (t5 : Int) < (a1 : Int) ∧
 ∃ am : Array Value, szB Try.prog 90 am.size = true ∧ cellsAt ab (a9.add (Int.toNat t5 * 66)) am.toList 0 ∧
 thenW (ab.alloc (.cells (List.toArray ([.int .i64 0] ++ List.replicate 64 (.int .u8 0) ++ [.bool false])) 90)) fun ar =>
 bif szB Try.prog 90 am.size then storesK (blk ab.heap.size) am.toList 0 ar fun ak =>
 bif enters Try.prog a0 then Calls Try.prog a0 (a7.toList ++ ([.int .i64 t5] : List Value) ++ aa.toList).toArray ak (fun av aj => ∃ (ai : Bool), av = .returned (.bool ai) ∧
 bif ai then (
 thenW (aj.drew) fun af =>
 d1.elim False fun b3 =>
 ∃ (a4 : Option Addr) (a2 : Nat) (ac : Nat), af.cell? (b3.add 0) = some (.slice a4 a2 ac) ∧
 ∃ (al : Int), af.cell? ((blk ab.heap.size).add 0) = some (.int .i64 al) ∧
 ∃ ao : Array Value, szB Try.prog 88 ao.size = true ∧ cellsAt af ((blk ab.heap.size).add 1) ao.toList 0 ∧
 a4.elim False fun b2 =>
 0 ≤ (al : Int) ∧ (al : Int) < (a2 : Int) ∧
 bif szB Try.prog 88 ao.size then storesK (b2.add (Int.toNat al * 65)) ao.toList 0 af fun aq =>
 ∃ ax, ax < m7 ∧ I0 ax [.int .i64 (IntKind.i64.wrap (t5 + 1))] aq
 else False) else (
 ∃ b0, b0 < m7 ∧ I0 b0 [.int .i64 (IntKind.i64.wrap (t5 + 1))] aj)) else (∃ (ai : Bool) (ah : World), (externCall a0 (a7.toList ++ ([.int .i64 t5] : List Value) ++ aa.toList).toArray).run Try.prog ak = .ok (.bool ai) ah ∧
 bif ai then (
 thenW (ah.drew) fun ae =>
 d1.elim False fun b4 =>
 ∃ (a5 : Option Addr) (a6 : Nat) (ad : Nat), ae.cell? (b4.add 0) = some (.slice a5 a6 ad) ∧
 ∃ (an : Int), ae.cell? ((blk ab.heap.size).add 0) = some (.int .i64 an) ∧
 ∃ ap : Array Value, szB Try.prog 88 ap.size = true ∧ cellsAt ae ((blk ab.heap.size).add 1) ap.toList 0 ∧
 a5.elim False fun b5 =>
 0 ≤ (an : Int) ∧ (an : Int) < (a6 : Int) ∧
 bif szB Try.prog 88 ap.size then storesK (b5.add (Int.toNat an * 65)) ap.toList 0 ae fun au =>
 ∃ ay, ay < m7 ∧ I0 ay [.int .i64 (IntKind.i64.wrap (t5 + 1))] au
 else False) else (
 ∃ b1, b1 < m7 ∧ I0 b1 [.int .i64 (IntKind.i64.wrap (t5 + 1))] ah))
 else False) else (
 d1.elim False fun az =>
 canStore ab ((az.add 1).add 0) ∧
 thenW (ab.setCell ((az.add 1).add 0) (.slice none 0 0)) fun aw =>
 R (.tuple #[]) aw)

theorem disk_Disk_settle.eq (d1 : Option Addr) (keep2k : Nat) (keep2f : Array Value) (keep2g : Array Value) (R : Value → World → Prop) (w : World) : mfunc Try.prog [(0, [0, 1, 9, 10], [(11, (.one (.int .i64)))])] 45 [.pointer d1, .func (.func keep2k) keep2f keep2g] R w = disk_Disk_settle.M d1 keep2k keep2f keep2g R w := by kernel_rfl
theorem disk_Disk_settle.ok (d1 : Option Addr) (a2 : Nat) (a1 : Array Value) (a0 : Array Value) {R : Value → World → Prop} {w : World} (h : disk_Disk_settle.M d1 a2 a1 a0 R w) : Calls Try.prog 45 #[.pointer d1, .func (.func a2) a1 a0] w fun e w' => ∃ v, e = .returned v ∧ R v w' :=
  mfunc_ok follows (H := [(0, [0, 1, 9, 10], [(11, (.one (.int .i64)))])]) (args := [.pointer d1, .func (.func a2) a1 a0]) (by rw [disk_Disk_settle.eq]; exact h)

def disk_Disk_settle.N (d1 : Option Addr) (a5 : Nat) (aa : Array Value) (ab : Array Value) (R : Value → World → Prop) (w : World) : Prop :=
 ∃ a3 : Addr, d1 = some a3 ∧
 ∃ (a6 : Option Addr) (a0 : Nat) (a9 : Nat), w.cell? (a3.add 1) = some (.slice a6 a0 a9) ∧
 ∃ (I0 : Nat → List Value → World → Prop) (m7 : Nat), I0 m7 [.int .i64 0] w ∧ ∀ (m8 : Nat) (ad : World) (t6 : Int), I0 m8 [.int .i64 t6] ad →
 (t6 < (a0 : Int) →
 ∃ ao : Addr, a6 = some ao ∧
 0 ≤ (t6 : Int) ∧ (t6 : Int) < (a0 : Int) ∧
 ∃ ag : Array Value, szB Try.prog 90 ag.size = true ∧ cellsAt ad (ao.add (Int.toNat t6 * 66)) ag.toList 0 ∧
 ∀ (a7 : World) (ac : Nat), Ext no ad a7 → Blk a7 ac 90 ([.int .i64 0] ++ List.replicate 64 (.int .u8 0) ++ [.bool false]) → ad.heap.size ≤ ac → ac < a7.heap.size →
 szB Try.prog 90 ag.size = true ∧
 storesK (blk ac) ag.toList 0 a7 fun al =>
 enters Try.prog a5 = true ∧ Calls Try.prog a5 (aa.toList ++ ([.int .i64 t6] : List Value) ++ ab.toList).toArray al (fun ak a4 => ∃ (ai : Bool), ak = .returned (.bool ai) ∧
 (ai = true →
 ∃ (a1 : Option Addr) (a2 : Nat) (a8 : Nat), a4.cell? (a3.add 0) = some (.slice a1 a2 a8) ∧
 ∃ (af : Int), a4.cell? ((blk ac).add 0) = some (.int .i64 af) ∧
 ∃ ah : Array Value, szB Try.prog 88 ah.size = true ∧ cellsAt a4 ((blk ac).add 1) ah.toList 0 ∧
 ∃ ap : Addr, a1 = some ap ∧
 0 ≤ (af : Int) ∧ (af : Int) < (a2 : Int) ∧
 ∀ (ae : World), Ext no a4 ae →
 szB Try.prog 88 ah.size = true ∧
 storesK (ap.add (Int.toNat af * 65)) ah.toList 0 ae fun am =>
 (-9223372036854775808 : Int) ≤ (t6 + 1) ∧ (t6 + 1) < 9223372036854775808 ∧
 ∃ aq, aq < m8 ∧ I0 aq [.int .i64 (t6 + 1)] am) ∧
 (ai = false →
 (-9223372036854775808 : Int) ≤ (t6 + 1) ∧ (t6 + 1) < 9223372036854775808 ∧
 ∃ an, an < m8 ∧ I0 an [.int .i64 (t6 + 1)] a4))) ∧
 ((a0 : Int) ≤ t6 →
 canStore ad ((a3.add 1).add 0) ∧
 thenW (ad.setCell ((a3.add 1).add 0) (.slice none 0 0)) fun aj =>
 R (.tuple #[]) aj)

theorem disk_Disk_settle.up (d1 : Option Addr) (a1 : Nat) (a0 : Array Value) (a2 : Array Value) {R : Value → World → Prop} {w : World} (h : disk_Disk_settle.N d1 a1 a0 a2 R w) : disk_Disk_settle.M d1 a1 a0 a2 R w := by
  unfold disk_Disk_settle.M
  unfold disk_Disk_settle.N at h
  obtain ⟨a3, ag, h⟩ := h
  refine elim_some ag ?_
  obtain ⟨a9, aa, a8, b6, h⟩ := h
  refine ⟨a9, aa, a8, b6, ?_⟩
  obtain ⟨I0, m7, h0, h⟩ := h
  refine ⟨I0, m7, h0, fun m8 ab t6 hI => ?_⟩
  have h := h m8 ab t6 hI
  refine bif_of (fun ar => ?_) (fun ar => ?_)
  · have h := h.1 (of_decide_eq_true ar)
    obtain ⟨b8, am, h⟩ := h
    refine elim_some am ?_
    obtain ⟨ao, ak, h⟩ := h
    refine ⟨ao, ak, ?_⟩
    obtain ⟨b0, hz, af, h⟩ := h
    refine ⟨b0, hz, af, ?_⟩
    refine thenW_in fun ah ad => ?_
    have h := h ah ab.heap.size ((Ext.refl no ab).x_alloc ad) (Blk.of_new ad) ((Ext.refl no ab)).size (size_lt_alloc ad)
    obtain ⟨hsz, h⟩ := h
    refine bif_tt hsz ?_
    refine storesK_ext h fun b3 bb h => ?_
    obtain ⟨hen, h⟩ := h
    refine bif_tt hen ?_
    refine h.mono fun b2 ac h => ?_
    obtain ⟨ax, he, h⟩ := h
    refine ⟨ax, he, ?_⟩
    refine bif_of (fun aj => ?_) (fun aj => ?_)
    · have h := h.1 aj
      refine thenW_in fun ae b5 => ?_
      have a4 := (Ext.refl no ac).x_drew b5
      refine elim_some ag ?_
      obtain ⟨a5, a6, a7, ai, h⟩ := h
      refine ⟨a5, a6, a7, (a4).cell ai id, ?_⟩
      obtain ⟨aw, aq, h⟩ := h
      refine ⟨aw, (a4).cell aq id, ?_⟩
      obtain ⟨b1, hz, au, h⟩ := h
      refine ⟨b1, hz, cellsAt_no (a4) au, ?_⟩
      obtain ⟨ba, ap, h⟩ := h
      refine elim_some ap ?_
      obtain ⟨ao, ak, h⟩ := h
      refine ⟨ao, ak, ?_⟩
      have h := h ae a4
      obtain ⟨hsz, h⟩ := h
      refine bif_tt hsz ?_
      refine storesK_ext h fun b4 b9 h => ?_
      obtain ⟨al, an, h⟩ := h
      try rw [w64 al an]
      obtain ⟨b7, hk, h⟩ := h
      exact ⟨b7, hk, h⟩
    · have h := h.2 aj
      obtain ⟨al, an, h⟩ := h
      try rw [w64 al an]
      obtain ⟨av, hk, h⟩ := h
      exact ⟨av, hk, h⟩
  · have h := h.2 (Int.not_lt.1 (of_decide_eq_false ar))
    refine elim_some ag ?_
    obtain ⟨hcs, h⟩ := h
    refine ⟨hcs, thenW_in fun az ay => ?_⟩
    replace h := thenW_out h ay
    exact h

theorem disk_Disk_settle.go (d1 : Option Addr) (a2 : Nat) (a1 : Array Value) (a0 : Array Value) {R : Value → World → Prop} {w : World} (h : disk_Disk_settle.N d1 a2 a1 a0 R w) : Calls Try.prog 45 #[.pointer d1, .func (.func a2) a1 a0] w fun e w' => ∃ v, e = .returned v ∧ R v w' := disk_Disk_settle.ok d1 a2 a1 a0 (disk_Disk_settle.up d1 a2 a1 a0 h)
theorem disk_Disk_settle.run (d1 : Option Addr) (a2 : Nat) (a1 : Array Value) (a0 : Array Value) {V : Value} {Q : World → Prop} {w : World} (h : disk_Disk_settle.N d1 a2 a1 a0 (fun v w' => v = V ∧ Q w') w) : Calls Try.prog 45 #[.pointer d1, .func (.func a2) a1 a0] w (Ret V Q) := (disk_Disk_settle.go d1 a2 a1 a0 h).mono fun e w' ⟨v, he, hv, hq⟩ => ⟨by rw [he, hv], hq⟩

/-- (*disk.Disk).Write -/
def disk_Disk_Write.M (d1 : Option Addr) (i2 : Int) (d6 : Option Addr) (cz : Nat) (da : Nat) (R : Value → World → Prop) (w : World) : Prop :=
 Calls Try.prog 46 #[.pointer d1, .int .i64 i2] w fun dd a0 => ∃ (ai : Int), dd = .returned (.int .i64 ai) ∧
 bif ai != 0 then (
 R (.int .i64 ai) a0) else (
 bif (cz : Int) != 64 then (
 R (.int .i64 1) a0) else (
 thenW (a0.alloc (.cells (List.toArray ([.int .i64 0] ++ List.replicate 64 (.int .u8 0) ++ [.bool false])) 90)) fun d4 =>
 canStore d4 ((blk a0.heap.size).add 0) ∧
 thenW (d4.setCell ((blk a0.heap.size).add 0) (.int .i64 i2)) fun d3 =>
 canStore d3 ((blk a0.heap.size).add 1) ∧
 thenW (d3.setCell ((blk a0.heap.size).add 1) (.int .u8 0)) fun d2 =>
 canStore d2 ((blk a0.heap.size).add 2) ∧
 thenW (d2.setCell ((blk a0.heap.size).add 2) (.int .u8 0)) fun an =>
 canStore an ((blk a0.heap.size).add 3) ∧
 thenW (an.setCell ((blk a0.heap.size).add 3) (.int .u8 0)) fun ap =>
 canStore ap ((blk a0.heap.size).add 4) ∧
 thenW (ap.setCell ((blk a0.heap.size).add 4) (.int .u8 0)) fun br =>
 canStore br ((blk a0.heap.size).add 5) ∧
 thenW (br.setCell ((blk a0.heap.size).add 5) (.int .u8 0)) fun ch =>
 canStore ch ((blk a0.heap.size).add 6) ∧
 thenW (ch.setCell ((blk a0.heap.size).add 6) (.int .u8 0)) fun b6 =>
 canStore b6 ((blk a0.heap.size).add 7) ∧
 thenW (b6.setCell ((blk a0.heap.size).add 7) (.int .u8 0)) fun bq =>
 canStore bq ((blk a0.heap.size).add 8) ∧
 thenW (bq.setCell ((blk a0.heap.size).add 8) (.int .u8 0)) fun bz =>
 canStore bz ((blk a0.heap.size).add 9) ∧
 thenW (bz.setCell ((blk a0.heap.size).add 9) (.int .u8 0)) fun cl =>
 canStore cl ((blk a0.heap.size).add 10) ∧
 thenW (cl.setCell ((blk a0.heap.size).add 10) (.int .u8 0)) fun bg =>
 canStore bg ((blk a0.heap.size).add 11) ∧
 thenW (bg.setCell ((blk a0.heap.size).add 11) (.int .u8 0)) fun bl =>
 canStore bl ((blk a0.heap.size).add 12) ∧
 thenW (bl.setCell ((blk a0.heap.size).add 12) (.int .u8 0)) fun ba =>
 canStore ba ((blk a0.heap.size).add 13) ∧
 thenW (ba.setCell ((blk a0.heap.size).add 13) (.int .u8 0)) fun c7 =>
 canStore c7 ((blk a0.heap.size).add 14) ∧
 thenW (c7.setCell ((blk a0.heap.size).add 14) (.int .u8 0)) fun b0 =>
 canStore b0 ((blk a0.heap.size).add 15) ∧
 thenW (b0.setCell ((blk a0.heap.size).add 15) (.int .u8 0)) fun al =>
 canStore al ((blk a0.heap.size).add 16) ∧
 thenW (al.setCell ((blk a0.heap.size).add 16) (.int .u8 0)) fun av =>
 canStore av ((blk a0.heap.size).add 17) ∧
 thenW (av.setCell ((blk a0.heap.size).add 17) (.int .u8 0)) fun cj =>
 canStore cj ((blk a0.heap.size).add 18) ∧
 thenW (cj.setCell ((blk a0.heap.size).add 18) (.int .u8 0)) fun bu =>
 canStore bu ((blk a0.heap.size).add 19) ∧
 thenW (bu.setCell ((blk a0.heap.size).add 19) (.int .u8 0)) fun c6 =>
 canStore c6 ((blk a0.heap.size).add 20) ∧
 thenW (c6.setCell ((blk a0.heap.size).add 20) (.int .u8 0)) fun bn =>
 canStore bn ((blk a0.heap.size).add 21) ∧
 thenW (bn.setCell ((blk a0.heap.size).add 21) (.int .u8 0)) fun az =>
 canStore az ((blk a0.heap.size).add 22) ∧
 thenW (az.setCell ((blk a0.heap.size).add 22) (.int .u8 0)) fun b3 =>
 canStore b3 ((blk a0.heap.size).add 23) ∧
 thenW (b3.setCell ((blk a0.heap.size).add 23) (.int .u8 0)) fun b9 =>
 canStore b9 ((blk a0.heap.size).add 24) ∧
 thenW (b9.setCell ((blk a0.heap.size).add 24) (.int .u8 0)) fun cb =>
 canStore cb ((blk a0.heap.size).add 25) ∧
 thenW (cb.setCell ((blk a0.heap.size).add 25) (.int .u8 0)) fun c1 =>
 canStore c1 ((blk a0.heap.size).add 26) ∧
 thenW (c1.setCell ((blk a0.heap.size).add 26) (.int .u8 0)) fun bm =>
 canStore bm ((blk a0.heap.size).add 27) ∧
 thenW (bm.setCell ((blk a0.heap.size).add 27) (.int .u8 0)) fun cf =>
 canStore cf ((blk a0.heap.size).add 28) ∧
 thenW (cf.setCell ((blk a0.heap.size).add 28) (.int .u8 0)) fun c0 =>
 canStore c0 ((blk a0.heap.size).add 29) ∧
 thenW (c0.setCell ((blk a0.heap.size).add 29) (.int .u8 0)) fun bd =>
 canStore bd ((blk a0.heap.size).add 30) ∧
 thenW (bd.setCell ((blk a0.heap.size).add 30) (.int .u8 0)) fun cc =>
 canStore cc ((blk a0.heap.size).add 31) ∧
 thenW (cc.setCell ((blk a0.heap.size).add 31) (.int .u8 0)) fun bb =>
 canStore bb ((blk a0.heap.size).add 32) ∧
 thenW (bb.setCell ((blk a0.heap.size).add 32) (.int .u8 0)) fun b4 =>
 canStore b4 ((blk a0.heap.size).add 33) ∧
 thenW (b4.setCell ((blk a0.heap.size).add 33) (.int .u8 0)) fun c8 =>
 canStore c8 ((blk a0.heap.size).add 34) ∧
 thenW (c8.setCell ((blk a0.heap.size).add 34) (.int .u8 0)) fun c4 =>
 canStore c4 ((blk a0.heap.size).add 35) ∧
 thenW (c4.setCell ((blk a0.heap.size).add 35) (.int .u8 0)) fun ay =>
 canStore ay ((blk a0.heap.size).add 36) ∧
 thenW (ay.setCell ((blk a0.heap.size).add 36) (.int .u8 0)) fun be =>
 canStore be ((blk a0.heap.size).add 37) ∧
 thenW (be.setCell ((blk a0.heap.size).add 37) (.int .u8 0)) fun cp =>
 canStore cp ((blk a0.heap.size).add 38) ∧
 thenW (cp.setCell ((blk a0.heap.size).add 38) (.int .u8 0)) fun cm =>
 canStore cm ((blk a0.heap.size).add 39) ∧
 thenW (cm.setCell ((blk a0.heap.size).add 39) (.int .u8 0)) fun ar =>
 canStore ar ((blk a0.heap.size).add 40) ∧
 thenW (ar.setCell ((blk a0.heap.size).add 40) (.int .u8 0)) fun aq =>
 canStore aq ((blk a0.heap.size).add 41) ∧
 thenW (aq.setCell ((blk a0.heap.size).add 41) (.int .u8 0)) fun bf =>
 canStore bf ((blk a0.heap.size).add 42) ∧
 thenW (bf.setCell ((blk a0.heap.size).add 42) (.int .u8 0)) fun ci =>
 canStore ci ((blk a0.heap.size).add 43) ∧
 thenW (ci.setCell ((blk a0.heap.size).add 43) (.int .u8 0)) fun bj =>
 canStore bj ((blk a0.heap.size).add 44) ∧
 thenW (bj.setCell ((blk a0.heap.size).add 44) (.int .u8 0)) fun b8 =>
 canStore b8 ((blk a0.heap.size).add 45) ∧
 thenW (b8.setCell ((blk a0.heap.size).add 45) (.int .u8 0)) fun bh =>
 canStore bh ((blk a0.heap.size).add 46) ∧
 thenW (bh.setCell ((blk a0.heap.size).add 46) (.int .u8 0)) fun bo =>
 canStore bo ((blk a0.heap.size).add 47) ∧
 thenW (bo.setCell ((blk a0.heap.size).add 47) (.int .u8 0)) fun cg =>
 canStore cg ((blk a0.heap.size).add 48) ∧
 thenW (cg.setCell ((blk a0.heap.size).add 48) (.int .u8 0)) fun ao =>
 canStore ao ((blk a0.heap.size).add 49) ∧
 thenW (ao.setCell ((blk a0.heap.size).add 49) (.int .u8 0)) fun bp =>
 canStore bp ((blk a0.heap.size).add 50) ∧
 thenW (bp.setCell ((blk a0.heap.size).add 50) (.int .u8 0)) fun bw =>
 canStore bw ((blk a0.heap.size).add 51) ∧
 thenW (bw.setCell ((blk a0.heap.size).add 51) (.int .u8 0)) fun bx =>
 canStore bx ((blk a0.heap.size).add 52) ∧
 thenW (bx.setCell ((blk a0.heap.size).add 52) (.int .u8 0)) fun au =>
 canStore au ((blk a0.heap.size).add 53) ∧
 thenW (au.setCell ((blk a0.heap.size).add 53) (.int .u8 0)) fun c2 =>
 canStore c2 ((blk a0.heap.size).add 54) ∧
 thenW (c2.setCell ((blk a0.heap.size).add 54) (.int .u8 0)) fun b1 =>
 canStore b1 ((blk a0.heap.size).add 55) ∧
 thenW (b1.setCell ((blk a0.heap.size).add 55) (.int .u8 0)) fun cd =>
 canStore cd ((blk a0.heap.size).add 56) ∧
 thenW (cd.setCell ((blk a0.heap.size).add 56) (.int .u8 0)) fun b7 =>
 canStore b7 ((blk a0.heap.size).add 57) ∧
 thenW (b7.setCell ((blk a0.heap.size).add 57) (.int .u8 0)) fun bv =>
 canStore bv ((blk a0.heap.size).add 58) ∧
 thenW (bv.setCell ((blk a0.heap.size).add 58) (.int .u8 0)) fun ax =>
 canStore ax ((blk a0.heap.size).add 59) ∧
 thenW (ax.setCell ((blk a0.heap.size).add 59) (.int .u8 0)) fun bc =>
 canStore bc ((blk a0.heap.size).add 60) ∧
 thenW (bc.setCell ((blk a0.heap.size).add 60) (.int .u8 0)) fun ce =>
 canStore ce ((blk a0.heap.size).add 61) ∧
 thenW (ce.setCell ((blk a0.heap.size).add 61) (.int .u8 0)) fun b2 =>
 canStore b2 ((blk a0.heap.size).add 62) ∧
 thenW (b2.setCell ((blk a0.heap.size).add 62) (.int .u8 0)) fun b5 =>
 canStore b5 ((blk a0.heap.size).add 63) ∧
 thenW (b5.setCell ((blk a0.heap.size).add 63) (.int .u8 0)) fun bi =>
 canStore bi ((blk a0.heap.size).add 64) ∧
 thenW (bi.setCell ((blk a0.heap.size).add 64) (.int .u8 0)) fun aw =>
 canStore aw ((blk a0.heap.size).add 65) ∧
 thenW (aw.setCell ((blk a0.heap.size).add 65) (.bool false)) fun cv =>
 ∃ (d5 : Int) (co : World), (Builtin.copy_ #[23, 23] 3 #[.slice (some (if 64 = 0 then (((blk a0.heap.size).add 1).add 0) else (((blk a0.heap.size).add 1).add 0).add (0 * 1))) (64 - 0) (64 - 0), .slice d6 cz da]).run Try.prog cv = .ok (.int .i64 d5) co ∧
 thenW (co.drew) fun ak =>
 d1.elim False fun cw =>
 ∃ (a3 : Option Addr) (a5 : Nat) (a4 : Nat), ak.cell? (cw.add 1) = some (.slice a3 a5 a4) ∧
 ∃ cq : Array Value, szB Try.prog 90 cq.size = true ∧ cellsAt ak (blk a0.heap.size) cq.toList 0 ∧
 mslit Try.prog 76 1 [(0, Value.agg cq)] ak fun (bs : Value) (cn : World) =>
 cn.cell? (cw.add 1) = some (.slice a3 a5 a4) ∧
 ∃ (ca : Option Addr) (am : Nat) (bk : Nat) (aj : World), (Builtin.append_ #[76, 76] 76 #[.slice a3 a5 a4, bs]).run Try.prog cn = .ok (.slice ca am bk) aj ∧
 d1.elim False fun cx =>
 canStore aj ((cx.add 1).add 0) ∧
 thenW (aj.setCell ((cx.add 1).add 0) (.slice ca am bk)) fun a2 =>
 d1.elim False fun d8 =>
 ∃ (a8 : Bool), a2.cell? (d8.add 3) = some (.bool a8) ∧
 bif a8 then (
 d1.elim False fun d7 =>
 ∃ (ad : Int), a2.cell? (d7.add 2) = some (.int .i64 ad) ∧
 bif ad == 0 then (
 d1.elim False fun d0 =>
 canStore a2 ((d0.add 4).add 0) ∧
 thenW (a2.setCell ((d0.add 4).add 0) (.int .i64 1)) fun cs =>
 thenW (cs.drew) fun ae =>
 d1.elim False fun dc =>
 ∃ (aa : Option Addr) (a9 : Nat) (ah : Nat), ae.cell? (dc.add 1) = some (.slice aa a9 ah) ∧
 d1.elim False fun d9 =>
 ∃ (ag : Option Addr) (a1 : Nat) (af : Nat), ae.cell? (d9.add 1) = some (.slice ag a1 af) ∧
 aa.elim False fun cy =>
 0 ≤ ((IntKind.i64.wrap ((a1 : Int) - 1)) : Int) ∧ ((IntKind.i64.wrap ((a1 : Int) - 1)) : Int) < (a9 : Int) ∧
 canStore ae ((((cy.add (Int.toNat (IntKind.i64.wrap ((a1 : Int) - 1)) * 66)).add 1).add 64).add 0) ∧
 thenW (ae.setCell ((((cy.add (Int.toNat (IntKind.i64.wrap ((a1 : Int) - 1)) * 66)).add 1).add 64).add 0) (.bool true)) fun cr =>
 R (.int .i64 19) cr) else (
 d1.elim False fun db =>
 ∃ (ab : Int), a2.cell? (db.add 2) = some (.int .i64 ab) ∧
 d1.elim False fun ck =>
 canStore a2 ((ck.add 2).add 0) ∧
 thenW (a2.setCell ((ck.add 2).add 0) (.int .i64 (IntKind.i64.wrap (ab - 1)))) fun ac =>
 d1.elim False fun cu =>
 ∃ (a7 : Int), ac.cell? (cu.add 5) = some (.int .i64 a7) ∧
 d1.elim False fun c9 =>
 canStore ac ((c9.add 5).add 0) ∧
 thenW (ac.setCell ((c9.add 5).add 0) (.int .i64 (IntKind.i64.wrap (a7 + 1)))) fun bt =>
 R (.int .i64 0) bt)) else (
 d1.elim False fun ct =>
 ∃ (a6 : Int), a2.cell? (ct.add 5) = some (.int .i64 a6) ∧
 d1.elim False fun c3 =>
 canStore a2 ((c3.add 5).add 0) ∧
 thenW (a2.setCell ((c3.add 5).add 0) (.int .i64 (IntKind.i64.wrap (a6 + 1)))) fun c5 =>
 R (.int .i64 0) c5)))

theorem disk_Disk_Write.eq (d1 : Option Addr) (i2 : Int) (b3a : Option Addr) (b3n : Nat) (b3c : Nat) (R : Value → World → Prop) (w : World) : mfunc Try.prog [] 28 [.pointer d1, .int .i64 i2, .slice b3a b3n b3c] R w = disk_Disk_Write.M d1 i2 b3a b3n b3c R w := by kernel_rfl
theorem disk_Disk_Write.ok (d1 : Option Addr) (i2 : Int) (a0 : Option Addr) (a1 : Nat) (a2 : Nat) {R : Value → World → Prop} {w : World} (h : disk_Disk_Write.M d1 i2 a0 a1 a2 R w) : Calls Try.prog 28 #[.pointer d1, .int .i64 i2, .slice a0 a1 a2] w fun e w' => ∃ v, e = .returned v ∧ R v w' :=
  mfunc_ok follows (H := []) (args := [.pointer d1, .int .i64 i2, .slice a0 a1 a2]) (by rw [disk_Disk_Write.eq]; exact h)

def disk_Disk_Write.N (d1 : Option Addr) (i2 : Int) (b6 : Option Addr) (b1 : Nat) (b5 : Nat) (R : Value → World → Prop) (w : World) : Prop :=
 Calls Try.prog 46 #[.pointer d1, .int .i64 i2] w fun b4 b0 => ∃ (aj : Int), b4 = .returned (.int .i64 aj) ∧
 (aj ≠ 0 →
 R (.int .i64 aj) b0) ∧
 (aj = 0 →
 ((b1 : Int) ≠ 64 →
 R (.int .i64 1) b0) ∧
 ((b1 : Int) = 64 →
 ∀ (az : World) (am : Nat), Ext no b0 az → Blk az am 90 ([.int .i64 0] ++ List.replicate 64 (.int .u8 0) ++ [.bool false]) → b0.heap.size ≤ am → am < az.heap.size →
 putsK az (blk am) ([.int .i64 i2] ++ List.replicate 64 (.int .u8 0) ++ [.bool false]) 0 fun b2 =>
 ∃ (b3 : Int) (ae : World), (Builtin.copy_ #[23, 23] 3 #[.slice (some (if 64 = 0 then (((blk am).add 1).add 0) else (((blk am).add 1).add 0).add (0 * 1))) (64 - 0) (64 - 0), .slice b6 b1 b5]).run Try.prog b2 = .ok (.int .i64 b3) ae ∧
 ∃ a5 : Addr, d1 = some a5 ∧
 ∃ (a8 : Option Addr) (a7 : Nat) (a6 : Nat), ae.cell? (a5.add 1) = some (.slice a8 a7 a6) ∧
 ∃ ay : Array Value, szB Try.prog 90 ay.size = true ∧ cellsAt ae (blk am) ay.toList 0 ∧
 szB Try.prog 90 ay.size = true ∧
 ∀ (ad : World) (ax : Nat), Ext no ae ad → Blk ad ax 90 ay.toList → ae.heap.size ≤ ax → ax < ad.heap.size →
 ad.cell? (a5.add 1) = some (.slice a8 a7 a6) ∧
 ∃ (ar : Option Addr) (au : Nat) (aq : Nat) (ao : World), (Builtin.append_ #[76, 76] 76 #[.slice a8 a7 a6, .slice (some (blk ax)) 1 1]).run Try.prog ad = .ok (.slice ar au aq) ao ∧
 canStore ao ((a5.add 1).add 0) ∧
 thenW (ao.setCell ((a5.add 1).add 0) (.slice ar au aq)) fun a4 =>
 ∃ (a9 : Bool), a4.cell? (a5.add 3) = some (.bool a9) ∧
 (a9 = true →
 ∃ (ac : Int), a4.cell? (a5.add 2) = some (.int .i64 ac) ∧
 (ac = 0 →
 canStore a4 ((a5.add 4).add 0) ∧
 thenW (a4.setCell ((a5.add 4).add 0) (.int .i64 1)) fun al =>
 ∃ (aa : Option Addr) (ab : Nat) (ah : Nat), al.cell? (a5.add 1) = some (.slice aa ab ah) ∧
 ∃ (ai : Option Addr) (a0 : Nat) (af : Nat), al.cell? (a5.add 1) = some (.slice ai a0 af) ∧
 (-9223372036854775808 : Int) ≤ ((a0 : Int) - 1) ∧ ((a0 : Int) - 1) < 9223372036854775808 ∧
 ∃ ak : Addr, aa = some ak ∧
 0 ≤ (((a0 : Int) - 1) : Int) ∧ (((a0 : Int) - 1) : Int) < (ab : Int) ∧
 ∀ (an : World), Ext no al an →
 canStore an ((((ak.add (Int.toNat ((a0 : Int) - 1) * 66)).add 1).add 64).add 0) ∧
 thenW (an.setCell ((((ak.add (Int.toNat ((a0 : Int) - 1) * 66)).add 1).add 64).add 0) (.bool true)) fun av =>
 R (.int .i64 19) av) ∧
 (ac ≠ 0 →
 ∃ (a3 : Int), a4.cell? (a5.add 2) = some (.int .i64 a3) ∧
 (-9223372036854775808 : Int) ≤ (a3 - 1) ∧ (a3 - 1) < 9223372036854775808 ∧
 canStore a4 ((a5.add 2).add 0) ∧
 thenW (a4.setCell ((a5.add 2).add 0) (.int .i64 (a3 - 1))) fun ag =>
 ∃ (a1 : Int), ag.cell? (a5.add 5) = some (.int .i64 a1) ∧
 (-9223372036854775808 : Int) ≤ (a1 + 1) ∧ (a1 + 1) < 9223372036854775808 ∧
 canStore ag ((a5.add 5).add 0) ∧
 thenW (ag.setCell ((a5.add 5).add 0) (.int .i64 (a1 + 1))) fun ap =>
 R (.int .i64 0) ap)) ∧
 (a9 = false →
 ∃ (a2 : Int), a4.cell? (a5.add 5) = some (.int .i64 a2) ∧
 (-9223372036854775808 : Int) ≤ (a2 + 1) ∧ (a2 + 1) < 9223372036854775808 ∧
 canStore a4 ((a5.add 5).add 0) ∧
 thenW (a4.setCell ((a5.add 5).add 0) (.int .i64 (a2 + 1))) fun aw =>
 R (.int .i64 0) aw)))

theorem disk_Disk_Write.up (d1 : Option Addr) (i2 : Int) (be : Option Addr) (bg : Nat) (bi : Nat) {R : Value → World → Prop} {w : World} (h : disk_Disk_Write.N d1 i2 be bg bi R w) : disk_Disk_Write.M d1 i2 be bg bi R w := by
  unfold disk_Disk_Write.M
  unfold disk_Disk_Write.N at h
  refine h.mono fun fs ba h => ?_
  obtain ⟨av, he, h⟩ := h
  refine ⟨av, he, ?_⟩
  refine bif_of (fun c7 => ?_) (fun c7 => ?_)
  · have h := h.1 (bne_t c7)
    exact h
  · have h := h.2 (bne_f c7)
    refine bif_of (fun c8 => ?_) (fun c8 => ?_)
    · have h := h.1 (bne_t c8)
      exact h
    · have h := h.2 (bne_f c8)
      refine thenW_in fun fg e9 => ?_
      have h := h fg ba.heap.size ((Ext.refl no ba).x_alloc e9) (Blk.of_new e9) ((Ext.refl no ba)).size (size_lt_alloc e9)
      try rw [show (([.int .i64 i2] ++ List.replicate 64 (.int .u8 0) ++ [.bool false])) = [.int .i64 i2, .int .u8 0, .int .u8 0, .int .u8 0, .int .u8 0, .int .u8 0, .int .u8 0, .int .u8 0, .int .u8 0, .int .u8 0, .int .u8 0, .int .u8 0, .int .u8 0, .int .u8 0, .int .u8 0, .int .u8 0, .int .u8 0, .int .u8 0, .int .u8 0, .int .u8 0, .int .u8 0, .int .u8 0, .int .u8 0, .int .u8 0, .int .u8 0, .int .u8 0, .int .u8 0, .int .u8 0, .int .u8 0, .int .u8 0, .int .u8 0, .int .u8 0, .int .u8 0, .int .u8 0, .int .u8 0, .int .u8 0, .int .u8 0, .int .u8 0, .int .u8 0, .int .u8 0, .int .u8 0, .int .u8 0, .int .u8 0, .int .u8 0, .int .u8 0, .int .u8 0, .int .u8 0, .int .u8 0, .int .u8 0, .int .u8 0, .int .u8 0, .int .u8 0, .int .u8 0, .int .u8 0, .int .u8 0, .int .u8 0, .int .u8 0, .int .u8 0, .int .u8 0, .int .u8 0, .int .u8 0, .int .u8 0, .int .u8 0, .int .u8 0, .int .u8 0, .bool false] from rfl] at h
      obtain ⟨hcs, h⟩ := h
      refine ⟨hcs, thenW_in fun bq c0 => ?_⟩
      replace h := thenW_out h c0
      obtain ⟨hcs, h⟩ := h
      refine ⟨hcs, thenW_in fun e2 ce => ?_⟩
      replace h := thenW_out h ce
      obtain ⟨hcs, h⟩ := h
      refine ⟨hcs, thenW_in fun fe ds => ?_⟩
      replace h := thenW_out h ds
      obtain ⟨hcs, h⟩ := h
      refine ⟨hcs, thenW_in fun cv ev => ?_⟩
      replace h := thenW_out h ev
      obtain ⟨hcs, h⟩ := h
      refine ⟨hcs, thenW_in fun dy ff => ?_⟩
      replace h := thenW_out h ff
      obtain ⟨hcs, h⟩ := h
      refine ⟨hcs, thenW_in fun ef da => ?_⟩
      replace h := thenW_out h da
      obtain ⟨hcs, h⟩ := h
      refine ⟨hcs, thenW_in fun fk ed => ?_⟩
      replace h := thenW_out h ed
      obtain ⟨hcs, h⟩ := h
      refine ⟨hcs, thenW_in fun dh e0 => ?_⟩
      replace h := thenW_out h e0
      obtain ⟨hcs, h⟩ := h
      refine ⟨hcs, thenW_in fun dr bm => ?_⟩
      replace h := thenW_out h bm
      obtain ⟨hcs, h⟩ := h
      refine ⟨hcs, thenW_in fun d4 ep => ?_⟩
      replace h := thenW_out h ep
      obtain ⟨hcs, h⟩ := h
      refine ⟨hcs, thenW_in fun ex ek => ?_⟩
      replace h := thenW_out h ek
      obtain ⟨hcs, h⟩ := h
      refine ⟨hcs, thenW_in fun ch f0 => ?_⟩
      replace h := thenW_out h f0
      obtain ⟨hcs, h⟩ := h
      refine ⟨hcs, thenW_in fun bl e3 => ?_⟩
      replace h := thenW_out h e3
      obtain ⟨hcs, h⟩ := h
      refine ⟨hcs, thenW_in fun c3 cx => ?_⟩
      replace h := thenW_out h cx
      obtain ⟨hcs, h⟩ := h
      refine ⟨hcs, thenW_in fun fj d2 => ?_⟩
      replace h := thenW_out h d2
      obtain ⟨hcs, h⟩ := h
      refine ⟨hcs, thenW_in fun e6 eu => ?_⟩
      replace h := thenW_out h eu
      obtain ⟨hcs, h⟩ := h
      refine ⟨hcs, thenW_in fun ew co => ?_⟩
      replace h := thenW_out h co
      obtain ⟨hcs, h⟩ := h
      refine ⟨hcs, thenW_in fun du bn => ?_⟩
      replace h := thenW_out h bn
      obtain ⟨hcs, h⟩ := h
      refine ⟨hcs, thenW_in fun cg c1 => ?_⟩
      replace h := thenW_out h c1
      obtain ⟨hcs, h⟩ := h
      refine ⟨hcs, thenW_in fun cq d7 => ?_⟩
      replace h := thenW_out h d7
      obtain ⟨hcs, h⟩ := h
      refine ⟨hcs, thenW_in fun d0 dp => ?_⟩
      replace h := thenW_out h dp
      obtain ⟨hcs, h⟩ := h
      refine ⟨hcs, thenW_in fun f2 cw => ?_⟩
      replace h := thenW_out h cw
      obtain ⟨hcs, h⟩ := h
      refine ⟨hcs, thenW_in fun em c2 => ?_⟩
      replace h := thenW_out h c2
      obtain ⟨hcs, h⟩ := h
      refine ⟨hcs, thenW_in fun dt cr => ?_⟩
      replace h := thenW_out h cr
      obtain ⟨hcs, h⟩ := h
      refine ⟨hcs, thenW_in fun fb dz => ?_⟩
      replace h := thenW_out h dz
      obtain ⟨hcs, h⟩ := h
      refine ⟨hcs, thenW_in fun el ck => ?_⟩
      replace h := thenW_out h ck
      obtain ⟨hcs, h⟩ := h
      refine ⟨hcs, thenW_in fun dc bz => ?_⟩
      replace h := thenW_out h bz
      obtain ⟨hcs, h⟩ := h
      refine ⟨hcs, thenW_in fun f3 ca => ?_⟩
      replace h := thenW_out h ca
      obtain ⟨hcs, h⟩ := h
      refine ⟨hcs, thenW_in fun d5 cp => ?_⟩
      replace h := thenW_out h cp
      obtain ⟨hcs, h⟩ := h
      refine ⟨hcs, thenW_in fun cs bx => ?_⟩
      replace h := thenW_out h bx
      obtain ⟨hcs, h⟩ := h
      refine ⟨hcs, thenW_in fun ez ej => ?_⟩
      replace h := thenW_out h ej
      obtain ⟨hcs, h⟩ := h
      refine ⟨hcs, thenW_in fun es bv => ?_⟩
      replace h := thenW_out h bv
      obtain ⟨hcs, h⟩ := h
      refine ⟨hcs, thenW_in fun cd fo => ?_⟩
      replace h := thenW_out h fo
      obtain ⟨hcs, h⟩ := h
      refine ⟨hcs, thenW_in fun dd d9 => ?_⟩
      replace h := thenW_out h d9
      obtain ⟨hcs, h⟩ := h
      refine ⟨hcs, thenW_in fun fq c6 => ?_⟩
      replace h := thenW_out h c6
      obtain ⟨hcs, h⟩ := h
      refine ⟨hcs, thenW_in fun fl cl => ?_⟩
      replace h := thenW_out h cl
      obtain ⟨hcs, h⟩ := h
      refine ⟨hcs, thenW_in fun bw f7 => ?_⟩
      replace h := thenW_out h f7
      obtain ⟨hcs, h⟩ := h
      refine ⟨hcs, thenW_in fun bt df => ?_⟩
      replace h := thenW_out h df
      obtain ⟨hcs, h⟩ := h
      refine ⟨hcs, thenW_in fun de f5 => ?_⟩
      replace h := thenW_out h f5
      obtain ⟨hcs, h⟩ := h
      refine ⟨hcs, thenW_in fun fh cm => ?_⟩
      replace h := thenW_out h cm
      obtain ⟨hcs, h⟩ := h
      refine ⟨hcs, thenW_in fun dm dg => ?_⟩
      replace h := thenW_out h dg
      obtain ⟨hcs, h⟩ := h
      refine ⟨hcs, thenW_in fun cz er => ?_⟩
      replace h := thenW_out h er
      obtain ⟨hcs, h⟩ := h
      refine ⟨hcs, thenW_in fun di f1 => ?_⟩
      replace h := thenW_out h f1
      obtain ⟨hcs, h⟩ := h
      refine ⟨hcs, thenW_in fun dv ei => ?_⟩
      replace h := thenW_out h ei
      obtain ⟨hcs, h⟩ := h
      refine ⟨hcs, thenW_in fun fd dq => ?_⟩
      replace h := thenW_out h dq
      obtain ⟨hcs, h⟩ := h
      refine ⟨hcs, thenW_in fun bp bu => ?_⟩
      replace h := thenW_out h bu
      obtain ⟨hcs, h⟩ := h
      refine ⟨hcs, thenW_in fun dw eq => ?_⟩
      replace h := thenW_out h eq
      obtain ⟨hcs, h⟩ := h
      refine ⟨hcs, thenW_in fun eb eh => ?_⟩
      replace h := thenW_out h eh
      obtain ⟨hcs, h⟩ := h
      refine ⟨hcs, thenW_in fun ec ey => ?_⟩
      replace h := thenW_out h ey
      obtain ⟨hcs, h⟩ := h
      refine ⟨hcs, thenW_in fun c4 ea => ?_⟩
      replace h := thenW_out h ea
      obtain ⟨hcs, h⟩ := h
      refine ⟨hcs, thenW_in fun eo ct => ?_⟩
      replace h := thenW_out h ct
      obtain ⟨hcs, h⟩ := h
      refine ⟨hcs, thenW_in fun cj e1 => ?_⟩
      replace h := thenW_out h e1
      obtain ⟨hcs, h⟩ := h
      refine ⟨hcs, thenW_in fun f6 bo => ?_⟩
      replace h := thenW_out h bo
      obtain ⟨hcs, h⟩ := h
      refine ⟨hcs, thenW_in fun cy en => ?_⟩
      replace h := thenW_out h en
      obtain ⟨hcs, h⟩ := h
      refine ⟨hcs, thenW_in fun e7 c5 => ?_⟩
      replace h := thenW_out h c5
      obtain ⟨hcs, h⟩ := h
      refine ⟨hcs, thenW_in fun cb dn => ?_⟩
      replace h := thenW_out h dn
      obtain ⟨hcs, h⟩ := h
      refine ⟨hcs, thenW_in fun db fi => ?_⟩
      replace h := thenW_out h fi
      obtain ⟨hcs, h⟩ := h
      refine ⟨hcs, thenW_in fun f8 d3 => ?_⟩
      replace h := thenW_out h d3
      obtain ⟨hcs, h⟩ := h
      refine ⟨hcs, thenW_in fun cn br => ?_⟩
      replace h := thenW_out h br
      obtain ⟨hcs, h⟩ := h
      refine ⟨hcs, thenW_in fun cu d6 => ?_⟩
      replace h := thenW_out h d6
      obtain ⟨hcs, h⟩ := h
      refine ⟨hcs, thenW_in fun dj cc => ?_⟩
      replace h := thenW_out h cc
      obtain ⟨hcs, h⟩ := h
      refine ⟨hcs, thenW_in fun c9 eg => ?_⟩
      replace h := thenW_out h eg
      obtain ⟨hcs, h⟩ := h
      refine ⟨hcs, thenW_in fun fm d8 => ?_⟩
      replace h := thenW_out h d8
      obtain ⟨hcs, h⟩ := h
      refine ⟨hcs, thenW_in fun cf ee => ?_⟩
      replace h := thenW_out h ee
      obtain ⟨hcs, h⟩ := h
      refine ⟨hcs, thenW_in fun fp dx => ?_⟩
      replace h := thenW_out h dx
      obtain ⟨hcs, h⟩ := h
      refine ⟨hcs, thenW_in fun fa dl => ?_⟩
      replace h := thenW_out h dl
      obtain ⟨fc, ak, hr, h⟩ := h
      refine ⟨fc, ak, hr, ?_⟩
      refine thenW_in fun b7 bs => ?_
      have ad := (Ext.refl no ak).x_drew bs
      obtain ⟨fr, a0, h⟩ := h
      refine elim_some a0 ?_
      obtain ⟨ac, ae, ab, b1, h⟩ := h
      refine ⟨ac, ae, ab, (ad).cell b1 id, ?_⟩
      obtain ⟨f9, hz, ax, h⟩ := h
      refine ⟨f9, hz, cellsAt_no (ad) ax, ?_⟩
      obtain ⟨hzl, h⟩ := h
      refine mslit_big Try.underlying76 (by kernel_rfl) hzl ?_
      refine thenW_in fun b2 ar => ?_
      have h := h b2 b7.heap.size (ad.x_alloc ar) (Blk.of_new ar) (ad).size (size_lt_alloc ar)
      obtain ⟨b0, h⟩ := h
      refine ⟨b0, ?_⟩
      obtain ⟨b3, b4, au, bc, hr, h⟩ := h
      refine ⟨b3, b4, au, bc, hr, ?_⟩
      refine elim_some a0 ?_
      obtain ⟨hcs, h⟩ := h
      refine ⟨hcs, thenW_in fun e4 dk => ?_⟩
      replace h := thenW_out h dk
      refine elim_some a0 ?_
      obtain ⟨aa, az, h⟩ := h
      refine ⟨aa, az, ?_⟩
      refine bif_of (fun aq => ?_) (fun aq => ?_)
      · have h := h.1 aq
        refine elim_some a0 ?_
        obtain ⟨ah, aw, h⟩ := h
        refine ⟨ah, aw, ?_⟩
        refine bif_of (fun ap => ?_) (fun ap => ?_)
        · have h := h.1 (beq_t ap)
          refine elim_some a0 ?_
          obtain ⟨hcs, h⟩ := h
          refine ⟨hcs, thenW_in fun b6 e5 => ?_⟩
          replace h := thenW_out h e5
          refine thenW_in fun b9 f4 => ?_
          have af := (Ext.refl no b6).x_drew f4
          refine elim_some a0 ?_
          obtain ⟨a6, a1, a2, bd, h⟩ := h
          refine ⟨a6, a1, a2, (af).cell bd id, ?_⟩
          refine elim_some a0 ?_
          obtain ⟨a4, a3, a8, aj, h⟩ := h
          refine ⟨a4, a3, a8, (af).cell aj id, ?_⟩
          obtain ⟨ag, ai, h⟩ := h
          try rw [w64 ag ai]
          obtain ⟨et, an, h⟩ := h
          refine elim_some an ?_
          obtain ⟨ci, e8, h⟩ := h
          refine ⟨ci, e8, ?_⟩
          have h := h b9 af
          obtain ⟨hcs, h⟩ := h
          refine ⟨hcs, thenW_in fun bk bb => ?_⟩
          replace h := thenW_out h bb
          exact h
        · have h := h.2 (beq_f ap)
          refine elim_some a0 ?_
          obtain ⟨a9, al, h⟩ := h
          refine ⟨a9, al, ?_⟩
          obtain ⟨ag, ai, h⟩ := h
          try rw [w64 ag ai]
          refine elim_some a0 ?_
          obtain ⟨hcs, h⟩ := h
          refine ⟨hcs, thenW_in fun bh ay => ?_⟩
          replace h := thenW_out h ay
          refine elim_some a0 ?_
          obtain ⟨a7, am, h⟩ := h
          refine ⟨a7, am, ?_⟩
          obtain ⟨ag, ai, h⟩ := h
          try rw [w64 ag ai]
          refine elim_some a0 ?_
          obtain ⟨hcs, h⟩ := h
          refine ⟨hcs, thenW_in fun bj b8 => ?_⟩
          replace h := thenW_out h b8
          exact h
      · have h := h.2 aq
        refine elim_some a0 ?_
        obtain ⟨a5, ao, h⟩ := h
        refine ⟨a5, ao, ?_⟩
        obtain ⟨ag, ai, h⟩ := h
        try rw [w64 ag ai]
        refine elim_some a0 ?_
        obtain ⟨hcs, h⟩ := h
        refine ⟨hcs, thenW_in fun bf b5 => ?_⟩
        replace h := thenW_out h b5
        exact h

theorem disk_Disk_Write.go (d1 : Option Addr) (i2 : Int) (a0 : Option Addr) (a1 : Nat) (a2 : Nat) {R : Value → World → Prop} {w : World} (h : disk_Disk_Write.N d1 i2 a0 a1 a2 R w) : Calls Try.prog 28 #[.pointer d1, .int .i64 i2, .slice a0 a1 a2] w fun e w' => ∃ v, e = .returned v ∧ R v w' := disk_Disk_Write.ok d1 i2 a0 a1 a2 (disk_Disk_Write.up d1 i2 a0 a1 a2 h)
theorem disk_Disk_Write.run (d1 : Option Addr) (i2 : Int) (a0 : Option Addr) (a1 : Nat) (a2 : Nat) {V : Value} {Q : World → Prop} {w : World} (h : disk_Disk_Write.N d1 i2 a0 a1 a2 (fun v w' => v = V ∧ Q w') w) : Calls Try.prog 28 #[.pointer d1, .int .i64 i2, .slice a0 a1 a2] w (Ret V Q) := (disk_Disk_Write.go d1 i2 a0 a1 a2 h).mono fun e w' ⟨v, he, hv, hq⟩ => ⟨by rw [he, hv], hq⟩

/-- (*disk.Disk).Copy -/
def disk_Disk_Copy.M (d1 : Option Addr) (R : Value → World → Prop) (w : World) : Prop :=
 bif Option.isNone d1 then (
 R (.pointer none) w) else (
 d1.elim False fun a2 =>
 ∃ (ab : Option Addr) (aj : Nat) (aa : Nat) (ae : Option Addr) (ad : Nat) (al : Nat) (am : Int) (ai : Bool) (ac : Int) (ag : Int), cellsAt w a2 [.slice ab aj aa, .slice ae ad al, .int .i64 am, .bool ai, .int .i64 ac, .int .i64 ag] 0 ∧
 thenW (w.alloc (.cells #[.slice none 0 0, .slice none 0 0, .int .i64 0, .bool false, .int .i64 0, .int .i64 0] 79)) fun b2 =>
 canStore b2 ((blk w.heap.size).add 0) ∧
 thenW (b2.setCell ((blk w.heap.size).add 0) (.slice ab aj aa)) fun aq =>
 canStore aq ((blk w.heap.size).add 1) ∧
 thenW (aq.setCell ((blk w.heap.size).add 1) (.slice ae ad al)) fun ar =>
 canStore ar ((blk w.heap.size).add 2) ∧
 thenW (ar.setCell ((blk w.heap.size).add 2) (.int .i64 am)) fun av =>
 canStore av ((blk w.heap.size).add 3) ∧
 thenW (av.setCell ((blk w.heap.size).add 3) (.bool ai)) fun ax =>
 canStore ax ((blk w.heap.size).add 4) ∧
 thenW (ax.setCell ((blk w.heap.size).add 4) (.int .i64 ac)) fun au =>
 canStore au ((blk w.heap.size).add 5) ∧
 thenW (au.setCell ((blk w.heap.size).add 5) (.int .i64 ag)) fun az =>
 thenW (az.drew) fun an =>
 d1.elim False fun b4 =>
 ∃ (ak : Option Addr) (af : Nat) (ah : Nat), an.cell? (b4.add 0) = some (.slice ak af ah) ∧
 d1.elim False fun b3 =>
 ∃ (a3 : Option Addr) (a1 : Nat) (a0 : Nat), an.cell? (b3.add 1) = some (.slice a3 a1 a0) ∧
 Calls Try.prog 48 #[.slice ak af ah] an fun b0 ao => ∃ (a6 : Option Addr) (a7 : Nat) (a5 : Nat), b0 = .returned (.slice a6 a7 a5) ∧
 ao.cell? (b3.add 1) = some (.slice a3 a1 a0) ∧
 Calls Try.prog 49 #[.slice a3 a1 a0] ao fun b1 aw => ∃ (a8 : Option Addr) (a4 : Nat) (a9 : Nat), b1 = .returned (.slice a8 a4 a9) ∧
 canStore aw (((blk w.heap.size).add 0).add 0) ∧
 thenW (aw.setCell (((blk w.heap.size).add 0).add 0) (.slice a6 a7 a5)) fun ap =>
 canStore ap (((blk w.heap.size).add 1).add 0) ∧
 thenW (ap.setCell (((blk w.heap.size).add 1).add 0) (.slice a8 a4 a9)) fun ay =>
 R (.pointer (some (blk w.heap.size))) ay)

theorem disk_Disk_Copy.eq (d1 : Option Addr) (R : Value → World → Prop) (w : World) : mfunc Try.prog [] 30 [.pointer d1] R w = disk_Disk_Copy.M d1 R w := by kernel_rfl
theorem disk_Disk_Copy.ok (d1 : Option Addr) {R : Value → World → Prop} {w : World} (h : disk_Disk_Copy.M d1 R w) : Calls Try.prog 30 #[.pointer d1] w fun e w' => ∃ v, e = .returned v ∧ R v w' :=
  mfunc_ok follows (H := []) (args := [.pointer d1]) (by rw [disk_Disk_Copy.eq]; exact h)

def disk_Disk_Copy.N (d1 : Option Addr) (R : Value → World → Prop) (w : World) : Prop :=
 (d1 = none →
 R (.pointer none) w) ∧
 (d1 ≠ none →
 ∃ a3 : Addr, d1 = some a3 ∧
 ∃ (ac : Option Addr) (ai : Nat) (ag : Nat) (af : Option Addr) (ah : Nat) (am : Nat) (ao : Int) (aj : Bool) (al : Int) (aa : Int), cellsAt w a3 [.slice ac ai ag, .slice af ah am, .int .i64 ao, .bool aj, .int .i64 al, .int .i64 aa] 0 ∧
 ∀ (an : World) (a0 : Nat), Ext no w an → Blk an a0 79 [.slice none 0 0, .slice none 0 0, .int .i64 0, .bool false, .int .i64 0, .int .i64 0] → w.heap.size ≤ a0 → a0 < an.heap.size →
 canStore an ((blk a0).add 0) ∧
 thenW (an.setCell ((blk a0).add 0) (.slice ac ai ag)) fun ay =>
 canStore ay ((blk a0).add 1) ∧
 thenW (ay.setCell ((blk a0).add 1) (.slice af ah am)) fun au =>
 canStore au ((blk a0).add 2) ∧
 thenW (au.setCell ((blk a0).add 2) (.int .i64 ao)) fun av =>
 canStore av ((blk a0).add 3) ∧
 thenW (av.setCell ((blk a0).add 3) (.bool aj)) fun az =>
 canStore az ((blk a0).add 4) ∧
 thenW (az.setCell ((blk a0).add 4) (.int .i64 al)) fun b0 =>
 canStore b0 ((blk a0).add 5) ∧
 thenW (b0.setCell ((blk a0).add 5) (.int .i64 aa)) fun ap =>
 ∃ (ae : Option Addr) (ad : Nat) (ak : Nat), ap.cell? (a3.add 0) = some (.slice ae ad ak) ∧
 ∃ (a2 : Option Addr) (a1 : Nat) (a4 : Nat), ap.cell? (a3.add 1) = some (.slice a2 a1 a4) ∧
 ∀ (aq : World), Ext no ap aq →
 Calls Try.prog 48 #[.slice ae ad ak] aq fun b3 ax => ∃ (a9 : Option Addr) (a5 : Nat) (ab : Nat), b3 = .returned (.slice a9 a5 ab) ∧
 ax.cell? (a3.add 1) = some (.slice a2 a1 a4) ∧
 Calls Try.prog 49 #[.slice a2 a1 a4] ax fun b1 ar => ∃ (a6 : Option Addr) (a7 : Nat) (a8 : Nat), b1 = .returned (.slice a6 a7 a8) ∧
 canStore ar (((blk a0).add 0).add 0) ∧
 thenW (ar.setCell (((blk a0).add 0).add 0) (.slice a9 a5 ab)) fun aw =>
 canStore aw (((blk a0).add 1).add 0) ∧
 thenW (aw.setCell (((blk a0).add 1).add 0) (.slice a6 a7 a8)) fun b2 =>
 R (.pointer (some (blk a0))) b2)

theorem disk_Disk_Copy.up (d1 : Option Addr) {R : Value → World → Prop} {w : World} (h : disk_Disk_Copy.N d1 R w) : disk_Disk_Copy.M d1 R w := by
  unfold disk_Disk_Copy.M
  unfold disk_Disk_Copy.N at h
  refine bif_of (fun c2 => ?_) (fun c2 => ?_)
  · have h := h.1 (isNone_t c2)
    exact h
  · have h := h.2 (isNone_f c2)
    obtain ⟨a3, ap, h⟩ := h
    refine elim_some ap ?_
    obtain ⟨a8, ag, ae, ab, af, al, an, ah, ak, a6, bh, h⟩ := h
    refine ⟨a8, ag, ae, ab, af, al, an, ah, ak, a6, bh, ?_⟩
    refine thenW_in fun aq av => ?_
    have h := h aq w.heap.size ((Ext.refl no w).x_alloc av) (Blk.of_new av) ((Ext.refl no w)).size (size_lt_alloc av)
    obtain ⟨hcs, h⟩ := h
    refine ⟨hcs, thenW_in fun bb az => ?_⟩
    replace h := thenW_out h az
    obtain ⟨hcs, h⟩ := h
    refine ⟨hcs, thenW_in fun b4 b0 => ?_⟩
    replace h := thenW_out h b0
    obtain ⟨hcs, h⟩ := h
    refine ⟨hcs, thenW_in fun b5 bc => ?_⟩
    replace h := thenW_out h bc
    obtain ⟨hcs, h⟩ := h
    refine ⟨hcs, thenW_in fun be bf => ?_⟩
    replace h := thenW_out h bf
    obtain ⟨hcs, h⟩ := h
    refine ⟨hcs, thenW_in fun bg bd => ?_⟩
    replace h := thenW_out h bd
    obtain ⟨hcs, h⟩ := h
    refine ⟨hcs, thenW_in fun ax b7 => ?_⟩
    replace h := thenW_out h b7
    refine thenW_in fun ao b2 => ?_
    have am := (Ext.refl no ax).x_drew b2
    refine elim_some ap ?_
    obtain ⟨aa, a9, ai, aw, h⟩ := h
    refine ⟨aa, a9, ai, (am).cell aw id, ?_⟩
    refine elim_some ap ?_
    obtain ⟨ad, ac, aj, ar, h⟩ := h
    refine ⟨ad, ac, aj, (am).cell ar id, ?_⟩
    have h := h ao am
    refine h.mono fun bi ba h => ?_
    obtain ⟨a5, a0, a7, he, h⟩ := h
    refine ⟨a5, a0, a7, he, ?_⟩
    obtain ⟨au, h⟩ := h
    refine ⟨au, ?_⟩
    refine h.mono fun b3 b1 h => ?_
    obtain ⟨a1, a2, a4, he, h⟩ := h
    refine ⟨a1, a2, a4, he, ?_⟩
    obtain ⟨hcs, h⟩ := h
    refine ⟨hcs, thenW_in fun b9 ay => ?_⟩
    replace h := thenW_out h ay
    obtain ⟨hcs, h⟩ := h
    refine ⟨hcs, thenW_in fun b8 b6 => ?_⟩
    replace h := thenW_out h b6
    exact h

theorem disk_Disk_Copy.go (d1 : Option Addr) {R : Value → World → Prop} {w : World} (h : disk_Disk_Copy.N d1 R w) : Calls Try.prog 30 #[.pointer d1] w fun e w' => ∃ v, e = .returned v ∧ R v w' := disk_Disk_Copy.ok d1 (disk_Disk_Copy.up d1 h)
end Go.Proofs.Ytgcjipbahfpopaa

/- Disk: predicates, the others. -/
set_option linter.unusedVariables false
set_option linter.unusedSimpArgs false
set_option maxRecDepth 20000
set_option maxHeartbeats 2000000
namespace Go.Proofs.Ytgcjipbahfpopaa
open Go Go.Mx Go.Proofs
/-- (*disk.Disk).Sync -/
def disk_Disk_Sync.M (d1 : Option Addr) (R : Value → World → Prop) (w : World) : Prop :=
 Calls Try.prog 43 #[.pointer d1] w fun a4 a1 => ∃ (a0 : Int), a4 = .returned (.int .i64 a0) ∧
 bif a0 != 0 then (
 R (.int .i64 a0) a1) else (
 Calls Try.prog 45 #[.pointer d1, .func (.func 47) #[] #[]] a1 fun a2 a3 => a2 = .returned (.tuple #[]) ∧
 R (.int .i64 0) a3)

theorem disk_Disk_Sync.eq (d1 : Option Addr) (R : Value → World → Prop) (w : World) : mfunc Try.prog [] 29 [.pointer d1] R w = disk_Disk_Sync.M d1 R w := by kernel_rfl
theorem disk_Disk_Sync.ok (d1 : Option Addr) {R : Value → World → Prop} {w : World} (h : disk_Disk_Sync.M d1 R w) : Calls Try.prog 29 #[.pointer d1] w fun e w' => ∃ v, e = .returned v ∧ R v w' :=
  mfunc_ok follows (H := []) (args := [.pointer d1]) (by rw [disk_Disk_Sync.eq]; exact h)

def disk_Disk_Sync.N (d1 : Option Addr) (R : Value → World → Prop) (w : World) : Prop :=
 Calls Try.prog 43 #[.pointer d1] w fun a2 a1 => ∃ (a0 : Int), a2 = .returned (.int .i64 a0) ∧
 (a0 ≠ 0 →
 R (.int .i64 a0) a1) ∧
 (a0 = 0 →
 Calls Try.prog 45 #[.pointer d1, .func (.func 47) #[] #[]] a1 fun a4 a3 => a4 = .returned (.tuple #[]) ∧
 R (.int .i64 0) a3)

theorem disk_Disk_Sync.up (d1 : Option Addr) {R : Value → World → Prop} {w : World} (h : disk_Disk_Sync.N d1 R w) : disk_Disk_Sync.M d1 R w := by
  unfold disk_Disk_Sync.M
  unfold disk_Disk_Sync.N at h
  refine h.mono fun a2 a1 h => ?_
  obtain ⟨a0, he, h⟩ := h
  refine ⟨a0, he, ?_⟩
  refine bif_of (fun c5 => ?_) (fun c5 => ?_)
  · have h := h.1 (bne_t c5)
    exact h
  · have h := h.2 (bne_f c5)
    refine h.mono fun a4 a3 h => ?_
    obtain ⟨he, h⟩ := h
    refine ⟨he, ?_⟩
    exact h

theorem disk_Disk_Sync.go (d1 : Option Addr) {R : Value → World → Prop} {w : World} (h : disk_Disk_Sync.N d1 R w) : Calls Try.prog 29 #[.pointer d1] w fun e w' => ∃ v, e = .returned v ∧ R v w' := disk_Disk_Sync.ok d1 (disk_Disk_Sync.up d1 h)
theorem disk_Disk_Sync.run (d1 : Option Addr) {V : Value} {Q : World → Prop} {w : World} (h : disk_Disk_Sync.N d1 (fun v w' => v = V ∧ Q w') w) : Calls Try.prog 29 #[.pointer d1] w (Ret V Q) := (disk_Disk_Sync.go d1 h).mono fun e w' ⟨v, he, hv, hq⟩ => ⟨by rw [he, hv], hq⟩

/-- (*disk.Disk).Sync$1 -/
def disk_Disk_Sync_1.M (p1 : Int) (R : Value → World → Prop) (w : World) : Prop :=
 R (.bool true) w

theorem disk_Disk_Sync_1.eq (p1 : Int) (R : Value → World → Prop) (w : World) : mfunc Try.prog [] 47 [.int .i64 p1] R w = disk_Disk_Sync_1.M p1 R w := by kernel_rfl
theorem disk_Disk_Sync_1.ok (p1 : Int) {R : Value → World → Prop} {w : World} (h : disk_Disk_Sync_1.M p1 R w) : Calls Try.prog 47 #[.int .i64 p1] w fun e w' => ∃ v, e = .returned v ∧ R v w' :=
  mfunc_ok follows (H := []) (args := [.int .i64 p1]) (by rw [disk_Disk_Sync_1.eq]; exact h)

def disk_Disk_Sync_1.N (p1 : Int) (R : Value → World → Prop) (w : World) : Prop :=
 R (.bool true) w

theorem disk_Disk_Sync_1.up (p1 : Int) {R : Value → World → Prop} {w : World} (h : disk_Disk_Sync_1.N p1 R w) : disk_Disk_Sync_1.M p1 R w := by
  unfold disk_Disk_Sync_1.M
  unfold disk_Disk_Sync_1.N at h
  exact h

theorem disk_Disk_Sync_1.go (p1 : Int) {R : Value → World → Prop} {w : World} (h : disk_Disk_Sync_1.N p1 R w) : Calls Try.prog 47 #[.int .i64 p1] w fun e w' => ∃ v, e = .returned v ∧ R v w' := disk_Disk_Sync_1.ok p1 (disk_Disk_Sync_1.up p1 h)
theorem disk_Disk_Sync_1.run (p1 : Int) {V : Value} {Q : World → Prop} {w : World} (h : disk_Disk_Sync_1.N p1 (fun v w' => v = V ∧ Q w') w) : Calls Try.prog 47 #[.int .i64 p1] w (Ret V Q) := (disk_Disk_Sync_1.go p1 h).mono fun e w' ⟨v, he, hv, hq⟩ => ⟨by rw [he, hv], hq⟩

/-- (*disk.Disk).Down -/
def disk_Disk_Down.M (d1 : Option Addr) (R : Value → World → Prop) (w : World) : Prop :=
 bif !(Option.isNone d1) then (
 d1.elim False fun a2 =>
 ∃ (a0 : Int), w.cell? (a2.add 4) = some (.int .i64 a0) ∧
 R (.bool (a0 == 1)) w) else (
 R (.bool false) w)

theorem disk_Disk_Down.eq (d1 : Option Addr) (R : Value → World → Prop) (w : World) : mfunc Try.prog [] 24 [.pointer d1] R w = disk_Disk_Down.M d1 R w := by kernel_rfl
theorem disk_Disk_Down.ok (d1 : Option Addr) {R : Value → World → Prop} {w : World} (h : disk_Disk_Down.M d1 R w) : Calls Try.prog 24 #[.pointer d1] w fun e w' => ∃ v, e = .returned v ∧ R v w' :=
  mfunc_ok follows (H := []) (args := [.pointer d1]) (by rw [disk_Disk_Down.eq]; exact h)

def disk_Disk_Down.N (d1 : Option Addr) (R : Value → World → Prop) (w : World) : Prop :=
 (d1 ≠ none →
 ∃ a3 : Addr, d1 = some a3 ∧
 ∃ (a0 : Int), w.cell? (a3.add 4) = some (.int .i64 a0) ∧
 R (.bool (a0 == 1)) w) ∧
 (d1 = none →
 R (.bool false) w)

theorem disk_Disk_Down.up (d1 : Option Addr) {R : Value → World → Prop} {w : World} (h : disk_Disk_Down.N d1 R w) : disk_Disk_Down.M d1 R w := by
  unfold disk_Disk_Down.M
  unfold disk_Disk_Down.N at h
  refine bif_of (fun c2 => ?_) (fun c2 => ?_)
  · have h := h.1 (isNone_f (not_t c2))
    obtain ⟨a3, a2, h⟩ := h
    refine elim_some a2 ?_
    obtain ⟨a0, a1, h⟩ := h
    refine ⟨a0, a1, ?_⟩
    exact h
  · have h := h.2 (isNone_t (not_f c2))
    exact h

theorem disk_Disk_Down.go (d1 : Option Addr) {R : Value → World → Prop} {w : World} (h : disk_Disk_Down.N d1 R w) : Calls Try.prog 24 #[.pointer d1] w fun e w' => ∃ v, e = .returned v ∧ R v w' := disk_Disk_Down.ok d1 (disk_Disk_Down.up d1 h)
theorem disk_Disk_Down.run (d1 : Option Addr) {V : Value} {Q : World → Prop} {w : World} (h : disk_Disk_Down.N d1 (fun v w' => v = V ∧ Q w') w) : Calls Try.prog 24 #[.pointer d1] w (Ret V Q) := (disk_Disk_Down.go d1 h).mono fun e w' ⟨v, he, hv, hq⟩ => ⟨by rw [he, hv], hq⟩

/-- slices.Clone[[]disk.sector,disk.sector] -/
def slices_Clone_disk_sector_disk_sector.M (a2 : Option Addr) (a5 : Nat) (a6 : Nat) (R : Value → World → Prop) (w : World) : Prop :=
 bif Option.isNone a2 then (
 R (.slice none 0 0) w) else (
 thenW (w.alloc (.cells #[] 88)) fun a7 =>
 ∃ (a0 : Option Addr) (a3 : Nat) (a4 : Nat) (a1 : World), (Builtin.append_ #[75, 75] 75 #[.slice (some (blk w.heap.size)) 0 0, .slice a2 a5 a6]).run Try.prog a7 = .ok (.slice a0 a3 a4) a1 ∧
 R (.slice a0 a3 a4) a1)

theorem slices_Clone_disk_sector_disk_sector.eq (s1a : Option Addr) (s1n : Nat) (s1c : Nat) (R : Value → World → Prop) (w : World) : mfunc Try.prog [] 48 [.slice s1a s1n s1c] R w = slices_Clone_disk_sector_disk_sector.M s1a s1n s1c R w := by kernel_rfl
theorem slices_Clone_disk_sector_disk_sector.ok (a2 : Option Addr) (a0 : Nat) (a1 : Nat) {R : Value → World → Prop} {w : World} (h : slices_Clone_disk_sector_disk_sector.M a2 a0 a1 R w) : Calls Try.prog 48 #[.slice a2 a0 a1] w fun e w' => ∃ v, e = .returned v ∧ R v w' :=
  mfunc_ok follows (H := []) (args := [.slice a2 a0 a1]) (by rw [slices_Clone_disk_sector_disk_sector.eq]; exact h)

def slices_Clone_disk_sector_disk_sector.N (a1 : Option Addr) (a6 : Nat) (a7 : Nat) (R : Value → World → Prop) (w : World) : Prop :=
 (a1 = none →
 R (.slice none 0 0) w) ∧
 (a1 ≠ none →
 ∀ (a0 : World) (q4 : Nat), Ext no w a0 → Blk a0 q4 88 [] → w.heap.size ≤ q4 → q4 < a0.heap.size →
 ∃ (a4 : Option Addr) (a5 : Nat) (a3 : Nat) (a2 : World), (Builtin.append_ #[75, 75] 75 #[.slice (some (blk q4)) 0 0, .slice a1 a6 a7]).run Try.prog a0 = .ok (.slice a4 a5 a3) a2 ∧
 R (.slice a4 a5 a3) a2)

theorem slices_Clone_disk_sector_disk_sector.up (a0 : Option Addr) (a1 : Nat) (a2 : Nat) {R : Value → World → Prop} {w : World} (h : slices_Clone_disk_sector_disk_sector.N a0 a1 a2 R w) : slices_Clone_disk_sector_disk_sector.M a0 a1 a2 R w := by
  unfold slices_Clone_disk_sector_disk_sector.M
  unfold slices_Clone_disk_sector_disk_sector.N at h
  refine bif_of (fun c2 => ?_) (fun c2 => ?_)
  · have h := h.1 (isNone_t c2)
    exact h
  · have h := h.2 (isNone_f c2)
    refine thenW_in fun a7 e3 => ?_
    have h := h a7 w.heap.size ((Ext.refl no w).x_alloc e3) (Blk.of_new e3) ((Ext.refl no w)).size (size_lt_alloc e3)
    obtain ⟨a5, a6, a4, a3, hr, h⟩ := h
    refine ⟨a5, a6, a4, a3, hr, ?_⟩
    exact h

theorem slices_Clone_disk_sector_disk_sector.go (a2 : Option Addr) (a0 : Nat) (a1 : Nat) {R : Value → World → Prop} {w : World} (h : slices_Clone_disk_sector_disk_sector.N a2 a0 a1 R w) : Calls Try.prog 48 #[.slice a2 a0 a1] w fun e w' => ∃ v, e = .returned v ∧ R v w' := slices_Clone_disk_sector_disk_sector.ok a2 a0 a1 (slices_Clone_disk_sector_disk_sector.up a2 a0 a1 h)
/-- slices.Clone[[]disk.write,disk.write] -/
def slices_Clone_disk_write_disk_write.M (a2 : Option Addr) (a5 : Nat) (a6 : Nat) (R : Value → World → Prop) (w : World) : Prop :=
 bif Option.isNone a2 then (
 R (.slice none 0 0) w) else (
 thenW (w.alloc (.cells #[] 90)) fun a7 =>
 ∃ (a0 : Option Addr) (a3 : Nat) (a4 : Nat) (a1 : World), (Builtin.append_ #[76, 76] 76 #[.slice (some (blk w.heap.size)) 0 0, .slice a2 a5 a6]).run Try.prog a7 = .ok (.slice a0 a3 a4) a1 ∧
 R (.slice a0 a3 a4) a1)

theorem slices_Clone_disk_write_disk_write.eq (s1a : Option Addr) (s1n : Nat) (s1c : Nat) (R : Value → World → Prop) (w : World) : mfunc Try.prog [] 49 [.slice s1a s1n s1c] R w = slices_Clone_disk_write_disk_write.M s1a s1n s1c R w := by kernel_rfl
theorem slices_Clone_disk_write_disk_write.ok (a2 : Option Addr) (a0 : Nat) (a1 : Nat) {R : Value → World → Prop} {w : World} (h : slices_Clone_disk_write_disk_write.M a2 a0 a1 R w) : Calls Try.prog 49 #[.slice a2 a0 a1] w fun e w' => ∃ v, e = .returned v ∧ R v w' :=
  mfunc_ok follows (H := []) (args := [.slice a2 a0 a1]) (by rw [slices_Clone_disk_write_disk_write.eq]; exact h)

def slices_Clone_disk_write_disk_write.N (a1 : Option Addr) (a6 : Nat) (a7 : Nat) (R : Value → World → Prop) (w : World) : Prop :=
 (a1 = none →
 R (.slice none 0 0) w) ∧
 (a1 ≠ none →
 ∀ (a0 : World) (q4 : Nat), Ext no w a0 → Blk a0 q4 90 [] → w.heap.size ≤ q4 → q4 < a0.heap.size →
 ∃ (a4 : Option Addr) (a5 : Nat) (a3 : Nat) (a2 : World), (Builtin.append_ #[76, 76] 76 #[.slice (some (blk q4)) 0 0, .slice a1 a6 a7]).run Try.prog a0 = .ok (.slice a4 a5 a3) a2 ∧
 R (.slice a4 a5 a3) a2)

theorem slices_Clone_disk_write_disk_write.up (a0 : Option Addr) (a1 : Nat) (a2 : Nat) {R : Value → World → Prop} {w : World} (h : slices_Clone_disk_write_disk_write.N a0 a1 a2 R w) : slices_Clone_disk_write_disk_write.M a0 a1 a2 R w := by
  unfold slices_Clone_disk_write_disk_write.M
  unfold slices_Clone_disk_write_disk_write.N at h
  refine bif_of (fun c2 => ?_) (fun c2 => ?_)
  · have h := h.1 (isNone_t c2)
    exact h
  · have h := h.2 (isNone_f c2)
    refine thenW_in fun a7 e3 => ?_
    have h := h a7 w.heap.size ((Ext.refl no w).x_alloc e3) (Blk.of_new e3) ((Ext.refl no w)).size (size_lt_alloc e3)
    obtain ⟨a5, a6, a4, a3, hr, h⟩ := h
    refine ⟨a5, a6, a4, a3, hr, ?_⟩
    exact h

theorem slices_Clone_disk_write_disk_write.go (a2 : Option Addr) (a0 : Nat) (a1 : Nat) {R : Value → World → Prop} {w : World} (h : slices_Clone_disk_write_disk_write.N a2 a0 a1 R w) : Calls Try.prog 49 #[.slice a2 a0 a1] w fun e w' => ∃ v, e = .returned v ∧ R v w' := slices_Clone_disk_write_disk_write.ok a2 a0 a1 (slices_Clone_disk_write_disk_write.up a2 a0 a1 h)
end Go.Proofs.Ytgcjipbahfpopaa

/- Disk: sectors and writes as lists; a disk in memory; what the small functions answer. -/
set_option linter.unusedVariables false
set_option linter.unusedSimpArgs false
set_option maxRecDepth 20000
set_option maxHeartbeats 4000000
namespace Go.Proofs.Ytgcjipbahfpopaa
open Go Go.Mx Go.Proofs
open W (OwnB)
theorem inf88 : (Try.prog.info? 88).map (fun i => (i.zero, i.size, i.bytes)) = some (some (.agg (List.toArray (List.replicate 64 (.int .u8 0) ++ [.bool false]))), 65, 65) := by kernel_rfl
theorem inf90 : (Try.prog.info? 90).map (fun i => (i.zero, i.size, i.bytes)) = some (some (.agg (List.toArray ([.int .i64 0] ++ List.replicate 64 (.int .u8 0) ++ [.bool false]))), 66, 80) := by kernel_rfl
/-- a sector. -/
structure Sec where
  b : List UInt8
  torn : Bool
  h : b.length = 64
def Sec.C (s : Sec) : List Value := bytesV s.b ++ [.bool s.torn]
theorem bytesV_length (b : List UInt8) : (bytesV b).length = b.length := by unfold bytesV; simp
theorem Sec.len (s : Sec) : s.C.length = 65 := by unfold Sec.C; rw [List.length_append, bytesV_length, s.h]; rfl
def Sec.z : Sec := ⟨List.replicate 64 0, false, by simp⟩
/-- a write that is pending. -/
structure Wt where
  i : Int
  s : Sec
def Wt.C (x : Wt) : List Value := .int .i64 x.i :: x.s.C
theorem Wt.len (x : Wt) : x.C.length = 66 := by unfold Wt.C; rw [List.length_cons, x.s.len]
theorem bytesV_one {b : List UInt8} : ∀ u ∈ bytesV b, u.oneCell' = true := fun u hu => by
  unfold bytesV at hu
  obtain ⟨x, _, rfl⟩ := List.mem_map.1 hu
  rfl
theorem Sec.one (s : Sec) : ∀ u ∈ s.C, u.oneCell' = true := fun u hu => by
  rcases List.mem_append.1 hu with h | h
  · exact bytesV_one u h
  · simp at h; subst h; rfl
theorem Wt.one (x : Wt) : ∀ u ∈ x.C, u.oneCell' = true := fun u hu => by
  rcases List.mem_cons.1 hu with rfl | h
  · rfl
  · exact x.s.one u h
theorem sz65 : szB Try.prog 88 65 = true := by kernel_rfl
theorem sz66 : szB Try.prog 90 66 = true := by kernel_rfl
/-- a disk. -/
structure DS where
  good : List Sec
  pend : List Wt
  left : Int
  armed : Bool
  down : Bool
  count : Int
def stI (b : Bool) : Int := if b then 1 else 0
def DS.V (d : DS) (ga : Option Addr) (gc : Nat) (pa : Option Addr) (pc : Nat) : List Value := [.slice ga d.good.length gc, .slice pa d.pend.length pc, .int .i64 d.left, .bool d.armed, .int .i64 (stI d.down), .int .i64 d.count]
abbrev SRw (w : World) (o : Own) (g : Nat) (a : Option Addr) (c : Nat) (l : List Sec) : Prop := Grows 88 65 w o g a l.length c (l.flatMap Sec.C)
abbrev WRw (w : World) (o : Own) (g : Nat) (a : Option Addr) (c : Nat) (l : List Wt) : Prop := Grows 90 66 w o g a l.length c (l.flatMap Wt.C)
/-- a disk in memory, with all that is its own. -/
structure DG (w : World) (o : Own) (g : Nat) (d : DS) : Prop where
  mem : ∃ ga gc pa pc, Blk w g 79 (d.V ga gc pa pc) ∧ SRw w o g ga gc d.good ∧ WRw w o g pa pc d.pend
  tg : o g = some g
structure DS.ok (d : DS) (m : Nat) : Prop where
  n1 : 1 ≤ d.good.length
  n2 : d.good.length ≤ 400
  at_ : ∀ x ∈ d.pend, 0 ≤ x.i ∧ x.i < d.good.length
  pl : d.pend.length ≤ m
  cl : 0 ≤ d.count ∧ d.count ≤ m
  left : 0 ≤ d.left ∧ d.left < 9223372036854775808
def isD (d : DS) : Int := if d.down then 19 else 0
def hasD (d : DS) (i : Int) : Int := if d.down then 19 else if i < 0 ∨ (d.good.length : Int) ≤ i then 2 else 0
def lastP (i : Int) : Sec → List Wt → Sec
  | s, [] => s
  | s, x :: r => lastP i (if x.i = i then x.s else s) r
def readS (d : DS) (i : Int) : Sec := lastP i (d.good[i.toNat]?.getD Sec.z) d.pend
def readD (d : DS) (i : Int) : List UInt8 × Int := if hasD d i = 0 then (if (readS d i).torn then ([], 5) else ((readS d i).b, 0)) else ([], hasD d i)
def writeD (d : DS) (i : Int) (b : List UInt8) : DS × Int :=
  if hasD d i = 0 then
    (if h : b.length = 64 then
      (if d.armed then
        (if d.left = 0 then ({ d with pend := d.pend ++ [⟨i, ⟨b, true, h⟩⟩], down := true }, 19)
         else ({ d with pend := d.pend ++ [⟨i, ⟨b, false, h⟩⟩], left := d.left - 1, count := d.count + 1 }, 0))
       else ({ d with pend := d.pend ++ [⟨i, ⟨b, false, h⟩⟩], count := d.count + 1 }, 0))
     else (d, 1))
  else (d, hasD d i)
def settleL (k : Nat → Bool) : Nat → List Sec → List Wt → List Sec
  | _, g, [] => g
  | t, g, x :: r => settleL k (t + 1) (if k t then g.set x.i.toNat x.s else g) r
def settleD (d : DS) (k : Nat → Bool) : DS := { d with good := settleL k 0 d.good d.pend, pend := [] }
def syncD (d : DS) : DS × Int := if d.down then (d, 19) else (settleD d fun _ => true, 0)
def keepF (l : List Bool) (t : Nat) : Bool := l[t]?.getD false
section
variable {K : Nat → Prop} {w w' w1 : World} {o o' o1 : Own} {g g2 : Nat} {d : DS} {i : Int}
theorem DG.step (h : DG w o g d) (s : Step K w o w' o') (hk : ¬ K g) : DG w' o' g d := by
  obtain ⟨⟨ga, gc, pa, pc, hb, hg, hp⟩, tg⟩ := h
  exact ⟨⟨ga, gc, pa, pc, s.blk hb tg hk, hg.step s hk, hp.step s hk⟩, by rw [s.own hb.lt]; exact tg⟩
theorem DG.lt (h : DG w o g d) : g < w.heap.size := by
  obtain ⟨⟨ga, gc, pa, pc, hb, hg, hp⟩, tg⟩ := h
  exact hb.lt
/-- the disk's numbers turned. -/
theorem DG.turn {ga pa : Option Addr} {gc pc : Nat} {d2 : DS} {cs0 : List Value} (hg : SRw w o g ga gc d2.good) (hp : WRw w o g pa pc d2.pend) (tg : o g = some g) (hb0 : Blk w g 79 cs0) (ok : Tags w o) (X : Ext (fun b => b = g) w w')
    (hb : Blk w' g 79 (d2.V ga gc pa pc)) : Step (fun j => j = g) w o w' (grow w o) ∧ DG w' (grow w o) g d2 := by
  have s : Step (fun j => j = g) w o w' (grow w o) := Step.of_ext X ok fun b hb _ => by subst hb; exact tg
  refine ⟨s, ⟨ga, gc, pa, pc, hb, ?_, ?_⟩, by rw [s.own hb0.lt]; exact tg⟩
  · exact hg.keep X (hg.ne hb0 (by decide)) fun b hb => s.own hb
  · exact hp.keep X (hp.ne hb0 (by decide)) fun b hb => s.own hb
theorem is_spec (h : DG w o g d) : Calls Try.prog 43 #[.pointer (some (blk g))] w (Ret (.int .i64 (isD d)) fun w' => w' = w) := by
  obtain ⟨⟨ga, gc, pa, pc, hb, hg, hp⟩, tg⟩ := h
  refine disk_Disk_is.run _ ?_
  unfold disk_Disk_is.N
  refine ⟨fun h => (by cases h), fun _ => ⟨_, rfl, stI d.down, hb.celli 4 rfl rfl, fun h => ⟨?_, rfl⟩, fun h => ⟨?_, rfl⟩⟩⟩
  all_goals unfold stI at h; unfold isD
  · cases hd : d.down
    · rw [hd] at h; cases h
    · rfl
  · cases hd : d.down
    · rfl
    · rw [hd] at h; exact absurd rfl h
theorem has_spec (h : DG w o g d) (i : Int) : Calls Try.prog 46 #[.pointer (some (blk g)), .int .i64 i] w (Ret (.int .i64 (hasD d i)) fun w' => w' = w) := by
  refine disk_Disk_has.run _ _ ?_
  unfold disk_Disk_has.N
  refine (is_spec h).mono fun e w5 ⟨he, hw⟩ => ⟨_, he, fun hn => ?_, fun h0 => ?_⟩
  · subst hw
    refine ⟨?_, rfl⟩
    unfold isD at hn ⊢; unfold hasD
    cases hd : d.down
    · rw [hd] at hn; exact absurd rfl hn
    · rfl
  · subst hw
    have hd : d.down = false := by
      unfold isD at h0
      cases hd : d.down
      · rfl
      · rw [hd] at h0; cases h0
    obtain ⟨⟨ga, gc, pa, pc, hb, hg, hp⟩, tg⟩ := h
    unfold hasD
    rw [hd]
    refine ⟨fun hi => ⟨?_, rfl⟩, fun hi => ⟨_, rfl, ga, _, gc, hb.celli 0 rfl rfl, fun hn => ⟨?_, rfl⟩, fun hn => ⟨?_, rfl⟩⟩⟩
    · rw [if_neg (by decide), if_pos (.inl hi)]
    · rw [if_neg (by decide), if_pos (.inr hn)]
    · rw [if_neg (by decide), if_neg (by omega)]
theorem Down_spec (h : DG w o g d) : Calls Try.prog 24 #[.pointer (some (blk g))] w (Ret (.bool d.down) fun w' => w' = w) := by
  obtain ⟨⟨ga, gc, pa, pc, hb, hg, hp⟩, tg⟩ := h
  refine disk_Disk_Down.run _ ?_
  unfold disk_Disk_Down.N
  refine ⟨fun _ => ⟨_, rfl, stI d.down, hb.celli 4 rfl rfl, ?_, rfl⟩, fun h => (by cases h)⟩
  unfold stI
  cases d.down <;> rfl
theorem Sectors_spec (h : DG w o g d) : Calls Try.prog 53 #[.pointer (some (blk g))] w (Ret (.int .i64 d.good.length) fun w' => w' = w) := by
  obtain ⟨⟨ga, gc, pa, pc, hb, hg, hp⟩, tg⟩ := h
  refine disk_Disk_Sectors.run _ ?_
  unfold disk_Disk_Sectors.N
  exact ⟨fun h => (by cases h), fun _ => ⟨_, rfl, ga, _, gc, hb.celli 0 rfl rfl, rfl, rfl⟩⟩
end
end Go.Proofs.Ytgcjipbahfpopaa

/- Disk: Read and Write. -/
set_option linter.unusedVariables false
set_option linter.unusedSimpArgs false
set_option maxRecDepth 20000
set_option maxHeartbeats 4000000
namespace Go.Proofs.Ytgcjipbahfpopaa
open Go Go.Mx Go.Proofs
open W (OwnB)
theorem inf5 : (Try.prog.info? 5).map (fun i => (i.zero, i.size, i.bytes)) = some (some (.int .u8 0), 1, 1) := by kernel_rfl
section
variable {K : Nat → Prop} {w w' w1 : World} {o o' o1 : Own} {g g2 m : Nat} {d : DS} {i : Int}
/-- bytes that are read: a fresh array, the reader's. -/
def RdD (w : World) (o : Own) (r : List UInt8 × Int) (a : Option Addr) (n c : Nat) (w' : World) (o' : Own) : Prop :=
  n = r.1.length ∧ n ≤ c ∧ Step no w o w' o' ∧ (r.2 ≠ 0 → a = none ∧ r.1 = []) ∧ (r.2 = 0 → ∃ q t, a = some (blk q) ∧ Blk w' q 88 (bytesV r.1 ++ [.bool t]) ∧ r.1.length = 64 ∧ w.heap.size ≤ q ∧ o' q = some q)
theorem lastP_snoc (i : Int) (x : Wt) : ∀ (l : List Wt) (s : Sec), lastP i s (l ++ [x]) = if x.i = i then x.s else lastP i s l
  | [], _ => rfl
  | y :: r, s => lastP_snoc i x r _
theorem hasD_0 (h : hasD d i = 0) : d.down = false ∧ 0 ≤ i ∧ i < d.good.length := by
  unfold hasD at h
  cases hd : d.down
  · rw [hd, if_neg (by decide)] at h
    by_cases hi : i < 0 ∨ (d.good.length : Int) ≤ i
    · rw [if_pos hi] at h; cases h
    · exact ⟨rfl, by omega, by omega⟩
  · rw [hd, if_pos rfl] at h; cases h
theorem Sec.arr (s : Sec) : szB Try.prog 88 s.C.toArray.size = true := by rw [List.size_toArray, s.len]; exact sz65
theorem Wt.arr (x : Wt) : szB Try.prog 90 x.C.toArray.size = true := by rw [List.size_toArray, x.len]; exact sz66
theorem setAll_all {vs cs : List Value} (h : vs.length = cs.length) : setAll cs 0 vs = vs := by
  have := setAll_head (cs := []) h
  simpa using this
/-- a whole value stored into a block of its size. -/
theorem stores_all {q : Nat} {t : TypeId} {cs vs : List Value} {Φ : World → Prop} (hb : Blk w q t cs) (hl : vs.length = cs.length) (h1 : ∀ v ∈ vs, v.oneCell' = true) (h : ∀ w', Ext (fun b => b = q) w w' → Blk w' q t vs → Φ w') : storesK (blk q) vs 0 w Φ := by
  have := storesK_blk (k := 0) (j := 0) hb (vs := vs) (by omega) h1 (Φ := Φ) fun w' X hb' => h w' X (by rwa [Nat.zero_add, setAll_all hl] at hb')
  exact this
theorem dRead_spec (h : DG w o g d) (ok : Tags w o) (i : Int) (hpl : d.pend.length < 1000000) :
    Calls Try.prog 50 #[.pointer (some (blk g)), .int .i64 i] w (fun x w' => ∃ a n c o', x = .returned (.tuple #[.slice a n c, .int .i64 (readD d i).2]) ∧ RdD w o (readD d i) a n c w' o') := by
  refine (disk_Disk_Read.go _ _ (R := fun v w' => ∃ a n c o', v = (.tuple #[.slice a n c, .int .i64 (readD d i).2]) ∧ RdD w o (readD d i) a n c w' o') ?_).mono fun x w' ⟨v, he, a, n, c, o', hv, hR⟩ => ⟨a, n, c, o', by rw [he, hv], hR⟩
  unfold disk_Disk_Read.N
  refine (has_spec h i).mono fun e w5 ⟨he, hw⟩ => ⟨_, he, fun hn => ?_, fun h0 => ?_⟩
  · subst hw
    unfold readD
    rw [if_neg hn]
    exact ⟨none, 0, 0, o, rfl, rfl, Nat.le_refl _, Step.refl _ ok, fun _ => ⟨rfl, rfl⟩, fun h => absurd h hn⟩
  subst hw
  obtain ⟨hd, hi0, hi1⟩ := hasD_0 h0
  have h' := h
  obtain ⟨⟨ga, gc, pa, pc, hb, hg, hp⟩, tg⟩ := h
  have hgt : d.good[i.toNat]? = some d.good[i.toNat] := List.getElem?_eq_getElem (by omega)
  have hrd : readS d i = lastP i (d.good[i.toNat]'(by omega)) d.pend := by unfold readS; rw [hgt]; rfl
  generalize hs0 : d.good[i.toNat]'(by omega) = s0 at *
  have hgr := hg.row
  obtain ⟨ad, rfl⟩ := hgr.faddr Sec.len (by decide) (i := i.toNat) (by omega)
  refine ⟨_, rfl, some ad, _, gc, hb.celli 0 rfl rfl, ad, rfl, hi0, hi1, s0.C.toArray, s0.arr, hgr.floads Sec.len hgt, fun w13 q14 X13 hb13 hq hq' => ⟨s0.arr, stores_all hb13 (by rw [s0.len]; simp) s0.one fun w15 X15 hb15 => ?_⟩⟩
  have s13 := (Step.of_no X13 ok).tag (j := q14) hq hq'
  have M13 : Mine [q14] w13 (tag (grow w5 o) q14 q14) := fun p hp => by rw [show p = q14 by simpa using hp]; exact ⟨hq', tag_self⟩
  have s15' := Step.stores X15 s13.ok M13 (by simp)
  have s15 : Step no w5 o w15 _ := s13.trans' s15' fun j hj => .inr (by simp at hj; omega)
  have hbk : ∀ {w1 : World} {o1 : Own}, Step no w5 o w1 o1 → Blk w1 g 79 (d.V (some ad) gc pa pc) := fun s => s.blk hb tg id
  refine ⟨pa, _, pc, (hbk s15).celli 1 rfl rfl, fun k vs w1 => ∃ (t : Nat) (o1 : Own), vs = [.int .i64 t] ∧ k + t = d.pend.length ∧ Step no w5 o w1 o1 ∧ Mine [q14] w1 o1 ∧ Blk w1 q14 88 (lastP i s0 (d.pend.take t)).C, d.pend.length, ⟨0, _, rfl, rfl, s15, M13.step s15', hb15⟩, ?_⟩
  rintro k w21 t0 ⟨t, o21, hi, hk, s21, M21, hb21⟩
  simp only [List.cons.injEq, Value.int.injEq, true_and, and_true] at hi
  subst hi
  refine ⟨fun ht => ?_, fun ht => ?_⟩
  · have htl : t < d.pend.length := by omega
    have hgp : d.pend[t]? = some d.pend[t] := List.getElem?_eq_getElem htl
    have htk : d.pend.take (t + 1) = d.pend.take t ++ [d.pend[t]] := by rw [List.take_add_one, hgp]; rfl
    generalize d.pend[t] = x at *
    have hpr := (hp.step s21 id).row
    obtain ⟨pd, rfl⟩ := hpr.faddr Wt.len (by decide) htl
    refine ⟨pd, rfl, by omega, by omega, x.C.toArray, x.arr, by rw [Int.toNat_natCast]; exact hpr.floads Wt.len hgp, fun w26 q27 X26 hb26 hq2 hq2' => ⟨x.arr, stores_all hb26 (by rw [x.len]; simp) x.one fun w28 X28 hb28 => ?_⟩⟩
    have s26 := (Step.of_no X26 s21.ok).tag (j := q27) hq2 hq2'
    have M26 : Mine [q27] w26 (tag (grow w21 o21) q27 q27) := fun p hp => by rw [show p = q27 by simpa using hp]; exact ⟨hq2', tag_self⟩
    have s28' := Step.stores X28 s26.ok M26 (by simp)
    have s28 : Step no w21 o21 w28 _ := s26.trans' s28' fun j hj => .inr (by simp at hj; omega)
    have hq14 := M21.lt (p := q14) (by simp)
    have M28 := M21.step s28
    have hb14 := s28.blk hb21 (M21 q14 (by simp)).2 id
    have s528 := s21.trans s28
    refine ⟨x.i, hb28.celli 0 rfl rfl, fun hxi => ⟨x.s.C.toArray, x.s.arr, ?_, x.s.arr, stores_all hb14 (by rw [x.s.len, Sec.len]) x.s.one fun w34 X34 hb34 => ⟨by omega, by omega, ?_⟩⟩, fun hxi => ⟨by omega, by omega, k - 1, by omega, t + 1, _, rfl, by omega, s528, M28, ?_⟩⟩
    · exact cellsAt_blk hb28 _ 0 fun n v hv => by rw [show 1 + 0 + n = n + 1 by omega]; exact hv
    · have s34' := Step.stores X34 s528.ok M28 (by simp)
      exact ⟨k - 1, by omega, t + 1, _, rfl, by omega, s528.trans' s34' fun j hj => .inr (by simp at hj; omega), M28.step s34', by rw [htk, lastP_snoc, if_pos hxi]; exact hb34⟩
    · rw [htk, lastP_snoc, if_neg hxi]; exact hb14
  · rw [List.take_of_length_le (by omega), ← hrd] at hb21
    have hcell : w21.cell? ((blk q14).add 64) = some (.bool (readS d i).torn) := hb21.celli 64 rfl (by
      unfold Sec.C
      rw [List.getElem?_append_right (by rw [bytesV_length, (readS d i).h]; omega), bytesV_length, (readS d i).h]; rfl)
    refine ⟨_, hcell, fun htn => ?_, fun htn => ?_⟩
    · unfold readD
      rw [if_pos h0, if_pos htn]
      exact ⟨none, 0, 0, o21, rfl, rfl, Nat.le_refl _, s21, fun _ => ⟨rfl, rfl⟩, fun h => absurd h (by decide)⟩
    · unfold readD
      rw [if_pos h0, if_neg (by rw [htn]; decide)]
      exact ⟨some (blk q14), 64, 64, o21, rfl, (readS d i).h.symm, Nat.le_refl _, s21, fun h => absurd rfl h, fun _ => ⟨q14, _, rfl, hb21, (readS d i).h, hq, (M21 q14 (by simp)).2⟩⟩
end
end Go.Proofs.Ytgcjipbahfpopaa

/- Disk: Write. -/
set_option linter.unusedVariables false
set_option linter.unusedSimpArgs false
set_option maxRecDepth 20000
set_option maxHeartbeats 4000000
namespace Go.Proofs.Ytgcjipbahfpopaa
open Go Go.Mx Go.Proofs
open W (OwnB)
section
variable {K : Nat → Prop} {w w' w1 : World} {o o' o1 : Own} {g g2 m : Nat} {d : DS} {i : Int} {a : Option Addr} {c : Nat} {l : List Wt}
theorem Wts.one {l : List Wt} : ∀ u ∈ l.flatMap Wt.C, u.oneCell' = true := fun u hu => by
  obtain ⟨x, _, h⟩ := List.mem_flatMap.1 hu
  exact x.one u h
theorem WRw.push (h : WRw w o g a c l) (ok : Tags w o) (hg : g < w.heap.size) (hl : l.length < 1000000) {xa : Option Addr} {xc : Nat} {r : List Wt} (hr : RowAt w xa (r.flatMap Wt.C)) (hrl : r.length < 1000000) :
    ∃ a' n' c' w' o', (Builtin.append_ #[76, 76] 76 #[.slice a l.length c, .slice xa r.length xc]).run Try.prog w = .ok (.slice a' n' c') w' ∧ n' = (l ++ r).length ∧ Step (fun j => j = g) w o w' o' ∧ WRw w' o' g a' c' (l ++ r) ∧ Ext (fun b => ∃ ad, a = some ad ∧ b = ad.block) w w' := by
  obtain ⟨i, hi, hz, hsz, hby⟩ := info_of inf90
  obtain ⟨a', c', w', o', hrun, s2, hrow, hk, _⟩ := Grows.push (ty := 76) Try.underlying76 hi hz hsz hby rfl (by decide) h ok hg (xa := xa) (m := r.length) (xc := xc) (news := r.flatMap Wt.C) (flat_length Wt.len r) hr Wts.one (by omega) (by omega)
  exact ⟨a', _, c', w', o', hrun, by simp, s2, by unfold WRw; rw [List.length_append, List.flatMap_append]; exact hrow, ⟨s2.ext.os, s2.ext.tape, s2.ext.output, s2.ext.size, fun b hb hn => hk b hb fun ad ha hb' => hn ⟨ad, ha, hb'⟩⟩⟩
theorem last_set (l : List Wt) (x y : Wt) (k : Nat) (v : Value) (hk : k < 66) (h : x.C.set k v = y.C) : ((l ++ [x]).flatMap Wt.C).set (l.length * 66 + k) v = (l ++ [y]).flatMap Wt.C := by
  rw [List.flatMap_append, List.set_append_right _ _ (by rw [flat_length Wt.len]; omega), flat_length Wt.len, List.flatMap_append]
  congr 1
  rw [show l.length * 66 + k - l.length * 66 = k by omega]
  simpa using h
/-- a write is pending. -/
theorem pend_spec (h : DG w o g d) (ok : Tags w o) (hpl : d.pend.length < 100000) (x : Wt) {q : Nat} (hb : Blk w q 90 x.C) :
    ∃ pa n pc, w.cell? ((blk g).add 1) = some (.slice pa n pc) ∧ ∃ a' n' c' w' o', (Builtin.append_ #[76, 76] 76 #[.slice pa n pc, .slice (some (blk q)) 1 1]).run Try.prog w = .ok (.slice a' n' c') w' ∧ Step (fun j => j = g) w o w' o' ∧
      canStore w' ((blk g).add 1) ∧ ∀ w2, w2 = w'.setCell ((blk g).add 1) (.slice a' n' c') → Step (fun j => j = g) w o w2 (grow w' o') ∧ DG w2 (grow w' o') g { d with pend := d.pend ++ [x] } := by
  obtain ⟨⟨ga, gc, pa, pc, hbk, hg, hp⟩, tg⟩ := h
  obtain ⟨a', n', c', w', o', hrun, hn, s2, hp2, X2⟩ := hp.push ok hbk.lt (by omega) (xa := some (blk q)) (xc := 1) (r := [x]) (by simpa using RowAt.of_blk hb) (by simp)
  subst hn
  have hb2 : Blk w' g 79 (d.V ga gc pa pc) := hbk.ext X2 fun ⟨ad, h1, h2⟩ => hp.ne hbk (by decide) ad h1 h2.symm
  have hg2 : SRw w' o' g ga gc d.good := hg.keep X2 (fun ad ha ⟨ad', h1, h2⟩ => hg.apart hp (by decide) ad ad' ha h1 h2) fun b hb => s2.own hb
  have tg2 : o' g = some g := by rw [s2.own hbk.lt]; exact tg
  refine ⟨pa, _, pc, hbk.celli 1 rfl rfl, a', _, c', w', o', hrun, s2, hb2.cani 1 rfl rfl, fun w3 e3 => ?_⟩
  have X3 := (Ext.refl (fun b => b = g) w').x_set (q := g) (i := 1) rfl (.inl rfl) e3
  have b3 := hb2.seti 1 (v := .slice a' (d.pend ++ [x]).length c') rfl e3
  obtain ⟨s3, D3⟩ := DG.turn (d2 := { d with pend := d.pend ++ [x] }) hg2 hp2 tg2 hb2 s2.ok X3 b3
  exact ⟨s2.trans s3, D3⟩
/-- the last one that is pending is torn. -/
theorem tear_spec {x y : Wt} (h : DG w o g { d with pend := d.pend ++ [x] }) (ok : Tags w o) (hpl : d.pend.length < 100000) (hxy : x.C.set 65 (.bool true) = y.C) :
    ∃ pa n pc, w.cell? ((blk g).add 1) = some (.slice pa n pc) ∧ n = d.pend.length + 1 ∧ ∃ ad, pa = some ad ∧ ∀ w2, Ext no w w2 → canStore w2 (ad.add (d.pend.length * 66 + 65)) ∧ ∀ w3, w3 = w2.setCell (ad.add (d.pend.length * 66 + 65)) (.bool true) → ∃ o', Step (fun j => j = g) w o w3 o' ∧ DG w3 o' g { d with pend := d.pend ++ [y] } := by
  have hh := h
  obtain ⟨⟨ga, gc, pa, pc, hbk, hg, hp⟩, tg⟩ := h
  have hl : (d.pend ++ [x]).length = d.pend.length + 1 := by simp
  have hne : (d.pend ++ [x]).flatMap Wt.C ≠ [] := fun e => by
    have := congrArg List.length e
    rw [flat_length Wt.len, hl] at this; simp at this
  obtain ⟨b, cur, ha, hb, hle, hob, hbl, hput⟩ := Grows.put (j := d.pend.length * 66 + 65) (vs := [.bool true]) hp ok hne
  subst ha
  have hj : d.pend.length * 66 + 65 < cur.length := by
    have : ((d.pend ++ [x]).flatMap Wt.C).length = (d.pend.length + 1) * 66 := by rw [flat_length Wt.len, hl]
    have hle' : ((d.pend ++ [x]).flatMap Wt.C).length ≤ cur.length := hle
    omega
  refine ⟨_, _, pc, hbk.celli 1 rfl rfl, hl, blk b, rfl, fun w2 X => ⟨?_, fun w3 e3 => ?_⟩⟩
  · have hb2 := hb.ext X (fun h => h)
    exact hb2.cana (List.getElem?_eq_getElem hj)
  · have hb2 := hb.ext X (fun h => h)
    rw [add_blk] at e3
    have X3 : Ext (fun q => q = b) w w3 := (X.mono fun _ h _ => h.elim : Ext (fun q => q = b) w w2).x_set (q := b) (i := d.pend.length * 66 + 65) rfl (.inl rfl) e3
    have b3 := hb2.seti (d.pend.length * 66 + 65) (v := .bool true) rfl e3
    obtain ⟨s3, h3⟩ := hput w3 X3 b3
    have hset : setAll ((d.pend ++ [x]).flatMap Wt.C) (d.pend.length * 66 + 65) [.bool true] = (d.pend ++ [y]).flatMap Wt.C := last_set d.pend x y 65 _ (by decide) hxy
    refine ⟨_, s3, ⟨ga, gc, some (blk b), pc, ?_, ?_, ?_⟩, by rw [s3.own hbk.lt]; exact tg⟩
    · have hgb : g ≠ b := fun e => hp.ne hbk (by decide) _ rfl (by rw [e])
      have := hbk.ext X3 hgb
      have e : (DS.V { d with pend := d.pend ++ [y] } ga gc (some (blk b)) pc) = (DS.V { d with pend := d.pend ++ [x] } ga gc (some (blk b)) pc) := by unfold DS.V; simp
      rw [e]; exact this
    · exact hg.keep X3 (fun ad ha h2 => hg.apart hp (by decide) ad (blk b) ha rfl h2) fun b hb => s3.own hb
    · unfold WRw
      rw [← hset, show (d.pend ++ [y]).length = (d.pend ++ [x]).length by simp]
      exact h3
theorem zeros_write (i : Int) (b : List UInt8) (t : Bool) (h : b.length = 64) : setAll ([Value.int .i64 i] ++ List.replicate 64 (.int .u8 0) ++ [.bool t]) 1 (bytesV b) = Wt.C ⟨i, ⟨b, t, h⟩⟩ := by
  have := setAll_mid (u := [Value.int .i64 i]) (x := List.replicate 64 (.int .u8 0)) (y := [.bool t]) (v := bytesV b) (by rw [bytesV_length, h]; simp)
  rw [show ([Value.int .i64 i] : List Value).length = 1 from rfl] at this
  rw [this]; rfl
theorem dWrite_spec (h : DG w o g d) (ok : Tags w o) (hd : d.ok m) (hm : m < 100000) (i : Int) {ba : Option Addr} {bc : Nat} {b : List UInt8} (hb : RowAt w ba (bytesV b)) :
    Calls Try.prog 28 #[.pointer (some (blk g)), .int .i64 i, .slice ba b.length bc] w (Ret (.int .i64 (writeD d i b).2) fun w' => ∃ o', Step (fun j => j = g) w o w' o' ∧ DG w' o' g (writeD d i b).1) := by
  refine disk_Disk_Write.run _ _ _ _ _ ?_
  unfold disk_Disk_Write.N
  refine (has_spec h i).mono fun e w6 ⟨he, hw⟩ => ⟨_, he, fun hn => ?_, fun h0 => ?_⟩
  · subst hw
    unfold writeD
    rw [if_neg hn]
    exact ⟨rfl, o, Step.refl _ ok, h⟩
  subst hw
  refine ⟨fun hn => ?_, fun h64 w9 q10 X9 hb9 hq hq' => ?_⟩
  · unfold writeD
    rw [if_pos h0, dif_neg (by omega)]
    exact ⟨rfl, o, Step.refl _ ok, h⟩
  have hbl : b.length = 64 := by omega
  have hpl := hd.pl
  have s9 := (Step.of_no X9 ok).tag (j := q10) hq hq'
  have M9 : Mine [q10] w9 (tag (grow w6 o) q10 q10) := fun p hp => by rw [show p = q10 by simpa using hp]; exact ⟨hq', tag_self⟩
  refine putsK_ok (k := 0) hb9 (by simp) fun w76 X76 hb76 => ?_
  rw [Nat.zero_add, setAll_all (by simp)] at hb76
  have s76' := Step.stores X76 s9.ok M9 (by simp)
  have s76 : Step no w6 o w76 _ := s9.trans' s76' fun j hj => .inr (by simp at hj; omega)
  have M76 := M9.step s76'
  have hb6 : RowAt w76 ba (bytesV b) := (hb.no X9).ext' X76 fun hne ad ha (e : ad.block = q10) => by have := hb.lt hne ha; omega
  obtain ⟨bd, rfl⟩ := hb6.addr fun e => by have := congrArg List.length e; rw [bytesV_length, hbl] at this; cases this
  obtain ⟨u8, hu, hz, hsz, hby⟩ := info_of inf5
  have hcl : (bytesV b).length = 64 := by rw [bytesV_length, hbl]
  have hcopy := run_copy_gen (P := Try.prog) (dT := 23) (sT := 23) (ty := 3) (dLen := 64) (dCap := 64) (sLen := b.length) (sCap := bc) (n := 64) (sz := 1) (o := 1) (a := bd) Try.underlying23 hu hsz (by rw [hbl]; rfl) (by rw [hcl]) (fun j v hv => hb6.at_ hv) hb76 (by rw [hcl]; simp) bytesV_one
  obtain ⟨hb78, X78⟩ := setCells_setAll (cs := bytesV b) (o := 1) hb76 (by rw [hcl]; simp)
  generalize w76.setCells q10 1 (bytesV b) = w78 at *
  have s78' := Step.stores X78 s76.ok M76 (by simp)
  have s78 : Step no w6 o w78 _ := s76.trans' s78' fun j hj => .inr (by simp at hj; omega)
  rw [zeros_write i b false hbl] at hb78
  refine ⟨_, w78, hcopy, ?_⟩
  have D78 := h.step s78 id
  obtain ⟨x, hx⟩ : ∃ x : Wt, x = ⟨i, ⟨b, false, hbl⟩⟩ := ⟨_, rfl⟩
  rw [← hx] at hb78
  have hcell1 : ∃ pa n pc, w78.cell? ((blk g).add 1) = some (.slice pa n pc) := by
    obtain ⟨⟨ga, gc, pa, pc, hbk, _, _⟩, _⟩ := D78
    exact ⟨pa, _, pc, hbk.celli 1 rfl rfl⟩
  obtain ⟨pa, pn, pc, hc78⟩ := hcell1
  refine ⟨blk g, rfl, pa, pn, pc, hc78, x.C.toArray, x.arr, cellsAt_blk (k := 0) hb78 _ 0 fun n v hv => by rw [show 0 + 0 + n = n by omega]; exact hv, x.arr, fun w85 q86 X85 hb85 hq2 hq2' => ?_⟩
  have s85' := Step.of_no X85 s78.ok
  have s85 := s78.trans s85'
  have D85 := D78.step s85' id
  obtain ⟨pa2, pn2, pc2, hc85, a', n', c', w89, o89, hrun, s89, hcan, hst⟩ := pend_spec D85 s85.ok (by omega) x hb85
  have e2 : (Value.slice pa pn pc) = .slice pa2 pn2 pc2 := by
    have := X85.cell hc78 id
    rw [hc85] at this
    exact (Option.some.inj this).symm
  cases e2
  refine ⟨hc85, a', n', c', w89, hrun, hcan, thenW_in fun w90 e90 => ?_⟩
  obtain ⟨s90', D90⟩ := hst w90 e90
  have s90 : Step (fun j => j = g) w6 o w90 _ := s85.none.trans s90'
  have hW : writeD d i b = if d.armed then (if d.left = 0 then ({ d with pend := d.pend ++ [⟨i, ⟨b, true, hbl⟩⟩], down := true }, 19) else ({ d with pend := d.pend ++ [x], left := d.left - 1, count := d.count + 1 }, 0)) else ({ d with pend := d.pend ++ [x], count := d.count + 1 }, 0) := by
    unfold writeD; rw [if_pos h0, dif_pos hbl, ← hx]
  have hx' : ∀ y : Wt, y = ⟨i, ⟨b, true, hbl⟩⟩ → x.C.set 65 (.bool true) = y.C := fun y hy => by
    subst hx; subst hy
    show (Value.int .i64 i :: (bytesV b ++ [.bool false])).set 65 (.bool true) = Value.int .i64 i :: (bytesV b ++ [.bool true])
    rw [List.set_cons_succ, List.set_append_right _ _ (by rw [hcl]; omega), hcl]; rfl
  have hcl := hd.cl
  have hleft := hd.left
  have D90' := D90
  obtain ⟨⟨ga, gc, pa3, pc3, hbk, hg3, hp3⟩, tg⟩ := D90
  refine ⟨d.armed, hbk.celli 3 rfl rfl, fun har => ⟨d.left, hbk.celli 2 rfl rfl, fun hl0 => ?_, fun hl0 => ?_⟩, fun har => ?_⟩
  · rw [hW, if_pos har, if_pos hl0]
    refine ⟨hbk.cani 4 rfl rfl, thenW_in fun w97 e97 => ?_⟩
    have X97 := (Ext.refl (fun b => b = g) w90).x_set (q := g) (i := 4) rfl (.inl rfl) e97
    have b97 := hbk.seti 4 (v := .int .i64 1) rfl e97
    obtain ⟨s97, D97⟩ := DG.turn (d2 := { d with pend := d.pend ++ [x], down := true }) hg3 hp3 tg hbk s90'.ok X97 b97
    obtain ⟨pa4, pn4, pc4, hc97, hpn, ad, hpa, hfin⟩ := tear_spec (d := { d with down := true }) (x := x) (y := ⟨i, ⟨b, true, hbl⟩⟩) D97 s97.ok (by show d.pend.length < _; omega) (hx' _ rfl)
    subst hpn; subst hpa
    refine ⟨_, _, _, hc97, _, _, _, hc97, by show _ ≤ ((d.pend.length + 1 : Nat) : Int) - 1; omega, by show ((d.pend.length + 1 : Nat) : Int) - 1 < _; omega, ad, rfl, by show _ ≤ ((d.pend.length + 1 : Nat) : Int) - 1; omega, by show ((d.pend.length + 1 : Nat) : Int) - 1 < ((d.pend.length + 1 : Nat) : Int); omega, fun w98 X98 => ?_⟩
    obtain ⟨hcs, hst3⟩ := hfin w98 X98
    have e5 : (((ad.add (Int.toNat (((d.pend.length + 1 : Nat) : Int) - 1) * 66)).add 1).add 64).add 0 = ad.add (d.pend.length * 66 + 65) := by
      rw [add_add, add_add, add_add]; congr 1; omega
    show canStore w98 ((((ad.add (Int.toNat (((d.pend.length + 1 : Nat) : Int) - 1) * 66)).add 1).add 64).add 0) ∧ thenW (w98.setCell ((((ad.add (Int.toNat (((d.pend.length + 1 : Nat) : Int) - 1) * 66)).add 1).add 64).add 0) (.bool true)) _
    rw [e5]
    refine ⟨hcs, thenW_in fun w104 e104 => ?_⟩
    obtain ⟨o104, s104, D104⟩ := hst3 w104 e104
    exact ⟨rfl, _, (s90.trans s97).trans s104, D104⟩
  · rw [hW, if_pos har, if_neg hl0]
    refine ⟨d.left, hbk.celli 2 rfl rfl, by omega, by omega, hbk.cani 2 rfl rfl, thenW_in fun w107 e107 => ?_⟩
    have X107 := (Ext.refl (fun b => b = g) w90).x_set (q := g) (i := 2) rfl (.inl rfl) e107
    have b107 := hbk.seti 2 (v := .int .i64 (d.left - 1)) rfl e107
    refine ⟨d.count, b107.celli 5 rfl rfl, by omega, by omega, b107.cani 5 rfl rfl, thenW_in fun w110 e110 => ?_⟩
    have X110 := X107.x_set (q := g) (i := 5) rfl (.inl rfl) e110
    have b110 := b107.seti 5 (v := .int .i64 (d.count + 1)) rfl e110
    obtain ⟨s97, D97⟩ := DG.turn (d2 := { d with pend := d.pend ++ [x], left := d.left - 1, count := d.count + 1 }) hg3 hp3 tg hbk s90'.ok X110 b110
    exact ⟨rfl, _, s90.trans s97, D97⟩
  · rw [hW, if_neg (by rw [har]; decide)]
    refine ⟨d.count, hbk.celli 5 rfl rfl, by omega, by omega, hbk.cani 5 rfl rfl, thenW_in fun w113 e113 => ?_⟩
    have X113 := (Ext.refl (fun b => b = g) w90).x_set (q := g) (i := 5) rfl (.inl rfl) e113
    have b113 := hbk.seti 5 (v := .int .i64 (d.count + 1)) rfl e113
    obtain ⟨s97, D97⟩ := DG.turn (d2 := { d with pend := d.pend ++ [x], count := d.count + 1 }) hg3 hp3 tg hbk s90'.ok X113 b113
    exact ⟨rfl, _, s90.trans s97, D97⟩
end
end Go.Proofs.Ytgcjipbahfpopaa

/- Disk: settle, Sync, Restart, Copy, New. -/
set_option linter.unusedVariables false
set_option linter.unusedSimpArgs false
set_option maxRecDepth 20000
set_option maxHeartbeats 4000000
namespace Go.Proofs.Ytgcjipbahfpopaa
open Go Go.Mx Go.Proofs
open W (OwnB)
section
variable {K : Nat → Prop} {w w' w1 : World} {o o' o1 : Own} {g g2 m : Nat} {d : DS} {i : Int} {a : Option Addr} {c : Nat} {l : List Wt}
/-- a disk in memory whose rows lie where they lay. -/
structure DGa (w : World) (o : Own) (g : Nat) (d : DS) (ga : Option Addr) (gc : Nat) (pa : Option Addr) (pc : Nat) : Prop where
  b : Blk w g 79 (d.V ga gc pa pc)
  hg : SRw w o g ga gc d.good
  hp : WRw w o g pa pc d.pend
  tg : o g = some g
variable {ga pa : Option Addr} {gc pc : Nat}
theorem DGa.dg (h : DGa w o g d ga gc pa pc) : DG w o g d := ⟨⟨ga, gc, pa, pc, h.b, h.hg, h.hp⟩, h.tg⟩
theorem DGa.step (h : DGa w o g d ga gc pa pc) (s : Step K w o w' o') (hk : ¬ K g) : DGa w' o' g d ga gc pa pc :=
  ⟨s.blk h.b h.tg hk, h.hg.step s hk, h.hp.step s hk, by rw [s.own h.b.lt]; exact h.tg⟩
/-- a sector of its stored. -/
theorem DGa.put (h : DGa w o g d ga gc pa pc) (ok : Tags w o) {j : Nat} (hj : j < d.good.length) (s : Sec) {ad : Addr} (ha : ga = some ad) {Φ : World → Prop}
    (hΦ : ∀ w' o', Step (fun i => i = g) w o w' o' → DGa w' o' g { d with good := d.good.set j s } ga gc pa pc → Φ w') : storesK (ad.add (j * 65)) s.C 0 w Φ := by
  have hne : d.good.flatMap Sec.C ≠ [] := fun e => by
    have := congrArg List.length e
    rw [flat_length Sec.len] at this; simp at this; omega
  obtain ⟨b, cur, hb, hbb, hle, hob, hbl, hput⟩ := Grows.put (j := j * 65) (vs := s.C) h.hg ok hne
  rw [ha] at hb
  cases hb
  rw [flat_length Sec.len] at hle
  have h2 : (j + 1) * 65 ≤ d.good.length * 65 := Nat.mul_le_mul_right _ hj
  refine storesK_blk (k := j * 65) (j := 0) hbb (by rw [s.len]; omega) s.one fun w' X hb' => ?_
  obtain ⟨st, hg2⟩ := hput w' X hb'
  rw [setAll_flat Sec.len s hj] at hg2
  have hgb : g ≠ b := fun e => h.hg.ne h.b (by decide) (blk b) ha (by rw [e])
  refine hΦ w' _ st ⟨?_, by unfold SRw; rw [List.length_set]; exact hg2, h.hp.keep X (fun ad2 h3 h4 => h.hp.apart h.hg (by decide) ad2 (blk b) h3 ha h4) (fun b hb => st.own hb), by rw [st.own h.b.lt]; exact h.tg⟩
  have e : DS.V { d with good := d.good.set j s } ga gc pa pc = d.V ga gc pa pc := by unfold DS.V; simp
  rw [e]
  exact h.b.ext X hgb
theorem settleL_len (k : Nat → Bool) : ∀ (l : List Wt) (t : Nat) (gl : List Sec), (settleL k t gl l).length = gl.length
  | [], _, _ => rfl
  | x :: r, t, gl => by
    rw [settleL, settleL_len k r]
    split
    · rw [List.length_set]
    · rfl
theorem settle_spec (h : DG w o g d) (ok : Tags w o) (hd : d.ok m) (hm : m < 100000) {kk : Nat} {kf kg : Array Value} {k : Nat → Bool}
    (hk : ∀ (t : Nat) w1 o1, t < d.pend.length → Step (fun j => j = g) w o w1 o1 → enters Try.prog kk = true ∧ Calls Try.prog kk (kf.toList ++ ([.int .i64 (t : Int)] : List Value) ++ kg.toList).toArray w1 (Ret (.bool (k t)) fun w2 => w2 = w1)) :
    Calls Try.prog 45 #[.pointer (some (blk g)), .func (.func kk) kf kg] w (Ret (.tuple #[]) fun w' => ∃ o', Step (fun j => j = g) w o w' o' ∧ DG w' o' g (settleD d k)) := by
  refine disk_Disk_settle.run _ _ _ _ ?_
  unfold disk_Disk_settle.N
  obtain ⟨⟨ga, gc, pa, pc, hb, hg, hp⟩, tg⟩ := h
  have hpl := hd.pl
  refine ⟨_, rfl, pa, _, pc, hb.celli 1 rfl rfl, fun q vs w1 => ∃ (t : Nat) (gl : List Sec) (o1 : Own), vs = [.int .i64 t] ∧ q + t = d.pend.length ∧ Step (fun j => j = g) w o w1 o1 ∧ DGa w1 o1 g { d with good := gl } ga gc pa pc ∧ gl.length = d.good.length ∧ settleL k t gl (d.pend.drop t) = settleL k 0 d.good d.pend, d.pend.length, ⟨0, d.good, o, rfl, rfl, Step.refl _ ok, ⟨hb, hg, hp, tg⟩, rfl, rfl⟩, ?_⟩
  rintro q w9 t0 ⟨t, gl, o9, hi, hq, s9, D, hgl, hset⟩
  simp only [List.cons.injEq, Value.int.injEq, true_and, and_true] at hi
  subst hi
  refine ⟨fun ht => ?_, fun ht => ?_⟩
  · have htl : t < d.pend.length := by omega
    have hgp : d.pend[t]? = some d.pend[t] := List.getElem?_eq_getElem htl
    have hat := hd.at_ _ (List.getElem_mem htl)
    rw [List.drop_eq_getElem_cons htl, settleL] at hset
    generalize d.pend[t] = x at *
    have hpr := D.hp.row
    obtain ⟨pd, hpd⟩ := hpr.faddr Wt.len (by decide) htl
    subst hpd
    refine ⟨pd, rfl, by omega, by omega, x.C.toArray, x.arr, by rw [Int.toNat_natCast]; exact hpr.floads Wt.len hgp, fun w14 q15 X14 hb14 hq1 hq2 => ⟨x.arr, stores_all hb14 (by rw [x.len]; simp) x.one fun w16 X16 hb16 => ?_⟩⟩
    have s14 := (Step.of_no X14 s9.ok).tag (j := q15) hq1 hq2
    have M14 : Mine [q15] w14 (tag (grow w9 o9) q15 q15) := fun p hp => by rw [show p = q15 by simpa using hp]; exact ⟨hq2, tag_self⟩
    have s16' := Step.stores X16 s14.ok M14 (by simp)
    have s16 : Step no w9 o9 w16 _ := s14.trans' s16' fun j hj => .inr (by simp at hj; omega)
    have sw16 := s9.trans s16.none
    obtain ⟨hen, hcall⟩ := hk t w16 _ htl sw16
    have D16 := D.step s16 id
    refine ⟨hen, hcall.mono fun e w19 ⟨he, hw⟩ => ⟨_, he, fun hr => ?_, fun hr => ?_⟩⟩
    all_goals subst hw
    · rw [if_pos hr] at hset
      have hgr := D16.hg.row
      obtain ⟨gd, hgd⟩ := hgr.faddr Sec.len (by decide) (i := x.i.toNat) (by show _ < gl.length; omega)
      subst hgd
      refine ⟨some gd, _, gc, D16.b.celli 0 rfl rfl, x.i, hb16.celli 0 rfl rfl, x.s.C.toArray, x.s.arr, cellsAt_blk (k := 1) hb16 _ 0 fun n v hv => by rw [show 1 + 0 + n = n + 1 by omega]; exact hv, gd, rfl, hat.1, by show x.i < ((gl.length : Nat) : Int); omega, fun w21 X21 => ⟨x.s.arr, ?_⟩⟩
      have s21' := Step.of_no X21 sw16.ok
      have D21 := D16.step s21' id
      refine D21.put s21'.ok (j := x.i.toNat) (by show _ < gl.length; omega) x.s rfl fun w29 o29 s29 D29 => ⟨by omega, by omega, q - 1, by omega, t + 1, gl.set x.i.toNat x.s, o29, rfl, by omega, (sw16.trans s21'.none).trans s29, D29, by rw [List.length_set]; exact hgl, hset⟩
    · rw [if_neg (by rw [hr]; decide)] at hset
      exact ⟨by omega, by omega, q - 1, by omega, t + 1, gl, _, rfl, by omega, sw16, D16, hgl, hset⟩
  · have htt : t = d.pend.length := by omega
    rw [List.drop_eq_nil_of_le (by omega)] at hset
    refine ⟨D.b.cani 1 rfl rfl, thenW_in fun w32 e32 => ?_⟩
    have X32 := (Ext.refl (fun b => b = g) w9).x_set (q := g) (i := 1) rfl (.inl rfl) e32
    have b32 := D.b.seti 1 (v := .slice none 0 0) rfl e32
    obtain ⟨s32, D32⟩ := DG.turn (d2 := { d with good := gl, pend := [] }) D.hg (Grows.nil _ _ _ _ _) D.tg D.b s9.ok X32 b32
    refine ⟨rfl, _, s9.trans s32, ?_⟩
    have e : settleD d k = { d with good := gl, pend := [] } := by
      unfold settleD; rw [← hset]; rfl
    rw [e]; exact D32
theorem settleD_ok (hd : d.ok m) (k : Nat → Bool) : (settleD d k).ok m := by
  have h := settleL_len k d.pend 0 d.good
  exact ⟨by show 1 ≤ (settleL _ _ _ _).length; rw [h]; exact hd.n1, by show (settleL _ _ _ _).length ≤ 400; rw [h]; exact hd.n2, fun x hx => (by cases hx), Nat.zero_le _, hd.cl, hd.left⟩
theorem dSync_spec (h : DG w o g d) (ok : Tags w o) (hd : d.ok m) (hm : m < 100000) : Calls Try.prog 29 #[.pointer (some (blk g))] w (Ret (.int .i64 (syncD d).2) fun w' => ∃ o', Step (fun j => j = g) w o w' o' ∧ DG w' o' g (syncD d).1) := by
  refine disk_Disk_Sync.run _ ?_
  unfold disk_Disk_Sync.N
  refine (is_spec h).mono fun e w4 ⟨he, hw⟩ => ⟨_, he, fun hn => ?_, fun h0 => ?_⟩
  all_goals subst hw
  · unfold isD at hn ⊢; unfold syncD
    cases hdn : d.down
    · rw [hdn] at hn; exact absurd rfl hn
    · exact ⟨rfl, o, Step.refl _ ok, h⟩
  · have hS : syncD d = (settleD d fun _ => true, 0) := by
      unfold syncD; rw [if_neg]
      intro hdn; unfold isD at h0; rw [if_pos hdn] at h0; cases h0
    rw [hS]
    refine (settle_spec h ok hd hm (k := fun _ => true) fun t w1 o1 ht s => ⟨by kernel_rfl, by refine disk_Disk_Sync_1.run _ ?_; exact ⟨rfl, rfl⟩⟩).mono fun e w7 ⟨he, o', s, D⟩ => ⟨he, rfl, o', s, D⟩
theorem Secs.one {l : List Sec} : ∀ u ∈ l.flatMap Sec.C, u.oneCell' = true := fun u hu => by
  obtain ⟨x, _, h⟩ := List.mem_flatMap.1 hu
  exact x.one u h
theorem cloneS_spec (ok : Tags w o) (hg : g < w.heap.size) {l : List Sec} (hr : RowAt w a (l.flatMap Sec.C)) (hl : l.length < 1000000) :
    Calls Try.prog 48 #[.slice a l.length c] w (fun x w' => ∃ o' a' c', x = .returned (.slice a' l.length c') ∧ Step (fun j => j = g) w o w' o' ∧ SRw w' o' g a' c' l ∧ Ext no w w') := by
  refine (slices_Clone_disk_sector_disk_sector.go _ _ _ (R := fun v w' => ∃ o' a' c', v = (.slice a' l.length c') ∧ Step (fun j => j = g) w o w' o' ∧ SRw w' o' g a' c' l ∧ Ext no w w') ?_).mono fun x w' ⟨v, he, o', a', c', hv, hw⟩ => ⟨o', a', c', by rw [he, hv], hw⟩
  unfold slices_Clone_disk_sector_disk_sector.N
  refine ⟨fun hn => ?_, fun hn w3 q X hb hq hq' => ?_⟩
  · subst hn
    have h0 := hr.none_nil
    have : l = [] := by
      have := flat_length (f := Sec.C) Sec.len l
      rw [h0] at this
      exact List.eq_nil_of_length_eq_zero (by simp at this; omega)
    subst this
    exact ⟨o, none, 0, rfl, Step.refl _ ok, Grows.nil _ _ _ _ _, Ext.refl _ _⟩
  · obtain ⟨i, hi, hz, hsz, hby⟩ := info_of inf88
    have s3 := (Step.of_no X ok).tag (j := g) hq (Nat.lt_of_lt_of_le hg X.size)
    have g3 : Grows 88 65 w3 (tag (grow w o) q g) g (some (blk q)) 0 0 [] := ⟨owns_of_blk hb rfl (Nat.zero_le _), fun ad ha => by cases ha; exact ⟨tag_self, hq'⟩⟩
    obtain ⟨a', c', w6, o6, hrun, s6, hrow, hkk, _⟩ := g3.push (ty := 75) Try.underlying75 hi hz hsz hby rfl (by decide) s3.ok (Nat.lt_of_lt_of_le hg X.size) (xa := a) (m := l.length) (xc := c) (news := l.flatMap Sec.C) (flat_length Sec.len l) (hr.no X) Secs.one (by omega) (by omega)
    rw [Nat.zero_add, List.nil_append] at hrow
    rw [Nat.zero_add] at hrun
    have X6 : Ext (fun b => b = q) w3 w6 := ⟨s6.ext.os, s6.ext.tape, s6.ext.output, s6.ext.size, fun b hb hn => hkk b hb fun ad ha hb' => hn (by cases ha; exact hb')⟩
    exact ⟨a', _, c', w6, hrun, o6, a', c', rfl, s3.none.trans s6, hrow, X.then X6 fun b hb => .inr (by omega)⟩
theorem cloneW_spec (ok : Tags w o) (hg : g < w.heap.size) (hr : RowAt w a (l.flatMap Wt.C)) (hl : l.length < 1000000) :
    Calls Try.prog 49 #[.slice a l.length c] w (fun x w' => ∃ o' a' c', x = .returned (.slice a' l.length c') ∧ Step (fun j => j = g) w o w' o' ∧ WRw w' o' g a' c' l ∧ Ext no w w') := by
  refine (slices_Clone_disk_write_disk_write.go _ _ _ (R := fun v w' => ∃ o' a' c', v = (.slice a' l.length c') ∧ Step (fun j => j = g) w o w' o' ∧ WRw w' o' g a' c' l ∧ Ext no w w') ?_).mono fun x w' ⟨v, he, o', a', c', hv, hw⟩ => ⟨o', a', c', by rw [he, hv], hw⟩
  unfold slices_Clone_disk_write_disk_write.N
  refine ⟨fun hn => ?_, fun hn w3 q X hb hq hq' => ?_⟩
  · subst hn
    have h0 := hr.none_nil
    have : l = [] := by
      have := flat_length (f := Wt.C) Wt.len l
      rw [h0] at this
      exact List.eq_nil_of_length_eq_zero (by simp at this; omega)
    subst this
    exact ⟨o, none, 0, rfl, Step.refl _ ok, Grows.nil _ _ _ _ _, Ext.refl _ _⟩
  · have s3 := (Step.of_no X ok).tag (j := g) hq (Nat.lt_of_lt_of_le hg X.size)
    have g3 : WRw w3 (tag (grow w o) q g) g (some (blk q)) 0 [] := ⟨owns_of_blk hb rfl (Nat.zero_le _), fun ad ha => by cases ha; exact ⟨tag_self, hq'⟩⟩
    obtain ⟨a', n', c', w6, o6, hrun, hn', s6, hrow, X6⟩ := g3.push s3.ok (Nat.lt_of_lt_of_le hg X.size) (by simp) (xa := a) (xc := c) (hr.no X) hl
    rw [List.nil_append] at hrow hn'
    exact ⟨a', n', c', w6, hrun, o6, a', c', by rw [hn'], s3.none.trans s6, hrow, X.then X6 fun b ⟨ad, h1, h2⟩ => .inr (by cases h1; rw [h2]; exact hq)⟩
theorem dCopy_spec (h : DG w o g d) (ok : Tags w o) (hd : d.ok m) (hm : m < 100000) : Calls Try.prog 30 #[.pointer (some (blk g))] w (fun x w' => ∃ q o', x = .returned (.pointer (some (blk q))) ∧ w.heap.size ≤ q ∧ Step no w o w' o' ∧ DG w' o' q d) := by
  refine (disk_Disk_Copy.go _ (R := fun v w' => ∃ q o', v = (.pointer (some (blk q))) ∧ w.heap.size ≤ q ∧ Step no w o w' o' ∧ DG w' o' q d) ?_).mono fun x w' ⟨v, he, q, o', hv, hw⟩ => ⟨q, o', by rw [he, hv], hw⟩
  unfold disk_Disk_Copy.N
  refine ⟨fun h => (by cases h), fun _ => ?_⟩
  have hpl := hd.pl
  have hn2 := hd.n2
  obtain ⟨⟨ga, gc, pa, pc, hb, hg, hp⟩, tg⟩ := h
  refine ⟨_, rfl, ga, _, gc, pa, _, pc, d.left, d.armed, stI d.down, d.count, ⟨hb.celli 0 rfl rfl, hb.celli 1 rfl rfl, hb.celli 2 rfl rfl, hb.celli 3 rfl rfl, hb.celli 4 rfl rfl, hb.celli 5 rfl rfl, trivial⟩, fun w11 q12 X11 hb11 hq hq' => ?_⟩
  have hgq : g ≠ q12 := by have := hb.lt; omega
  have s11 := (Step.of_no X11 ok).tag (j := q12) hq hq'
  have M11 : Mine [q12] w11 (tag (grow w o) q12 q12) := fun p hp => by rw [show p = q12 by simpa using hp]; exact ⟨hq', tag_self⟩
  refine ⟨hb11.cani 0 rfl rfl, thenW_in fun w13 e13 => ?_⟩
  have X13 := (Ext.refl (fun b => b = q12) w11).x_set (q := q12) (i := 0) rfl (.inl rfl) e13
  have b13 := hb11.seti 0 (v := .slice ga d.good.length gc) rfl e13
  refine ⟨b13.cani 1 rfl rfl, thenW_in fun w14 e14 => ?_⟩
  have X14 := X13.x_set (q := q12) (i := 1) rfl (.inl rfl) e14
  have b14 := b13.seti 1 (v := .slice pa d.pend.length pc) rfl e14
  refine ⟨b14.cani 2 rfl rfl, thenW_in fun w15 e15 => ?_⟩
  have X15 := X14.x_set (q := q12) (i := 2) rfl (.inl rfl) e15
  have b15 := b14.seti 2 (v := .int .i64 d.left) rfl e15
  refine ⟨b15.cani 3 rfl rfl, thenW_in fun w16 e16 => ?_⟩
  have X16 := X15.x_set (q := q12) (i := 3) rfl (.inl rfl) e16
  have b16 := b15.seti 3 (v := .bool d.armed) rfl e16
  refine ⟨b16.cani 4 rfl rfl, thenW_in fun w17 e17 => ?_⟩
  have X17 := X16.x_set (q := q12) (i := 4) rfl (.inl rfl) e17
  have b17 := b16.seti 4 (v := .int .i64 (stI d.down)) rfl e17
  refine ⟨b17.cani 5 rfl rfl, thenW_in fun w18 e18 => ?_⟩
  have X18 := X17.x_set (q := q12) (i := 5) rfl (.inl rfl) e18
  have b18 := b17.seti 5 (v := .int .i64 d.count) rfl e18
  have s18' := Step.stores X18 s11.ok M11 (by simp)
  have s18 : Step no w o w18 _ := s11.trans' s18' fun j hj => .inr (by simp at hj; omega)
  have M18 := M11.step s18'
  have hb18 := s18.blk hb tg id
  refine ⟨ga, _, gc, hb18.celli 0 rfl rfl, pa, _, pc, hb18.celli 1 rfl rfl, fun w19 X19 => ?_⟩
  have s19' := Step.of_no X19 s18'.ok
  have s19 := s18.trans s19'
  have b19 := s19'.blk b18 (M18 q12 (by simp)).2 id
  have M19 := M18.step s19'
  have hq19 := M19.lt (p := q12) (by simp)
  refine (cloneS_spec (g := q12) s19'.ok hq19 (hg.step s19 id).row (by omega)).mono fun e w26 ⟨o26, a26, c26, he, s26, r26, X26⟩ => ⟨_, _, _, he, ?_⟩
  have s26w : Step no w o w26 o26 := s19.trans' s26 fun j hj => .inr (by omega)
  refine ⟨(s26w.blk hb tg id).celli 1 rfl rfl, (cloneW_spec (g := q12) s26.ok (Nat.lt_of_lt_of_le hq19 s26.size) (hp.step s26w id).row (by omega)).mono fun e w30 ⟨o30, a30, c30, he, s30, r30, X30⟩ => ⟨_, _, _, he, ?_⟩⟩
  have hq26 := Nat.lt_of_lt_of_le hq19 s26.size
  have s30w : Step no w o w30 o30 := s26w.trans' s30 fun j hj => .inr (by omega)
  have t26 : o26 q12 = some q12 := by rw [s26.own hq19]; exact (M19 q12 (by simp)).2
  have t30 : o30 q12 = some q12 := by rw [s30.own hq26]; exact t26
  have b30 := (b19.ext X26 fun h => h).ext X30 fun h => h
  refine ⟨b30.cani 0 rfl rfl, thenW_in fun w31 e31 => ?_⟩
  have X31 := (Ext.refl (fun b => b = q12) w30).x_set (q := q12) (i := 0) rfl (.inl rfl) e31
  have b31 := b30.seti 0 (v := .slice a26 d.good.length c26) rfl e31
  refine ⟨b31.cani 1 rfl rfl, thenW_in fun w32 e32 => ?_⟩
  have X32 := X31.x_set (q := q12) (i := 1) rfl (.inl rfl) e32
  have b32 := b31.seti 1 (v := .slice a30 d.pend.length c30) rfl e32
  have r26' : SRw w30 o30 q12 a26 c26 d.good := r26.keep X30 (fun _ _ h => h) fun b hb => s30.own hb
  obtain ⟨s32, D32⟩ := DG.turn (d2 := d) r26' r30 t30 b30 s30.ok X32 b32
  exact ⟨q12, _, rfl, hq, s30w.trans' s32 fun j hj => .inr (by omega), D32⟩
theorem zero_sectors (n : Nat) (z : Array Value) (hz : z.toList = Sec.z.C) : madeCells z (n * 65) = ((List.replicate n Sec.z).flatMap Sec.C).toArray := by
  apply Array.ext'
  apply List.ext_getElem?
  intro j
  have hzs : z.size = 65 := by rw [← Array.length_toList, hz, Sec.len]
  by_cases hj : j < n * 65
  · have h1 : j / 65 < n := by omega
    have h2 : (List.replicate n Sec.z)[j / 65]? = some Sec.z := by rw [List.getElem?_replicate, if_pos h1]
    have h3 := flat_get Sec.len h2 (j % 65) (by omega)
    rw [show j / 65 * 65 + j % 65 = j by omega] at h3
    show _ = ((List.replicate n Sec.z).flatMap Sec.C)[j]?
    rw [h3]
    have h4 : j % 65 < z.size := by omega
    have h5 : (madeCells z (n * 65)).toList[j]? = some (z[j % z.size]!) := by
      unfold madeCells
      simp [hj]
    rw [h5, hzs, getElem!_pos z (j % 65) h4, ← hz, List.getElem?_eq_getElem (by simpa using h4)]
    simp
  · rw [List.getElem?_eq_none (by unfold madeCells; simp; omega), List.getElem?_eq_none (by show ((List.replicate n Sec.z).flatMap Sec.C).length ≤ j; rw [flat_length Sec.len]; simp; omega)]
def newDS (n : Nat) : DS := ⟨List.replicate n Sec.z, [], 0, false, false, 0⟩
theorem dNew_spec (ok : Tags w o) {n : Nat} (h1 : 1 ≤ n) (h2 : n ≤ 400) : Calls Try.prog 19 #[.int .i64 n] w (fun x w' => ∃ q o', x = .returned (.tuple #[.pointer (some (blk q)), .int .i64 0]) ∧ w.heap.size ≤ q ∧ Step no w o w' o' ∧ DG w' o' q (newDS n)) := by
  refine (disk_New.go _ (R := fun v w' => ∃ q o', v = (.tuple #[.pointer (some (blk q)), .int .i64 0]) ∧ w.heap.size ≤ q ∧ Step no w o w' o' ∧ DG w' o' q (newDS n)) ?_).mono fun x w' ⟨v, he, q, o', hv, hw⟩ => ⟨q, o', by rw [he, hv], hw⟩
  unfold disk_New.N
  obtain ⟨i, hi, hz, hs, hb⟩ := info_of inf88
  have hmk := run_makeSlice (P := Try.prog) (w := w) 75 88 i _ Try.underlying75 hi hz .i64 .i64 n n (by omega) (Int.le_refl _) (by rw [hs]; omega) (by rw [hb]; omega) (by omega)
  have hzz : madeCells (Value.agg (List.replicate 64 (Value.int IntKind.u8 0) ++ [Value.bool false]).toArray).cells (n * 65) = ((List.replicate n Sec.z).flatMap Sec.C).toArray := zero_sectors n _ rfl
  rw [hs, Int.toNat_natCast, hzz] at hmk
  refine ⟨fun h => by omega, fun _ => ⟨fun h => by omega, fun _ => ⟨_, _, _, _, hmk, fun w6 q7 X6 hb6 hq hq' => ?_⟩⟩⟩
  have X5 : Ext no w (w.alloc (.cells ((List.replicate n Sec.z).flatMap Sec.C).toArray 88)) := (Ext.refl _ _).alloc _
  have b5 : Blk (w.alloc (.cells ((List.replicate n Sec.z).flatMap Sec.C).toArray 88)) w.heap.size 88 ((List.replicate n Sec.z).flatMap Sec.C) := Blk.new _ _ _
  have b6 := b5.ext X6 fun h => h
  have hsz : (w.alloc (.cells ((List.replicate n Sec.z).flatMap Sec.C).toArray 88)).heap.size = w.heap.size + 1 := by simp
  rw [hsz] at hq
  have s6 := ((Step.of_no (X5.trans X6) ok).tag (p := w.heap.size) (j := q7) (Nat.le_refl _) hq').tag (p := q7) (j := q7) (by omega) hq'
  refine ⟨q7, _, rfl, by omega, s6, ⟨some (blk w.heap.size), n, none, 0, ?_, ⟨?_, fun ad ha => ?_⟩, Grows.nil _ _ _ _ _⟩, tag_self⟩
  · have e : (newDS n).V (some (blk w.heap.size)) n none 0 = [.slice (some (blk w.heap.size)) n n, .slice none 0 0, .int .i64 0, .bool false, .int .i64 0, .int .i64 0] := by unfold DS.V newDS; simp [stI]
    rw [e]; exact hb6
  · have hn : (newDS n).good.length = n := by unfold newDS; simp
    rw [hn]
    exact owns_of_blk b6 (by rw [flat_length Sec.len, hn]) (by unfold maxLen; omega)
  · cases ha
    exact ⟨by rw [tag_ne (by show w.heap.size ≠ q7; omega)]; exact tag_self, b6.lt⟩
end
end Go.Proofs.Ytgcjipbahfpopaa

/- Journal: predicates of a journal on a disk. -/
set_option linter.unusedVariables false
set_option linter.unusedSimpArgs false
set_option maxRecDepth 20000
set_option maxHeartbeats 4000000
namespace Go.Proofs.Ytgcjipbahfpopaa
open Go Go.Mx Go.Proofs
/-- journal.stretch -/
def journal_stretch.M (d1 : Option Addr) (a1 : Int) (a2 : Int) (ag : Int) (R : Value → World → Prop) (w : World) : Prop :=
 Calls Try.prog 53 #[.pointer d1] w fun co a3 => ∃ (a0 : Int), co = .returned (.int .i64 a0) ∧
 bif Option.isNone d1 then (
 bif ag != 0 then (
 bif decide (a1 ≥ 0) then (
 bif decide (a2 ≥ 1) then (
 R (.tuple #[.slice none 0 0, .int .i64 23]) a3) else (
 bif ag == 0 then (
 R (.tuple #[.slice none 0 0, .int .i64 1]) a3) else (
 bif decide (a1 < 0) then (
 R (.tuple #[.slice none 0 0, .int .i64 1]) a3) else (
 bif decide (a2 < 1) then (
 R (.tuple #[.slice none 0 0, .int .i64 1]) a3) else (
 bif decide (a1 > a0) then (
 R (.tuple #[.slice none 0 0, .int .i64 1]) a3) else (
 bif decide (a2 > (IntKind.i64.wrap (a0 - a1))) then (
 R (.tuple #[.slice none 0 0, .int .i64 1]) a3) else (
 Calls Try.prog 24 #[.pointer d1] a3 fun cj b8 => ∃ (ak : Bool), cj = .returned (.bool ak) ∧
 bif ak then (
 R (.tuple #[.slice none 0 0, .int .i64 19]) b8) else (
 ∃ (I1 : Nat → List Value → World → Prop) (cl : Nat), I1 cl [.slice none 0 0, .int .i64 0] b8 ∧ ∀ (ce : Nat) (b0 : World) (aw : Option Addr) (ay : Nat) (av : Nat) (bz : Int), I1 ce [.slice aw ay av, .int .i64 bz] b0 →
 bif decide (bz < a2) then (
 Calls Try.prog 50 #[.pointer d1, .int .i64 (IntKind.i64.wrap (a1 + bz))] b0 fun c6 bh => ∃ (ae : Option Addr) (a4 : Nat) (a8 : Nat) (az : Int), c6 = .returned (.tuple #[.slice ae a4 a8, .int .i64 az]) ∧
 thenW (bh.alloc (.cells #[.slice ae a4 a8] 23)) fun c1 =>
 ∃ (ba : Option Addr) (be : Nat) (bq : Nat) (b9 : World), (Builtin.append_ #[25, 25] 25 #[.slice aw ay av, .slice (some (blk bh.heap.size)) 1 1]).run Try.prog c1 = .ok (.slice ba be bq) b9 ∧
 ∃ ci, ci < ce ∧ I1 ci [.slice ba be bq, .int .i64 (IntKind.i64.wrap (bz + 1))] b9) else (
 R (.tuple #[.slice aw ay av, .int .i64 0]) b0))))))))) else (
 bif ag == 0 then (
 R (.tuple #[.slice none 0 0, .int .i64 1]) a3) else (
 bif decide (a1 < 0) then (
 R (.tuple #[.slice none 0 0, .int .i64 1]) a3) else (
 bif decide (a2 < 1) then (
 R (.tuple #[.slice none 0 0, .int .i64 1]) a3) else (
 bif decide (a1 > a0) then (
 R (.tuple #[.slice none 0 0, .int .i64 1]) a3) else (
 bif decide (a2 > (IntKind.i64.wrap (a0 - a1))) then (
 R (.tuple #[.slice none 0 0, .int .i64 1]) a3) else (
 Calls Try.prog 24 #[.pointer d1] a3 fun ca bl => ∃ (ai : Bool), ca = .returned (.bool ai) ∧
 bif ai then (
 R (.tuple #[.slice none 0 0, .int .i64 19]) bl) else (
 ∃ (I1 : Nat → List Value → World → Prop) (cn : Nat), I1 cn [.slice none 0 0, .int .i64 0] bl ∧ ∀ (ch : Nat) (ax : World) (am : Option Addr) (ar : Nat) (b3 : Nat) (bw : Int), I1 ch [.slice am ar b3, .int .i64 bw] ax →
 bif decide (bw < a2) then (
 Calls Try.prog 50 #[.pointer d1, .int .i64 (IntKind.i64.wrap (a1 + bw))] ax fun c3 bs => ∃ (af : Option Addr) (ab : Nat) (ad : Nat) (au : Int), c3 = .returned (.tuple #[.slice af ab ad, .int .i64 au]) ∧
 thenW (bs.alloc (.cells #[.slice af ab ad] 23)) fun c7 =>
 ∃ (bo : Option Addr) (bf : Nat) (bt : Nat) (br : World), (Builtin.append_ #[25, 25] 25 #[.slice am ar b3, .slice (some (blk bs.heap.size)) 1 1]).run Try.prog c7 = .ok (.slice bo bf bt) br ∧
 ∃ cb, cb < ch ∧ I1 cb [.slice bo bf bt, .int .i64 (IntKind.i64.wrap (bw + 1))] br) else (
 R (.tuple #[.slice am ar b3, .int .i64 0]) ax))))))))) else (
 bif ag == 0 then (
 R (.tuple #[.slice none 0 0, .int .i64 1]) a3) else (
 bif decide (a1 < 0) then (
 R (.tuple #[.slice none 0 0, .int .i64 1]) a3) else (
 bif decide (a2 < 1) then (
 R (.tuple #[.slice none 0 0, .int .i64 1]) a3) else (
 bif decide (a1 > a0) then (
 R (.tuple #[.slice none 0 0, .int .i64 1]) a3) else (
 bif decide (a2 > (IntKind.i64.wrap (a0 - a1))) then (
 R (.tuple #[.slice none 0 0, .int .i64 1]) a3) else (
 Calls Try.prog 24 #[.pointer d1] a3 fun c4 bp => ∃ (ah : Bool), c4 = .returned (.bool ah) ∧
 bif ah then (
 R (.tuple #[.slice none 0 0, .int .i64 19]) bp) else (
 ∃ (I1 : Nat → List Value → World → Prop) (ck : Nat), I1 ck [.slice none 0 0, .int .i64 0] bp ∧ ∀ (cf : Nat) (al : World) (b5 : Option Addr) (ao : Nat) (b1 : Nat) (bx : Int), I1 cf [.slice b5 ao b1, .int .i64 bx] al →
 bif decide (bx < a2) then (
 Calls Try.prog 50 #[.pointer d1, .int .i64 (IntKind.i64.wrap (a1 + bx))] al fun c2 bg => ∃ (a5 : Option Addr) (a6 : Nat) (ac : Nat) (aq : Int), c2 = .returned (.tuple #[.slice a5 a6 ac, .int .i64 aq]) ∧
 thenW (bg.alloc (.cells #[.slice a5 a6 ac] 23)) fun c0 =>
 ∃ (bu : Option Addr) (bk : Nat) (b7 : Nat) (bi : World), (Builtin.append_ #[25, 25] 25 #[.slice b5 ao b1, .slice (some (blk bg.heap.size)) 1 1]).run Try.prog c0 = .ok (.slice bu bk b7) bi ∧
 ∃ cg, cg < cf ∧ I1 cg [.slice bu bk b7, .int .i64 (IntKind.i64.wrap (bx + 1))] bi) else (
 R (.tuple #[.slice b5 ao b1, .int .i64 0]) al))))))))) else (
 bif ag == 0 then (
 R (.tuple #[.slice none 0 0, .int .i64 1]) a3) else (
 bif decide (a1 < 0) then (
 R (.tuple #[.slice none 0 0, .int .i64 1]) a3) else (
 bif decide (a2 < 1) then (
 R (.tuple #[.slice none 0 0, .int .i64 1]) a3) else (
 bif decide (a1 > a0) then (
 R (.tuple #[.slice none 0 0, .int .i64 1]) a3) else (
 bif decide (a2 > (IntKind.i64.wrap (a0 - a1))) then (
 R (.tuple #[.slice none 0 0, .int .i64 1]) a3) else (
 Calls Try.prog 24 #[.pointer d1] a3 fun c5 bm => ∃ (aj : Bool), c5 = .returned (.bool aj) ∧
 bif aj then (
 R (.tuple #[.slice none 0 0, .int .i64 19]) bm) else (
 ∃ (I1 : Nat → List Value → World → Prop) (cm : Nat), I1 cm [.slice none 0 0, .int .i64 0] bm ∧ ∀ (cc : Nat) (b6 : World) (b2 : Option Addr) (b4 : Nat) (an : Nat) (bv : Int), I1 cc [.slice b2 b4 an, .int .i64 bv] b6 →
 bif decide (bv < a2) then (
 Calls Try.prog 50 #[.pointer d1, .int .i64 (IntKind.i64.wrap (a1 + bv))] b6 fun c8 bd => ∃ (a9 : Option Addr) (a7 : Nat) (aa : Nat) (ap : Int), c8 = .returned (.tuple #[.slice a9 a7 aa, .int .i64 ap]) ∧
 thenW (bd.alloc (.cells #[.slice a9 a7 aa] 23)) fun c9 =>
 ∃ (bn : Option Addr) (bb : Nat) (bj : Nat) (bc : World), (Builtin.append_ #[25, 25] 25 #[.slice b2 b4 an, .slice (some (blk bd.heap.size)) 1 1]).run Try.prog c9 = .ok (.slice bn bb bj) bc ∧
 ∃ cd, cd < cc ∧ I1 cd [.slice bn bb bj, .int .i64 (IntKind.i64.wrap (bv + 1))] bc) else (
 R (.tuple #[.slice b2 b4 an, .int .i64 0]) b6))))))))

theorem journal_stretch.eq (d1 : Option Addr) (base2 : Int) (size3 : Int) (gen4 : Int) (R : Value → World → Prop) (w : World) : mfunc Try.prog [(1, [0, 1, 57], [(8, (.one .slice)), (58, (.one (.int .i64)))])] 42 [.pointer d1, .int .i64 base2, .int .i64 size3, .int .u32 gen4] R w = journal_stretch.M d1 base2 size3 gen4 R w := by kernel_rfl
theorem journal_stretch.ok (d1 : Option Addr) (a1 : Int) (a0 : Int) (a2 : Int) {R : Value → World → Prop} {w : World} (h : journal_stretch.M d1 a1 a0 a2 R w) : Calls Try.prog 42 #[.pointer d1, .int .i64 a1, .int .i64 a0, .int .u32 a2] w fun e w' => ∃ v, e = .returned v ∧ R v w' :=
  mfunc_ok follows (H := [(1, [0, 1, 57], [(8, (.one .slice)), (58, (.one (.int .i64)))])]) (args := [.pointer d1, .int .i64 a1, .int .i64 a0, .int .u32 a2]) (by rw [journal_stretch.eq]; exact h)

def journal_stretch.N (d1 : Option Addr) (a1 : Int) (a2 : Int) (a4 : Int) (R : Value → World → Prop) (w : World) : Prop :=
 Calls Try.prog 53 #[.pointer d1] w fun c4 a3 => ∃ (a0 : Int), c4 = .returned (.int .i64 a0) ∧
 (d1 = none →
 (a4 ≠ 0 →
 (a1 ≥ 0 →
 (a2 ≥ 1 →
 R (.tuple #[.slice none 0 0, .int .i64 23]) a3) ∧
 (a2 < 1 →
 (a4 = 0 →
 R (.tuple #[.slice none 0 0, .int .i64 1]) a3) ∧
 (a4 ≠ 0 →
 (a1 < 0 →
 R (.tuple #[.slice none 0 0, .int .i64 1]) a3) ∧
 ((0 : Int) ≤ a1 →
 (a2 < 1 →
 R (.tuple #[.slice none 0 0, .int .i64 1]) a3) ∧
 ((1 : Int) ≤ a2 →
 (a1 > a0 →
 R (.tuple #[.slice none 0 0, .int .i64 1]) a3) ∧
 (a1 ≤ a0 →
 (-9223372036854775808 : Int) ≤ (a0 - a1) ∧ (a0 - a1) < 9223372036854775808 ∧
 (a2 > (a0 - a1) →
 R (.tuple #[.slice none 0 0, .int .i64 1]) a3) ∧
 (a2 ≤ (a0 - a1) →
 Calls Try.prog 24 #[.pointer d1] a3 fun bs b4 => ∃ (a7 : Bool), bs = .returned (.bool a7) ∧
 (a7 = true →
 R (.tuple #[.slice none 0 0, .int .i64 19]) b4) ∧
 (a7 = false →
 ∃ (I1 : Nat → List Value → World → Prop) (c2 : Nat), I1 c2 [.slice none 0 0, .int .i64 0] b4 ∧ ∀ (bv : Nat) (ax : World) (aq : Option Addr) (au : Nat) (av : Nat) (ah : Int), I1 bv [.slice aq au av, .int .i64 ah] ax →
 (ah < a2 →
 (-9223372036854775808 : Int) ≤ (a1 + ah) ∧ (a1 + ah) < 9223372036854775808 ∧
 Calls Try.prog 50 #[.pointer d1, .int .i64 (a1 + ah)] ax fun bp b8 => ∃ (ad : Option Addr) (af : Nat) (ag : Nat) (b2 : Int), bp = .returned (.tuple #[.slice ad af ag, .int .i64 b2]) ∧
 ∀ (al : World) (bo : Nat), Ext no b8 al → Blk al bo 23 [.slice ad af ag] → b8.heap.size ≤ bo → bo < al.heap.size →
 ∃ (be : Option Addr) (bl : Nat) (bf : Nat) (b5 : World), (Builtin.append_ #[25, 25] 25 #[.slice aq au av, .slice (some (blk bo)) 1 1]).run Try.prog al = .ok (.slice be bl bf) b5 ∧
 (-9223372036854775808 : Int) ≤ (ah + 1) ∧ (ah + 1) < 9223372036854775808 ∧
 ∃ bw, bw < bv ∧ I1 bw [.slice be bl bf, .int .i64 (ah + 1)] b5) ∧
 (a2 ≤ ah →
 R (.tuple #[.slice aq au av, .int .i64 0]) ax))))))))) ∧
 (a1 < 0 →
 (a4 = 0 →
 R (.tuple #[.slice none 0 0, .int .i64 1]) a3) ∧
 (a4 ≠ 0 →
 (a1 < 0 →
 R (.tuple #[.slice none 0 0, .int .i64 1]) a3) ∧
 ((0 : Int) ≤ a1 →
 (a2 < 1 →
 R (.tuple #[.slice none 0 0, .int .i64 1]) a3) ∧
 ((1 : Int) ≤ a2 →
 (a1 > a0 →
 R (.tuple #[.slice none 0 0, .int .i64 1]) a3) ∧
 (a1 ≤ a0 →
 (-9223372036854775808 : Int) ≤ (a0 - a1) ∧ (a0 - a1) < 9223372036854775808 ∧
 (a2 > (a0 - a1) →
 R (.tuple #[.slice none 0 0, .int .i64 1]) a3) ∧
 (a2 ≤ (a0 - a1) →
 Calls Try.prog 24 #[.pointer d1] a3 fun bu bg => ∃ (a5 : Bool), bu = .returned (.bool a5) ∧
 (a5 = true →
 R (.tuple #[.slice none 0 0, .int .i64 19]) bg) ∧
 (a5 = false →
 ∃ (I1 : Nat → List Value → World → Prop) (c3 : Nat), I1 c3 [.slice none 0 0, .int .i64 0] bg ∧ ∀ (bz : Nat) (b1 : World) (ap : Option Addr) (ao : Nat) (b3 : Nat) (ai : Int), I1 bz [.slice ap ao b3, .int .i64 ai] b1 →
 (ai < a2 →
 (-9223372036854775808 : Int) ≤ (a1 + ai) ∧ (a1 + ai) < 9223372036854775808 ∧
 Calls Try.prog 50 #[.pointer d1, .int .i64 (a1 + ai)] b1 fun bt b7 => ∃ (a8 : Option Addr) (ab : Nat) (aa : Nat) (az : Int), bt = .returned (.tuple #[.slice a8 ab aa, .int .i64 az]) ∧
 ∀ (am : World) (bn : Nat), Ext no b7 am → Blk am bn 23 [.slice a8 ab aa] → b7.heap.size ≤ bn → bn < am.heap.size →
 ∃ (b6 : Option Addr) (bc : Nat) (bk : Nat) (bd : World), (Builtin.append_ #[25, 25] 25 #[.slice ap ao b3, .slice (some (blk bn)) 1 1]).run Try.prog am = .ok (.slice b6 bc bk) bd ∧
 (-9223372036854775808 : Int) ≤ (ai + 1) ∧ (ai + 1) < 9223372036854775808 ∧
 ∃ c0, c0 < bz ∧ I1 c0 [.slice b6 bc bk, .int .i64 (ai + 1)] bd) ∧
 (a2 ≤ ai →
 R (.tuple #[.slice ap ao b3, .int .i64 0]) b1))))))))) ∧
 (a4 = 0 →
 R (.tuple #[.slice none 0 0, .int .i64 1]) a3)) ∧
 (d1 ≠ none →
 (a4 = 0 →
 R (.tuple #[.slice none 0 0, .int .i64 1]) a3) ∧
 (a4 ≠ 0 →
 (a1 < 0 →
 R (.tuple #[.slice none 0 0, .int .i64 1]) a3) ∧
 ((0 : Int) ≤ a1 →
 (a2 < 1 →
 R (.tuple #[.slice none 0 0, .int .i64 1]) a3) ∧
 ((1 : Int) ≤ a2 →
 (a1 > a0 →
 R (.tuple #[.slice none 0 0, .int .i64 1]) a3) ∧
 (a1 ≤ a0 →
 (-9223372036854775808 : Int) ≤ (a0 - a1) ∧ (a0 - a1) < 9223372036854775808 ∧
 (a2 > (a0 - a1) →
 R (.tuple #[.slice none 0 0, .int .i64 1]) a3) ∧
 (a2 ≤ (a0 - a1) →
 Calls Try.prog 24 #[.pointer d1] a3 fun br bi => ∃ (a6 : Bool), br = .returned (.bool a6) ∧
 (a6 = true →
 R (.tuple #[.slice none 0 0, .int .i64 19]) bi) ∧
 (a6 = false →
 ∃ (I1 : Nat → List Value → World → Prop) (c5 : Nat), I1 c5 [.slice none 0 0, .int .i64 0] bi ∧ ∀ (bx : Nat) (ay : World) (an : Option Addr) (b0 : Nat) (ar : Nat) (aj : Int), I1 bx [.slice an b0 ar, .int .i64 aj] ay →
 (aj < a2 →
 (-9223372036854775808 : Int) ≤ (a1 + aj) ∧ (a1 + aj) < 9223372036854775808 ∧
 Calls Try.prog 50 #[.pointer d1, .int .i64 (a1 + aj)] ay fun bq ba => ∃ (ae : Option Addr) (ac : Nat) (a9 : Nat) (aw : Int), bq = .returned (.tuple #[.slice ae ac a9, .int .i64 aw]) ∧
 ∀ (ak : World) (bm : Nat), Ext no ba ak → Blk ak bm 23 [.slice ae ac a9] → ba.heap.size ≤ bm → bm < ak.heap.size →
 ∃ (b9 : Option Addr) (bh : Nat) (bb : Nat) (bj : World), (Builtin.append_ #[25, 25] 25 #[.slice an b0 ar, .slice (some (blk bm)) 1 1]).run Try.prog ak = .ok (.slice b9 bh bb) bj ∧
 (-9223372036854775808 : Int) ≤ (aj + 1) ∧ (aj + 1) < 9223372036854775808 ∧
 ∃ c1, c1 < bx ∧ I1 c1 [.slice b9 bh bb, .int .i64 (aj + 1)] bj) ∧
 (a2 ≤ aj →
 R (.tuple #[.slice an b0 ar, .int .i64 0]) ay))))))))

theorem journal_stretch.up (d1 : Option Addr) (ac : Int) (ad : Int) (an : Int) {R : Value → World → Prop} {w : World} (h : journal_stretch.N d1 ac ad an R w) : journal_stretch.M d1 ac ad an R w := by
  unfold journal_stretch.M
  unfold journal_stretch.N at h
  refine h.mono fun cv cw h => ?_
  obtain ⟨a2, he, h⟩ := h
  refine ⟨a2, he, ?_⟩
  refine bif_of (fun c8 => ?_) (fun c8 => ?_)
  · have h := h.1 (isNone_t c8)
    refine bif_of (fun c9 => ?_) (fun c9 => ?_)
    · have h := h.1 (bne_t c9)
      refine bif_of (fun ba => ?_) (fun ba => ?_)
      · have h := h.1 (of_decide_eq_true ba)
        refine bif_of (fun aw => ?_) (fun aw => ?_)
        · have h := h.1 (of_decide_eq_true aw)
          exact h
        · have h := h.2 (Int.not_le.1 (of_decide_eq_false aw))
          refine bif_of (fun bs => ?_) (fun bs => ?_)
          · have h := h.1 (beq_t bs)
            exact h
          · have h := h.2 (beq_f bs)
            refine bif_of (fun bb => ?_) (fun bb => ?_)
            · have h := h.1 (of_decide_eq_true bb)
              exact h
            · have h := h.2 (Int.not_lt.1 (of_decide_eq_false bb))
              refine bif_of (fun ao => ?_) (fun ao => ?_)
              · have h := h.1 (of_decide_eq_true ao)
                exact h
              · have h := h.2 (Int.not_lt.1 (of_decide_eq_false ao))
                refine bif_of (fun bp => ?_) (fun bp => ?_)
                · have h := h.1 (of_decide_eq_true bp)
                  exact h
                · have h := h.2 (Int.not_lt.1 (of_decide_eq_false bp))
                  obtain ⟨a0, a1, h⟩ := h
                  try rw [w64 a0 a1]
                  refine bif_of (fun ay => ?_) (fun ay => ?_)
                  · have h := h.1 (of_decide_eq_true ay)
                    exact h
                  · have h := h.2 (Int.not_lt.1 (of_decide_eq_false ay))
                    refine h.mono fun cm cl h => ?_
                    obtain ⟨ag, he, h⟩ := h
                    refine ⟨ag, he, ?_⟩
                    refine bif_of (fun c1 => ?_) (fun c1 => ?_)
                    · have h := h.1 c1
                      exact h
                    · have h := h.2 c1
                      obtain ⟨I1, cs, h0, h⟩ := h
                      refine ⟨I1, cs, h0, fun ci c4 bi av bn cb hI => ?_⟩
                      have h := h ci c4 bi av bn cb hI
                      refine bif_of (fun bu => ?_) (fun bu => ?_)
                      · have h := h.1 (of_decide_eq_true bu)
                        obtain ⟨a0, a1, h⟩ := h
                        try rw [w64 a0 a1]
                        refine h.mono fun cp ai h => ?_
                        obtain ⟨a7, a4, a5, aj, he, h⟩ := h
                        refine ⟨a7, a4, a5, aj, he, ?_⟩
                        refine thenW_in fun b6 bc => ?_
                        have h := h b6 ai.heap.size ((Ext.refl no ai).x_alloc bc) (Blk.of_new bc) ((Ext.refl no ai)).size (size_lt_alloc bc)
                        obtain ⟨c3, b1, b7, be, hr, h⟩ := h
                        refine ⟨c3, b1, b7, be, hr, ?_⟩
                        obtain ⟨a0, a1, h⟩ := h
                        try rw [w64 a0 a1]
                        obtain ⟨cc, hk, h⟩ := h
                        exact ⟨cc, hk, h⟩
                      · have h := h.2 (Int.not_lt.1 (of_decide_eq_false bu))
                        exact h
      · have h := h.2 (Int.not_le.1 (of_decide_eq_false ba))
        refine bif_of (fun bw => ?_) (fun bw => ?_)
        · have h := h.1 (beq_t bw)
          exact h
        · have h := h.2 (beq_f bw)
          refine bif_of (fun bz => ?_) (fun bz => ?_)
          · have h := h.1 (of_decide_eq_true bz)
            exact h
          · have h := h.2 (Int.not_lt.1 (of_decide_eq_false bz))
            refine bif_of (fun br => ?_) (fun br => ?_)
            · have h := h.1 (of_decide_eq_true br)
              exact h
            · have h := h.2 (Int.not_lt.1 (of_decide_eq_false br))
              refine bif_of (fun bk => ?_) (fun bk => ?_)
              · have h := h.1 (of_decide_eq_true bk)
                exact h
              · have h := h.2 (Int.not_lt.1 (of_decide_eq_false bk))
                obtain ⟨a0, a1, h⟩ := h
                try rw [w64 a0 a1]
                refine bif_of (fun bj => ?_) (fun bj => ?_)
                · have h := h.1 (of_decide_eq_true bj)
                  exact h
                · have h := h.2 (Int.not_lt.1 (of_decide_eq_false bj))
                  refine h.mono fun cu cf h => ?_
                  obtain ⟨ah, he, h⟩ := h
                  refine ⟨ah, he, ?_⟩
                  refine bif_of (fun bq => ?_) (fun bq => ?_)
                  · have h := h.1 bq
                    exact h
                  · have h := h.2 bq
                    obtain ⟨I1, co, h0, h⟩ := h
                    refine ⟨I1, co, h0, fun cn b9 bh bx b0 cq hI => ?_⟩
                    have h := h cn b9 bh bx b0 cq hI
                    refine bif_of (fun bo => ?_) (fun bo => ?_)
                    · have h := h.1 (of_decide_eq_true bo)
                      obtain ⟨a0, a1, h⟩ := h
                      try rw [w64 a0 a1]
                      refine h.mono fun ct ak h => ?_
                      obtain ⟨a8, aa, a3, al, he, h⟩ := h
                      refine ⟨a8, aa, a3, al, he, ?_⟩
                      refine thenW_in fun c2 bd => ?_
                      have h := h c2 ak.heap.size ((Ext.refl no ak).x_alloc bd) (Blk.of_new bd) ((Ext.refl no ak)).size (size_lt_alloc bd)
                      obtain ⟨bg, b5, c7, bm, hr, h⟩ := h
                      refine ⟨bg, b5, c7, bm, hr, ?_⟩
                      obtain ⟨a0, a1, h⟩ := h
                      try rw [w64 a0 a1]
                      obtain ⟨ce, hk, h⟩ := h
                      exact ⟨ce, hk, h⟩
                    · have h := h.2 (Int.not_lt.1 (of_decide_eq_false bo))
                      exact h
    · have h := h.2 (bne_f c9)
      refine bif_tt (cong1 (r := true) (fun z => z == 0) (bne_f c9) (by decide)) ?_
      exact h
  · have h := h.2 (isNone_f c8)
    refine bif_of (fun bv => ?_) (fun bv => ?_)
    · have h := h.1 (beq_t bv)
      exact h
    · have h := h.2 (beq_f bv)
      refine bif_of (fun b3 => ?_) (fun b3 => ?_)
      · have h := h.1 (of_decide_eq_true b3)
        exact h
      · have h := h.2 (Int.not_lt.1 (of_decide_eq_false b3))
        refine bif_of (fun au => ?_) (fun au => ?_)
        · have h := h.1 (of_decide_eq_true au)
          exact h
        · have h := h.2 (Int.not_lt.1 (of_decide_eq_false au))
          refine bif_of (fun b2 => ?_) (fun b2 => ?_)
          · have h := h.1 (of_decide_eq_true b2)
            exact h
          · have h := h.2 (Int.not_lt.1 (of_decide_eq_false b2))
            obtain ⟨a0, a1, h⟩ := h
            try rw [w64 a0 a1]
            refine bif_of (fun bt => ?_) (fun bt => ?_)
            · have h := h.1 (of_decide_eq_true bt)
              exact h
            · have h := h.2 (Int.not_lt.1 (of_decide_eq_false bt))
              refine h.mono fun cr ck h => ?_
              obtain ⟨ae, he, h⟩ := h
              refine ⟨ae, he, ?_⟩
              refine bif_of (fun c6 => ?_) (fun c6 => ?_)
              · have h := h.1 c6
                exact h
              · have h := h.2 c6
                obtain ⟨I1, ch, h0, h⟩ := h
                refine ⟨I1, ch, h0, fun cj c5 bf az c0 cd hI => ?_⟩
                have h := h cj c5 bf az c0 cd hI
                refine bif_of (fun ap => ?_) (fun ap => ?_)
                · have h := h.1 (of_decide_eq_true ap)
                  obtain ⟨a0, a1, h⟩ := h
                  try rw [w64 a0 a1]
                  refine h.mono fun ca af h => ?_
                  obtain ⟨ab, a6, a9, am, he, h⟩ := h
                  refine ⟨ab, a6, a9, am, he, ?_⟩
                  refine thenW_in fun bl ar => ?_
                  have h := h bl af.heap.size ((Ext.refl no af).x_alloc ar) (Blk.of_new ar) ((Ext.refl no af)).size (size_lt_alloc ar)
                  obtain ⟨b4, ax, aq, b8, hr, h⟩ := h
                  refine ⟨b4, ax, aq, b8, hr, ?_⟩
                  obtain ⟨a0, a1, h⟩ := h
                  try rw [w64 a0 a1]
                  obtain ⟨cg, hk, h⟩ := h
                  exact ⟨cg, hk, h⟩
                · have h := h.2 (Int.not_lt.1 (of_decide_eq_false ap))
                  exact h

theorem journal_stretch.go (d1 : Option Addr) (a1 : Int) (a0 : Int) (a2 : Int) {R : Value → World → Prop} {w : World} (h : journal_stretch.N d1 a1 a0 a2 R w) : Calls Try.prog 42 #[.pointer d1, .int .i64 a1, .int .i64 a0, .int .u32 a2] w fun e w' => ∃ v, e = .returned v ∧ R v w' := journal_stretch.ok d1 a1 a0 a2 (journal_stretch.up d1 a1 a0 a2 h)
/-- journal.Open -/
def journal_Open.M (d1 : Option Addr) (aa : Int) (a9 : Int) (ac : Int) (R : Value → World → Prop) (w : World) : Prop :=
 Calls Try.prog 42 #[.pointer d1, .int .i64 aa, .int .i64 a9, .int .u32 ac] w fun ag af => ∃ (a2 : Option Addr) (a3 : Nat) (a1 : Nat) (a0 : Int), ag = .returned (.tuple #[.slice a2 a3 a1, .int .i64 a0]) ∧
 bif a0 != 0 then (
 R (.tuple #[.pointer none, .slice none 0 0, .int .i64 a0]) af) else (
 Calls Try.prog 16 #[.slice a2 a3 a1, .int .u32 ac] af fun ae ab => ∃ (a8 : Option Addr) (a4 : Nat) (a6 : Nat) (a7 : Int) (a5 : Int), ae = .returned (.tuple #[.slice a8 a4 a6, .int .i64 a7, .int .u32 a5]) ∧
 bif (IntKind.u32.wrap (a5 + 1)) == 0 then (
 R (.tuple #[.pointer none, .slice none 0 0, .int .i64 2]) ab) else (
 thenW (ab.alloc (.cells #[.pointer d1, .int .i64 aa, .int .i64 a9, .int .u32 ac, .int .u32 (IntKind.u32.wrap (a5 + 1)), .int .i64 a7, .int .i64 (a4 : Int), .bool false] 82)) fun ad =>
 R (.tuple #[.pointer (some (blk ab.heap.size)), .slice a8 a4 a6, .int .i64 0]) ad))

theorem journal_Open.eq (d1 : Option Addr) (base2 : Int) (size3 : Int) (gen4 : Int) (R : Value → World → Prop) (w : World) : mfunc Try.prog [] 20 [.pointer d1, .int .i64 base2, .int .i64 size3, .int .u32 gen4] R w = journal_Open.M d1 base2 size3 gen4 R w := by kernel_rfl
theorem journal_Open.ok (d1 : Option Addr) (a1 : Int) (a0 : Int) (a2 : Int) {R : Value → World → Prop} {w : World} (h : journal_Open.M d1 a1 a0 a2 R w) : Calls Try.prog 20 #[.pointer d1, .int .i64 a1, .int .i64 a0, .int .u32 a2] w fun e w' => ∃ v, e = .returned v ∧ R v w' :=
  mfunc_ok follows (H := []) (args := [.pointer d1, .int .i64 a1, .int .i64 a0, .int .u32 a2]) (by rw [journal_Open.eq]; exact h)

def journal_Open.N (d1 : Option Addr) (ab : Int) (aa : Int) (ad : Int) (R : Value → World → Prop) (w : World) : Prop :=
 Calls Try.prog 42 #[.pointer d1, .int .i64 ab, .int .i64 aa, .int .u32 ad] w fun ah ag => ∃ (a2 : Option Addr) (a3 : Nat) (a1 : Nat) (a0 : Int), ah = .returned (.tuple #[.slice a2 a3 a1, .int .i64 a0]) ∧
 (a0 ≠ 0 →
 R (.tuple #[.pointer none, .slice none 0 0, .int .i64 a0]) ag) ∧
 (a0 = 0 →
 Calls Try.prog 16 #[.slice a2 a3 a1, .int .u32 ad] ag fun af ac => ∃ (a6 : Option Addr) (a4 : Nat) (a7 : Nat) (a8 : Int) (a5 : Int), af = .returned (.tuple #[.slice a6 a4 a7, .int .i64 a8, .int .u32 a5]) ∧
 ((IntKind.u32.wrap (a5 + 1)) = 0 →
 R (.tuple #[.pointer none, .slice none 0 0, .int .i64 2]) ac) ∧
 ((IntKind.u32.wrap (a5 + 1)) ≠ 0 →
 ∀ (a9 : World) (ae : Nat), Ext no ac a9 → Blk a9 ae 82 [.pointer d1, .int .i64 ab, .int .i64 aa, .int .u32 ad, .int .u32 (IntKind.u32.wrap (a5 + 1)), .int .i64 a8, .int .i64 (a4 : Int), .bool false] → ac.heap.size ≤ ae → ae < a9.heap.size →
 R (.tuple #[.pointer (some (blk ae)), .slice a6 a4 a7, .int .i64 0]) a9))

theorem journal_Open.up (d1 : Option Addr) (a8 : Int) (a7 : Int) (ac : Int) {R : Value → World → Prop} {w : World} (h : journal_Open.N d1 a8 a7 ac R w) : journal_Open.M d1 a8 a7 ac R w := by
  unfold journal_Open.M
  unfold journal_Open.N at h
  refine h.mono fun ah ai h => ?_
  obtain ⟨a0, a2, a1, a3, he, h⟩ := h
  refine ⟨a0, a2, a1, a3, he, ?_⟩
  refine bif_of (fun c9 => ?_) (fun c9 => ?_)
  · have h := h.1 (bne_t c9)
    exact h
  · have h := h.2 (bne_f c9)
    refine h.mono fun ag aa h => ?_
    obtain ⟨a4, a6, a5, ab, a9, he, h⟩ := h
    refine ⟨a4, a6, a5, ab, a9, he, ?_⟩
    refine bif_of (fun af => ?_) (fun af => ?_)
    · have h := h.1 (beq_t af)
      exact h
    · have h := h.2 (beq_f af)
      refine thenW_in fun ad ae => ?_
      have h := h ad aa.heap.size ((Ext.refl no aa).x_alloc ae) (Blk.of_new ae) ((Ext.refl no aa)).size (size_lt_alloc ae)
      exact h

theorem journal_Open.go (d1 : Option Addr) (a1 : Int) (a0 : Int) (a2 : Int) {R : Value → World → Prop} {w : World} (h : journal_Open.N d1 a1 a0 a2 R w) : Calls Try.prog 20 #[.pointer d1, .int .i64 a1, .int .i64 a0, .int .u32 a2] w fun e w' => ∃ v, e = .returned v ∧ R v w' := journal_Open.ok d1 a1 a0 a2 (journal_Open.up d1 a1 a0 a2 h)
/-- journal.Create -/
def journal_Create.M (d1 : Option Addr) (a7 : Int) (a5 : Int) (aa : Int) (R : Value → World → Prop) (w : World) : Prop :=
 Calls Try.prog 20 #[.pointer d1, .int .i64 a7, .int .i64 a5, .int .u32 aa] w fun ad a9 => ∃ (a0 : Option Addr) (a3 : Option Addr) (a2 : Nat) (a4 : Nat) (a1 : Int), ad = .returned (.tuple #[.pointer a0, .slice a3 a2 a4, .int .i64 a1]) ∧
 bif a1 == 0 then (
 a0.elim False fun ab =>
 canStore a9 ((ab.add 5).add 0) ∧
 thenW (a9.setCell ((ab.add 5).add 0) (.int .i64 0)) fun a6 =>
 a0.elim False fun ac =>
 canStore a6 ((ac.add 6).add 0) ∧
 thenW (a6.setCell ((ac.add 6).add 0) (.int .i64 0)) fun a8 =>
 R (.tuple #[.pointer a0, .int .i64 a1]) a8) else (
 R (.tuple #[.pointer a0, .int .i64 a1]) a9)

theorem journal_Create.eq (d1 : Option Addr) (base2 : Int) (size3 : Int) (gen4 : Int) (R : Value → World → Prop) (w : World) : mfunc Try.prog [] 26 [.pointer d1, .int .i64 base2, .int .i64 size3, .int .u32 gen4] R w = journal_Create.M d1 base2 size3 gen4 R w := by kernel_rfl
theorem journal_Create.ok (d1 : Option Addr) (a1 : Int) (a0 : Int) (a2 : Int) {R : Value → World → Prop} {w : World} (h : journal_Create.M d1 a1 a0 a2 R w) : Calls Try.prog 26 #[.pointer d1, .int .i64 a1, .int .i64 a0, .int .u32 a2] w fun e w' => ∃ v, e = .returned v ∧ R v w' :=
  mfunc_ok follows (H := []) (args := [.pointer d1, .int .i64 a1, .int .i64 a0, .int .u32 a2]) (by rw [journal_Create.eq]; exact h)

def journal_Create.N (d1 : Option Addr) (a7 : Int) (a5 : Int) (ab : Int) (R : Value → World → Prop) (w : World) : Prop :=
 Calls Try.prog 20 #[.pointer d1, .int .i64 a7, .int .i64 a5, .int .u32 ab] w fun ac aa => ∃ (a1 : Option Addr) (a4 : Option Addr) (a2 : Nat) (a3 : Nat) (a0 : Int), ac = .returned (.tuple #[.pointer a1, .slice a4 a2 a3, .int .i64 a0]) ∧
 (a0 = 0 →
 ∃ a8 : Addr, a1 = some a8 ∧
 canStore aa ((a8.add 5).add 0) ∧
 thenW (aa.setCell ((a8.add 5).add 0) (.int .i64 0)) fun a6 =>
 canStore a6 ((a8.add 6).add 0) ∧
 thenW (a6.setCell ((a8.add 6).add 0) (.int .i64 0)) fun a9 =>
 R (.tuple #[.pointer a1, .int .i64 a0]) a9) ∧
 (a0 ≠ 0 →
 R (.tuple #[.pointer a1, .int .i64 a0]) aa)

theorem journal_Create.up (d1 : Option Addr) (a4 : Int) (a3 : Int) (a8 : Int) {R : Value → World → Prop} {w : World} (h : journal_Create.N d1 a4 a3 a8 R w) : journal_Create.M d1 a4 a3 a8 R w := by
  unfold journal_Create.M
  unfold journal_Create.N at h
  refine h.mono fun af ae h => ?_
  obtain ⟨a5, a2, a0, a1, a6, he, h⟩ := h
  refine ⟨a5, a2, a0, a1, a6, he, ?_⟩
  refine bif_of (fun a9 => ?_) (fun a9 => ?_)
  · have h := h.1 (beq_t a9)
    obtain ⟨ag, a7, h⟩ := h
    refine elim_some a7 ?_
    obtain ⟨hcs, h⟩ := h
    refine ⟨hcs, thenW_in fun ac ad => ?_⟩
    replace h := thenW_out h ad
    refine elim_some a7 ?_
    obtain ⟨hcs, h⟩ := h
    refine ⟨hcs, thenW_in fun aa ab => ?_⟩
    replace h := thenW_out h ab
    exact h
  · have h := h.2 (beq_f a9)
    exact h

theorem journal_Create.go (d1 : Option Addr) (a1 : Int) (a0 : Int) (a2 : Int) {R : Value → World → Prop} {w : World} (h : journal_Create.N d1 a1 a0 a2 R w) : Calls Try.prog 26 #[.pointer d1, .int .i64 a1, .int .i64 a0, .int .u32 a2] w fun e w' => ∃ v, e = .returned v ∧ R v w' := journal_Create.ok d1 a1 a0 a2 (journal_Create.up d1 a1 a0 a2 h)
/-- (*journal.Journal).Append -/
def journal_Journal_Append.M (j1 : Option Addr) (bi : Option Addr) (b5 : Nat) (bg : Nat) (R : Value → World → Prop) (w : World) : Prop :=
 Calls Try.prog 12 #[.int .i64 (b5 : Int)] w fun bm av => ∃ (a2 : Int), bm = .returned (.int .i64 a2) ∧
 bif Option.isNone j1 then (
 R (.int .i64 23) av) else (
 bif a2 == 0 then (
 R (.int .i64 3) av) else (
 j1.elim False fun a6 =>
 ∃ (am : Bool), av.cell? (a6.add 7) = some (.bool am) ∧
 bif am then (
 R (.int .i64 19) av) else (
 thenW (av.drew) fun aw =>
 j1.elim False fun a9 =>
 ∃ (aa : Int), aw.cell? (a9.add 2) = some (.int .i64 aa) ∧
 j1.elim False fun bd =>
 ∃ (ad : Int), aw.cell? (bd.add 5) = some (.int .i64 ad) ∧
 bif decide (a2 > (IntKind.i64.wrap (aa - ad))) then (
 R (.int .i64 18) aw) else (
 thenW (aw.drew) fun ai =>
 j1.elim False fun bn =>
 ∃ (ak : Int), ai.cell? (bn.add 3) = some (.int .u32 ak) ∧
 j1.elim False fun bf =>
 ∃ (a5 : Int), ai.cell? (bf.add 4) = some (.int .u32 a5) ∧
 j1.elim False fun bh =>
 ∃ (aj : Int), ai.cell? (bh.add 6) = some (.int .i64 aj) ∧
 Calls Try.prog 9 #[.int .u32 ak, .int .u32 a5, .int .u32 (IntKind.u32.wrap aj), .slice bi b5 bg] ai fun b2 ax => ∃ (a3 : Option Addr) (a0 : Nat) (a7 : Nat) (ah : Int), b2 = .returned (.tuple #[.slice a3 a0 a7, .int .i64 ah]) ∧
 ∃ (I1 : Nat → List Value → World → Prop) (bp : Nat), I1 bp [.int .i64 0] ax ∧ ∀ (b6 : Nat) (a8 : World) (an : Int), I1 b6 [.int .i64 an] a8 →
 bif decide (an < (a0 : Int)) then (
 a3.elim False fun br =>
 0 ≤ (an : Int) ∧ (an : Int) < (a0 : Int) ∧
 ∃ (ar : Option Addr) (aq : Nat) (au : Nat), a8.cell? (br.add (Int.toNat an * 1)) = some (.slice ar aq au) ∧
 thenW (a8.drew) fun ag =>
 j1.elim False fun bq =>
 ∃ (b9 : Option Addr), ag.cell? (bq.add 0) = some (.pointer b9) ∧
 j1.elim False fun bo =>
 ∃ (ae : Int), ag.cell? (bo.add 1) = some (.int .i64 ae) ∧
 j1.elim False fun bl =>
 ∃ (ac : Int), ag.cell? (bl.add 5) = some (.int .i64 ac) ∧
 Calls Try.prog 28 #[.pointer b9, .int .i64 (IntKind.i64.wrap ((IntKind.i64.wrap (ae + ac)) + an)), .slice ar aq au] ag fun b1 ao => ∃ (a1 : Int), b1 = .returned (.int .i64 a1) ∧
 bif a1 != 0 then (
 j1.elim False fun bb =>
 canStore ao ((bb.add 7).add 0) ∧
 thenW (ao.setCell ((bb.add 7).add 0) (.bool true)) fun ay =>
 R (.int .i64 a1) ay) else (
 ∃ b7, b7 < b6 ∧ I1 b7 [.int .i64 (IntKind.i64.wrap (an + 1))] ao)) else (
 j1.elim False fun bj =>
 ∃ (b4 : Option Addr), a8.cell? (bj.add 0) = some (.pointer b4) ∧
 Calls Try.prog 29 #[.pointer b4] a8 fun b0 ab => ∃ (a4 : Int), b0 = .returned (.int .i64 a4) ∧
 bif a4 != 0 then (
 j1.elim False fun b8 =>
 canStore ab ((b8.add 7).add 0) ∧
 thenW (ab.setCell ((b8.add 7).add 0) (.bool true)) fun b3 =>
 R (.int .i64 a4) b3) else (
 j1.elim False fun be =>
 ∃ (af : Int), ab.cell? (be.add 5) = some (.int .i64 af) ∧
 j1.elim False fun bc =>
 canStore ab ((bc.add 5).add 0) ∧
 thenW (ab.setCell ((bc.add 5).add 0) (.int .i64 (IntKind.i64.wrap (af + a2)))) fun ap =>
 j1.elim False fun bk =>
 ∃ (al : Int), ap.cell? (bk.add 6) = some (.int .i64 al) ∧
 j1.elim False fun ba =>
 canStore ap ((ba.add 6).add 0) ∧
 thenW (ap.setCell ((ba.add 6).add 0) (.int .i64 (IntKind.i64.wrap (al + 1)))) fun az =>
 R (.int .i64 0) az))))))

theorem journal_Journal_Append.eq (j1 : Option Addr) (b2a : Option Addr) (b2n : Nat) (b2c : Nat) (R : Value → World → Prop) (w : World) : mfunc Try.prog [(1, [0, 5, 56, 57], [(58, (.one (.int .i64)))])] 23 [.pointer j1, .slice b2a b2n b2c] R w = journal_Journal_Append.M j1 b2a b2n b2c R w := by kernel_rfl
theorem journal_Journal_Append.ok (j1 : Option Addr) (a1 : Option Addr) (a2 : Nat) (a0 : Nat) {R : Value → World → Prop} {w : World} (h : journal_Journal_Append.M j1 a1 a2 a0 R w) : Calls Try.prog 23 #[.pointer j1, .slice a1 a2 a0] w fun e w' => ∃ v, e = .returned v ∧ R v w' :=
  mfunc_ok follows (H := [(1, [0, 5, 56, 57], [(58, (.one (.int .i64)))])]) (args := [.pointer j1, .slice a1 a2 a0]) (by rw [journal_Journal_Append.eq]; exact h)

def journal_Journal_Append.N (j1 : Option Addr) (ba : Option Addr) (ai : Nat) (b9 : Nat) (R : Value → World → Prop) (w : World) : Prop :=
 (j1 = none →
 ∀ (aj : World), Ext no w aj →
 R (.int .i64 23) aj) ∧
 (j1 ≠ none →
 ((journal_Parts.F (ai : Int)) = 0 →
 ∀ (aj : World), Ext no w aj →
 R (.int .i64 3) aj) ∧
 ((journal_Parts.F (ai : Int)) ≠ 0 →
 ∃ a6 : Addr, j1 = some a6 ∧
 ∃ (ae : Bool), w.cell? (a6.add 7) = some (.bool ae) ∧
 (ae = true →
 ∀ (aj : World), Ext no w aj →
 R (.int .i64 19) aj) ∧
 (ae = false →
 ∃ (a5 : Int), w.cell? (a6.add 2) = some (.int .i64 a5) ∧
 ∃ (a4 : Int), w.cell? (a6.add 5) = some (.int .i64 a4) ∧
 (-9223372036854775808 : Int) ≤ (a5 - a4) ∧ (a5 - a4) < 9223372036854775808 ∧
 ((journal_Parts.F (ai : Int)) > (a5 - a4) →
 ∀ (ap : World), Ext no w ap →
 R (.int .i64 18) ap) ∧
 ((journal_Parts.F (ai : Int)) ≤ (a5 - a4) →
 ∃ (al : Int), w.cell? (a6.add 3) = some (.int .u32 al) ∧
 ∃ (ac : Int), w.cell? (a6.add 4) = some (.int .u32 ac) ∧
 ∃ (ak : Int), w.cell? (a6.add 6) = some (.int .i64 ak) ∧
 ∀ (au : World), Ext no w au →
 Calls Try.prog 9 #[.int .u32 al, .int .u32 ac, .int .u32 (IntKind.u32.wrap ak), .slice ba ai b9] au fun b2 ax => ∃ (aa : Option Addr) (a0 : Nat) (ag : Nat) (ah : Int), b2 = .returned (.tuple #[.slice aa a0 ag, .int .i64 ah]) ∧
 ∃ (I1 : Nat → List Value → World → Prop) (b8 : Nat), I1 b8 [.int .i64 0] ax ∧ ∀ (b6 : Nat) (a9 : World) (ad : Int), I1 b6 [.int .i64 ad] a9 →
 (ad < (a0 : Int) →
 ∃ b7 : Addr, aa = some b7 ∧
 0 ≤ (ad : Int) ∧ (ad : Int) < (a0 : Int) ∧
 ∃ (av : Option Addr) (aq : Nat) (ao : Nat), a9.cell? (b7.add (Int.toNat ad * 1)) = some (.slice av aq ao) ∧
 ∃ (b5 : Option Addr), a9.cell? (a6.add 0) = some (.pointer b5) ∧
 ∃ (a1 : Int), a9.cell? (a6.add 1) = some (.int .i64 a1) ∧
 ∃ (a2 : Int), a9.cell? (a6.add 5) = some (.int .i64 a2) ∧
 (-9223372036854775808 : Int) ≤ (a1 + a2) ∧ (a1 + a2) < 9223372036854775808 ∧
 (-9223372036854775808 : Int) ≤ ((a1 + a2) + ad) ∧ ((a1 + a2) + ad) < 9223372036854775808 ∧
 ∀ (ar : World), Ext no a9 ar →
 Calls Try.prog 28 #[.pointer b5, .int .i64 ((a1 + a2) + ad), .slice av aq ao] ar fun ay an => ∃ (a3 : Int), ay = .returned (.int .i64 a3) ∧
 (a3 ≠ 0 →
 canStore an ((a6.add 7).add 0) ∧
 thenW (an.setCell ((a6.add 7).add 0) (.bool true)) fun b0 =>
 R (.int .i64 a3) b0) ∧
 (a3 = 0 →
 (-9223372036854775808 : Int) ≤ (ad + 1) ∧ (ad + 1) < 9223372036854775808 ∧
 ∃ b4, b4 < b6 ∧ I1 b4 [.int .i64 (ad + 1)] an)) ∧
 ((a0 : Int) ≤ ad →
 ∃ (b3 : Option Addr), a9.cell? (a6.add 0) = some (.pointer b3) ∧
 Calls Try.prog 29 #[.pointer b3] a9 fun b1 af => ∃ (a8 : Int), b1 = .returned (.int .i64 a8) ∧
 (a8 ≠ 0 →
 canStore af ((a6.add 7).add 0) ∧
 thenW (af.setCell ((a6.add 7).add 0) (.bool true)) fun aw =>
 R (.int .i64 a8) aw) ∧
 (a8 = 0 →
 ∃ (a7 : Int), af.cell? (a6.add 5) = some (.int .i64 a7) ∧
 (-9223372036854775808 : Int) ≤ (a7 + (journal_Parts.F (ai : Int))) ∧ (a7 + (journal_Parts.F (ai : Int))) < 9223372036854775808 ∧
 canStore af ((a6.add 5).add 0) ∧
 thenW (af.setCell ((a6.add 5).add 0) (.int .i64 (a7 + (journal_Parts.F (ai : Int))))) fun am =>
 ∃ (ab : Int), am.cell? (a6.add 6) = some (.int .i64 ab) ∧
 (-9223372036854775808 : Int) ≤ (ab + 1) ∧ (ab + 1) < 9223372036854775808 ∧
 canStore am ((a6.add 6).add 0) ∧
 thenW (am.setCell ((a6.add 6).add 0) (.int .i64 (ab + 1))) fun az =>
 R (.int .i64 0) az))))))

theorem journal_Journal_Append.up (j1 : Option Addr) (bg : Option Addr) (ap : Nat) (bf : Nat) {R : Value → World → Prop} {w : World} (h : journal_Journal_Append.N j1 bg ap bf R w) : journal_Journal_Append.M j1 bg ap bf R w := by
  unfold journal_Journal_Append.M
  unfold journal_Journal_Append.N at h
  refine (journal_Parts.pure (ap : Int)).mono fun ee ww3 ⟨he, hxx⟩ => ⟨(journal_Parts.F (ap : Int)), he, ?_⟩
  have aj := (Ext.refl no w).trans hxx
  refine bif_of (fun c4 => ?_) (fun c4 => ?_)
  · have h := h.1 (isNone_t c4)
    have h := h ww3 aj
    exact h
  · have h := h.2 (isNone_f c4)
    refine bif_of (fun c5 => ?_) (fun c5 => ?_)
    · have h := h.1 (beq_t c5)
      have h := h ww3 aj
      exact h
    · have h := h.2 (beq_f c5)
      obtain ⟨a6, a0, h⟩ := h
      refine elim_some a0 ?_
      obtain ⟨an, bh, h⟩ := h
      refine ⟨an, (aj).cell bh id, ?_⟩
      refine bif_of (fun c9 => ?_) (fun c9 => ?_)
      · have h := h.1 c9
        have h := h ww3 aj
        exact h
      · have h := h.2 c9
        refine thenW_in fun au c2 => ?_
        have aa := aj.x_drew c2
        refine elim_some a0 ?_
        obtain ⟨ae, b9, h⟩ := h
        refine ⟨ae, (aa).cell b9 id, ?_⟩
        refine elim_some a0 ?_
        obtain ⟨ah, bc, h⟩ := h
        refine ⟨ah, (aa).cell bc id, ?_⟩
        obtain ⟨a3, a4, h⟩ := h
        try rw [w64 a3 a4]
        refine bif_of (fun b6 => ?_) (fun b6 => ?_)
        · have h := h.1 (of_decide_eq_true b6)
          have h := h au aa
          exact h
        · have h := h.2 (Int.not_lt.1 (of_decide_eq_false b6))
          refine thenW_in fun b5 bp => ?_
          have ab := aa.x_drew bp
          refine elim_some a0 ?_
          obtain ⟨ao, b0, h⟩ := h
          refine ⟨ao, (ab).cell b0 id, ?_⟩
          refine elim_some a0 ?_
          obtain ⟨a9, ar, h⟩ := h
          refine ⟨a9, (ab).cell ar id, ?_⟩
          refine elim_some a0 ?_
          obtain ⟨am, ax, h⟩ := h
          refine ⟨am, (ab).cell ax id, ?_⟩
          have h := h b5 ab
          refine h.mono fun ca bv h => ?_
          obtain ⟨a2, a1, a5, a8, he, h⟩ := h
          refine ⟨a2, a1, a5, a8, he, ?_⟩
          obtain ⟨I1, bm, h0, h⟩ := h
          refine ⟨I1, bm, h0, fun c1 al br hI => ?_⟩
          have h := h c1 al br hI
          refine bif_of (fun bd => ?_) (fun bd => ?_)
          · have h := h.1 (of_decide_eq_true bd)
            obtain ⟨cb, b4, h⟩ := h
            refine elim_some b4 ?_
            obtain ⟨bk, bw, h⟩ := h
            refine ⟨bk, bw, ?_⟩
            obtain ⟨be, av, aq, ba, h⟩ := h
            refine ⟨be, av, aq, ba, ?_⟩
            refine thenW_in fun bb bu => ?_
            have ac := (Ext.refl no al).x_drew bu
            refine elim_some a0 ?_
            obtain ⟨c7, az, h⟩ := h
            refine ⟨c7, (ac).cell az id, ?_⟩
            refine elim_some a0 ?_
            obtain ⟨ag, b1, h⟩ := h
            refine ⟨ag, (ac).cell b1 id, ?_⟩
            refine elim_some a0 ?_
            obtain ⟨ai, ay, h⟩ := h
            refine ⟨ai, (ac).cell ay id, ?_⟩
            obtain ⟨a3, a4, h⟩ := h
            try rw [w64 a3 a4]
            obtain ⟨a3, a4, h⟩ := h
            try rw [w64 a3 a4]
            have h := h bb ac
            refine h.mono fun c6 bq h => ?_
            obtain ⟨a7, he, h⟩ := h
            refine ⟨a7, he, ?_⟩
            refine bif_of (fun b2 => ?_) (fun b2 => ?_)
            · have h := h.1 (bne_t b2)
              refine elim_some a0 ?_
              obtain ⟨hcs, h⟩ := h
              refine ⟨hcs, thenW_in fun c8 bl => ?_⟩
              replace h := thenW_out h bl
              exact h
            · have h := h.2 (bne_f b2)
              obtain ⟨a3, a4, h⟩ := h
              try rw [w64 a3 a4]
              obtain ⟨bz, hk, h⟩ := h
              exact ⟨bz, hk, h⟩
          · have h := h.2 (Int.not_lt.1 (of_decide_eq_false bd))
            refine elim_some a0 ?_
            obtain ⟨bo, b3, h⟩ := h
            refine ⟨bo, b3, ?_⟩
            refine h.mono fun bj bn h => ?_
            obtain ⟨ad, he, h⟩ := h
            refine ⟨ad, he, ?_⟩
            refine bif_of (fun b8 => ?_) (fun b8 => ?_)
            · have h := h.1 (bne_t b8)
              refine elim_some a0 ?_
              obtain ⟨hcs, h⟩ := h
              refine ⟨hcs, thenW_in fun bs c0 => ?_⟩
              replace h := thenW_out h c0
              exact h
            · have h := h.2 (bne_f b8)
              refine elim_some a0 ?_
              obtain ⟨af, aw, h⟩ := h
              refine ⟨af, aw, ?_⟩
              obtain ⟨a3, a4, h⟩ := h
              try rw [w64 a3 a4]
              refine elim_some a0 ?_
              obtain ⟨hcs, h⟩ := h
              refine ⟨hcs, thenW_in fun bt c3 => ?_⟩
              replace h := thenW_out h c3
              refine elim_some a0 ?_
              obtain ⟨ak, b7, h⟩ := h
              refine ⟨ak, b7, ?_⟩
              obtain ⟨a3, a4, h⟩ := h
              try rw [w64 a3 a4]
              refine elim_some a0 ?_
              obtain ⟨hcs, h⟩ := h
              refine ⟨hcs, thenW_in fun bi bx => ?_⟩
              replace h := thenW_out h bx
              exact h

theorem journal_Journal_Append.go (j1 : Option Addr) (a1 : Option Addr) (a2 : Nat) (a0 : Nat) {R : Value → World → Prop} {w : World} (h : journal_Journal_Append.N j1 a1 a2 a0 R w) : Calls Try.prog 23 #[.pointer j1, .slice a1 a2 a0] w fun e w' => ∃ v, e = .returned v ∧ R v w' := journal_Journal_Append.ok j1 a1 a2 a0 (journal_Journal_Append.up j1 a1 a2 a0 h)
theorem journal_Journal_Append.run (j1 : Option Addr) (a1 : Option Addr) (a2 : Nat) (a0 : Nat) {V : Value} {Q : World → Prop} {w : World} (h : journal_Journal_Append.N j1 a1 a2 a0 (fun v w' => v = V ∧ Q w') w) : Calls Try.prog 23 #[.pointer j1, .slice a1 a2 a0] w (Ret V Q) := (journal_Journal_Append.go j1 a1 a2 a0 h).mono fun e w' ⟨v, he, hv, hq⟩ => ⟨by rw [he, hv], hq⟩

/-- (*journal.Journal).Count -/
def journal_Journal_Count.M (j1 : Option Addr) (R : Value → World → Prop) (w : World) : Prop :=
 bif Option.isNone j1 then (
 R (.int .i64 0) w) else (
 j1.elim False fun a2 =>
 ∃ (a0 : Int), w.cell? (a2.add 6) = some (.int .i64 a0) ∧
 R (.int .i64 a0) w)

theorem journal_Journal_Count.eq (j1 : Option Addr) (R : Value → World → Prop) (w : World) : mfunc Try.prog [] 32 [.pointer j1] R w = journal_Journal_Count.M j1 R w := by kernel_rfl
theorem journal_Journal_Count.ok (j1 : Option Addr) {R : Value → World → Prop} {w : World} (h : journal_Journal_Count.M j1 R w) : Calls Try.prog 32 #[.pointer j1] w fun e w' => ∃ v, e = .returned v ∧ R v w' :=
  mfunc_ok follows (H := []) (args := [.pointer j1]) (by rw [journal_Journal_Count.eq]; exact h)

def journal_Journal_Count.N (j1 : Option Addr) (R : Value → World → Prop) (w : World) : Prop :=
 (j1 = none →
 R (.int .i64 0) w) ∧
 (j1 ≠ none →
 ∃ a3 : Addr, j1 = some a3 ∧
 ∃ (a0 : Int), w.cell? (a3.add 6) = some (.int .i64 a0) ∧
 R (.int .i64 a0) w)

theorem journal_Journal_Count.up (j1 : Option Addr) {R : Value → World → Prop} {w : World} (h : journal_Journal_Count.N j1 R w) : journal_Journal_Count.M j1 R w := by
  unfold journal_Journal_Count.M
  unfold journal_Journal_Count.N at h
  refine bif_of (fun c2 => ?_) (fun c2 => ?_)
  · have h := h.1 (isNone_t c2)
    exact h
  · have h := h.2 (isNone_f c2)
    obtain ⟨a3, a2, h⟩ := h
    refine elim_some a2 ?_
    obtain ⟨a0, a1, h⟩ := h
    refine ⟨a0, a1, ?_⟩
    exact h

theorem journal_Journal_Count.go (j1 : Option Addr) {R : Value → World → Prop} {w : World} (h : journal_Journal_Count.N j1 R w) : Calls Try.prog 32 #[.pointer j1] w fun e w' => ∃ v, e = .returned v ∧ R v w' := journal_Journal_Count.ok j1 (journal_Journal_Count.up j1 h)
theorem journal_Journal_Count.run (j1 : Option Addr) {V : Value} {Q : World → Prop} {w : World} (h : journal_Journal_Count.N j1 (fun v w' => v = V ∧ Q w') w) : Calls Try.prog 32 #[.pointer j1] w (Ret V Q) := (journal_Journal_Count.go j1 h).mono fun e w' ⟨v, he, hv, hq⟩ => ⟨by rw [he, hv], hq⟩

/-- (*journal.Journal).Room -/
def journal_Journal_Room.M (j1 : Option Addr) (R : Value → World → Prop) (w : World) : Prop :=
 bif Option.isNone j1 then (
 R (.int .i64 0) w) else (
 thenW (w.drew) fun a2 =>
 j1.elim False fun a3 =>
 ∃ (a1 : Int), a2.cell? (a3.add 2) = some (.int .i64 a1) ∧
 j1.elim False fun a5 =>
 ∃ (a0 : Int), a2.cell? (a5.add 5) = some (.int .i64 a0) ∧
 R (.int .i64 (IntKind.i64.wrap (a1 - a0))) a2)

theorem journal_Journal_Room.eq (j1 : Option Addr) (R : Value → World → Prop) (w : World) : mfunc Try.prog [] 22 [.pointer j1] R w = journal_Journal_Room.M j1 R w := by kernel_rfl
theorem journal_Journal_Room.ok (j1 : Option Addr) {R : Value → World → Prop} {w : World} (h : journal_Journal_Room.M j1 R w) : Calls Try.prog 22 #[.pointer j1] w fun e w' => ∃ v, e = .returned v ∧ R v w' :=
  mfunc_ok follows (H := []) (args := [.pointer j1]) (by rw [journal_Journal_Room.eq]; exact h)

def journal_Journal_Room.N (j1 : Option Addr) (R : Value → World → Prop) (w : World) : Prop :=
 (j1 = none →
 R (.int .i64 0) w) ∧
 (j1 ≠ none →
 ∃ a4 : Addr, j1 = some a4 ∧
 ∃ (a0 : Int), w.cell? (a4.add 2) = some (.int .i64 a0) ∧
 ∃ (a1 : Int), w.cell? (a4.add 5) = some (.int .i64 a1) ∧
 (-9223372036854775808 : Int) ≤ (a0 - a1) ∧ (a0 - a1) < 9223372036854775808 ∧
 ∀ (a2 : World), Ext no w a2 →
 R (.int .i64 (a0 - a1)) a2)

theorem journal_Journal_Room.up (j1 : Option Addr) {R : Value → World → Prop} {w : World} (h : journal_Journal_Room.N j1 R w) : journal_Journal_Room.M j1 R w := by
  unfold journal_Journal_Room.M
  unfold journal_Journal_Room.N at h
  refine bif_of (fun c2 => ?_) (fun c2 => ?_)
  · have h := h.1 (isNone_t c2)
    exact h
  · have h := h.2 (isNone_f c2)
    refine thenW_in fun a7 e3 => ?_
    have a2 := (Ext.refl no w).x_drew e3
    obtain ⟨a4, a3, h⟩ := h
    refine elim_some a3 ?_
    obtain ⟨a1, a8, h⟩ := h
    refine ⟨a1, (a2).cell a8 id, ?_⟩
    refine elim_some a3 ?_
    obtain ⟨a0, a6, h⟩ := h
    refine ⟨a0, (a2).cell a6 id, ?_⟩
    obtain ⟨a5, a9, h⟩ := h
    try rw [w64 a5 a9]
    have h := h a7 a2
    exact h

theorem journal_Journal_Room.go (j1 : Option Addr) {R : Value → World → Prop} {w : World} (h : journal_Journal_Room.N j1 R w) : Calls Try.prog 22 #[.pointer j1] w fun e w' => ∃ v, e = .returned v ∧ R v w' := journal_Journal_Room.ok j1 (journal_Journal_Room.up j1 h)
theorem journal_Journal_Room.run (j1 : Option Addr) {V : Value} {Q : World → Prop} {w : World} (h : journal_Journal_Room.N j1 (fun v w' => v = V ∧ Q w') w) : Calls Try.prog 22 #[.pointer j1] w (Ret V Q) := (journal_Journal_Room.go j1 h).mono fun e w' ⟨v, he, hv, hq⟩ => ⟨by rw [he, hv], hq⟩

/-- (*journal.Journal).Round -/
def journal_Journal_Round.M (j1 : Option Addr) (R : Value → World → Prop) (w : World) : Prop :=
 bif Option.isNone j1 then (
 R (.int .u32 0) w) else (
 j1.elim False fun a2 =>
 ∃ (a0 : Int), w.cell? (a2.add 4) = some (.int .u32 a0) ∧
 R (.int .u32 a0) w)

theorem journal_Journal_Round.eq (j1 : Option Addr) (R : Value → World → Prop) (w : World) : mfunc Try.prog [] 33 [.pointer j1] R w = journal_Journal_Round.M j1 R w := by kernel_rfl
theorem journal_Journal_Round.ok (j1 : Option Addr) {R : Value → World → Prop} {w : World} (h : journal_Journal_Round.M j1 R w) : Calls Try.prog 33 #[.pointer j1] w fun e w' => ∃ v, e = .returned v ∧ R v w' :=
  mfunc_ok follows (H := []) (args := [.pointer j1]) (by rw [journal_Journal_Round.eq]; exact h)

def journal_Journal_Round.N (j1 : Option Addr) (R : Value → World → Prop) (w : World) : Prop :=
 (j1 = none →
 R (.int .u32 0) w) ∧
 (j1 ≠ none →
 ∃ a3 : Addr, j1 = some a3 ∧
 ∃ (a0 : Int), w.cell? (a3.add 4) = some (.int .u32 a0) ∧
 R (.int .u32 a0) w)

theorem journal_Journal_Round.up (j1 : Option Addr) {R : Value → World → Prop} {w : World} (h : journal_Journal_Round.N j1 R w) : journal_Journal_Round.M j1 R w := by
  unfold journal_Journal_Round.M
  unfold journal_Journal_Round.N at h
  refine bif_of (fun c2 => ?_) (fun c2 => ?_)
  · have h := h.1 (isNone_t c2)
    exact h
  · have h := h.2 (isNone_f c2)
    obtain ⟨a3, a2, h⟩ := h
    refine elim_some a2 ?_
    obtain ⟨a0, a1, h⟩ := h
    refine ⟨a0, a1, ?_⟩
    exact h

theorem journal_Journal_Round.go (j1 : Option Addr) {R : Value → World → Prop} {w : World} (h : journal_Journal_Round.N j1 R w) : Calls Try.prog 33 #[.pointer j1] w fun e w' => ∃ v, e = .returned v ∧ R v w' := journal_Journal_Round.ok j1 (journal_Journal_Round.up j1 h)
theorem journal_Journal_Round.run (j1 : Option Addr) {V : Value} {Q : World → Prop} {w : World} (h : journal_Journal_Round.N j1 (fun v w' => v = V ∧ Q w') w) : Calls Try.prog 33 #[.pointer j1] w (Ret V Q) := (journal_Journal_Round.go j1 h).mono fun e w' ⟨v, he, hv, hq⟩ => ⟨by rw [he, hv], hq⟩

/-- cachettelaw10.alive -/
def cachettelaw10_alive.M  (R : Value → World → Prop) (w : World) : Prop :=
 thenW (w.alloc (.cells #[.int .u8 97, .int .u8 98] 5)) fun bk =>
 ∃ (be : Option Addr) (bb : Nat) (bc : Nat) (bi : World), (convert 23 23 (.slice (some (blk w.heap.size)) 2 2)).run Try.prog bk = .ok (.slice be bb bc) bi ∧
 Calls Try.prog 9 #[.int .u32 1, .int .u32 1, .int .u32 0, .slice be bb bc] bi fun bo bp => ∃ (a2 : Option Addr) (a1 : Nat) (af : Nat) (ad : Int), bo = .returned (.tuple #[.slice a2 a1 af, .int .i64 ad]) ∧
 Calls Try.prog 19 #[.int .i64 4] bp fun b2 b0 => ∃ (ag : Option Addr) (az : Int), b2 = .returned (.tuple #[.pointer ag, .int .i64 az]) ∧
 Calls Try.prog 20 #[.pointer ag, .int .i64 0, .int .i64 4, .int .u32 1] b0 fun ay ar => ∃ (a7 : Option Addr) (aa : Option Addr) (ab : Nat) (ac : Nat) (a8 : Int), ay = .returned (.tuple #[.pointer a7, .slice aa ab ac, .int .i64 a8]) ∧
 thenW (ar.alloc (.cells #[.int .u8 97, .int .u8 98] 5)) fun b8 =>
 ∃ (am : Option Addr) (aq : Nat) (aj : Nat) (ah : World), (convert 23 23 (.slice (some (blk ar.heap.size)) 2 2)).run Try.prog b8 = .ok (.slice am aq aj) ah ∧
 Calls Try.prog 23 #[.pointer a7, .slice am aq aj] ah fun b1 b9 => ∃ (a4 : Int), b1 = .returned (.int .i64 a4) ∧
 Calls Try.prog 20 #[.pointer ag, .int .i64 0, .int .i64 4, .int .u32 1] b9 fun ba a0 => ∃ (ae : Option Addr) (a5 : Option Addr) (a3 : Nat) (a9 : Nat) (a6 : Int), ba = .returned (.tuple #[.pointer ae, .slice a5 a3 a9, .int .i64 a6]) ∧
 bif ad == 0 then (
 bif (a1 : Int) == 1 then (
 a2.elim False fun bt =>
 0 ≤ (0 : Int) ∧ (0 : Int) < (a1 : Int) ∧
 ∃ (b3 : Option Addr) (ao : Nat) (b4 : Nat), a0.cell? (bt.add (Int.toNat 0 * 1)) = some (.slice b3 ao b4) ∧
 bif (ao : Int) == 64 then (
 a2.elim False fun bj =>
 0 ≤ (0 : Int) ∧ (0 : Int) < (a1 : Int) ∧
 ∃ (ai : Option Addr) (al : Nat) (b5 : Nat), a0.cell? (bj.add (Int.toNat 0 * 1)) = some (.slice ai al b5) ∧
 ai.elim False fun bs =>
 0 ≤ (0 : Int) ∧ (0 : Int) < (al : Int) ∧
 ∃ (bh : Int), a0.cell? (bs.add (Int.toNat 0 * 1)) = some (.int .u8 bh) ∧
 bif bh == 197 then (
 a2.elim False fun bl =>
 0 ≤ (0 : Int) ∧ (0 : Int) < (a1 : Int) ∧
 ∃ (ax : Option Addr) (aw : Nat) (b6 : Nat), a0.cell? (bl.add (Int.toNat 0 * 1)) = some (.slice ax aw b6) ∧
 ax.elim False fun bn =>
 0 ≤ (15 : Int) ∧ (15 : Int) < (aw : Int) ∧
 ∃ (bg : Int), a0.cell? (bn.add (Int.toNat 15 * 1)) = some (.int .u8 bg) ∧
 bif bg == 2 then (
 a2.elim False fun bq =>
 0 ≤ (0 : Int) ∧ (0 : Int) < (a1 : Int) ∧
 ∃ (ak : Option Addr) (au : Nat) (b7 : Nat), a0.cell? (bq.add (Int.toNat 0 * 1)) = some (.slice ak au b7) ∧
 ak.elim False fun br =>
 0 ≤ (17 : Int) ∧ (17 : Int) < (au : Int) ∧
 ∃ (bd : Int), a0.cell? (br.add (Int.toNat 17 * 1)) = some (.int .u8 bd) ∧
 bif bd == 98 then (
 bif a8 == 0 then (
 bif a4 == 0 then (
 bif a6 == 0 then (
 bif (a3 : Int) == 1 then (
 a5.elim False fun bm =>
 0 ≤ (0 : Int) ∧ (0 : Int) < (a3 : Int) ∧
 ∃ (ap : Option Addr) (av : Nat) (an : Nat), a0.cell? (bm.add (Int.toNat 0 * 1)) = some (.slice ap av an) ∧
 ∃ (bf : ByteArray), (convert 23 9 (.slice ap av an)).run Try.prog a0 = .ok (.string bf) a0 ∧
 R (.bool (bf.toList == (ByteArray.mk #[97, 98]).toList)) a0) else (
 R (.bool false) a0)) else (
 R (.bool false) a0)) else (
 R (.bool false) a0)) else (
 R (.bool false) a0)) else (
 R (.bool false) a0)) else (
 R (.bool false) a0)) else (
 R (.bool false) a0)) else (
 R (.bool false) a0)) else (
 R (.bool false) a0)) else (
 R (.bool false) a0)

theorem cachettelaw10_alive.eq  (R : Value → World → Prop) (w : World) : mfunc Try.prog [] 8 [] R w = cachettelaw10_alive.M  R w := by kernel_rfl
theorem cachettelaw10_alive.ok  {R : Value → World → Prop} {w : World} (h : cachettelaw10_alive.M  R w) : Calls Try.prog 8 #[] w fun e w' => ∃ v, e = .returned v ∧ R v w' :=
  mfunc_ok follows (H := []) (args := []) (by rw [cachettelaw10_alive.eq]; exact h)

def cachettelaw10_alive.N  (R : Value → World → Prop) (w : World) : Prop :=
 ∀ (b1 : World) (q2 : Nat), Ext no w b1 → Blk b1 q2 5 [.int .u8 97, .int .u8 98] → w.heap.size ≤ q2 → q2 < b1.heap.size →
 ∃ (bl : Option Addr) (bi : Nat) (bh : Nat) (bm : World), (convert 23 23 (.slice (some (blk q2)) 2 2)).run Try.prog b1 = .ok (.slice bl bi bh) bm ∧
 Calls Try.prog 9 #[.int .u32 1, .int .u32 1, .int .u32 0, .slice bl bi bh] bm fun bq br => ∃ (a9 : Option Addr) (a1 : Nat) (af : Nat) (a7 : Int), bq = .returned (.tuple #[.slice a9 a1 af, .int .i64 a7]) ∧
 Calls Try.prog 19 #[.int .i64 4] br fun b7 b9 => ∃ (ah : Option Addr) (aq : Int), b7 = .returned (.tuple #[.pointer ah, .int .i64 aq]) ∧
 Calls Try.prog 20 #[.pointer ah, .int .i64 0, .int .i64 4, .int .u32 1] b9 fun b4 aw => ∃ (a8 : Option Addr) (ab : Option Addr) (aa : Nat) (ac : Nat) (a4 : Int), b4 = .returned (.tuple #[.pointer a8, .slice ab aa ac, .int .i64 a4]) ∧
 ∀ (ag : World) (b2 : Nat), Ext no aw ag → Blk ag b2 5 [.int .u8 97, .int .u8 98] → aw.heap.size ≤ b2 → b2 < ag.heap.size →
 ∃ (ar : Option Addr) (aj : Nat) (b0 : Nat) (ak : World), (convert 23 23 (.slice (some (blk b2)) 2 2)).run Try.prog ag = .ok (.slice ar aj b0) ak ∧
 Calls Try.prog 23 #[.pointer a8, .slice ar aj b0] ak fun b8 bd => ∃ (a3 : Int), b8 = .returned (.int .i64 a3) ∧
 Calls Try.prog 20 #[.pointer ah, .int .i64 0, .int .i64 4, .int .u32 1] bd fun be a0 => ∃ (ae : Option Addr) (a6 : Option Addr) (a2 : Nat) (ad : Nat) (a5 : Int), be = .returned (.tuple #[.pointer ae, .slice a6 a2 ad, .int .i64 a5]) ∧
 (a7 = 0 →
 ((a1 : Int) = 1 →
 ∃ ay : Addr, a9 = some ay ∧
 (0 : Int) < (a1 : Int) ∧
 ∃ (bf : Option Addr) (ai : Nat) (b5 : Nat), a0.cell? (ay.add (Int.toNat 0 * 1)) = some (.slice bf ai b5) ∧
 ((ai : Int) = 64 →
 (0 : Int) < (a1 : Int) ∧
 ∃ (au : Option Addr) (am : Nat) (bc : Nat), a0.cell? (ay.add (Int.toNat 0 * 1)) = some (.slice au am bc) ∧
 ∃ bn : Addr, au = some bn ∧
 (0 : Int) < (am : Int) ∧
 ∃ (b3 : Int), a0.cell? (bn.add (Int.toNat 0 * 1)) = some (.int .u8 b3) ∧
 (b3 = 197 →
 (0 : Int) < (a1 : Int) ∧
 ∃ (ap : Option Addr) (az : Nat) (ba : Nat), a0.cell? (ay.add (Int.toNat 0 * 1)) = some (.slice ap az ba) ∧
 ∃ bp : Addr, ap = some bp ∧
 (15 : Int) < (az : Int) ∧
 ∃ (b6 : Int), a0.cell? (bp.add (Int.toNat 15 * 1)) = some (.int .u8 b6) ∧
 (b6 = 2 →
 (0 : Int) < (a1 : Int) ∧
 ∃ (av : Option Addr) (ax : Nat) (bg : Nat), a0.cell? (ay.add (Int.toNat 0 * 1)) = some (.slice av ax bg) ∧
 ∃ bj : Addr, av = some bj ∧
 (17 : Int) < (ax : Int) ∧
 ∃ (bb : Int), a0.cell? (bj.add (Int.toNat 17 * 1)) = some (.int .u8 bb) ∧
 (bb = 98 →
 (a4 = 0 →
 (a3 = 0 →
 (a5 = 0 →
 ((a2 : Int) = 1 →
 ∃ bk : Addr, a6 = some bk ∧
 (0 : Int) < (a2 : Int) ∧
 ∃ (an : Option Addr) (ao : Nat) (al : Nat), a0.cell? (bk.add (Int.toNat 0 * 1)) = some (.slice an ao al) ∧
 ∃ (bo : ByteArray), (convert 23 9 (.slice an ao al)).run Try.prog a0 = .ok (.string bo) a0 ∧
 R (.bool (bo.toList == (ByteArray.mk #[97, 98]).toList)) a0) ∧
 ((a2 : Int) ≠ 1 →
 R (.bool false) a0)) ∧
 (a5 ≠ 0 →
 R (.bool false) a0)) ∧
 (a3 ≠ 0 →
 R (.bool false) a0)) ∧
 (a4 ≠ 0 →
 R (.bool false) a0)) ∧
 (bb ≠ 98 →
 R (.bool false) a0)) ∧
 (b6 ≠ 2 →
 R (.bool false) a0)) ∧
 (b3 ≠ 197 →
 R (.bool false) a0)) ∧
 ((ai : Int) ≠ 64 →
 R (.bool false) a0)) ∧
 ((a1 : Int) ≠ 1 →
 R (.bool false) a0)) ∧
 (a7 ≠ 0 →
 R (.bool false) a0)

theorem cachettelaw10_alive.up  {R : Value → World → Prop} {w : World} (h : cachettelaw10_alive.N  R w) : cachettelaw10_alive.M  R w := by
  unfold cachettelaw10_alive.M
  unfold cachettelaw10_alive.N at h
  refine thenW_in fun bv e1 => ?_
  have h := h bv w.heap.size ((Ext.refl no w).x_alloc e1) (Blk.of_new e1) ((Ext.refl no w)).size (size_lt_alloc e1)
  obtain ⟨bx, c1, c3, c6, hr, h⟩ := h
  refine ⟨bx, c1, c3, c6, hr, ?_⟩
  refine h.mono fun cg ch h => ?_
  obtain ⟨ac, a9, af, ag, he, h⟩ := h
  refine ⟨ac, a9, af, ag, he, ?_⟩
  refine h.mono fun c4 c5 h => ?_
  obtain ⟨am, ai, he, h⟩ := h
  refine ⟨am, ai, he, ?_⟩
  refine h.mono fun bu ah h => ?_
  obtain ⟨ae, a7, a4, a1, aa, he, h⟩ := h
  refine ⟨ae, a7, a4, a1, aa, he, ?_⟩
  refine thenW_in fun bc bg => ?_
  have h := h bc ah.heap.size ((Ext.refl no ah).x_alloc bg) (Blk.of_new bg) ((Ext.refl no ah)).size (size_lt_alloc bg)
  obtain ⟨aw, bf, bt, bi, hr, h⟩ := h
  refine ⟨aw, bf, bt, bi, hr, ?_⟩
  refine h.mono fun bw bz h => ?_
  obtain ⟨a5, he, h⟩ := h
  refine ⟨a5, he, ?_⟩
  refine h.mono fun c7 c0 h => ?_
  obtain ⟨a8, a3, a2, a6, ad, he, h⟩ := h
  refine ⟨a8, a3, a2, a6, ad, he, ?_⟩
  refine bif_of (fun bk => ?_) (fun bk => ?_)
  · have h := h.1 (beq_t bk)
    refine bif_of (fun br => ?_) (fun br => ?_)
    · have h := h.1 (beq_t br)
      obtain ⟨ce, ab, h⟩ := h
      refine elim_some ab ?_
      obtain ⟨a0, h⟩ := h
      refine ⟨by decide, a0, ?_⟩
      obtain ⟨bs, ap, aj, bm, h⟩ := h
      refine ⟨bs, ap, aj, bm, ?_⟩
      refine bif_of (fun bl => ?_) (fun bl => ?_)
      · have h := h.1 (beq_t bl)
        refine elim_some ab ?_
        obtain ⟨a0, h⟩ := h
        refine ⟨by decide, a0, ?_⟩
        obtain ⟨b8, an, au, b2, h⟩ := h
        refine ⟨b8, an, au, b2, ?_⟩
        obtain ⟨cd, ay, h⟩ := h
        refine elim_some ay ?_
        obtain ⟨a0, h⟩ := h
        refine ⟨by decide, a0, ?_⟩
        obtain ⟨c8, bn, h⟩ := h
        refine ⟨c8, bn, ?_⟩
        refine bif_of (fun ak => ?_) (fun ak => ?_)
        · have h := h.1 (beq_t ak)
          refine elim_some ab ?_
          obtain ⟨a0, h⟩ := h
          refine ⟨by decide, a0, ?_⟩
          obtain ⟨bh, bd, b4, b1, h⟩ := h
          refine ⟨bh, bd, b4, b1, ?_⟩
          obtain ⟨cb, av, h⟩ := h
          refine elim_some av ?_
          obtain ⟨a0, h⟩ := h
          refine ⟨by decide, a0, ?_⟩
          obtain ⟨c9, bb, h⟩ := h
          refine ⟨c9, bb, ?_⟩
          refine bif_of (fun az => ?_) (fun az => ?_)
          · have h := h.1 (beq_t az)
            refine elim_some ab ?_
            obtain ⟨a0, h⟩ := h
            refine ⟨by decide, a0, ?_⟩
            obtain ⟨ba, bq, b0, be, h⟩ := h
            refine ⟨ba, bq, b0, be, ?_⟩
            obtain ⟨cf, b9, h⟩ := h
            refine elim_some b9 ?_
            obtain ⟨a0, h⟩ := h
            refine ⟨by decide, a0, ?_⟩
            obtain ⟨ca, bo, h⟩ := h
            refine ⟨ca, bo, ?_⟩
            refine bif_of (fun bj => ?_) (fun bj => ?_)
            · have h := h.1 (beq_t bj)
              refine bif_of (fun bp => ?_) (fun bp => ?_)
              · have h := h.1 (beq_t bp)
                refine bif_of (fun b3 => ?_) (fun b3 => ?_)
                · have h := h.1 (beq_t b3)
                  refine bif_of (fun b5 => ?_) (fun b5 => ?_)
                  · have h := h.1 (beq_t b5)
                    refine bif_of (fun ao => ?_) (fun ao => ?_)
                    · have h := h.1 (beq_t ao)
                      obtain ⟨cc, ax, h⟩ := h
                      refine elim_some ax ?_
                      obtain ⟨a0, h⟩ := h
                      refine ⟨by decide, a0, ?_⟩
                      obtain ⟨aq, ar, al, b7, h⟩ := h
                      refine ⟨aq, ar, al, b7, ?_⟩
                      obtain ⟨c2, b6, h⟩ := h
                      refine ⟨c2, b6, ?_⟩
                      exact h
                    · have h := h.2 (beq_f ao)
                      exact h
                  · have h := h.2 (beq_f b5)
                    exact h
                · have h := h.2 (beq_f b3)
                  exact h
              · have h := h.2 (beq_f bp)
                exact h
            · have h := h.2 (beq_f bj)
              exact h
          · have h := h.2 (beq_f az)
            exact h
        · have h := h.2 (beq_f ak)
          exact h
      · have h := h.2 (beq_f bl)
        exact h
    · have h := h.2 (beq_f br)
      exact h
  · have h := h.2 (beq_f bk)
    exact h

theorem cachettelaw10_alive.go  {R : Value → World → Prop} {w : World} (h : cachettelaw10_alive.N  R w) : Calls Try.prog 8 #[] w fun e w' => ∃ v, e = .returned v ∧ R v w' := cachettelaw10_alive.ok  (cachettelaw10_alive.up  h)
theorem cachettelaw10_alive.run  {V : Value} {Q : World → Prop} {w : World} (h : cachettelaw10_alive.N  (fun v w' => v = V ∧ Q w') w) : Calls Try.prog 8 #[] w (Ret V Q) := (cachettelaw10_alive.go  h).mono fun e w' ⟨v, he, hv, hq⟩ => ⟨by rw [he, hv], hq⟩

/-- cachettelaw10.Bytes -/
def cachettelaw10_Bytes.M (ar : Int) (af : Int) (ao : Int) (av : Option Addr) (aw : Nat) (b0 : Nat) (ah : Int) (ax : Int) (az : Int) (R : Value → World → Prop) (w : World) : Prop :=
 thenW (w.alloc (.cells #[.int .u32 ar, .int .u32 af, .int .u32 ao, .slice av aw b0, .int .i64 ah, .int .i64 ax, .int .u8 az] 38)) fun an =>
 ∃ (am : Int), an.cell? ((blk w.heap.size).add 0) = some (.int .u32 am) ∧
 ∃ (a5 : Int), an.cell? ((blk w.heap.size).add 1) = some (.int .u32 a5) ∧
 ∃ (ag : Int), an.cell? ((blk w.heap.size).add 2) = some (.int .u32 ag) ∧
 ∃ (ak : Option Addr) (aj : Nat) (ai : Nat), an.cell? ((blk w.heap.size).add 3) = some (.slice ak aj ai) ∧
 Calls Try.prog 10 #[.int .u32 am, .int .u32 a5, .int .u32 ag, .slice ak aj ai] an fun au a0 => ∃ (a3 : Option Addr) (a1 : Nat) (a9 : Nat) (a6 : Int), au = .returned (.tuple #[.slice a3 a1 a9, .int .i64 a6]) ∧
 bif a6 != 0 then (
 R (.tuple #[.slice none 0 0, .bool false]) a0) else (
 ∃ (ac : Int), a0.cell? ((blk w.heap.size).add 4) = some (.int .i64 ac) ∧
 bif decide (ac < 0) then (
 R (.tuple #[.slice none 0 0, .bool false]) a0) else (
 ∃ (aa : Int), a0.cell? ((blk w.heap.size).add 4) = some (.int .i64 aa) ∧
 bif decide (aa ≥ (a1 : Int)) then (
 R (.tuple #[.slice none 0 0, .bool false]) a0) else (
 ∃ (a2 : Int), a0.cell? ((blk w.heap.size).add 4) = some (.int .i64 a2) ∧
 a3.elim False fun b3 =>
 0 ≤ (a2 : Int) ∧ (a2 : Int) < (a1 : Int) ∧
 ∃ (a7 : Option Addr) (a4 : Nat) (ad : Nat), a0.cell? (b3.add (Int.toNat a2 * 1)) = some (.slice a7 a4 ad) ∧
 ∃ (ap : Int), a0.cell? ((blk w.heap.size).add 5) = some (.int .i64 ap) ∧
 bif decide (ap ≥ 0) then (
 ∃ (aq : Int), a0.cell? ((blk w.heap.size).add 5) = some (.int .i64 aq) ∧
 bif decide (aq < (a4 : Int)) then (
 thenW (a0.drew) fun a8 =>
 ∃ (ab : Int), a8.cell? ((blk w.heap.size).add 5) = some (.int .i64 ab) ∧
 ∃ (ae : Int), a8.cell? ((blk w.heap.size).add 5) = some (.int .i64 ae) ∧
 a7.elim False fun b4 =>
 0 ≤ (ae : Int) ∧ (ae : Int) < (a4 : Int) ∧
 ∃ (b2 : Int), a8.cell? (b4.add (Int.toNat ae * 1)) = some (.int .u8 b2) ∧
 ∃ (al : Int), a8.cell? ((blk w.heap.size).add 6) = some (.int .u8 al) ∧
 a7.elim False fun b1 =>
 0 ≤ (ab : Int) ∧ (ab : Int) < (a4 : Int) ∧
 canStore a8 ((b1.add (Int.toNat ab * 1)).add 0) ∧
 thenW (a8.setCell ((b1.add (Int.toNat ab * 1)).add 0) (.int .u8 (IntKind.u8.wrap ((BitVec.ofInt (IntKind.bits .u8) b2 ^^^ BitVec.ofInt (IntKind.bits .u8) al).toNat)))) fun ay =>
 R (.tuple #[.slice a7 a4 ad, .bool true]) ay) else (
 R (.tuple #[.slice a7 a4 ad, .bool true]) a0)) else (
 R (.tuple #[.slice a7 a4 ad, .bool true]) a0))))

theorem cachettelaw10_Bytes.eq (rGen1 : Int) (rRound2 : Int) (rSeq3 : Int) (rB4a : Option Addr) (rB4n : Nat) (rB4c : Nat) (rPart5 : Int) (rAt6 : Int) (rBy7 : Int) (R : Value → World → Prop) (w : World) : mfunc Try.prog [] 15 [.agg #[.int .u32 rGen1, .int .u32 rRound2, .int .u32 rSeq3, .slice rB4a rB4n rB4c, .int .i64 rPart5, .int .i64 rAt6, .int .u8 rBy7]] R w = cachettelaw10_Bytes.M rGen1 rRound2 rSeq3 rB4a rB4n rB4c rPart5 rAt6 rBy7 R w := by kernel_rfl
theorem cachettelaw10_Bytes.ok (a3 : Int) (a0 : Int) (a2 : Int) (a6 : Option Addr) (a4 : Nat) (a7 : Nat) (a1 : Int) (a5 : Int) (a8 : Int) {R : Value → World → Prop} {w : World} (h : cachettelaw10_Bytes.M a3 a0 a2 a6 a4 a7 a1 a5 a8 R w) : Calls Try.prog 15 #[.agg #[.int .u32 a3, .int .u32 a0, .int .u32 a2, .slice a6 a4 a7, .int .i64 a1, .int .i64 a5, .int .u8 a8]] w fun e w' => ∃ v, e = .returned v ∧ R v w' :=
  mfunc_ok follows (H := []) (args := [.agg #[.int .u32 a3, .int .u32 a0, .int .u32 a2, .slice a6 a4 a7, .int .i64 a1, .int .i64 a5, .int .u8 a8]]) (by rw [cachettelaw10_Bytes.eq]; exact h)

def cachettelaw10_Bytes.N (ad : Int) (aa : Int) (ac : Int) (ag : Option Addr) (ah : Nat) (al : Nat) (a0 : Int) (a2 : Int) (aj : Int) (R : Value → World → Prop) (w : World) : Prop :=
 ∀ (ae : World) (p9 : Nat), Ext no w ae → Priv w ae [p9] →
 Calls Try.prog 10 #[.int .u32 ad, .int .u32 aa, .int .u32 ac, .slice ag ah al] ae fun ai a4 => ∃ (a6 : Option Addr) (a1 : Nat) (a7 : Nat) (a3 : Int), ai = .returned (.tuple #[.slice a6 a1 a7, .int .i64 a3]) ∧
 Keep [p9] ae a4 ∧
 (a3 ≠ 0 →
 R (.tuple #[.slice none 0 0, .bool false]) a4) ∧
 (a3 = 0 →
 (a0 < 0 →
 R (.tuple #[.slice none 0 0, .bool false]) a4) ∧
 ((0 : Int) ≤ a0 →
 (a0 ≥ (a1 : Int) →
 R (.tuple #[.slice none 0 0, .bool false]) a4) ∧
 (a0 < (a1 : Int) →
 ∃ am : Addr, a6 = some am ∧
 0 ≤ (a0 : Int) ∧ (a0 : Int) < (a1 : Int) ∧
 ∃ (a8 : Option Addr) (a5 : Nat) (a9 : Nat), a4.cell? (am.add (Int.toNat a0 * 1)) = some (.slice a8 a5 a9) ∧
 (a2 ≥ 0 →
 (a2 < (a5 : Int) →
 ∃ af : Addr, a8 = some af ∧
 0 ≤ (a2 : Int) ∧ (a2 : Int) < (a5 : Int) ∧
 ∃ (an : Int), a4.cell? (af.add (Int.toNat a2 * 1)) = some (.int .u8 an) ∧
 0 ≤ (a2 : Int) ∧ (a2 : Int) < (a5 : Int) ∧
 ∀ (ab : World), Ext no a4 ab →
 canStore ab ((af.add (Int.toNat a2 * 1)).add 0) ∧
 thenW (ab.setCell ((af.add (Int.toNat a2 * 1)).add 0) (.int .u8 (IntKind.u8.wrap ((BitVec.ofInt (IntKind.bits .u8) an ^^^ BitVec.ofInt (IntKind.bits .u8) aj).toNat)))) fun ak =>
 R (.tuple #[.slice a8 a5 a9, .bool true]) ak) ∧
 ((a5 : Int) ≤ a2 →
 R (.tuple #[.slice a8 a5 a9, .bool true]) a4)) ∧
 (a2 < 0 →
 R (.tuple #[.slice a8 a5 a9, .bool true]) a4))))

theorem cachettelaw10_Bytes.up (a8 : Int) (a1 : Int) (a6 : Int) (aa : Option Addr) (ab : Nat) (ad : Nat) (a0 : Int) (a3 : Int) (ac : Int) {R : Value → World → Prop} {w : World} (h : cachettelaw10_Bytes.N a8 a1 a6 aa ab ad a0 a3 ac R w) : cachettelaw10_Bytes.M a8 a1 a6 aa ab ad a0 a3 ac R w := by
  unfold cachettelaw10_Bytes.M
  unfold cachettelaw10_Bytes.N at h
  refine thenW_in fun b3 e8 => ?_
  have a2 := Blk.of_new e8
  have b0 := ((Ext.refl no w)).size
  have az := (Ext.refl no w).x_alloc e8
  refine ⟨a8, a2.celli 0 rfl rfl, ?_⟩
  refine ⟨a1, a2.celli 1 rfl rfl, ?_⟩
  refine ⟨a6, a2.celli 2 rfl rfl, ?_⟩
  refine ⟨aa, ab, ad, a2.celli 3 rfl rfl, ?_⟩
  have h := h b3 (w.heap.size) az (Priv.cons b0 a2.lt Priv.nil)
  refine h.mono fun b2 an h => ?_
  obtain ⟨a7, a5, a4, a9, he, hk, h⟩ := h
  refine ⟨a7, a5, a4, a9, he, ?_⟩
  have a2 := hk.blk a2 (by simp)
  refine bif_of (fun aj => ?_) (fun aj => ?_)
  · have h := h.1 (bne_t aj)
    exact h
  · have h := h.2 (bne_f aj)
    refine ⟨a0, a2.celli 4 rfl rfl, ?_⟩
    refine bif_of (fun ao => ?_) (fun ao => ?_)
    · have h := h.1 (of_decide_eq_true ao)
      exact h
    · have h := h.2 (Int.not_lt.1 (of_decide_eq_false ao))
      refine ⟨a0, a2.celli 4 rfl rfl, ?_⟩
      refine bif_of (fun ap => ?_) (fun ap => ?_)
      · have h := h.1 (of_decide_eq_true ap)
        exact h
      · have h := h.2 (Int.not_le.1 (of_decide_eq_false ap))
        refine ⟨a0, a2.celli 4 rfl rfl, ?_⟩
        obtain ⟨b5, ai, h⟩ := h
        refine elim_some ai ?_
        obtain ⟨ah, ag, h⟩ := h
        refine ⟨ah, ag, ?_⟩
        obtain ⟨au, am, al, aw, h⟩ := h
        refine ⟨au, am, al, aw, ?_⟩
        refine ⟨a3, a2.celli 5 rfl rfl, ?_⟩
        refine bif_of (fun ak => ?_) (fun ak => ?_)
        · have h := h.1 (of_decide_eq_true ak)
          refine ⟨a3, a2.celli 5 rfl rfl, ?_⟩
          refine bif_of (fun aq => ?_) (fun aq => ?_)
          · have h := h.1 (of_decide_eq_true aq)
            refine thenW_in fun ar ax => ?_
            have ae := (Ext.refl no an).x_drew ax
            have a2 := a2.x_drew ax
            refine ⟨a3, a2.celli 5 rfl rfl, ?_⟩
            refine ⟨a3, a2.celli 5 rfl rfl, ?_⟩
            obtain ⟨b6, af, h⟩ := h
            refine elim_some af ?_
            obtain ⟨ah, ag, h⟩ := h
            refine ⟨ah, ag, ?_⟩
            obtain ⟨b4, av, h⟩ := h
            refine ⟨b4, (ae).cell av id, ?_⟩
            refine ⟨ac, a2.celli 6 rfl rfl, ?_⟩
            refine elim_some af ?_
            obtain ⟨ah, ag, h⟩ := h
            refine ⟨ah, ag, ?_⟩
            have h := h ar ae
            obtain ⟨hcs, h⟩ := h
            refine ⟨hcs, thenW_in fun b1 ay => ?_⟩
            replace h := thenW_out h ay
            exact h
          · have h := h.2 (Int.not_lt.1 (of_decide_eq_false aq))
            exact h
        · have h := h.2 (Int.not_le.1 (of_decide_eq_false ak))
          exact h

theorem cachettelaw10_Bytes.go (a3 : Int) (a0 : Int) (a2 : Int) (a6 : Option Addr) (a4 : Nat) (a7 : Nat) (a1 : Int) (a5 : Int) (a8 : Int) {R : Value → World → Prop} {w : World} (h : cachettelaw10_Bytes.N a3 a0 a2 a6 a4 a7 a1 a5 a8 R w) : Calls Try.prog 15 #[.agg #[.int .u32 a3, .int .u32 a0, .int .u32 a2, .slice a6 a4 a7, .int .i64 a1, .int .i64 a5, .int .u8 a8]] w fun e w' => ∃ v, e = .returned v ∧ R v w' := cachettelaw10_Bytes.ok a3 a0 a2 a6 a4 a7 a1 a5 a8 (cachettelaw10_Bytes.up a3 a0 a2 a6 a4 a7 a1 a5 a8 h)
/-- cachettelaw10.lightRaw -/
def cachettelaw10_lightRaw.M (a3 : Option Addr) (a1 : Nat) (a7 : Nat) (R : Value → World → Prop) (w : World) : Prop :=
 bif decide ((a1 : Int) > 40) then (
 R (.bool false) w) else (
 ∃ (I0 : Nat → List Value → World → Prop) (m3 : Nat), I0 m3 [.int .i64 0] w ∧ ∀ (m4 : Nat) (a0 : World) (i2 : Int), I0 m4 [.int .i64 i2] a0 →
 bif decide (i2 < (a1 : Int)) then (
 a3.elim False fun a6 =>
 0 ≤ (i2 : Int) ∧ (i2 : Int) < (a1 : Int) ∧
 ∃ (a4 : Option Addr) (a2 : Nat) (a5 : Nat), a0.cell? ((a6.add (Int.toNat i2 * 7)).add 3) = some (.slice a4 a2 a5) ∧
 bif decide ((a2 : Int) > 500) then (
 R (.bool false) a0) else (
 ∃ m8, m8 < m4 ∧ I0 m8 [.int .i64 (IntKind.i64.wrap (i2 + 1))] a0)) else (
 R (.bool true) a0))

theorem cachettelaw10_lightRaw.eq (l1a : Option Addr) (l1n : Nat) (l1c : Nat) (R : Value → World → Prop) (w : World) : mfunc Try.prog [(0, [0], [(3, (.one (.int .i64)))])] 14 [.slice l1a l1n l1c] R w = cachettelaw10_lightRaw.M l1a l1n l1c R w := by kernel_rfl
theorem cachettelaw10_lightRaw.ok (a0 : Option Addr) (a1 : Nat) (a2 : Nat) {R : Value → World → Prop} {w : World} (h : cachettelaw10_lightRaw.M a0 a1 a2 R w) : Calls Try.prog 14 #[.slice a0 a1 a2] w fun e w' => ∃ v, e = .returned v ∧ R v w' :=
  mfunc_ok follows (H := [(0, [0], [(3, (.one (.int .i64)))])]) (args := [.slice a0 a1 a2]) (by rw [cachettelaw10_lightRaw.eq]; exact h)

def cachettelaw10_lightRaw.N (a6 : Option Addr) (a1 : Nat) (a7 : Nat) (R : Value → World → Prop) (w : World) : Prop :=
 ((a1 : Int) > 40 →
 R (.bool false) w) ∧
 ((a1 : Int) ≤ 40 →
 ∃ (I0 : Nat → List Value → World → Prop) (m4 : Nat), I0 m4 [.int .i64 0] w ∧ ∀ (m5 : Nat) (a2 : World) (i3 : Int), I0 m5 [.int .i64 i3] a2 →
 (i3 < (a1 : Int) →
 ∃ a8 : Addr, a6 = some a8 ∧
 0 ≤ (i3 : Int) ∧ (i3 : Int) < (a1 : Int) ∧
 ∃ (a4 : Option Addr) (a0 : Nat) (a3 : Nat), a2.cell? ((a8.add (Int.toNat i3 * 7)).add 3) = some (.slice a4 a0 a3) ∧
 ((a0 : Int) > 500 →
 R (.bool false) a2) ∧
 ((a0 : Int) ≤ 500 →
 (-9223372036854775808 : Int) ≤ (i3 + 1) ∧ (i3 + 1) < 9223372036854775808 ∧
 ∃ a5, a5 < m5 ∧ I0 a5 [.int .i64 (i3 + 1)] a2)) ∧
 ((a1 : Int) ≤ i3 →
 R (.bool true) a2))

theorem cachettelaw10_lightRaw.up (a5 : Option Addr) (a4 : Nat) (a6 : Nat) {R : Value → World → Prop} {w : World} (h : cachettelaw10_lightRaw.N a5 a4 a6 R w) : cachettelaw10_lightRaw.M a5 a4 a6 R w := by
  unfold cachettelaw10_lightRaw.M
  unfold cachettelaw10_lightRaw.N at h
  refine bif_of (fun c2 => ?_) (fun c2 => ?_)
  · have h := h.1 (of_decide_eq_true c2)
    exact h
  · have h := h.2 (Int.not_lt.1 (of_decide_eq_false c2))
    obtain ⟨I0, m4, h0, h⟩ := h
    refine ⟨I0, m4, h0, fun m5 ab i3 hI => ?_⟩
    have h := h m5 ab i3 hI
    refine bif_of (fun c7 => ?_) (fun c7 => ?_)
    · have h := h.1 (of_decide_eq_true c7)
      obtain ⟨a8, ac, h⟩ := h
      refine elim_some ac ?_
      obtain ⟨aa, ae, h⟩ := h
      refine ⟨aa, ae, ?_⟩
      obtain ⟨a2, a3, a0, ad, h⟩ := h
      refine ⟨a2, a3, a0, ad, ?_⟩
      refine bif_of (fun a1 => ?_) (fun a1 => ?_)
      · have h := h.1 (of_decide_eq_true a1)
        exact h
      · have h := h.2 (Int.not_lt.1 (of_decide_eq_false a1))
        obtain ⟨a9, af, h⟩ := h
        try rw [w64 a9 af]
        obtain ⟨a7, hk, h⟩ := h
        exact ⟨a7, hk, h⟩
    · have h := h.2 (Int.not_lt.1 (of_decide_eq_false c7))
      exact h

theorem cachettelaw10_lightRaw.go (a0 : Option Addr) (a1 : Nat) (a2 : Nat) {R : Value → World → Prop} {w : World} (h : cachettelaw10_lightRaw.N a0 a1 a2 R w) : Calls Try.prog 14 #[.slice a0 a1 a2] w fun e w' => ∃ v, e = .returned v ∧ R v w' := cachettelaw10_lightRaw.ok a0 a1 a2 (cachettelaw10_lightRaw.up a0 a1 a2 h)
theorem cachettelaw10_lightRaw.run (a0 : Option Addr) (a1 : Nat) (a2 : Nat) {V : Value} {Q : World → Prop} {w : World} (h : cachettelaw10_lightRaw.N a0 a1 a2 (fun v w' => v = V ∧ Q w') w) : Calls Try.prog 14 #[.slice a0 a1 a2] w (Ret V Q) := (cachettelaw10_lightRaw.go a0 a1 a2 h).mono fun e w' ⟨v, he, hv, hq⟩ => ⟨by rw [he, hv], hq⟩

/-- cachettelaw10.sectors -/
def cachettelaw10_sectors.M (d1 : Option Addr) (ah : Int) (af : Int) (R : Value → World → Prop) (w : World) : Prop :=
 ∃ (I0 : Nat → List Value → World → Prop) (m6 : Nat), I0 m6 [.slice none 0 0, .int .i64 0] w ∧ ∀ (m7 : Nat) (ak : World) (a0 : Option Addr) (a2 : Nat) (a1 : Nat) (i5 : Int), I0 m7 [.slice a0 a2 a1, .int .i64 i5] ak →
 bif decide (i5 < af) then (
 Calls Try.prog 50 #[.pointer d1, .int .i64 (IntKind.i64.wrap (ah + i5))] ak fun ai a7 => ∃ (a4 : Option Addr) (a6 : Nat) (a5 : Nat) (a3 : Int), ai = .returned (.tuple #[.slice a4 a6 a5, .int .i64 a3]) ∧
 bif a3 != 0 then (
 thenW (a7.alloc (.cells #[.slice none 0 0] 23)) fun aj =>
 ∃ (ae : Option Addr) (ad : Nat) (ag : Nat) (ab : World), (Builtin.append_ #[25, 25] 25 #[.slice a0 a2 a1, .slice (some (blk a7.heap.size)) 1 1]).run Try.prog aj = .ok (.slice ae ad ag) ab ∧
 ∃ an, an < m7 ∧ I0 an [.slice ae ad ag, .int .i64 (IntKind.i64.wrap (i5 + 1))] ab) else (
 thenW (a7.alloc (.cells #[.slice a4 a6 a5] 23)) fun al =>
 ∃ (aa : Option Addr) (a9 : Nat) (ac : Nat) (a8 : World), (Builtin.append_ #[25, 25] 25 #[.slice a0 a2 a1, .slice (some (blk a7.heap.size)) 1 1]).run Try.prog al = .ok (.slice aa a9 ac) a8 ∧
 ∃ am, am < m7 ∧ I0 am [.slice aa a9 ac, .int .i64 (IntKind.i64.wrap (i5 + 1))] a8)) else (
 R (.slice a0 a2 a1) ak)

theorem cachettelaw10_sectors.eq (d1 : Option Addr) (base2 : Int) (size3 : Int) (R : Value → World → Prop) (w : World) : mfunc Try.prog [(0, [0, 1, 2], [(7, (.one .slice)), (8, (.one (.int .i64)))])] 31 [.pointer d1, .int .i64 base2, .int .i64 size3] R w = cachettelaw10_sectors.M d1 base2 size3 R w := by kernel_rfl
theorem cachettelaw10_sectors.ok (d1 : Option Addr) (a1 : Int) (a0 : Int) {R : Value → World → Prop} {w : World} (h : cachettelaw10_sectors.M d1 a1 a0 R w) : Calls Try.prog 31 #[.pointer d1, .int .i64 a1, .int .i64 a0] w fun e w' => ∃ v, e = .returned v ∧ R v w' :=
  mfunc_ok follows (H := [(0, [0, 1, 2], [(7, (.one .slice)), (8, (.one (.int .i64)))])]) (args := [.pointer d1, .int .i64 a1, .int .i64 a0]) (by rw [cachettelaw10_sectors.eq]; exact h)

def cachettelaw10_sectors.N (d1 : Option Addr) (a7 : Int) (ab : Int) (R : Value → World → Prop) (w : World) : Prop :=
 ∃ (I0 : Nat → List Value → World → Prop) (m6 : Nat), I0 m6 [.slice none 0 0, .int .i64 0] w ∧ ∀ (m7 : Nat) (an : World) (a0 : Option Addr) (a2 : Nat) (a1 : Nat) (i5 : Int), I0 m7 [.slice a0 a2 a1, .int .i64 i5] an →
 (i5 < ab →
 (-9223372036854775808 : Int) ≤ (a7 + i5) ∧ (a7 + i5) < 9223372036854775808 ∧
 Calls Try.prog 50 #[.pointer d1, .int .i64 (a7 + i5)] an fun am aa => ∃ (a5 : Option Addr) (a6 : Nat) (a4 : Nat) (a3 : Int), am = .returned (.tuple #[.slice a5 a6 a4, .int .i64 a3]) ∧
 (a3 ≠ 0 →
 ∀ (a8 : World) (ak : Nat), Ext no aa a8 → Blk a8 ak 23 [.slice none 0 0] → aa.heap.size ≤ ak → ak < a8.heap.size →
 ∃ (aj : Option Addr) (ah : Nat) (ag : Nat) (ai : World), (Builtin.append_ #[25, 25] 25 #[.slice a0 a2 a1, .slice (some (blk ak)) 1 1]).run Try.prog a8 = .ok (.slice aj ah ag) ai ∧
 (-9223372036854775808 : Int) ≤ (i5 + 1) ∧ (i5 + 1) < 9223372036854775808 ∧
 ∃ ap, ap < m7 ∧ I0 ap [.slice aj ah ag, .int .i64 (i5 + 1)] ai) ∧
 (a3 = 0 →
 ∀ (a9 : World) (al : Nat), Ext no aa a9 → Blk a9 al 23 [.slice a5 a6 a4] → aa.heap.size ≤ al → al < a9.heap.size →
 ∃ (ae : Option Addr) (af : Nat) (ac : Nat) (ad : World), (Builtin.append_ #[25, 25] 25 #[.slice a0 a2 a1, .slice (some (blk al)) 1 1]).run Try.prog a9 = .ok (.slice ae af ac) ad ∧
 (-9223372036854775808 : Int) ≤ (i5 + 1) ∧ (i5 + 1) < 9223372036854775808 ∧
 ∃ ao, ao < m7 ∧ I0 ao [.slice ae af ac, .int .i64 (i5 + 1)] ad)) ∧
 (ab ≤ i5 →
 R (.slice a0 a2 a1) an)

theorem cachettelaw10_sectors.up (d1 : Option Addr) (a5 : Int) (a4 : Int) {R : Value → World → Prop} {w : World} (h : cachettelaw10_sectors.N d1 a5 a4 R w) : cachettelaw10_sectors.M d1 a5 a4 R w := by
  unfold cachettelaw10_sectors.M
  unfold cachettelaw10_sectors.N at h
  obtain ⟨I0, m6, h0, h⟩ := h
  refine ⟨I0, m6, h0, fun m7 au a6 a8 a7 i5 hI => ?_⟩
  have h := h m7 au a6 a8 a7 i5 hI
  refine bif_of (fun c9 => ?_) (fun c9 => ?_)
  · have h := h.1 (of_decide_eq_true c9)
    obtain ⟨aa, ab, h⟩ := h
    try rw [w64 aa ab]
    refine h.mono fun ar a0 h => ?_
    obtain ⟨a2, a3, a1, a9, he, h⟩ := h
    refine ⟨a2, a3, a1, a9, he, ?_⟩
    refine bif_of (fun ae => ?_) (fun ae => ?_)
    · have h := h.1 (bne_t ae)
      refine thenW_in fun af ai => ?_
      have h := h af a0.heap.size ((Ext.refl no a0).x_alloc ai) (Blk.of_new ai) ((Ext.refl no a0)).size (size_lt_alloc ai)
      obtain ⟨ao, al, ak, am, hr, h⟩ := h
      refine ⟨ao, al, ak, am, hr, ?_⟩
      obtain ⟨aa, ab, h⟩ := h
      try rw [w64 aa ab]
      obtain ⟨aq, hk, h⟩ := h
      exact ⟨aq, hk, h⟩
    · have h := h.2 (bne_f ae)
      refine thenW_in fun ah an => ?_
      have h := h ah a0.heap.size ((Ext.refl no a0).x_alloc an) (Blk.of_new an) ((Ext.refl no a0)).size (size_lt_alloc an)
      obtain ⟨ag, aj, ac, ad, hr, h⟩ := h
      refine ⟨ag, aj, ac, ad, hr, ?_⟩
      obtain ⟨aa, ab, h⟩ := h
      try rw [w64 aa ab]
      obtain ⟨ap, hk, h⟩ := h
      exact ⟨ap, hk, h⟩
  · have h := h.2 (Int.not_lt.1 (of_decide_eq_false c9))
    exact h

theorem cachettelaw10_sectors.go (d1 : Option Addr) (a1 : Int) (a0 : Int) {R : Value → World → Prop} {w : World} (h : cachettelaw10_sectors.N d1 a1 a0 R w) : Calls Try.prog 31 #[.pointer d1, .int .i64 a1, .int .i64 a0] w fun e w' => ∃ v, e = .returned v ∧ R v w' := cachettelaw10_sectors.ok d1 a1 a0 (cachettelaw10_sectors.up d1 a1 a0 h)
end Go.Proofs.Ytgcjipbahfpopaa

/- Disk: the statements' small functions: Sector, light, what is given, the chapter's example. -/
set_option linter.unusedVariables false
set_option linter.unusedSimpArgs false
set_option maxRecDepth 20000
set_option maxHeartbeats 4000000
namespace Go.Proofs.Ytgcjipbahfpopaa
open Go Go.Mx Go.Proofs
open W (OwnB)
section
variable {K : Nat → Prop} {w w' w1 : World} {o o' o1 : Own} {g g2 m : Nat} {d : DS} {i : Int} {a : Option Addr} {c : Nat}
end
end Go.Proofs.Ytgcjipbahfpopaa

/- Disk: the chapter's example; DiskArms. -/
set_option linter.unusedVariables false
set_option linter.unusedSimpArgs false
set_option maxRecDepth 20000
set_option maxHeartbeats 4000000
namespace Go.Proofs.Ytgcjipbahfpopaa
open Go Go.Mx Go.Proofs
open W (OwnB)
section
variable {K : Nat → Prop} {w w' w1 : World} {o o' o1 : Own} {g g2 m : Nat} {d : DS} {i : Int} {a : Option Addr} {c : Nat}
theorem DS.ok.up {n : Nat} (h : d.ok m) (hm : m ≤ n) : d.ok n := ⟨h.n1, h.n2, h.at_, by have := h.pl; omega, by have := h.cl; omega, h.left⟩
theorem newDS_ok {n : Nat} (h1 : 1 ≤ n) (h2 : n ≤ 400) : (newDS n).ok 0 := by
  have hn : (newDS n).good.length = n := by unfold newDS; simp
  exact ⟨by omega, by omega, fun x hx => (by cases hx), Nat.le_refl _, ⟨Int.le_refl _, Int.le_refl _⟩, by show (0 : Int) ≤ 0; decide, by show (0 : Int) < _; decide⟩
theorem syncD_ok (h : d.ok m) : (syncD d).1.ok m := by
  unfold syncD
  split
  · exact h
  · exact settleD_ok h _
theorem writeD_ok (h : d.ok m) (i : Int) (b : List UInt8) : (writeD d i b).1.ok (m + 1) := by
  have hpl := h.pl
  have hcl := h.cl
  have hl := h.left
  have hu := h.up (Nat.le_succ m)
  have key : ∀ (s : Sec), hasD d i = 0 → ∀ x ∈ d.pend ++ [⟨i, s⟩], 0 ≤ x.i ∧ x.i < (d.good.length : Int) := fun s h0 x hx => by
    rcases List.mem_append.1 hx with hx | hx
    · exact h.at_ x hx
    · simp at hx; subst hx; exact (hasD_0 h0).2
  unfold writeD
  split
  · rename_i h0
    split
    · split
      · split
        · exact ⟨h.n1, h.n2, key _ h0, by show (d.pend ++ [_]).length ≤ _; rw [List.length_append]; show d.pend.length + 1 ≤ m + 1; omega, by show 0 ≤ d.count ∧ d.count ≤ ((m + 1 : Nat) : Int); omega, hl⟩
        · exact ⟨h.n1, h.n2, key _ h0, by show (d.pend ++ [_]).length ≤ _; rw [List.length_append]; show d.pend.length + 1 ≤ m + 1; omega, by show 0 ≤ d.count + 1 ∧ d.count + 1 ≤ ((m + 1 : Nat) : Int); omega, by show 0 ≤ d.left - 1 ∧ d.left - 1 < 9223372036854775808; omega⟩
      · exact ⟨h.n1, h.n2, key _ h0, by show (d.pend ++ [_]).length ≤ _; rw [List.length_append]; show d.pend.length + 1 ≤ m + 1; omega, by show 0 ≤ d.count + 1 ∧ d.count + 1 ≤ ((m + 1 : Nat) : Int); omega, hl⟩
    · exact hu
  · exact hu
theorem writeD_len (i : Int) (b : List UInt8) : (writeD d i b).1.good = d.good := by
  unfold writeD
  (repeat' split) <;> rfl
end
end Go.Proofs.Ytgcjipbahfpopaa

/- Journal: a journal on a disk. -/
set_option linter.unusedVariables false
set_option linter.unusedSimpArgs false
set_option maxRecDepth 20000
set_option maxHeartbeats 2000000
namespace Go.Proofs.Ytgcjipbahfpopaa
open Go Go.Mx Go.Proofs
open W (OwnB GivesW)
def readsD (d : DS) (base size : Nat) : List (List UInt8) := (List.range size).map fun i : Nat => (readD d ((base : Int) + (i : Int))).1
def stretchK (d : DS) (base size : Int) (gen : Nat) : List (List UInt8) × Int :=
  if gen = 0 ∨ base < 0 ∨ size < 1 ∨ base > d.good.length ∨ size > (d.good.length : Int) - base then ([], 1) else if d.down then ([], 19) else (readsD d base.toNat size.toNat, 0)
structure JS where
  base : Int
  size : Int
  gen : Nat
  round : Nat
  tail : Int
  seq : Int
  dead : Bool
def openK (d : DS) (base size : Int) (gen : Nat) : Option JS × List (List UInt8) × Int :=
  if (stretchK d base size gen).2 ≠ 0 then (none, [], (stretchK d base size gen).2)
  else if (scanK (stretchK d base size gen).1 gen).2 = 4294967295 then (none, [], 2)
  else (some ⟨base, size, gen, (scanK (stretchK d base size gen).1 gen).2 + 1, (scanK (stretchK d base size gen).1 gen).1.2, (scanK (stretchK d base size gen).1 gen).1.1.length, false⟩, (scanK (stretchK d base size gen).1 gen).1.1, 0)
def JS.V (J : JS) (g : Nat) : List Value := [.pointer (some (blk g)), .int .i64 J.base, .int .i64 J.size, .int .u32 J.gen, .int .u32 J.round, .int .i64 J.tail, .int .i64 J.seq, .bool J.dead]
structure JG (w : World) (o : Own) (q g : Nat) (J : JS) : Prop where
  mem : Blk w q 82 (J.V g)
  tg : o q = some q
def writesD : DS → Int → List (List UInt8) → DS × Int
  | d, _, [] => (d, 0)
  | d, i, x :: r => if (writeD d i x).2 ≠ 0 then writeD d i x else writesD (writeD d i x).1 (i + 1) r
def appendF (J : JS) (b : List UInt8) : List (List UInt8) := (frameK J.gen J.round J.seq.toNat b).1
def appendJ (d : DS) (J : JS) (b : List UInt8) : (DS × JS) × Int :=
  if partsN b.length = 0 then ((d, J), 3)
  else if J.dead then ((d, J), 19)
  else if (partsN b.length : Int) > J.size - J.tail then ((d, J), 18)
  else if (writesD d (J.base + J.tail) (appendF J b)).2 ≠ 0 then (((writesD d (J.base + J.tail) (appendF J b)).1, { J with dead := true }), (writesD d (J.base + J.tail) (appendF J b)).2)
  else if (syncD (writesD d (J.base + J.tail) (appendF J b)).1).2 ≠ 0 then (((syncD (writesD d (J.base + J.tail) (appendF J b)).1).1, { J with dead := true }), (syncD (writesD d (J.base + J.tail) (appendF J b)).1).2)
  else (((syncD (writesD d (J.base + J.tail) (appendF J b)).1).1, { J with tail := J.tail + partsN b.length, seq := J.seq + 1 }), 0)
structure JS.ok (J : JS) : Prop where
  base : 0 ≤ J.base ∧ J.base ≤ 1000000
  size : 0 ≤ J.size ∧ J.size ≤ 1000000
  gen : J.gen < 4294967296
  round : J.round < 4294967296
  tail : 0 ≤ J.tail ∧ J.tail ≤ 1000000
  seq : 0 ≤ J.seq ∧ J.seq ≤ 1000000
section
variable {w w' w1 : World} {o o' o1 : Own} {q g n N m : Nat} {K : Nat → Prop} {b s : List UInt8} {a : Option Addr} {c : Nat} {l : List BS} {d : DS} {J : JS}
theorem JG.step (h : JG w o q g J) (s : Step K w o w' o') (hk : ¬ K q) : JG w' o' q g J := ⟨s.blk h.mem h.tg hk, by rw [s.own h.mem.lt]; exact h.tg⟩
theorem readsD_len (d : DS) (base size : Nat) : (readsD d base size).length = size := by unfold readsD; simp
theorem stretch_loop (h : DG w o g d) (ok : Tags w o) (hd : d.ok m) (hm : m < 100000) {base size : Int} (hb0 : 0 ≤ base) (hb1 : base ≤ 1000000) (hs0 : 0 ≤ size) (hs1 : size ≤ 100000) {End : Value → World → Prop}
    (hE : ∀ w2 o2 la lc (l : List BS), Step no w o w2 o2 → l.map BS.bs = readsD d base.toNat size.toNat → BsRow w2 o2 la lc l → End (.slice la l.length lc) w2) :
    ∃ (I1 : Nat → List Value → World → Prop) (m71 : Nat), I1 m71 [.slice none 0 0, .int .i64 0] w ∧ ∀ (m72 : Nat) (ww73 : World) (la : Option Addr) (ln : Nat) (lc : Nat) (t : Int), I1 m72 [.slice la ln lc, .int .i64 t] ww73 →
      (t < size →
        (-9223372036854775808 : Int) ≤ (base + t) ∧ (base + t) < 9223372036854775808 ∧
        Calls Try.prog 50 #[.pointer (some (blk g)), .int .i64 (base + t)] ww73 fun ee ww78 => ∃ (ra : Option Addr) (rn : Nat) (rc : Nat) (rk : Int), ee = .returned (.tuple #[.slice ra rn rc, .int .i64 rk]) ∧
        ∀ (ww79 : World) (q80 : Nat), Ext no ww78 ww79 → Blk ww79 q80 23 [.slice ra rn rc] → ww78.heap.size ≤ q80 → q80 < ww79.heap.size →
        ∃ (a81a : Option Addr) (a81n : Nat) (a81c : Nat) (ww82 : World), (Builtin.append_ #[25, 25] 25 #[.slice la ln lc, .slice (some (blk q80)) 1 1]).run Try.prog ww79 = .ok (.slice a81a a81n a81c) ww82 ∧
        (-9223372036854775808 : Int) ≤ (t + 1) ∧ (t + 1) < 9223372036854775808 ∧
        ∃ m83, m83 < m72 ∧ I1 m83 [.slice a81a a81n a81c, .int .i64 (t + 1)] ww82) ∧
      (size ≤ t → End (.slice la ln lc) ww73) := by
  refine ⟨fun m vs w1 => ∃ (t : Nat) (o1 : Own) (la : Option Addr) (lc : Nat) (l : List BS), vs = [.slice la l.length lc, .int .i64 t] ∧ m + t = size.toNat ∧ Step no w o w1 o1 ∧ BsL w.heap.size w1 o1 la lc l ∧ l.map BS.bs = readsD d base.toNat t, size.toNat, ⟨0, o, none, 0, [], rfl, rfl, Step.refl _ ok, BsL.nil _ _ _, rfl⟩, ?_⟩
  rintro k w7 la ln lc i ⟨t, o7, la', lc', l, hi, hk, s7, L7, hmap⟩
  simp only [List.cons.injEq, Value.slice.injEq, Value.int.injEq, true_and, and_true] at hi
  obtain ⟨⟨rfl, rfl, rfl⟩, rfl⟩ := hi
  have hll : l.length = t := by have := congrArg List.length hmap; rwa [List.length_map, readsD_len] at this
  refine ⟨fun ht => ⟨by omega, by omega, ?_⟩, fun ht => ?_⟩
  · refine (dRead_spec (h.step s7 id) s7.ok (base + t) (by have := hd.pl; omega)).mono fun u w11 ⟨ra, rn, rc, o11, he, hn, hnc, s11, hR1, hR0⟩ => ⟨ra, rn, rc, _, he, fun w12 q12 X12 hb hq hq' => ?_⟩
    have X11 : Ext no w7 w11 := s11.ext.mono fun b ⟨_, _, h⟩ _ => h
    have t11 := Step.of_no X11 s7.ok
    have okx : BSok w11 (grow w7 o7) ⟨ra, rc, (readD d (base + t)).1⟩ := by
      by_cases hz : (readD d (base + t)).2 = 0
      · obtain ⟨q, tt, e, hbk, hl, hq, _⟩ := hR0 hz
        subst e
        refine ⟨Row.fresh ?_ fun ad ha => by cases ha; exact hq, by rw [← hn]; exact hnc⟩
        have := (RowAt.of_blk hbk).take (bytesV (readD d (base + t)).1).length
        rwa [List.take_left] at this
      · obtain ⟨e1, e2⟩ := hR1 hz
        rw [e2]
        exact ⟨Row.nil _ _ _, Nat.zero_le _⟩
    have l7 := s7.size
    subst hn
    obtain ⟨a', c', w39, o39, hr, s39, L39⟩ := (L7.step t11 fun _ h => h.elim).push t11.ok (by omega) okx X12 hb hq hq' (by have := X11.size; omega)
    refine ⟨a', _, c', w39, hr, by omega, by omega, k - 1, by omega, t + 1, o39, a', c', _, rfl, by omega, (s7.trans t11).trans' s39 fun i hi => .inr hi, L39, ?_⟩
    rw [List.map_append, hmap]
    unfold readsD
    rw [List.range_succ, List.map_append]
    simp only [List.map_cons, List.map_nil]
    congr 3
    rw [show ((base.toNat : Nat) : Int) = base by omega]
  · have htt : t = size.toNat := by omega
    exact hE w7 _ la lc l (Step.of_no (s7.ext.mono fun b ⟨_, _, h⟩ _ => h) ok) (by rw [← htt]; exact hmap) (L7.give s7 (Nat.le_refl _))
theorem stretch_spec (h : DG w o g d) (ok : Tags w o) (hd : d.ok m) (hm : m < 100000) (base size : Int) (gen : Nat) :
    Calls Try.prog 42 #[.pointer (some (blk g)), .int .i64 base, .int .i64 size, .int .u32 gen] w (fun z w' => ∃ o' la lc, ∃ l : List BS, z = .returned (.tuple #[.slice la l.length lc, .int .i64 (stretchK d base size gen).2]) ∧ Step no w o w' o' ∧ l.map BS.bs = (stretchK d base size gen).1 ∧ BsRow w' o' la lc l) := by
  refine (journal_stretch.go _ _ _ _ (R := fun z w' => ∃ o' la lc, ∃ l : List BS, z = (.tuple #[.slice la l.length lc, .int .i64 (stretchK d base size gen).2]) ∧ Step no w o w' o' ∧ l.map BS.bs = (stretchK d base size gen).1 ∧ BsRow w' o' la lc l) ?_).mono fun z w' ⟨u, he, o', la, lc, l, hu, hw⟩ => ⟨o', la, lc, l, by rw [he, hu], hw⟩
  unfold journal_stretch.N
  refine (Sectors_spec h).mono fun u w7 ⟨he, hw⟩ => ⟨_, he, fun h => (by cases h), fun _ => ?_⟩
  subst hw
  have n2 := hd.n2
  have leaf : ∀ (k : Int), stretchK d base size gen = ([], k) → ∃ o' la lc, ∃ l : List BS, Value.tuple #[.slice none 0 0, .int .i64 k] = (.tuple #[.slice la l.length lc, .int .i64 (stretchK d base size gen).2]) ∧ Step no w7 o w7 o' ∧ l.map BS.bs = (stretchK d base size gen).1 ∧ BsRow w7 o' la lc l := fun k hk => ⟨o, none, 0, [], by rw [hk]; rfl, Step.refl _ ok, by rw [hk]; rfl, BsRow.nil _ _⟩
  have bad : (gen = 0 ∨ base < 0 ∨ size < 1 ∨ base > d.good.length ∨ size > (d.good.length : Int) - base) → _ := fun hb => leaf 1 (by unfold stretchK; rw [if_pos hb])
  refine ⟨fun h1 => bad (by omega), fun h1 => ⟨fun h2 => bad (by omega), fun h2 => ⟨fun h3 => bad (by omega), fun h3 => ⟨fun h4 => bad (by omega), fun h4 => ⟨by omega, by omega, fun h5 => bad (by omega), fun h5 => ?_⟩⟩⟩⟩⟩
  have hgood : ¬ (gen = 0 ∨ base < 0 ∨ size < 1 ∨ base > d.good.length ∨ size > (d.good.length : Int) - base) := by omega
  refine (Down_spec h).mono fun u w67 ⟨he, hw⟩ => ⟨_, he, fun hdn => ?_, fun hdn => ?_⟩
  · subst hw
    exact leaf 19 (by unfold stretchK; rw [if_neg hgood, if_pos hdn])
  subst hw
  have hK : stretchK d base size gen = (readsD d base.toNat size.toNat, 0) := by unfold stretchK; rw [if_neg hgood, if_neg (by rw [hdn]; decide)]
  exact stretch_loop (End := fun v w2 => ∃ o' la lc, ∃ l : List BS, Value.tuple #[v, .int .i64 0] = (.tuple #[.slice la l.length lc, .int .i64 (stretchK d base size gen).2]) ∧ Step no w67 o w2 o' ∧ l.map BS.bs = (stretchK d base size gen).1 ∧ BsRow w2 o' la lc l) h ok hd hm (by omega) (by omega) (by omega) (by omega) fun w2 o2 la lc l s2 hmap hr => ⟨o2, la, lc, l, by rw [hK], s2, by rw [hK]; exact hmap, hr⟩
theorem stretchK_len (d : DS) (base size : Int) (gen : Nat) (h : d.good.length ≤ 400) : (stretchK d base size gen).1.length ≤ 400 := by
  unfold stretchK
  split
  · exact Nat.zero_le _
  · split
    · exact Nat.zero_le _
    · rw [readsD_len]; omega
theorem Open_spec (h : DG w o g d) (ok : Tags w o) (hd : d.ok m) (hm : m < 100000) (base size : Int) (gen : Nat) :
    Calls Try.prog 20 #[.pointer (some (blk g)), .int .i64 base, .int .i64 size, .int .u32 gen] w (fun z w' => ∃ o' jp la lc, ∃ l : List BS, z = .returned (.tuple #[.pointer jp, .slice la l.length lc, .int .i64 (openK d base size gen).2.2]) ∧ Step no w o w' o' ∧ l.map BS.bs = (openK d base size gen).2.1 ∧ BsRow w' o' la lc l ∧
      ((openK d base size gen).1 = none → jp = none) ∧ (∀ J, (openK d base size gen).1 = some J → ∃ q, jp = some (blk q) ∧ w.heap.size ≤ q ∧ JG w' o' q g J)) := by
  refine (journal_Open.go _ _ _ _ (R := fun z w' => ∃ o' jp la lc, ∃ l : List BS, z = (.tuple #[.pointer jp, .slice la l.length lc, .int .i64 (openK d base size gen).2.2]) ∧ Step no w o w' o' ∧ l.map BS.bs = (openK d base size gen).2.1 ∧ BsRow w' o' la lc l ∧
      ((openK d base size gen).1 = none → jp = none) ∧ (∀ J, (openK d base size gen).1 = some J → ∃ q, jp = some (blk q) ∧ w.heap.size ≤ q ∧ JG w' o' q g J)) ?_).mono fun z w' ⟨u, he, o', jp, la, lc, l, hu, hw⟩ => ⟨o', jp, la, lc, l, by rw [he, hu], hw⟩
  unfold journal_Open.N
  have hlen := stretchK_len d base size gen hd.n2
  refine (stretch_spec h ok hd hm base size gen).mono fun u w8 ⟨o8, la, lc, l, he, s8, hmap, hr⟩ => ⟨_, _, _, _, he, fun hne => ?_, fun heq => ?_⟩
  · have hK : openK d base size gen = (none, [], (stretchK d base size gen).2) := by unfold openK; rw [if_pos hne]
    rw [hK]
    exact ⟨o8, none, none, 0, [], rfl, s8, rfl, BsRow.nil _ _, fun _ => rfl, fun J h => by cases h⟩
  · have hll : l.length ≤ 400 := by have := congrArg List.length hmap; rw [List.length_map] at this; omega
    refine (scan_spec s8.ok hr.at (by omega) gen).mono fun u w14 ⟨o14, ra, rc, r, he, s14, hrm, hrr⟩ => ⟨_, _, _, _, _, he, ?_⟩
    rw [hmap] at hrm ⊢
    have hrl := roundOf_lt gen (stretchK d base size gen).1
    have hrr2 : (scanK (stretchK d base size gen).1 gen).2 = roundOf gen (stretchK d base size gen).1 := rfl
    have hwrap : ¬ (scanK (stretchK d base size gen).1 gen).2 = 4294967295 → IntKind.u32.wrap (((scanK (stretchK d base size gen).1 gen).2 : Int) + 1) = (((scanK (stretchK d base size gen).1 gen).2 + 1 : Nat) : Int) := fun hn => by rw [IntKind.wrap_u32]; omega
    have hwrap0 : (scanK (stretchK d base size gen).1 gen).2 = 4294967295 → IntKind.u32.wrap (((scanK (stretchK d base size gen).1 gen).2 : Int) + 1) = 0 := fun hn => by rw [hn]; rfl
    have s814 := s8.trans s14
    refine ⟨fun hz => ?_, fun hz w16 q17 X16 hb hq hq' => ?_⟩
    · by_cases h0 : (scanK (stretchK d base size gen).1 gen).2 = 4294967295
      · have hK : openK d base size gen = (none, [], 2) := by unfold openK; rw [if_neg (not_not_intro heq), if_pos h0]
        rw [hK]
        exact ⟨o14, none, none, 0, [], rfl, s814, rfl, BsRow.nil _ _, fun _ => rfl, fun J h => by cases h⟩
      · rw [hwrap h0] at hz; omega
    · have h0 : ¬ (scanK (stretchK d base size gen).1 gen).2 = 4294967295 := fun h0 => hz (hwrap0 h0)
      rw [hwrap h0] at hb
      have hK : openK d base size gen = (some ⟨base, size, gen, (scanK (stretchK d base size gen).1 gen).2 + 1, (scanK (stretchK d base size gen).1 gen).1.2, (scanK (stretchK d base size gen).1 gen).1.1.length, false⟩, (scanK (stretchK d base size gen).1 gen).1.1, 0) := by unfold openK; rw [if_neg (not_not_intro heq), if_neg h0]
      rw [hK]
      have s16 := (Step.of_no X16 s14.ok).tag hq hq'
      have l8 := s814.size
      have hrlen : r.length = (scanK (stretchK d base size gen).1 gen).1.1.length := by rw [← hrm, List.length_map]
      rw [hrlen] at hb
      refine ⟨_, some (blk q17), ra, rc, r, rfl, s814.trans s16, hrm, hrr.step s16, fun h => (by cases h), fun J hJ => ?_⟩
      cases hJ
      exact ⟨q17, rfl, by omega, hb, tag_self⟩
end
end Go.Proofs.Ytgcjipbahfpopaa

/- Journal: Append, and the small ones; the chapter's example. -/
set_option linter.unusedVariables false
set_option linter.unusedSimpArgs false
set_option maxRecDepth 20000
set_option maxHeartbeats 2000000
namespace Go.Proofs.Ytgcjipbahfpopaa
open Go Go.Mx Go.Proofs
open W (OwnB GivesW)
section
variable {w w' w1 : World} {o o' o1 : Own} {q g n N m : Nat} {K : Nat → Prop} {b s : List UInt8} {a : Option Addr} {c : Nat} {l : List BS} {d : DS} {J : JS}
theorem writesD_ok : ∀ {f : List (List UInt8)} {d : DS} {m : Nat} {i : Int}, d.ok m → (writesD d i f).1.ok (m + f.length)
  | [], d, m, i, h => h
  | x :: r, d, m, i, h => by
    have hw := writeD_ok h i x
    unfold writesD
    split
    · exact hw.up (by rw [List.length_cons]; omega)
    · have := writesD_ok (f := r) (i := i + 1) hw
      rw [List.length_cons]
      exact this.up (by omega)
theorem appendF_len (J : JS) (b : List UInt8) : (appendF J b).length ≤ 84 := by
  unfold appendF frameK
  split
  · exact Nat.zero_le _
  · split
    · exact Nat.zero_le _
    · show (frameL _ _ _ _).length ≤ 84
      unfold frameL
      rw [List.length_map, List.length_range]
      exact partsN_le _
theorem appendJ_ok (h : d.ok m) (J : JS) (b : List UInt8) : (appendJ d J b).1.1.ok (m + 84) := by
  have hu := h.up (Nat.le_add_right m 84)
  have hf := appendF_len J b
  have hw : (writesD d (J.base + J.tail) (appendF J b)).1.ok (m + 84) := (writesD_ok h).up (by omega)
  unfold appendJ
  repeat' split
  all_goals first | exact hu | exact hw | exact syncD_ok hw
theorem kill_spec (h : JG w o q g J) (hd : DG w o g d) (ok : Tags w o) (hqg : q ≠ g) {Φ : World → Prop}
    (hΦ : ∀ w2 o2, Step (fun i => i = q) w o w2 o2 → JG w2 o2 q g { J with dead := true } → DG w2 o2 g d → Φ w2) :
    canStore w (((blk q).add 7).add 0) ∧ thenW (w.setCell (((blk q).add 7).add 0) (.bool true)) fun w2 => Φ w2 := by
  have hadd : ((blk q).add 7).add 0 = (blk q).add 7 := by rw [add_add]
  rw [hadd]
  refine ⟨h.mem.cana (i := 7) rfl, thenW_in fun w2 e2 => ?_⟩
  have X : Ext (fun b => b = q) w w2 := (Ext.refl (fun b => b = q) w).x_set (q := q) (i := 7) rfl (.inl rfl) e2
  obtain ⟨o2, s2⟩ := Step.store1 X ok h.tg
  exact hΦ w2 o2 s2 ⟨h.mem.seti 7 rfl e2, by rw [s2.own h.mem.lt]; exact h.tg⟩ (hd.step s2 (fun e => hqg e.symm))
theorem Append_spec (h : JG w o q g J) (hD : DG w o g d) (ok : Tags w o) (hqg : q ≠ g) (hd : d.ok m) (hm : m + 100 < 100000) (hJ : J.ok) (hb : RowAt w a (bytesV b)) (hc : b.length ≤ c) (hbl : b.length < 1000000) :
    Calls Try.prog 23 #[.pointer (some (blk q)), .slice a b.length c] w (Ret (.int .i64 (appendJ d J b).2) fun w' => ∃ o', Step (fun i => i = q ∨ i = g) w o w' o' ∧ JG w' o' q g (appendJ d J b).1.2 ∧ DG w' o' g (appendJ d J b).1.1) := by
  refine journal_Journal_Append.run _ _ _ _ ?_
  unfold journal_Journal_Append.N
  rw [parts_F, partsI_nat]
  obtain ⟨⟨hb0, hb1⟩, ⟨hs0, hs1⟩, hgen, hrd, ⟨ht0, ht1⟩, ⟨hq0, hq1⟩⟩ := hJ
  have h84 := partsN_le b.length
  have leaf : ∀ (k : Int), appendJ d J b = ((d, J), k) → ∀ w2, Ext no w w2 → Value.int .i64 k = .int .i64 (appendJ d J b).2 ∧ ∃ o', Step (fun i => i = q ∨ i = g) w o w2 o' ∧ JG w2 o' q g (appendJ d J b).1.2 ∧ DG w2 o' g (appendJ d J b).1.1 := fun k hk w2 X => by
    have s := Step.of_no X ok
    rw [hk]; exact ⟨rfl, _, s.none, h.step s id, hD.step s id⟩
  refine ⟨fun e => (by cases e), fun _ => ⟨fun h0 w3 X => leaf 3 (by unfold appendJ; rw [if_pos (by omega)]) w3 X, fun h0 => ?_⟩⟩
  have hp0 : ¬ partsN b.length = 0 := by omega
  refine ⟨_, rfl, J.dead, h.mem.cella (i := 7) rfl, fun hdd w3 X => leaf 19 (by unfold appendJ; rw [if_neg hp0, if_pos hdd]) w3 X, fun hdd => ?_⟩
  have hdd' : ¬ J.dead = true := by rw [hdd]; decide
  refine ⟨_, h.mem.cella (i := 2) rfl, _, h.mem.cella (i := 5) rfl, by omega, by omega, fun hf w10 X => leaf 18 (by unfold appendJ; rw [if_neg hp0, if_neg hdd', if_pos hf]) w10 X, fun hf => ?_⟩
  have hf' : ¬ (partsN b.length : Int) > J.size - J.tail := by omega
  have hK : appendJ d J b = if (writesD d (J.base + J.tail) (appendF J b)).2 ≠ 0 then (((writesD d (J.base + J.tail) (appendF J b)).1, { J with dead := true }), (writesD d (J.base + J.tail) (appendF J b)).2)
      else if (syncD (writesD d (J.base + J.tail) (appendF J b)).1).2 ≠ 0 then (((syncD (writesD d (J.base + J.tail) (appendF J b)).1).1, { J with dead := true }), (syncD (writesD d (J.base + J.tail) (appendF J b)).1).2)
      else (((syncD (writesD d (J.base + J.tail) (appendF J b)).1).1, { J with tail := J.tail + partsN b.length, seq := J.seq + 1 }), 0) := by
    unfold appendJ; rw [if_neg hp0, if_neg hdd', if_neg hf']
  rw [hK]
  refine ⟨_, h.mem.cella (i := 3) rfl, _, h.mem.cella (i := 4) rfl, _, h.mem.cella (i := 6) rfl, fun w16 X16 => ?_⟩
  have s16 := Step.of_no X16 ok
  have hwq : IntKind.u32.wrap J.seq = ((J.seq.toNat : Nat) : Int) := by rw [IntKind.wrap_u32]; omega
  rw [hwq]
  refine (fFrame_spec s16.ok (hb.no X16) hc hbl J.gen J.round J.seq.toNat).mono fun u w26 ⟨o26, fa, fc, f, he, s26', hfm, hfr⟩ => ⟨_, _, _, _, he, ?_⟩
  have s26 := s16.trans s26'
  have hfm' : f.map BS.bs = appendF J b := hfm
  have hfl : f.length = (appendF J b).length := by rw [← hfm', List.length_map]
  have h84f := appendF_len J b
  obtain ⟨W, hW⟩ : ∃ W, writesD d (J.base + J.tail) (appendF J b) = W := ⟨_, rfl⟩
  rw [hW]
  have hWok : W.1.ok (m + 84) := by rw [← hW]; exact (writesD_ok hd).up (by omega)
  refine ⟨fun k vs w1 => ∃ (t : Nat) (o1 : Own) (d1 : DS), vs = [.int .i64 t] ∧ k + t = f.length ∧ Step (fun i => i = g) w o w1 o1 ∧ JG w1 o1 q g J ∧ DG w1 o1 g d1 ∧ BsRow w1 o1 fa fc f ∧ d1.ok (m + t) ∧ writesD d1 (J.base + J.tail + t) ((appendF J b).drop t) = W, f.length, ⟨0, o26, d, rfl, rfl, s26.none, h.step s26 id, hD.step s26 id, hfr, hd, by rw [List.drop_zero, ← hW]; simp⟩, ?_⟩
  rintro k w30 i ⟨t, o30, d1, hi, hk, s30, J30, D30, F30, k30, hWt⟩
  simp only [List.cons.injEq, Value.int.injEq, true_and, and_true] at hi
  subst hi
  have hgq : ¬ q = g := hqg
  refine ⟨fun ht => ?_, fun ht => ?_⟩
  · have htl : t < f.length := by omega
    have gt : f[t]? = some f[t] := List.getElem?_eq_getElem htl
    have hmt := List.getElem_mem htl
    have gF : (appendF J b)[t]? = some (f[t]).bs := by rw [← hfm']; exact get_map_bs gt
    generalize f[t] = x at *
    obtain ⟨fd, hfd, cx⟩ := F30.at.cell gt
    obtain ⟨rx, ex⟩ := F30.oks x hmt
    have hdrop : (appendF J b).drop t = x.bs :: (appendF J b).drop (t + 1) := by
      have h1 : t < (appendF J b).length := by omega
      rw [List.drop_eq_getElem_cons h1]
      rw [List.getElem?_eq_getElem h1] at gF
      injection gF with gF
      rw [gF]
    rw [hdrop] at hWt
    unfold writesD at hWt
    refine ⟨fd, hfd, by omega, by omega, x.a, x.bs.length, x.c, by rw [Int.toNat_natCast]; exact cx, _, J30.mem.cella (i := 0) rfl, _, J30.mem.cella (i := 1) rfl, _, J30.mem.cella (i := 5) rfl, by omega, by omega, by omega, by omega, fun w35 X35 => ?_⟩
    have s35' := Step.of_no X35 s30.ok
    refine (dWrite_spec (D30.step s35' id) s35'.ok k30 (by omega) (J.base + J.tail + t) (rx.step s35').1).mono fun u w44 ⟨he, o44, s44', D44⟩ => ⟨_, he, fun hne => ?_, fun heq => ?_⟩
    all_goals have s44 := s35'.none.trans s44'
    all_goals have J44 := J30.step s44 hgq
    · rw [if_pos hne] at hWt
      have e1 : W.2 = (writeD d1 (J.base + J.tail + t) x.bs).2 := by rw [← hWt]
      have e2 : W.1 = (writeD d1 (J.base + J.tail + t) x.bs).1 := by rw [← hWt]
      rw [if_pos (by rw [e1]; exact hne)]
      refine kill_spec J44 D44 s44.ok hqg fun w2 o2 s2 J2 D2 => ?_
      exact ⟨by rw [e1], o2, ((s30.trans s44).mono fun _ h _ => .inr h).trans (s2.mono fun _ h _ => .inl h), J2, by rw [e2]; exact D2⟩
    · rw [if_neg (not_not_intro heq)] at hWt
      exact ⟨by omega, by omega, k - 1, by omega, t + 1, o44, _, rfl, by omega, s30.trans s44, J44, D44, F30.step s44, writeD_ok k30 _ _, by rw [← hWt]; congr 1; omega⟩
  · have htt : t = f.length := by omega
    rw [List.drop_of_length_le (by omega)] at hWt
    have hW1 : W = (d1, 0) := by rw [← hWt]; rfl
    refine ⟨_, J30.mem.cella (i := 0) rfl, ?_⟩
    refine (dSync_spec D30 s30.ok k30 (by omega)).mono fun u w52 ⟨he, o52, s52, D52⟩ => ⟨_, he, fun hne => ?_, fun heq => ?_⟩
    all_goals have J52 := J30.step s52 hgq
    all_goals have st := s30.trans s52
    all_goals rw [hW1, if_neg (show ¬ ((d1, (0 : Int)).2 ≠ 0) from not_not_intro rfl)]
    · rw [if_pos hne]
      refine kill_spec J52 D52 s52.ok hqg fun w2 o2 s2 J2 D2 => ?_
      exact ⟨rfl, o2, (st.mono fun _ h _ => .inr h).trans (s2.mono fun _ h _ => .inl h), J2, D2⟩
    · rw [if_neg (not_not_intro heq)]
      have ha5 : ((blk q).add 5).add 0 = (blk q).add 5 := by rw [add_add]
      have ha6 : ((blk q).add 6).add 0 = (blk q).add 6 := by rw [add_add]
      rw [ha5]
      refine ⟨_, J52.mem.cella (i := 5) rfl, by omega, by omega, J52.mem.cana (i := 5) rfl, thenW_in fun w57 e57 => ?_⟩
      have b57 := J52.mem.seti 5 rfl e57
      rw [ha6]
      refine ⟨_, b57.cella (i := 6) rfl, by omega, by omega, b57.cana (i := 6) rfl, thenW_in fun w60 e60 => ?_⟩
      have X60 : Ext (fun b => b = q) w52 w60 := ((Ext.refl (fun b => b = q) w52).x_set (q := q) (i := 5) rfl (.inl rfl) e57).x_set (q := q) (i := 6) rfl (.inl rfl) e60
      obtain ⟨o60, s60⟩ := Step.store1 X60 s52.ok J52.tg
      have b60 := b57.seti 6 rfl e60
      exact ⟨rfl, o60, (st.mono fun _ h _ => .inr h).trans (s60.mono fun _ h _ => .inl h), ⟨b60, by rw [s60.own J52.mem.lt]; exact J52.tg⟩, D52.step s60 (fun e => hqg e.symm)⟩
end
end Go.Proofs.Ytgcjipbahfpopaa

/- Journal: the chapter's example. -/
set_option linter.unusedVariables false
set_option linter.unusedSimpArgs false
set_option maxRecDepth 100000
set_option maxHeartbeats 4000000
namespace Go.Proofs.Ytgcjipbahfpopaa
open Go Go.Mx Go.Proofs
open W (OwnB GivesW)
def exJ : JS := ⟨0, 4, 1, 1, 0, 0, false⟩
def exD : DS := (appendJ (newDS 4) exJ [97, 98]).1.1
theorem ex_frame : frameK 1 1 0 [97, 98] = ([secL 1 1 0 0 1 [97, 98]], 0) := by kernel_rfl
theorem ex_open : openK (newDS 4) 0 4 1 = (some exJ, [], 0) := by kernel_rfl
theorem ex_append : (appendJ (newDS 4) exJ [97, 98]).2 = 0 := by kernel_rfl
theorem ex_open2 : (openK exD 0 4 1).2 = ([[97, 98]], 0) := by kernel_rfl
theorem litJ {w w1 : World} (bs : List UInt8) {q : Nat} (X : Ext no w w1) (hb : Blk w1 q 5 (bytesV bs)) (hq : w.heap.size ≤ q) :
    ∃ w2, (convert 23 23 (.slice (some (blk q)) bs.length bs.length)).run Try.prog w1 = .ok (.slice (some (blk q)) bs.length bs.length) w2 ∧ RowAt w2 (some (blk q)) (bytesV bs) ∧ Ext no w w2 :=
  ⟨_, conv_mark Try.underlying23 Try.underlying5 hb, (RowAt.of_blk hb).freeze _ _, X.freeze (.inr hq) _⟩
theorem alive10_spec (w : World) : Calls Try.prog 8 #[] w (Ret (.bool true) fun w' => Ext no w w') := by
  refine cachettelaw10_alive.run ?_
  unfold cachettelaw10_alive.N
  intro w1 q2 X1 hb2 hq2 hq2'
  obtain ⟨w4, hc4, r4, X4⟩ := litJ [97, 98] X1 hb2 hq2
  refine ⟨_, _, _, w4, hc4, ?_⟩
  have ok4 : Tags w4 (fun _ => none) := fun b j _ h => by cases h
  refine (fFrame_spec (c := 2) ok4 r4 (by decide) (by decide) 1 1 0).mono fun u w8 ⟨o8, fa, fc, f, he, s8, hfm, hf⟩ => ⟨_, _, _, _, he, ?_⟩
  rw [ex_frame] at hfm
  refine (dNew_spec (n := 4) s8.ok (by decide) (by decide)).mono fun u w12 ⟨g, o12, he, hg, s12, D12⟩ => ⟨_, _, he, ?_⟩
  have kD := newDS_ok (n := 4) (by decide) (by decide)
  refine (Open_spec D12 s12.ok kD (by decide) 0 4 1).mono fun u w17 ⟨o17, jp, la, lc, l, he, s17, _, _, _, hJ⟩ => ⟨_, _, _, _, _, he, fun w18 q19 X18 hb19 hq19 hq19' => ?_⟩
  obtain ⟨q, rfl, hq, J17⟩ := hJ exJ (by rw [ex_open])
  have hgl := D12.lt
  obtain ⟨w21, hc21, r21, X21⟩ := litJ [97, 98] X18 hb19 hq19
  refine ⟨_, _, _, w21, hc21, ?_⟩
  have s21 := Step.of_no X21 s17.ok
  refine (Append_spec (c := 2) (b := [97, 98]) (J17.step s21 id) ((D12.step s17 id).step s21 id) s21.ok (by omega) kD (by decide) ⟨by decide, by decide, by decide, by decide, by decide, by decide⟩ r21 (by decide) (by decide)).mono fun u w24 ⟨he, o24, s24, J24, D24⟩ => ⟨_, he, ?_⟩
  have kD2 : exD.ok 84 := appendJ_ok kD exJ [97, 98]
  have D24' : DG w24 o24 g exD := D24
  refine (Open_spec D24' s24.ok kD2 (by decide) 0 4 1).mono fun u w29 ⟨o29, jp2, ra, rc, r, he, s29, hrm, hr, _, _⟩ => ⟨_, _, _, _, _, he, ?_⟩
  have hl8 := D12.lt
  have l12 := s12.size
  have l17 := s17.size
  have l18 := X18.size
  have sAll : Step no w8 o8 w29 o29 := ((s12.trans s17).trans s21.none).trans' (s24.trans s29.none) fun i hi => .inr (by omega)
  have fin : Ext no w w29 := (X4.trans (s8.ext.mono fun b ⟨_, _, h⟩ _ => h)).trans (sAll.ext.mono fun b ⟨_, _, h⟩ _ => h)
  have hfl : f.length = 1 := by have := congrArg List.length hfm; simpa using this
  have hrl : r.length = 1 := by have := congrArg List.length hrm; rw [ex_open2] at this; simpa using this
  have hf29 := (hf.step sAll).at
  have g0 : f[0]? = some f[0] := List.getElem?_eq_getElem (by omega)
  have hm0 := List.getElem_mem (show 0 < f.length by omega)
  have hx : (f[0]).bs = secL 1 1 0 0 1 [97, 98] := by
    have := get_map_bs g0
    rw [hfm] at this
    simp at this
    exact this.symm
  generalize f[0] = x at *
  obtain ⟨fd, rfl, c0⟩ := hf29.cell g0
  obtain ⟨rx, ex⟩ := hf29.oks x hm0
  have hxl : x.bs.length = 64 := by rw [hx]; rfl
  have e2 : (appendJ (newDS 4) exJ [97, 98]).2 = 0 := ex_append
  have e3 : (openK exD 0 4 1).2.2 = 0 := by rw [ex_open2]
  have e4 : (openK (newDS 4) 0 4 1).2.2 = 0 := by rw [ex_open]
  refine ⟨fun _ => ⟨fun _ => ?_, fun h => absurd (by rw [hfl]; rfl) h⟩, fun h => absurd (by rw [ex_frame]) h⟩
  refine ⟨fd, rfl, by omega, x.a, x.bs.length, x.c, c0, fun _ => ?_, fun h => absurd (by rw [hxl]; rfl) h⟩
  obtain ⟨xd, hxd, k0⟩ := byte_cell rx (i := 0) (by omega)
  obtain ⟨_, e, k15⟩ := byte_cell rx (i := 15) (by omega)
  rw [hxd] at e; cases e
  obtain ⟨_, e, k17⟩ := byte_cell rx (i := 17) (by omega)
  rw [hxd] at e; cases e
  rw [hx] at k0 k15 k17
  refine ⟨by omega, x.a, x.bs.length, x.c, c0, xd, hxd, by omega, _, k0, fun _ => ?_, fun h => absurd rfl h⟩
  refine ⟨by omega, x.a, x.bs.length, x.c, c0, xd, hxd, by omega, _, k15, fun _ => ?_, fun h => absurd rfl h⟩
  refine ⟨by omega, x.a, x.bs.length, x.c, c0, xd, hxd, by omega, _, k17, fun _ => ⟨fun _ => ⟨fun _ => ⟨fun _ => ⟨fun _ => ?_, fun h => absurd (by rw [hrl]; rfl) h⟩, fun h => absurd e3 h⟩, fun h => absurd e2 h⟩, fun h => absurd e4 h⟩, fun h => absurd rfl h⟩
  have hr29 := hr.at
  have h0 : r[0]? = some r[0] := List.getElem?_eq_getElem (by omega)
  have hmr := List.getElem_mem (show 0 < r.length by omega)
  have hy : (r[0]).bs = [97, 98] := by
    have := get_map_bs h0
    rw [hrm, ex_open2] at this
    simp at this
    exact this.symm
  generalize r[0] = y at *
  obtain ⟨rd, rfl, d0⟩ := hr29.cell h0
  obtain ⟨ry, _⟩ := hr29.oks y hmr
  refine ⟨rd, rfl, by omega, y.a, y.bs.length, y.c, d0, _, conv_str Try.underlying23 Try.underlying5 Try.underlying9 ry, ?_, fin⟩
  rw [hy]; simp
end Go.Proofs.Ytgcjipbahfpopaa

/- JournalFrames, JournalScans. -/
set_option linter.unusedVariables false
set_option linter.unusedSimpArgs false
set_option maxRecDepth 20000
set_option maxHeartbeats 2000000
namespace Go.Proofs.Ytgcjipbahfpopaa
open Go Go.Mx Go.Proofs
open W (OwnB GivesW)
/-- a raw sector that is handed in. -/
structure RW where
  gen : Int
  round : Int
  seq : Int
  a : Option Addr
  c : Nat
  B : List UInt8
  part : Int
  at_ : Int
  by_ : Int
def RW.C (r : RW) : List Value := [.int .u32 r.gen, .int .u32 r.round, .int .u32 r.seq, .slice r.a r.B.length r.c, .int .i64 r.part, .int .i64 r.at_, .int .u8 r.by_]
theorem RW.len (r : RW) : r.C.length = 7 := rfl
structure RW.good (W : World) (r : RW) : Prop where
  gen : 0 ≤ r.gen ∧ r.gen < 4294967296
  round : 0 ≤ r.round ∧ r.round < 4294967296
  seq : 0 ≤ r.seq ∧ r.seq < 4294967296
  la : r.B.length ≤ r.c
  ra : RowAt W r.a (bytesV r.B)
theorem wf_u32 {n : Int} (h : (Lit.int .u32 n).wf = true) : 0 ≤ n ∧ n < 4294967296 := by
  simp [Lit.wf, IntKind.min, IntKind.max, IntKind.signed, IntKind.bits] at h; omega
theorem opens_raw : Opens Try.prog 38 fun W cs => ∃ p : RW, cs = p.C ∧ p.good W :=
  (opens_seq (qs := [(1, _), (1, _), (1, _), (1, _), (1, _), (1, _), (1, _)]) (size := 7) Try.underlying38 (by kernel_rfl)
    ⟨⟨rfl, by kernel_rfl, opens_int Try.underlying22⟩, ⟨rfl, by kernel_rfl, opens_int Try.underlying22⟩, ⟨rfl, by kernel_rfl, opens_int Try.underlying22⟩,
     ⟨rfl, by kernel_rfl, opens_bytes Try.underlying23 (by kernel_rfl) Try.underlying5⟩, ⟨rfl, by kernel_rfl, opens_int Try.underlying3⟩, ⟨rfl, by kernel_rfl, opens_int Try.underlying3⟩, ⟨rfl, by kernel_rfl, opens_int Try.underlying5⟩, rfl⟩).mono
    fun W cs ⟨_, _, e0, _, ⟨gen, q0, f0⟩, _, _, e1, _, ⟨round, q1, f1⟩, _, _, e2, _, ⟨seq, q2, f2⟩, _, _, e3, _, ⟨aa, ac, A, q3, la, _, ra⟩, _, _, e4, _, ⟨part, q4, _⟩, _, _, e5, _, ⟨at_, q5, _⟩, _, _, e6, _, ⟨by_, q6, _⟩, q7⟩ => by
      subst q0; subst q1; subst q2; subst q3; subst q4; subst q5; subst q6; subst q7; subst e6; subst e5; subst e4; subst e3; subst e2; subst e1; subst e0
      exact ⟨⟨gen, round, seq, aa, ac, A, part, at_, by_⟩, rfl, wf_u32 f0, wf_u32 f1, wf_u32 f2, la, ra⟩
def RWsQ (W : World) (cs : List Value) : Prop := ∃ (a : Option Addr) (c : Nat) (l : List RW), cs = [.slice a l.length c] ∧ l.length ≤ c ∧ c ≤ maxLen ∧ RowAt W a (l.flatMap RW.C) ∧ ∀ x ∈ l, x.good W
theorem opens_raws : Opens Try.prog 32 RWsQ := opens_rows (size := 7) Try.underlying32 (by kernel_rfl) opens_raw
section
variable {w w' w1 : World} {o o' o1 : Own} {q g n N : Nat} {K : Nat → Prop} {b s : List UInt8} {a : Option Addr} {c : Nat} {l : List BS}
/-- a store into bytes of one's own. -/
theorem ownB_set (h : OwnB N w a c b) {i : Nat} (hi : i < b.length) (v : UInt8) :
    ∃ ad, a = some ad ∧ canStore w (ad.add i) ∧ N ≤ ad.block ∧ ∀ w', w' = w.setCell (ad.add i) (u8V v) → OwnB N w' a c (b.set i v) ∧ Ext (fun x => x = ad.block) w w' := by
  have hl := h.own.1
  rcases h.own.2 with ⟨hv, h0⟩ | ⟨g, cap, cur, hv, hb0, hgb, hnc, hcm, hcs, htk⟩
  · rw [h0] at hi; omega
  cases hv
  have hfr := h.fr ⟨g, 0, none⟩ rfl
  have hblk : Blk w g 5 cur.toList := by unfold Blk; simpa using hgb
  have hjc : i < cur.toList.length := by
    have := congrArg List.length htk
    rw [List.length_take, bytesV_length] at this
    omega
  have hadd : (⟨g, 0, none⟩ : Addr).add i = ⟨g, i, none⟩ := by simp [Addr.add_lit]
  refine ⟨_, rfl, by rw [hadd]; exact hblk.can (v := cur.toList[i]) (List.getElem?_eq_getElem hjc), hfr.1, fun w' hw' => ?_⟩
  have X : Ext (fun x => x = g) w w' := by subst hw'; rw [hadd]; exact (Ext.refl (fun x => x = g) w).setCell (a := ⟨g, i, none⟩) (.inl rfl) (u8V v)
  have hb2 : Blk w' g 5 (cur.toList.set i (u8V v)) := by subst hw'; rw [hadd]; exact hblk.set i (u8V v)
  have hbl : bytesV (b.set i v) = (bytesV b).set i (u8V v) := by unfold bytesV; rw [List.map_set]
  refine ⟨⟨?_, fun ad ha => ?_⟩, X⟩
  · rw [List.length_set]
    refine ⟨by rw [bytesV_length, List.length_set]; rw [bytesV_length] at hl; exact hl, .inr ⟨g, c, _, rfl, hb0, hb2, hnc, hcm, by simpa using hcs, ?_⟩⟩
    show (cur.toList.set i (u8V v)).take (b.length * 1) = _
    rw [List.take_set, htk, hbl]
  · cases ha; exact ⟨hfr.1, Nat.lt_of_lt_of_le hfr.2 X.size⟩
theorem raw_spec (ok : Tags w o) {r : RW} {W0 : World} (hg : r.good W0) (hr : RowAt w r.a (bytesV r.B)) (hl : r.B.length < 1000000) :
    Calls Try.prog 15 #[.agg #[.int .u32 r.gen, .int .u32 r.round, .int .u32 r.seq, .slice r.a r.B.length r.c, .int .i64 r.part, .int .i64 r.at_, .int .u8 r.by_]] w (fun z w' => ∃ o', ∃ x : BS, ∃ t : Bool, z = .returned (.tuple #[x.v, .bool t]) ∧ Step no w o w' o' ∧ BSok w' o' x) := by
  refine (cachettelaw10_Bytes.go r.gen r.round r.seq r.a r.B.length r.c r.part r.at_ r.by_ (R := fun z w' => ∃ o', ∃ x : BS, ∃ t : Bool, z = (.tuple #[x.v, .bool t]) ∧ Step no w o w' o' ∧ BSok w' o' x) ?_).mono fun z w' ⟨u, he, o', x, t, hu, hw⟩ => ⟨o', x, t, by rw [he, hu], hw⟩
  unfold cachettelaw10_Bytes.N
  obtain ⟨⟨g0, g1⟩, ⟨r0, r1⟩, ⟨s0, s1⟩, hla, _⟩ := hg
  obtain ⟨gen, hgen⟩ := Int.eq_ofNat_of_zero_le g0
  obtain ⟨round, hround⟩ := Int.eq_ofNat_of_zero_le r0
  obtain ⟨seq, hseq⟩ := Int.eq_ofNat_of_zero_le s0
  rw [hgen, hround, hseq]
  intro w8 p9 X8 hp9
  obtain ⟨s8, M8⟩ := Step.priv X8 hp9 ok
  refine (rFrame_spec s8.ok (hr.no X8) hla hl (gen := gen) (round := round) (seq := seq) (by omega) (by omega) (by omega)).mono fun u w13 ⟨o13, fa, fc, f, he, s13', hfm, hf, hown⟩ => ⟨_, _, _, _, he, M8.keep s13' (fun _ _ => id), ?_⟩
  have s13 := s8.trans s13'
  have none_ : ∃ o', ∃ x : BS, ∃ t : Bool, (Value.tuple #[.slice none 0 0, .bool false]) = (.tuple #[x.v, .bool t]) ∧ Step no w o w13 o' ∧ BSok w13 o' x := ⟨o13, ⟨none, 0, []⟩, false, rfl, s13, Row.nil _ _ _, Nat.le_refl _⟩
  refine ⟨fun _ => none_, fun _ => ⟨fun _ => none_, fun hp0 => ⟨fun _ => none_, fun hp1 => ?_⟩⟩⟩
  have hi : r.part.toNat < f.length := by omega
  have gt : f[r.part.toNat]? = some f[r.part.toNat] := List.getElem?_eq_getElem hi
  have hmt := List.getElem_mem hi
  generalize f[r.part.toNat] = x at *
  obtain ⟨fd, rfl, cx⟩ := hf.at.cell gt
  have okx := hf.oks x hmt
  have ox := hown x hmt
  have done : ∃ o', ∃ y : BS, ∃ t : Bool, (Value.tuple #[.slice x.a x.bs.length x.c, .bool true]) = (.tuple #[y.v, .bool t]) ∧ Step no w o w13 o' ∧ BSok w13 o' y := ⟨o13, x, true, rfl, s13, okx⟩
  refine ⟨fd, rfl, by omega, by omega, x.a, x.bs.length, x.c, cx, fun ha0 => ⟨fun ha1 => ?_, fun _ => done⟩, fun _ => done⟩
  have hil : r.at_.toNat < x.bs.length := by omega
  obtain ⟨xd, hxd, cb⟩ := byte_cell okx.1.1 hil
  refine ⟨xd, hxd, by omega, by omega, _, cb, by omega, by omega, fun w22 X22 => ?_⟩
  have ox22 := W.OwnB.no ox X22
  obtain ⟨xd', hxd', hcan, hN, hset⟩ := ownB_set ox22 hil (UInt8.ofNat ((BitVec.ofInt (IntKind.bits .u8) (byteN x.bs r.at_.toNat : Int) ^^^ BitVec.ofInt (IntKind.bits .u8) r.by_).toNat))
  rw [hxd] at hxd'; cases hxd'
  have hadd : (xd.add (Int.toNat r.at_ * 1)).add 0 = xd.add r.at_.toNat := by rw [add_add, Nat.mul_one, Nat.add_zero]
  rw [hadd]
  refine ⟨hcan, thenW_in fun w26 e26 => ?_⟩
  have hv : Value.int .u8 (IntKind.u8.wrap (((BitVec.ofInt (IntKind.bits .u8) (byteN x.bs r.at_.toNat : Int) ^^^ BitVec.ofInt (IntKind.bits .u8) r.by_).toNat : Nat) : Int)) = u8V _ := wrapU8i (Int.natCast_nonneg _)
  rw [hv] at e26
  obtain ⟨o26, X26⟩ := hset w26 e26
  have X13 : Ext no w w13 := s13.ext.mono fun b ⟨_, _, h⟩ _ => h
  have X : Ext no w w26 := (X13.trans X22).then X26 fun b hb => .inr (by have := X8.size; subst hb; omega)
  refine ⟨_, ⟨x.a, x.c, _⟩, true, ?_, Step.of_no X ok, ⟨Row.fresh o26.row fun ad ha => ?_, o26.le⟩⟩
  · unfold BS.v; simp only [List.length_set]
  · have := (o26.fr ad ha).1
    have := X8.size
    omega
def light10 (l : List RW) : Bool := decide (l.length ≤ 40) && l.all fun r => decide (r.B.length ≤ 500)
theorem lightRaw_spec {la : Option Addr} {lc : Nat} {l : List RW} (hl : RowAt w la (l.flatMap RW.C)) : Calls Try.prog 14 #[.slice la l.length lc] w (Ret (.bool (light10 l)) fun w' => w' = w) := by
  refine cachettelaw10_lightRaw.run _ _ _ ?_
  unfold cachettelaw10_lightRaw.N
  refine ⟨fun h => ⟨by unfold light10; rw [decide_eq_false (by omega)]; rfl, rfl⟩, fun h => ?_⟩
  have h40 : decide (l.length ≤ 40) = true := decide_eq_true (by omega)
  refine ⟨fun m vs w1 => ∃ t : Nat, vs = [.int .i64 t] ∧ m + t = l.length ∧ w1 = w ∧ ∀ i x, i < t → l[i]? = some x → x.B.length ≤ 500, l.length, ⟨0, rfl, rfl, rfl, fun i x h => absurd h (by omega)⟩, ?_⟩
  rintro m w6 i ⟨t, hi, hm, rfl, hs⟩
  simp only [List.cons.injEq, Value.int.injEq, true_and, and_true] at hi
  subst hi
  refine ⟨fun ht => ?_, fun ht => ?_⟩
  · have htl : t < l.length := by omega
    have gt : l[t]? = some l[t] := List.getElem?_eq_getElem htl
    have hmt := List.getElem_mem htl
    obtain ⟨ad, rfl⟩ := hl.faddr RW.len (by decide) htl
    generalize l[t] = x at *
    refine ⟨ad, rfl, by omega, by omega, x.a, x.B.length, x.c, by rw [Int.toNat_natCast]; exact hl.fcell RW.len gt 3 rfl, fun hb => ⟨?_, rfl⟩, fun hb => ⟨by omega, by omega, m - 1, by omega, t + 1, rfl, by omega, rfl, fun i y hi hy => ?_⟩⟩
    · unfold light10
      rw [h40, Bool.true_and]
      congr 1
      exact (List.all_eq_false.2 ⟨x, hmt, by simp; omega⟩).symm
    · by_cases hit : i = t
      · subst hit; rw [gt] at hy; cases hy; omega
      · exact hs i y (by omega) hy
  · refine ⟨?_, rfl⟩
    unfold light10
    rw [h40, Bool.true_and]
    congr 1
    refine (List.all_eq_true.2 fun x hx => ?_).symm
    obtain ⟨i, hi⟩ := List.getElem?_of_mem hx
    exact decide_eq_true (hs i x (by have := (List.getElem?_eq_some_iff.1 hi).1; omega) hi)
theorem light10_of {l : List RW} (h : light10 l = true) : l.length ≤ 40 ∧ ∀ r ∈ l, r.B.length ≤ 500 := by
  unfold light10 at h
  simp only [Bool.and_eq_true, decide_eq_true_eq, List.all_eq_true] at h
  exact h
end
end Go.Proofs.Ytgcjipbahfpopaa
