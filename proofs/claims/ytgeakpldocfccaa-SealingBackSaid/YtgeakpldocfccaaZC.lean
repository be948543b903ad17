/- Members' laws: predicates. -/
import Derived.Test.YtgeakpldocfccaaZB
import Derived.Test.YtgeakpldocfccaaZA
import Derived.KernelRfl
set_option linter.unusedVariables false
set_option linter.unusedSimpArgs false
set_option maxRecDepth 20000
set_option maxHeartbeats 2000000
namespace Go.Proofs.Ytgeakpldocfccaa
open Go Go.Mx Go.Proofs
theorem inf111 : (Try.prog.info? 111).map (fun i => (i.zero, i.size, i.bytes)) = some (some (.agg #[.int .i64 0, .int .u64 0, .int .i64 0, .int .i64 0, .int .i64 0]), 5, 40) := by kernel_rfl
def Q0X.M (a1 : Int) (R : RW) (w : World) : Prop :=
 thenW (w.alloc (.cells #[.slice none 0 0, .int .i64 0] 68)) fun a6 =>
 thenW (a6.alloc (.cells #[.int .i64 0, .int .u64 a1, .int .i64 0, .int .i64 (-1), .int .i64 0] 111)) fun a7 =>
 putsK a7 (blk w.heap.size) [.slice (some (blk a6.heap.size)) 1 1, .int .i64 (-1)] 0 fun a5 =>
 ∃ (a2 : Option Addr) (a3 a4 : Nat) (a0 : Int), cellsAt a5 (blk w.heap.size) [.slice a2 a3 a4, .int .i64 a0] 0 ∧
 R (.agg #[.slice a2 a3 a4, .int .i64 a0]) a5

theorem Q0X.ok (a0 : Int) {R : RW} {w : World} (h : Q0X.M a0 R w) : Calls Try.prog 20 #[.int .u64 a0] w fun e w' => ∃ v, e = .returned v ∧ R v w' :=
  Q0j follows (H := []) (args := [.int .u64 a0]) (cast (by kernel_rfl) h)

def Q0X.N (a0 : Int) (R : RW) (w : World) : Prop :=
 ∀ (a1 : World) (q4 p5 : Nat), Ext no w a1 → Blk a1 q4 111 [.int .i64 0, .int .u64 a0, .int .i64 0, .int .i64 (-1), .int .i64 0] → w.heap.size ≤ q4 → q4 < a1.heap.size → Privq w q4 [p5] →
 ∀ (a2 : World), Ext (fun b => b = p5) a1 a2 →
 R (.agg #[.slice (some (blk q4)) 1 1, .int .i64 (-1)]) a2

theorem Q0X.up (a0 : Int) {R : RW} {w : World} (h : Q0X.N a0 R w) : Q0X.M a0 R w := by
  unfold Q0X.M
  unfold Q0X.N at h
  refine Q01 fun a3 e2 => ?_
  have a1 := Blk.of_new e2
  have a9 := ((Ext.refl no w)).size
  have a4 := (Ext.refl no w).x_alloc e2
  refine Q01 fun a2 e3 => ?_
  have a6 := a1.lt
  have a1 := a1.x_alloc e3
  have h := h a2 a3.heap.size (w.heap.size) (a4.x_alloc e3) (Blk.of_new e3) (a4).size (Q0v e3) (Privq.cons a9 a6 Privq.nil)
  have a8 : Ext (fun b => b = w.heap.size) a2 a2 := ((Ext.refl no a2)).none
  refine Q0o (k := 0) (j := 0) a1 (Nat.le_of_ble_eq_true rfl) fun a5 X6 b6 => ?_
  have a7 := a8.x_puts X6 (.inl rfl)
  have a1 : Blk a5 w.heap.size 68 [.slice (some (blk a3.heap.size)) 1 1, .int .i64 (-1)] := b6
  refine ⟨(some (blk a3.heap.size)), 1, 1, (-1), ⟨a1.celli 0 rfl rfl, a1.celli 1 rfl rfl, trivial⟩, ?_⟩
  have h := h a5 a7
  exact h

theorem Q0X.go (a0 : Int) {R : RW} {w : World} (h : Q0X.N a0 R w) : Calls Try.prog 20 #[.int .u64 a0] w fun e w' => ∃ v, e = .returned v ∧ R v w' := Q0X.ok a0 (Q0X.up a0 h)
def Q0c.M (n1 : Int) (R : RW) (w : World) : Prop :=
 bif decide (n1 ≥ 0) then (
 R (.bool (decide (n1 < 8))) w) else (
 R (.bool false) w)

theorem Q0c.ok (n1 : Int) {R : RW} {w : World} (h : Q0c.M n1 R w) : Calls Try.prog 86 #[.int .i64 n1] w fun e w' => ∃ v, e = .returned v ∧ R v w' :=
  Q0j follows (H := []) (args := [.int .i64 n1]) (cast (by kernel_rfl) h)

def Q0c.N (n1 : Int) (R : RW) (w : World) : Prop :=
 (n1 ≥ 0 →
 R (.bool (decide (n1 < 8))) w) ∧
 (n1 < 0 →
 R (.bool false) w)

theorem Q0c.up (n1 : Int) {R : RW} {w : World} (h : Q0c.N n1 R w) : Q0c.M n1 R w := by
  unfold Q0c.M
  unfold Q0c.N at h
  refine bif_of (fun c2 => ?_) (fun c2 => ?_)
  ·have h := h.1 (of_decide_eq_true c2)
   exact h
  have h := h.2 (Int.not_le.1 (of_decide_eq_false c2))
  exact h

theorem Q0c.go (n1 : Int) {R : RW} {w : World} (h : Q0c.N n1 R w) : Calls Try.prog 86 #[.int .i64 n1] w fun e w' => ∃ v, e = .returned v ∧ R v w' := Q0c.ok n1 (Q0c.up n1 h)
theorem Q0c.run (n1 : Int) {V : Value} {Q : World → Prop} {w : World} (h : Q0c.N n1 (fun v w' => v = V ∧ Q w') w) : Calls Try.prog 86 #[.int .i64 n1] w (Ret V Q) := (Q0c.go n1 h).mono fun e w' ⟨v, he, hv, hq⟩ => ⟨by rw [he, hv], hq⟩

def Q0c.F (n1 : Int) : Bool :=
  if n1 ≥ 0 then
    (decide (n1 < 8))
  else
    false
theorem Q0c.pure (n1 : Int) {w : World} : Calls Try.prog 86 #[.int .i64 n1] w (Ret (.bool (Q0c.F n1)) fun w' => Ext no w w') := by
  refine Q0c.run n1 ?_
  unfold Q0c.N
  refine ⟨fun c0 => ?_, fun c0 => ?_⟩
  ·exact ⟨by unfold Q0c.F; rw [if_pos c0], Ext.refl _ _⟩
  ·exact ⟨by unfold Q0c.F; rw [if_neg (show ¬ (n1 ≥ 0) from by omega)], Ext.refl _ _⟩

abbrev Q0u.J1 (a3 : Addr) (R : RW) (al : World) : Prop :=
 ∃ (a4 : Int), al.cell? (a3.add 0) = some (.int .i64 a4) ∧
 bif a4 == 1 then (
 ∃ (b6 : Int), al.cell? (a3.add 1) = some (.int .i64 b6) ∧
 Calls Try.prog 86 #[.int .i64 b6] al fun bk am => ∃ (bb : Bool), bk = .returned (.bool bb) ∧
 bif bb then (
 ∃ (a5 : Int), am.cell? (a3.add 2) = some (.int .u64 a5) ∧
 bif a5 != 0 then (
 ∃ (aq : Int), am.cell? (a3.add 3) = some (.int .i64 aq) ∧
 bif aq == 0 then (
 ∃ (b1 : Option Addr) (a8 b3 : Nat), am.cell? (a3.add 4) = some (.slice b1 a8 b3) ∧
 R (.bool ((a8 : Int) == 0)) am) else (
 R (.bool false) am)) else (
 R (.bool false) am)) else (
 R (.bool false) am)) else (
 bif a4 == 2 then (
 ∃ (b9 : Int), al.cell? (a3.add 1) = some (.int .i64 b9) ∧
 Calls Try.prog 86 #[.int .i64 b9] al fun bj a0 => ∃ (b7 : Bool), bj = .returned (.bool b7) ∧
 bif b7 then (
 ∃ (b5 : Int), a0.cell? (a3.add 1) = some (.int .i64 b5) ∧
 bif b5 != 0 then (
 ∃ (ad : Int), a0.cell? (a3.add 2) = some (.int .u64 ad) ∧
 bif ad == 0 then (
 ∃ (an : Int), a0.cell? (a3.add 3) = some (.int .i64 an) ∧
 bif decide (an ≥ 0) then (
 ∃ (ap : Int), a0.cell? (a3.add 3) = some (.int .i64 ap) ∧
 bif decide (ap ≤ 200) then (
 ∃ (au : Option Addr) (aj az : Nat), a0.cell? (a3.add 4) = some (.slice au aj az) ∧
 R (.bool ((aj : Int) == 0)) a0) else (
 R (.bool false) a0)) else (
 R (.bool false) a0)) else (
 R (.bool false) a0)) else (
 R (.bool false) a0)) else (
 R (.bool false) a0)) else (
 bif a4 == 3 then (
 ∃ (I1 : Nat → List Value → World → Prop) (bs : Nat), I1 bs [.int .i64 0] al ∧ ∀ (bl : Nat) (a1 : World) (af : Int), I1 bl [.int .i64 af] a1 →
 ∃ (b2 : Option Addr) (a6 b0 : Nat), a1.cell? (a3.add 4) = some (.slice b2 a6 b0) ∧
 bif decide (af < (a6 : Int)) then (
 thenW (a1.drew) fun bf =>
 ∃ (aa : Option Addr) (ak ar : Nat), bf.cell? (a3.add 4) = some (.slice aa ak ar) ∧
 aa.elim False fun bt =>
 0 ≤ (af : Int) ∧ (af : Int) < (ak : Int) ∧
 ∃ (b8 : Int), bf.cell? ((bt.add (Int.toNat af * 2)).add 0) = some (.int .i64 b8) ∧
 Calls Try.prog 86 #[.int .i64 b8] bf fun bm a2 => ∃ (bc : Bool), bm = .returned (.bool bc) ∧
 bif !bc then (
 R (.bool false) a2) else (
 ∃ (ai : Option Addr) (ae av : Nat), a2.cell? (a3.add 4) = some (.slice ai ae av) ∧
 ai.elim False fun bq =>
 0 ≤ (af : Int) ∧ (af : Int) < (ae : Int) ∧
 ∃ (bh : Option Addr) (bg bi : Nat), a2.cell? ((bq.add (Int.toNat af * 2)).add 1) = some (.slice bh bg bi) ∧
 bif (bg : Int) != 16 then (
 R (.bool false) a2) else (
 bif decide (af > 0) then (
 ∃ (a7 : Option Addr) (ab aw : Nat), a2.cell? (a3.add 4) = some (.slice a7 ab aw) ∧
 a7.elim False fun br =>
 0 ≤ ((IntKind.i64.wrap (af - 1)) : Int) ∧ ((IntKind.i64.wrap (af - 1)) : Int) < (ab : Int) ∧
 ∃ (be : Int), a2.cell? ((br.add (Int.toNat (IntKind.i64.wrap (af - 1)) * 2)).add 0) = some (.int .i64 be) ∧
 ∃ (ah : Option Addr) (ac ax : Nat), a2.cell? (a3.add 4) = some (.slice ah ac ax) ∧
 ah.elim False fun bp =>
 0 ≤ (af : Int) ∧ (af : Int) < (ac : Int) ∧
 ∃ (ba : Int), a2.cell? ((bp.add (Int.toNat af * 2)).add 0) = some (.int .i64 ba) ∧
 bif decide (be ≥ ba) then (
 R (.bool false) a2) else (
 ∃ bn, bn < bl ∧ I1 bn [.int .i64 (IntKind.i64.wrap (af + 1))] a2)) else (
 ∃ bo, bo < bl ∧ I1 bo [.int .i64 (IntKind.i64.wrap (af + 1))] a2)))) else (
 ∃ (bd : Int), a1.cell? (a3.add 1) = some (.int .i64 bd) ∧
 bif bd == 0 then (
 ∃ (ag : Int), a1.cell? (a3.add 2) = some (.int .u64 ag) ∧
 bif ag == 0 then (
 ∃ (ao : Int), a1.cell? (a3.add 3) = some (.int .i64 ao) ∧
 bif ao == 0 then (
 ∃ (b4 : Option Addr) (a9 ay : Nat), a1.cell? (a3.add 4) = some (.slice b4 a9 ay) ∧
 R (.bool (decide ((a9 : Int) > 0))) a1) else (
 R (.bool false) a1)) else (
 R (.bool false) a1)) else (
 R (.bool false) a1))) else (
 R (.bool false) al)))

def Q0u.M (a8 af a1 a5 : Int) (a3 : Option Addr) (a4 a2 : Nat) (ac : Option Addr) (ad ae : Nat) (R : RW) (w : World) : Prop :=
 thenW (w.alloc (.cells #[.int .i64 a8, .int .i64 af, .int .u64 a1, .int .i64 a5, .slice a3 a4 a2, .slice ac ad ae] 77)) fun ab =>
 ∃ (ah : Option Addr) (a7 ag : Nat), ab.cell? ((blk w.heap.size).add 5) = some (.slice ah a7 ag) ∧
 bif (a7 : Int) != 0 then (
 ∃ (a6 : Int), ab.cell? ((blk w.heap.size).add 0) = some (.int .i64 a6) ∧
 bif a6 != 3 then (
 R (.bool false) ab) else (
 ∃ (aa : Option Addr) (a0 a9 : Nat), ab.cell? ((blk w.heap.size).add 5) = some (.slice aa a0 a9) ∧
 bif (a0 : Int) != 24 then (
 R (.bool false) ab) else (
 Q0u.J1 (blk w.heap.size) R ab))) else (
 Q0u.J1 (blk w.heap.size) R ab)

theorem Q0u.ok (a5 a9 a0 a4 : Int) (a2 : Option Addr) (a3 a1 : Nat) (a6 : Option Addr) (a7 a8 : Nat) {R : RW} {w : World} (h : Q0u.M a5 a9 a0 a4 a2 a3 a1 a6 a7 a8 R w) : Calls Try.prog 54 #[.agg #[.int .i64 a5, .int .i64 a9, .int .u64 a0, .int .i64 a4, .slice a2 a3 a1, .slice a6 a7 a8]] w fun e w' => ∃ v, e = .returned v ∧ R v w' :=
  Q0j follows (H := [(1, [1], [(3, (.one (.int .i64)))])]) (args := [.agg #[.int .i64 a5, .int .i64 a9, .int .u64 a0, .int .i64 a4, .slice a2 a3 a1, .slice a6 a7 a8]]) (cast (by kernel_rfl) h)

def Q0u.N (a3 a4 a2 a1 : Int) (ah : Option Addr) (a0 aq : Nat) (ay : Option Addr) (af az : Nat) (R : RW) (w : World) : Prop :=
 ((af : Int) ≠ 0 →
 (a3 ≠ 3 →
 ∀ (ag : World), Ext no w ag →
 R (.bool false) ag) ∧
 (a3 = 3 →
 ((af : Int) ≠ 24 →
 ∀ (ag : World), Ext no w ag →
 R (.bool false) ag) ∧
 ((af : Int) = 24 →
 (a3 = 1 →
 ((Q0c.F a4) = true →
 (a2 ≠ 0 →
 (a1 = 0 →
 ∀ (ae : World), Ext no w ae →
 R (.bool ((a0 : Int) == 0)) ae) ∧
 (a1 ≠ 0 →
 ∀ (ae : World), Ext no w ae →
 R (.bool false) ae)) ∧
 (a2 = 0 →
 ∀ (ae : World), Ext no w ae →
 R (.bool false) ae)) ∧
 ((Q0c.F a4) = false →
 ∀ (ae : World), Ext no w ae →
 R (.bool false) ae)) ∧
 (a3 ≠ 1 →
 (a3 = 2 →
 ((Q0c.F a4) = true →
 (a4 ≠ 0 →
 (a2 = 0 →
 (a1 ≥ 0 →
 (a1 ≤ 200 →
 ∀ (a6 : World), Ext no w a6 →
 R (.bool ((a0 : Int) == 0)) a6) ∧
 ((200 : Int) < a1 →
 ∀ (a6 : World), Ext no w a6 →
 R (.bool false) a6)) ∧
 (a1 < 0 →
 ∀ (a6 : World), Ext no w a6 →
 R (.bool false) a6)) ∧
 (a2 ≠ 0 →
 ∀ (a6 : World), Ext no w a6 →
 R (.bool false) a6)) ∧
 (a4 = 0 →
 ∀ (a6 : World), Ext no w a6 →
 R (.bool false) a6)) ∧
 ((Q0c.F a4) = false →
 ∀ (a6 : World), Ext no w a6 →
 R (.bool false) a6)) ∧
 (a3 ≠ 2 →
 (a3 = 3 →
 ∀ (ag : World), Ext no w ag →
 ∃ (I1 : Nat → List Value → World → Prop) (b8 : Nat), I1 b8 [.int .i64 0] ag ∧ ∀ (b2 : Nat) (a8 : World) (ac : Int), I1 b2 [.int .i64 ac] a8 →
 (ac < (a0 : Int) →
 ∃ aw : Addr, ah = some aw ∧
 0 ≤ (ac : Int) ∧ (ac : Int) < (a0 : Int) ∧
 ∃ (am : Int), a8.cell? ((aw.add (Int.toNat ac * 2)).add 0) = some (.int .i64 am) ∧
 ((Q0c.F am) = false →
 ∀ (a9 : World), Ext no a8 a9 →
 R (.bool false) a9) ∧
 ((Q0c.F am) = true →
 0 ≤ (ac : Int) ∧ (ac : Int) < (a0 : Int) ∧
 ∃ (b1 : Option Addr) (ao ax : Nat), a8.cell? ((aw.add (Int.toNat ac * 2)).add 1) = some (.slice b1 ao ax) ∧
 ((ao : Int) ≠ 16 →
 ∀ (a9 : World), Ext no a8 a9 →
 R (.bool false) a9) ∧
 ((ao : Int) = 16 →
 (ac > 0 →
 (-9223372036854775808 : Int) ≤ (ac - 1) ∧ (ac - 1) < 9223372036854775808 ∧
 0 ≤ ((ac - 1) : Int) ∧ ((ac - 1) : Int) < (a0 : Int) ∧
 ∃ (al : Int), a8.cell? ((aw.add (Int.toNat (ac - 1) * 2)).add 0) = some (.int .i64 al) ∧
 0 ≤ (ac : Int) ∧ (ac : Int) < (a0 : Int) ∧
 ∃ (an : Int), a8.cell? ((aw.add (Int.toNat ac * 2)).add 0) = some (.int .i64 an) ∧
 (al ≥ an →
 ∀ (a9 : World), Ext no a8 a9 →
 R (.bool false) a9) ∧
 (al < an →
 (-9223372036854775808 : Int) ≤ (ac + 1) ∧ (ac + 1) < 9223372036854775808 ∧
 ∀ (a9 : World), Ext no a8 a9 →
 ∃ b5, b5 < b2 ∧ I1 b5 [.int .i64 (ac + 1)] a9)) ∧
 (ac ≤ 0 →
 (-9223372036854775808 : Int) ≤ (ac + 1) ∧ (ac + 1) < 9223372036854775808 ∧
 ∀ (a9 : World), Ext no a8 a9 →
 ∃ b6, b6 < b2 ∧ I1 b6 [.int .i64 (ac + 1)] a9)))) ∧
 ((a0 : Int) ≤ ac →
 (a4 = 0 →
 (a2 = 0 →
 (a1 = 0 →
 R (.bool (decide ((a0 : Int) > 0))) a8) ∧
 (a1 ≠ 0 →
 R (.bool false) a8)) ∧
 (a2 ≠ 0 →
 R (.bool false) a8)) ∧
 (a4 ≠ 0 →
 R (.bool false) a8))) ∧
 (a3 ≠ 3 →
 ∀ (ag : World), Ext no w ag →
 R (.bool false) ag)))))) ∧
 ((af : Int) = 0 →
 (a3 = 1 →
 ((Q0c.F a4) = true →
 (a2 ≠ 0 →
 (a1 = 0 →
 ∀ (ad : World), Ext no w ad →
 R (.bool ((a0 : Int) == 0)) ad) ∧
 (a1 ≠ 0 →
 ∀ (ad : World), Ext no w ad →
 R (.bool false) ad)) ∧
 (a2 = 0 →
 ∀ (ad : World), Ext no w ad →
 R (.bool false) ad)) ∧
 ((Q0c.F a4) = false →
 ∀ (ad : World), Ext no w ad →
 R (.bool false) ad)) ∧
 (a3 ≠ 1 →
 (a3 = 2 →
 ((Q0c.F a4) = true →
 (a4 ≠ 0 →
 (a2 = 0 →
 (a1 ≥ 0 →
 (a1 ≤ 200 →
 ∀ (a5 : World), Ext no w a5 →
 R (.bool ((a0 : Int) == 0)) a5) ∧
 ((200 : Int) < a1 →
 ∀ (a5 : World), Ext no w a5 →
 R (.bool false) a5)) ∧
 (a1 < 0 →
 ∀ (a5 : World), Ext no w a5 →
 R (.bool false) a5)) ∧
 (a2 ≠ 0 →
 ∀ (a5 : World), Ext no w a5 →
 R (.bool false) a5)) ∧
 (a4 = 0 →
 ∀ (a5 : World), Ext no w a5 →
 R (.bool false) a5)) ∧
 ((Q0c.F a4) = false →
 ∀ (a5 : World), Ext no w a5 →
 R (.bool false) a5)) ∧
 (a3 ≠ 2 →
 (a3 = 3 →
 ∀ (ag : World), Ext no w ag →
 ∃ (I1 : Nat → List Value → World → Prop) (b7 : Nat), I1 b7 [.int .i64 0] ag ∧ ∀ (b3 : Nat) (a7 : World) (ab : Int), I1 b3 [.int .i64 ab] a7 →
 (ab < (a0 : Int) →
 ∃ au : Addr, ah = some au ∧
 0 ≤ (ab : Int) ∧ (ab : Int) < (a0 : Int) ∧
 ∃ (ak : Int), a7.cell? ((au.add (Int.toNat ab * 2)).add 0) = some (.int .i64 ak) ∧
 ((Q0c.F ak) = false →
 ∀ (aa : World), Ext no a7 aa →
 R (.bool false) aa) ∧
 ((Q0c.F ak) = true →
 0 ≤ (ab : Int) ∧ (ab : Int) < (a0 : Int) ∧
 ∃ (b0 : Option Addr) (ap b4 : Nat), a7.cell? ((au.add (Int.toNat ab * 2)).add 1) = some (.slice b0 ap b4) ∧
 ((ap : Int) ≠ 16 →
 ∀ (aa : World), Ext no a7 aa →
 R (.bool false) aa) ∧
 ((ap : Int) = 16 →
 (ab > 0 →
 (-9223372036854775808 : Int) ≤ (ab - 1) ∧ (ab - 1) < 9223372036854775808 ∧
 0 ≤ ((ab - 1) : Int) ∧ ((ab - 1) : Int) < (a0 : Int) ∧
 ∃ (ai : Int), a7.cell? ((au.add (Int.toNat (ab - 1) * 2)).add 0) = some (.int .i64 ai) ∧
 0 ≤ (ab : Int) ∧ (ab : Int) < (a0 : Int) ∧
 ∃ (aj : Int), a7.cell? ((au.add (Int.toNat ab * 2)).add 0) = some (.int .i64 aj) ∧
 (ai ≥ aj →
 ∀ (aa : World), Ext no a7 aa →
 R (.bool false) aa) ∧
 (ai < aj →
 (-9223372036854775808 : Int) ≤ (ab + 1) ∧ (ab + 1) < 9223372036854775808 ∧
 ∀ (aa : World), Ext no a7 aa →
 ∃ av, av < b3 ∧ I1 av [.int .i64 (ab + 1)] aa)) ∧
 (ab ≤ 0 →
 (-9223372036854775808 : Int) ≤ (ab + 1) ∧ (ab + 1) < 9223372036854775808 ∧
 ∀ (aa : World), Ext no a7 aa →
 ∃ ar, ar < b3 ∧ I1 ar [.int .i64 (ab + 1)] aa)))) ∧
 ((a0 : Int) ≤ ab →
 (a4 = 0 →
 (a2 = 0 →
 (a1 = 0 →
 R (.bool (decide ((a0 : Int) > 0))) a7) ∧
 (a1 ≠ 0 →
 R (.bool false) a7)) ∧
 (a2 ≠ 0 →
 R (.bool false) a7)) ∧
 (a4 ≠ 0 →
 R (.bool false) a7))) ∧
 (a3 ≠ 3 →
 ∀ (ag : World), Ext no w ag →
 R (.bool false) ag))))

theorem Q0u.up (a9 a6 a3 a4 : Int) (a1 : Option Addr) (a2 a0 : Nat) (a7 : Option Addr) (aa a8 : Nat) {R : RW} {w : World} (h : Q0u.N a9 a6 a3 a4 a1 a2 a0 a7 aa a8 R w) : Q0u.M a9 a6 a3 a4 a1 a2 a0 a7 aa a8 R w := by
  unfold Q0u.M
  unfold Q0u.N at h
  refine Q01 fun ap e7 => ?_
  have a5 := Blk.of_new e7
  have bq := ((Ext.refl no w)).size
  have ai := (Ext.refl no w).x_alloc e7
  refine ⟨a7, aa, a8, a5.celli 5 rfl rfl, ?_⟩
  refine bif_of (fun c8 => ?_) (fun c8 => ?_)
  have h := h.1 (bne_t c8)
  refine ⟨a9, a5.celli 0 rfl rfl, ?_⟩
  refine bif_of (fun c9 => ?_) (fun c9 => ?_)
  ·have h := h.1 (bne_t c9)
   have h := h ap ai
   exact h
  have h := h.2 (bne_f c9)
  refine ⟨a7, aa, a8, a5.celli 5 rfl rfl, ?_⟩
  refine bif_of (fun az => ?_) (fun az => ?_)
  ·have h := h.1 (bne_t az)
   have h := h ap ai
   exact h
  have h := h.2 (bne_f az)
  rotate_left
  have h := h.2 (bne_f c8)
  rotate_left
  all_goals
   unfold Q0u.J1
   refine ⟨a9, a5.celli 0 rfl rfl, ?_⟩
   refine bif_of (fun aw => ?_) (fun aw => ?_)
   ·have h := h.1 (beq_t aw)
    refine ⟨a6, a5.celli 1 rfl rfl, ?_⟩
    refine (Q0c.pure a6).mono fun ee ww14 ⟨he, hxx⟩ => ⟨(Q0c.F a6), he, ?_⟩
    have ae := ai.trans hxx
    have a5 := a5.ext hxx id
    refine bif_fo (fun b2 => ?_) (fun b2 => ?_)
    ·have h := h.2 b2
     have h := h ww14 ae
     exact h
    have h := h.1 b2
    refine ⟨a3, a5.celli 2 rfl rfl, ?_⟩
    refine bif_fo (fun ax => ?_) (fun ax => ?_)
    ·have h := h.2 (bne_f ax)
     have h := h ww14 ae
     exact h
    have h := h.1 (bne_t ax)
    refine ⟨a4, a5.celli 3 rfl rfl, ?_⟩
    refine bif_fo (fun ay => ?_) (fun ay => ?_)
    ·have h := h.2 (beq_f ay)
     have h := h ww14 ae
     exact h
    have h := h.1 (beq_t ay)
    refine ⟨a1, a2, a0, a5.celli 4 rfl rfl, ?_⟩
    have h := h ww14 ae
    exact h
   have h := h.2 (beq_f aw)
   refine bif_of (fun b8 => ?_) (fun b8 => ?_)
   ·have h := h.1 (beq_t b8)
    refine ⟨a6, a5.celli 1 rfl rfl, ?_⟩
    refine (Q0c.pure a6).mono fun ee ww23 ⟨he, hxx⟩ => ⟨(Q0c.F a6), he, ?_⟩
    have ac := ai.trans hxx
    have a5 := a5.ext hxx id
    refine bif_fo (fun bg => ?_) (fun bg => ?_)
    ·have h := h.2 bg
     have h := h ww23 ac
     exact h
    have h := h.1 bg
    refine ⟨a6, a5.celli 1 rfl rfl, ?_⟩
    refine bif_fo (fun b1 => ?_) (fun b1 => ?_)
    ·have h := h.2 (bne_f b1)
     have h := h ww23 ac
     exact h
    have h := h.1 (bne_t b1)
    refine ⟨a3, a5.celli 2 rfl rfl, ?_⟩
    refine bif_fo (fun bb => ?_) (fun bb => ?_)
    ·have h := h.2 (beq_f bb)
     have h := h ww23 ac
     exact h
    have h := h.1 (beq_t bb)
    refine ⟨a4, a5.celli 3 rfl rfl, ?_⟩
    refine bif_fo (fun ba => ?_) (fun ba => ?_)
    ·have h := h.2 (Int.not_le.1 (of_decide_eq_false ba))
     have h := h ww23 ac
     exact h
    have h := h.1 (of_decide_eq_true ba)
    refine ⟨a4, a5.celli 3 rfl rfl, ?_⟩
    refine bif_fo (fun b7 => ?_) (fun b7 => ?_)
    ·have h := h.2 (Int.not_le.1 (of_decide_eq_false b7))
     have h := h ww23 ac
     exact h
    have h := h.1 (of_decide_eq_true b7)
    refine ⟨a1, a2, a0, a5.celli 4 rfl rfl, ?_⟩
    have h := h ww23 ac
    exact h
   have h := h.2 (beq_f b8)
   refine bif_fo (fun b0 => ?_) (fun b0 => ?_)
   ·have h := h.2 (beq_f b0)
    have h := h ap ai
    exact h
   have h := h.1 (beq_t b0)
   have h := h ap ai
   obtain ⟨I1, bo, h0, h⟩ := h
   refine ⟨fun k vs ww => Blk ww w.heap.size 77 [.int .i64 a9, .int .i64 a6, .int .u64 a3, .int .i64 a4, .slice a1 a2 a0, .slice a7 aa a8] ∧ I1 k vs ww, bo, ⟨a5, h0⟩, fun bn aj bp hI => ?_⟩
   obtain ⟨a5, hI⟩ := hI
   have h := h bn aj bp hI
   refine ⟨a1, a2, a0, a5.celli 4 rfl rfl, ?_⟩
   refine bif_fo (fun ar => ?_) (fun ar => ?_)
   ·have h := h.2 (Int.not_lt.1 (of_decide_eq_false ar))
    refine ⟨a6, a5.celli 1 rfl rfl, ?_⟩
    refine bif_fo (fun bh => ?_) (fun bh => ?_)
    ·have h := h.2 (beq_f bh)
     exact h
    have h := h.1 (beq_t bh)
    refine ⟨a3, a5.celli 2 rfl rfl, ?_⟩
    refine bif_fo (fun bd => ?_) (fun bd => ?_)
    ·have h := h.2 (beq_f bd)
     exact h
    have h := h.1 (beq_t bd)
    refine ⟨a4, a5.celli 3 rfl rfl, ?_⟩
    refine bif_fo (fun aq => ?_) (fun aq => ?_)
    ·have h := h.2 (beq_f aq)
     exact h
    have h := h.1 (beq_t aq)
    refine ⟨a1, a2, a0, a5.celli 4 rfl rfl, ?_⟩
    exact h
   have h := h.1 (of_decide_eq_true ar)
   refine Q01 fun bk bj => ?_
   have al := (Ext.refl no aj).x_drew bj
   have a5 := a5.x_drew bj
   refine ⟨a1, a2, a0, a5.celli 4 rfl rfl, ?_⟩
   obtain ⟨br, af, h⟩ := h
   refine Q06 af ?_
   obtain ⟨ag, ah, h⟩ := h
   refine ⟨ag, ah, ?_⟩
   obtain ⟨ad, b4, h⟩ := h
   refine ⟨ad, (al).cell b4 id, ?_⟩
   refine (Q0c.pure ad).mono fun ee ww46 ⟨he, hxx⟩ => ⟨(Q0c.F ad), he, ?_⟩
   have ab := al.trans hxx
   have a5 := a5.ext hxx id
   refine bif_of (fun bi => ?_) (fun bi => ?_)
   ·have h := h.1 (not_t bi)
    have h := h ww46 ab
    exact h
   have h := h.2 (not_f bi)
   refine ⟨a1, a2, a0, a5.celli 4 rfl rfl, ?_⟩
   refine Q06 af ?_
   obtain ⟨ag, ah, h⟩ := h
   refine ⟨ag, ah, ?_⟩
   obtain ⟨b5, b3, au, av, h⟩ := h
   refine ⟨b5, b3, au, (ab).cell av id, ?_⟩
   refine bif_of (fun bc => ?_) (fun bc => ?_)
   ·have h := h.1 (bne_t bc)
    have h := h ww46 ab
    exact h
   have h := h.2 (bne_f bc)
   refine bif_fo (fun b9 => ?_) (fun b9 => ?_)
   ·have h := h.2 (Int.not_lt.1 (of_decide_eq_false b9))
    obtain ⟨am, an, h⟩ := h
    try rw [w64 am an]
    have h := h ww46 ab
    obtain ⟨bm, hk, h⟩ := h
    exact ⟨bm, hk, a5, h⟩
   have h := h.1 (of_decide_eq_true b9)
   refine ⟨a1, a2, a0, a5.celli 4 rfl rfl, ?_⟩
   obtain ⟨am, an, h⟩ := h
   try rw [w64 am an]
   refine Q06 af ?_
   obtain ⟨ag, ah, h⟩ := h
   refine ⟨ag, ah, ?_⟩
   obtain ⟨ak, b6, h⟩ := h
   refine ⟨ak, (ab).cell b6 id, ?_⟩
   refine ⟨a1, a2, a0, a5.celli 4 rfl rfl, ?_⟩
   refine Q06 af ?_
   obtain ⟨ag, ah, h⟩ := h
   refine ⟨ag, ah, ?_⟩
   obtain ⟨ao, be, h⟩ := h
   refine ⟨ao, (ab).cell be id, ?_⟩
   refine bif_of (fun bf => ?_) (fun bf => ?_)
   ·have h := h.1 (of_decide_eq_true bf)
    have h := h ww46 ab
    exact h
   have h := h.2 (Int.not_le.1 (of_decide_eq_false bf))
   obtain ⟨am, an, h⟩ := h
   try rw [w64 am an]
   have h := h ww46 ab
   obtain ⟨bl, hk, h⟩ := h
   exact ⟨bl, hk, a5, h⟩

theorem Q0u.go (a5 a9 a0 a4 : Int) (a2 : Option Addr) (a3 a1 : Nat) (a6 : Option Addr) (a7 a8 : Nat) {R : RW} {w : World} (h : Q0u.N a5 a9 a0 a4 a2 a3 a1 a6 a7 a8 R w) : Calls Try.prog 54 #[.agg #[.int .i64 a5, .int .i64 a9, .int .u64 a0, .int .i64 a4, .slice a2 a3 a1, .slice a6 a7 a8]] w fun e w' => ∃ v, e = .returned v ∧ R v w' := Q0u.ok a5 a9 a0 a4 a2 a3 a1 a6 a7 a8 (Q0u.up a5 a9 a0 a4 a2 a3 a1 a6 a7 a8 h)
theorem Q0u.run (a5 a9 a0 a4 : Int) (a2 : Option Addr) (a3 a1 : Nat) (a6 : Option Addr) (a7 a8 : Nat) {V : Value} {Q : World → Prop} {w : World} (h : Q0u.N a5 a9 a0 a4 a2 a3 a1 a6 a7 a8 (fun v w' => v = V ∧ Q w') w) : Calls Try.prog 54 #[.agg #[.int .i64 a5, .int .i64 a9, .int .u64 a0, .int .i64 a4, .slice a2 a3 a1, .slice a6 a7 a8]] w (Ret V Q) := (Q0u.go a5 a9 a0 a4 a2 a3 a1 a6 a7 a8 h).mono fun e w' ⟨v, he, hv, hq⟩ => ⟨by rw [he, hv], hq⟩

def Q0M.M (aw : Option Addr) (au az : Nat) (af av : Int) (R : RW) (w : World) : Prop :=
 thenW (w.alloc (.cells #[.slice aw au az, .int .i64 af] 68)) fun ai =>
 thenW (ai.alloc (.cells #[.int .i64 0, .int .u64 0, .int .i64 0, .int .i64 0, .int .i64 0] 111)) fun b1 =>
 ∃ (I0 : Nat → List Value → World → Prop) (m7 : Nat), I0 m7 [.int .i64 0] b1 ∧ ∀ (m8 : Nat) (ae : World) (i6 : Int), I0 m8 [.int .i64 i6] ae →
 ∃ (ax : Option Addr) (an ay : Nat), ae.cell? ((blk w.heap.size).add 0) = some (.slice ax an ay) ∧
 bif decide (i6 < (an : Int)) then (
 ∃ (ak : Option Addr) (al aq : Nat), ae.cell? ((blk w.heap.size).add 0) = some (.slice ak al aq) ∧
 ak.elim False fun b2 =>
 0 ≤ (i6 : Int) ∧ (i6 : Int) < (al : Int) ∧
 ∃ (ag : Int), ae.cell? ((b2.add (Int.toNat i6 * 5)).add 0) = some (.int .i64 ag) ∧
 bif ag == av then (
 ∃ (aj : Option Addr) (am ar : Nat), ae.cell? ((blk w.heap.size).add 0) = some (.slice aj am ar) ∧
 aj.elim False fun b3 =>
 0 ≤ (i6 : Int) ∧ (i6 : Int) < (am : Int) ∧
 ∃ (ad a6 ac ah a9 : Int), cellsAt ae (b3.add (Int.toNat i6 * 5)) [.int .i64 ad, .int .u64 a6, .int .i64 ac, .int .i64 ah, .int .i64 a9] 0 ∧
 putsK ae (blk ai.heap.size) [.int .i64 ad, .int .u64 a6, .int .i64 ac, .int .i64 ah, .int .i64 a9] 0 fun ap =>
 ∃ (a8 a0 a4 aa a3 : Int), cellsAt ap (blk ai.heap.size) [.int .i64 a8, .int .u64 a0, .int .i64 a4, .int .i64 aa, .int .i64 a3] 0 ∧
 R (.tuple #[.agg #[.int .i64 a8, .int .u64 a0, .int .i64 a4, .int .i64 aa, .int .i64 a3], .bool true]) ap) else (
 ∃ b0, b0 < m8 ∧ I0 b0 [.int .i64 (IntKind.i64.wrap (i6 + 1))] ae)) else (
 putsK ae (blk ai.heap.size) [.int .i64 0, .int .u64 0, .int .i64 0, .int .i64 0, .int .i64 0] 0 fun ao =>
 ∃ (a7 a1 a5 ab a2 : Int), cellsAt ao (blk ai.heap.size) [.int .i64 a7, .int .u64 a1, .int .i64 a5, .int .i64 ab, .int .i64 a2] 0 ∧
 R (.tuple #[.agg #[.int .i64 a7, .int .u64 a1, .int .i64 a5, .int .i64 ab, .int .i64 a2], .bool false]) ao)

theorem Q0M.ok (a2 : Option Addr) (a3 a4 : Nat) (a0 a1 : Int) {R : RW} {w : World} (h : Q0M.M a2 a3 a4 a0 a1 R w) : Calls Try.prog 55 #[.agg #[.slice a2 a3 a4, .int .i64 a0], .int .i64 a1] w fun e w' => ∃ v, e = .returned v ∧ R v w' :=
  Q0j follows (H := [(0, [1, 2, 4], [(6, (.one (.int .i64)))])]) (args := [.agg #[.slice a2 a3 a4, .int .i64 a0], .int .i64 a1]) (cast (by kernel_rfl) h)

def Q0M.N (ai : Option Addr) (a9 am : Nat) (ag ab : Int) (R : RW) (w : World) : Prop :=
 ∀ (ah : World) (p7 : Nat), Ext no w ah → Priv w ah [p7] →
 ∃ (I0 : Nat → List Value → World → Prop) (an : Nat), I0 an [.int .i64 0, .int .i64 0, .int .u64 0, .int .i64 0, .int .i64 0, .int .i64 0] ah ∧ ∀ (ak : Nat) (a5 : World) (i8 af a1 a7 ac a4 : Int), I0 ak [.int .i64 i8, .int .i64 af, .int .u64 a1, .int .i64 a7, .int .i64 ac, .int .i64 a4] a5 →
 (i8 < (a9 : Int) →
 ∃ aj : Addr, ai = some aj ∧
 0 ≤ (i8 : Int) ∧ (i8 : Int) < (a9 : Int) ∧
 ∃ (a6 : Int), a5.cell? ((aj.add (Int.toNat i8 * 5)).add 0) = some (.int .i64 a6) ∧
 (a6 = ab →
 0 ≤ (i8 : Int) ∧ (i8 : Int) < (a9 : Int) ∧
 ∃ (a8 a0 a3 aa a2 : Int), cellsAt a5 (aj.add (Int.toNat i8 * 5)) [.int .i64 a8, .int .u64 a0, .int .i64 a3, .int .i64 aa, .int .i64 a2] 0 ∧
 ∀ (ae : World), Ext (fun b => b = p7) a5 ae →
 R (.tuple #[.agg #[.int .i64 a8, .int .u64 a0, .int .i64 a3, .int .i64 aa, .int .i64 a2], .bool true]) ae) ∧
 (a6 ≠ ab →
 (-9223372036854775808 : Int) ≤ (i8 + 1) ∧ (i8 + 1) < 9223372036854775808 ∧
 ∃ al, al < ak ∧ I0 al [.int .i64 (i8 + 1), .int .i64 af, .int .u64 a1, .int .i64 a7, .int .i64 ac, .int .i64 a4] a5)) ∧
 ((a9 : Int) ≤ i8 →
 ∀ (ad : World), Ext (fun b => b = p7) a5 ad →
 R (.tuple #[.agg #[.int .i64 0, .int .u64 0, .int .i64 0, .int .i64 0, .int .i64 0], .bool false]) ad)

theorem Q0M.up (ab : Option Addr) (aa ac : Nat) (a6 aj : Int) {R : RW} {w : World} (h : Q0M.N ab aa ac a6 aj R w) : Q0M.M ab aa ac a6 aj R w := by
  unfold Q0M.M
  unfold Q0M.N at h
  refine Q01 fun ah e4 => ?_
  have ag := Blk.of_new e4
  have bd := ((Ext.refl no w)).size
  have b0 := (Ext.refl no w).x_alloc e4
  refine Q01 fun b2 e5 => ?_
  have a7 := Blk.of_new e5
  have b6 := (b0).size
  have az := Nat.ne_of_lt ag.lt
  have ag := ag.x_alloc e5
  have b1 := b0.x_alloc e5
  have h := h b2 (ah.heap.size) b1 (Priv.cons b6 a7.lt Priv.nil)
  obtain ⟨I0, bc, h0, h⟩ := h
  refine ⟨fun k vs ww => ∃ (af a0 a3 ae a1 : Int), Blk ww w.heap.size 68 [.slice ab aa ac, .int .i64 a6] ∧ Blk ww ah.heap.size 111 [.int .i64 af, .int .u64 a0, .int .i64 a3, .int .i64 ae, .int .i64 a1] ∧ I0 k (vs ++ [.int .i64 af, .int .u64 a0, .int .i64 a3, .int .i64 ae, .int .i64 a1]) ww, bc, ⟨0, 0, 0, 0, 0, ag, a7, h0⟩, fun b7 a9 i8 hI => ?_⟩
  obtain ⟨af, a0, a3, ae, a1, ag, a7, hI⟩ := hI
  have h := h b7 a9 i8 af a0 a3 ae a1 hI
  refine ⟨ab, aa, ac, ag.celli 0 rfl rfl, ?_⟩
  refine bif_fo (fun ap => ?_) (fun ap => ?_)
  ·have h := h.2 (Int.not_lt.1 (of_decide_eq_false ap))
   have an : Ext (fun b => b = ah.heap.size) a9 a9 := ((Ext.refl no a9)).none
   refine Q0o (k := 0) (j := 0) a7 (Nat.le_of_ble_eq_true rfl) fun al b4 bb => ?_
   have aq := an.x_puts b4 (.inl rfl)
   have a7 : Blk al ah.heap.size 111 [.int .i64 0, .int .u64 0, .int .i64 0, .int .i64 0, .int .i64 0] := bb
   refine ⟨0, 0, 0, 0, 0, ⟨a7.celli 0 rfl rfl, a7.celli 1 rfl rfl, a7.celli 2 rfl rfl, a7.celli 3 rfl rfl, a7.celli 4 rfl rfl, trivial⟩, ?_⟩
   have h := h al aq
   exact h
  have h := h.1 (of_decide_eq_true ap)
  refine ⟨ab, aa, ac, ag.celli 0 rfl rfl, ?_⟩
  obtain ⟨be, ak, h⟩ := h
  refine Q06 ak ?_
  obtain ⟨au, av, h⟩ := h
  refine ⟨au, av, ?_⟩
  obtain ⟨ai, ar, h⟩ := h
  refine ⟨ai, ar, ?_⟩
  refine bif_fo (fun ay => ?_) (fun ay => ?_)
  ·have h := h.2 (beq_f ay)
   obtain ⟨b3, b5, h⟩ := h
   try rw [w64 b3 b5]
   obtain ⟨ba, hk, h⟩ := h
   exact ⟨ba, hk, af, a0, a3, ae, a1, ag, a7, h⟩
  have h := h.1 (beq_t ay)
  refine ⟨ab, aa, ac, ag.celli 0 rfl rfl, ?_⟩
  refine Q06 ak ?_
  obtain ⟨au, av, h⟩ := h
  refine ⟨au, av, ?_⟩
  obtain ⟨a8, a2, a5, ad, a4, ax, h⟩ := h
  refine ⟨a8, a2, a5, ad, a4, ax, ?_⟩
  have ao : Ext (fun b => b = ah.heap.size) a9 a9 := ((Ext.refl no a9)).none
  refine Q0o (k := 0) (j := 0) a7 (Nat.le_of_ble_eq_true rfl) fun am b9 b8 => ?_
  have aw := ao.x_puts b9 (.inl rfl)
  have a7 : Blk am ah.heap.size 111 [.int .i64 a8, .int .u64 a2, .int .i64 a5, .int .i64 ad, .int .i64 a4] := b8
  refine ⟨a8, a2, a5, ad, a4, ⟨a7.celli 0 rfl rfl, a7.celli 1 rfl rfl, a7.celli 2 rfl rfl, a7.celli 3 rfl rfl, a7.celli 4 rfl rfl, trivial⟩, ?_⟩
  have h := h am aw
  exact h

theorem Q0M.go (a2 : Option Addr) (a3 a4 : Nat) (a0 a1 : Int) {R : RW} {w : World} (h : Q0M.N a2 a3 a4 a0 a1 R w) : Calls Try.prog 55 #[.agg #[.slice a2 a3 a4, .int .i64 a0], .int .i64 a1] w fun e w' => ∃ v, e = .returned v ∧ R v w' := Q0M.ok a2 a3 a4 a0 a1 (Q0M.up a2 a3 a4 a0 a1 h)
theorem Q0M.run (a2 : Option Addr) (a3 a4 : Nat) (a0 a1 : Int) {V : Value} {Q : World → Prop} {w : World} (h : Q0M.N a2 a3 a4 a0 a1 (fun v w' => v = V ∧ Q w') w) : Calls Try.prog 55 #[.agg #[.slice a2 a3 a4, .int .i64 a0], .int .i64 a1] w (Ret V Q) := (Q0M.go a2 a3 a4 a0 a1 h).mono fun e w' ⟨v, he, hv, hq⟩ => ⟨by rw [he, hv], hq⟩

abbrev Q0R.J1 (ak : Option Addr) (aj an : Nat) (a6 : Int) (I0 : Nat → List Value → World → Prop) (m7 : Nat) (w : World) (R : RW) (a2 : World) : Prop :=
 ∃ (a9 : Option Addr) (ab ai : Nat), a2.cell? ((blk w.heap.size).add 0) = some (.slice a9 ab ai) ∧
 a9.elim False fun ao =>
 0 ≤ (a6 : Int) ∧ (a6 : Int) < (ab : Int) ∧
 ∃ (ad : Int), a2.cell? ((ao.add (Int.toNat a6 * 5)).add 3) = some (.int .i64 ad) ∧
 bif ad == (-1) then (
 ∃ (a8 : Option Addr) (ae ah : Nat), a2.cell? ((blk w.heap.size).add 0) = some (.slice a8 ae ah) ∧
 a8.elim False fun ap =>
 0 ≤ (a6 : Int) ∧ (a6 : Int) < (ae : Int) ∧
 ∃ (a4 a0 a3 a5 a1 : Int), cellsAt a2 (ap.add (Int.toNat a6 * 5)) [.int .i64 a4, .int .u64 a0, .int .i64 a3, .int .i64 a5, .int .i64 a1] 0 ∧
 thenW (a2.alloc (.cells #[.int .i64 a4, .int .u64 a0, .int .i64 a3, .int .i64 a5, .int .i64 a1] 111)) fun ag =>
 ∃ (aa : Option Addr) (ac a7 : Nat) (af : World), (Builtin.append_ #[66, 66] 66 #[.slice ak aj an, .slice (some (blk a2.heap.size)) 1 1]).run Try.prog ag = .ok (.slice aa ac a7) af ∧
 ∃ am, am < m7 ∧ I0 am [.slice aa ac a7, .int .i64 (IntKind.i64.wrap (a6 + 1))] af) else (
 ∃ al, al < m7 ∧ I0 al [.slice ak aj an, .int .i64 (IntKind.i64.wrap (a6 + 1))] a2)

def Q0R.M (a5 : Option Addr) (a6 a7 : Nat) (a3 : Int) (R : RW) (w : World) : Prop :=
 thenW (w.alloc (.cells #[.slice a5 a6 a7, .int .i64 a3] 68)) fun ab =>
 ∃ (I0 : Nat → List Value → World → Prop) (m6 : Nat), I0 m6 [.slice none 0 0, .int .i64 0] ab ∧ ∀ (m7 : Nat) (a4 : World) (a1 : Option Addr) (a2 a0 : Nat) (i5 : Int), I0 m7 [.slice a1 a2 a0, .int .i64 i5] a4 →
 ∃ (aa : Option Addr) (a8 a9 : Nat), a4.cell? ((blk w.heap.size).add 0) = some (.slice aa a8 a9) ∧
 bif decide (i5 < (a8 : Int)) then (
 Q0R.J1 a1 a2 a0 i5 I0 m7 w R a4) else (
 R (.slice a1 a2 a0) a4)

theorem Q0R.ok (a1 : Option Addr) (a3 a2 : Nat) (a0 : Int) {R : RW} {w : World} (h : Q0R.M a1 a3 a2 a0 R w) : Calls Try.prog 45 #[.agg #[.slice a1 a3 a2, .int .i64 a0]] w fun e w' => ∃ v, e = .returned v ∧ R v w' :=
  Q0j follows (H := [(0, [1], [(3, (.one .slice)), (4, (.one (.int .i64)))])]) (args := [.agg #[.slice a1 a3 a2, .int .i64 a0]]) (cast (by kernel_rfl) h)

def Q0R.N (aj : Option Addr) (a8 an : Nat) (ag : Int) (R : RW) (w : World) : Prop :=
 ∀ (ai : World) (p4 : Nat), Ext no w ai → Priv w ai [p4] →
 ∃ (I0 : Nat → List Value → World → Prop) (m7 : Nat), I0 m7 [.slice none 0 0, .int .i64 0] ai ∧ ∀ (m8 : Nat) (aa : World) (a1 : Option Addr) (a3 a2 : Nat) (i6 : Int), I0 m8 [.slice a1 a3 a2, .int .i64 i6] aa →
 (i6 < (a8 : Int) →
 ∃ ak : Addr, aj = some ak ∧
 0 ≤ (i6 : Int) ∧ (i6 : Int) < (a8 : Int) ∧
 ∃ (ac : Int), aa.cell? ((ak.add (Int.toNat i6 * 5)).add 3) = some (.int .i64 ac) ∧
 (ac = (-1) →
 0 ≤ (i6 : Int) ∧ (i6 : Int) < (a8 : Int) ∧
 ∃ (a6 a0 a5 a9 a4 : Int), cellsAt aa (ak.add (Int.toNat i6 * 5)) [.int .i64 a6, .int .u64 a0, .int .i64 a5, .int .i64 a9, .int .i64 a4] 0 ∧
 ∀ (a7 : World) (ah : Nat), Ext no aa a7 → Blk a7 ah 111 [.int .i64 a6, .int .u64 a0, .int .i64 a5, .int .i64 a9, .int .i64 a4] → aa.heap.size ≤ ah → ah < a7.heap.size →
 ∃ (ad : Option Addr) (ae af : Nat) (ab : World), (Builtin.append_ #[66, 66] 66 #[.slice a1 a3 a2, .slice (some (blk ah)) 1 1]).run Try.prog a7 = .ok (.slice ad ae af) ab ∧
 Keep [p4] a7 ab ∧
 (-9223372036854775808 : Int) ≤ (i6 + 1) ∧ (i6 + 1) < 9223372036854775808 ∧
 ∃ al, al < m8 ∧ I0 al [.slice ad ae af, .int .i64 (i6 + 1)] ab) ∧
 (ac ≠ (-1) →
 (-9223372036854775808 : Int) ≤ (i6 + 1) ∧ (i6 + 1) < 9223372036854775808 ∧
 ∃ am, am < m8 ∧ I0 am [.slice a1 a3 a2, .int .i64 (i6 + 1)] aa)) ∧
 ((a8 : Int) ≤ i6 →
 R (.slice a1 a3 a2) aa)

theorem Q0R.up (a2 : Option Addr) (a1 a4 : Nat) (a0 : Int) {R : RW} {w : World} (h : Q0R.N a2 a1 a4 a0 R w) : Q0R.M a2 a1 a4 a0 R w := by
  unfold Q0R.M
  unfold Q0R.N at h
  refine Q01 fun ax e3 => ?_
  have a5 := Blk.of_new e3
  have az := ((Ext.refl no w)).size
  have b0 := (Ext.refl no w).x_alloc e3
  have h := h ax (w.heap.size) b0 (Priv.cons az a5.lt Priv.nil)
  obtain ⟨I0, m7, h0, h⟩ := h
  refine ⟨fun k vs ww => Blk ww w.heap.size 68 [.slice a2 a1 a4, .int .i64 a0] ∧ I0 k vs ww, m7, ⟨a5, h0⟩, fun m8 ae a9 ab aa i6 hI => ?_⟩
  obtain ⟨a5, hI⟩ := hI
  have h := h m8 ae a9 ab aa i6 hI
  refine ⟨a2, a1, a4, a5.celli 0 rfl rfl, ?_⟩
  refine bif_fo (fun ar => ?_) (fun ar => ?_)
  ·have h := h.2 (Int.not_lt.1 (of_decide_eq_false ar))
   exact h
  have h := h.1 (of_decide_eq_true ar)
  unfold Q0R.J1
  refine ⟨a2, a1, a4, a5.celli 0 rfl rfl, ?_⟩
  obtain ⟨b1, ac, h⟩ := h
  refine Q06 ac ?_
  obtain ⟨al, ao, h⟩ := h
  refine ⟨al, ao, ?_⟩
  obtain ⟨aq, aj, h⟩ := h
  refine ⟨aq, aj, ?_⟩
  refine bif_fo (fun au => ?_) (fun au => ?_)
  ·have h := h.2 (beq_f au)
   obtain ⟨am, an, h⟩ := h
   try rw [w64 am an]
   obtain ⟨ay, hk, h⟩ := h
   exact ⟨ay, hk, a5, h⟩
  have h := h.1 (beq_t au)
  refine ⟨a2, a1, a4, a5.celli 0 rfl rfl, ?_⟩
  refine Q06 ac ?_
  obtain ⟨al, ao, h⟩ := h
  refine ⟨al, ao, ?_⟩
  obtain ⟨a8, a3, a7, ad, a6, ah, h⟩ := h
  refine ⟨a8, a3, a7, ad, a6, ah, ?_⟩
  refine Q01 fun av af => ?_
  have a5 := a5.x_alloc af
  have h := h av ae.heap.size ((Ext.refl no ae).x_alloc af) (Blk.of_new af) ((Ext.refl no ae)).size (Q0v af)
  obtain ⟨ag, ai, ak, ap, hr, hk, h⟩ := h
  refine ⟨ag, ai, ak, ap, hr, ?_⟩
  have a5 := hk.blk a5 (by simp)
  obtain ⟨am, an, h⟩ := h
  try rw [w64 am an]
  obtain ⟨aw, hk, h⟩ := h
  exact ⟨aw, hk, a5, h⟩

theorem Q0R.go (a1 : Option Addr) (a3 a2 : Nat) (a0 : Int) {R : RW} {w : World} (h : Q0R.N a1 a3 a2 a0 R w) : Calls Try.prog 45 #[.agg #[.slice a1 a3 a2, .int .i64 a0]] w fun e w' => ∃ v, e = .returned v ∧ R v w' := Q0R.ok a1 a3 a2 a0 (Q0R.up a1 a3 a2 a0 h)
abbrev Q0f.J1 (a2 : Int) (I0 : Nat → List Value → World → Prop) (ax : Nat) (w ae ay : World) (R : RW) (ar : World) : Prop :=
 thenW (ar.drew) fun a3 =>
 ∃ (ak : Option Addr) (am ap : Nat), a3.cell? ((blk w.heap.size).add 0) = some (.slice ak am ap) ∧
 ak.elim False fun av =>
 0 ≤ (a2 : Int) ∧ (a2 : Int) < (am : Int) ∧
 ∃ (ac : Int), a3.cell? ((av.add (Int.toNat a2 * 5)).add 0) = some (.int .i64 ac) ∧
 ∃ (a9 : Int), a3.cell? ((blk ay.heap.size).add 0) = some (.int .i64 a9) ∧
 bif ac != a9 then (
 thenW (a3.drew) fun a5 =>
 ∃ (ad : Option Addr) (ab a7 : Nat), a5.cell? ((blk ae.heap.size).add 0) = some (.slice ad ab a7) ∧
 ∃ (ag : Option Addr) (al aq : Nat), a5.cell? ((blk w.heap.size).add 0) = some (.slice ag al aq) ∧
 ag.elim False fun aw =>
 0 ≤ (a2 : Int) ∧ (a2 : Int) < (al : Int) ∧
 ∃ (a6 a0 a4 aa a1 : Int), cellsAt a5 (aw.add (Int.toNat a2 * 5)) [.int .i64 a6, .int .u64 a0, .int .i64 a4, .int .i64 aa, .int .i64 a1] 0 ∧
 thenW (a5.alloc (.cells #[.int .i64 a6, .int .u64 a0, .int .i64 a4, .int .i64 aa, .int .i64 a1] 111)) fun ai =>
 ai.cell? ((blk ae.heap.size).add 0) = some (.slice ad ab a7) ∧
 ∃ (ah : Option Addr) (aj af : Nat) (a8 : World), (Builtin.append_ #[66, 66] 66 #[.slice ad ab a7, .slice (some (blk a5.heap.size)) 1 1]).run Try.prog ai = .ok (.slice ah aj af) a8 ∧
 Q0d a8 (((blk ae.heap.size).add 0).add 0) ∧
 thenW (a8.setCell (((blk ae.heap.size).add 0).add 0) (.slice ah aj af)) fun an =>
 ∃ au, au < ax ∧ I0 au [.bool true, .int .i64 (IntKind.i64.wrap (a2 + 1))] an) else (
 ∃ ao, ao < ax ∧ I0 ao [.bool true, .int .i64 (IntKind.i64.wrap (a2 + 1))] a3)

abbrev Q0f.J2 (ap : Bool) (a5 : Int) (I0 : Nat → List Value → World → Prop) (ay : Nat) (w ae az : World) (R : RW) (au : World) : Prop :=
 thenW (au.drew) fun a4 =>
 ∃ (ag : Option Addr) (af av : Nat), a4.cell? ((blk w.heap.size).add 0) = some (.slice ag af av) ∧
 ag.elim False fun aw =>
 0 ≤ (a5 : Int) ∧ (a5 : Int) < (af : Int) ∧
 ∃ (a9 : Int), a4.cell? ((aw.add (Int.toNat a5 * 5)).add 0) = some (.int .i64 a9) ∧
 ∃ (aa : Int), a4.cell? ((blk az.heap.size).add 0) = some (.int .i64 aa) ∧
 bif a9 != aa then (
 thenW (a4.drew) fun a3 =>
 ∃ (ad : Option Addr) (a7 a8 : Nat), a3.cell? ((blk ae.heap.size).add 0) = some (.slice ad a7 a8) ∧
 ∃ (al : Option Addr) (aj ao : Nat), a3.cell? ((blk w.heap.size).add 0) = some (.slice al aj ao) ∧
 al.elim False fun ax =>
 0 ≤ (a5 : Int) ∧ (a5 : Int) < (aj : Int) ∧
 ∃ (a6 a0 a2 ac a1 : Int), cellsAt a3 (ax.add (Int.toNat a5 * 5)) [.int .i64 a6, .int .u64 a0, .int .i64 a2, .int .i64 ac, .int .i64 a1] 0 ∧
 thenW (a3.alloc (.cells #[.int .i64 a6, .int .u64 a0, .int .i64 a2, .int .i64 ac, .int .i64 a1] 111)) fun ak =>
 ak.cell? ((blk ae.heap.size).add 0) = some (.slice ad a7 a8) ∧
 ∃ (ah : Option Addr) (ai am : Nat) (ab : World), (Builtin.append_ #[66, 66] 66 #[.slice ad a7 a8, .slice (some (blk a3.heap.size)) 1 1]).run Try.prog ak = .ok (.slice ah ai am) ab ∧
 Q0d ab (((blk ae.heap.size).add 0).add 0) ∧
 thenW (ab.setCell (((blk ae.heap.size).add 0).add 0) (.slice ah ai am)) fun ar =>
 ∃ aq, aq < ay ∧ I0 aq [.bool ap, .int .i64 (IntKind.i64.wrap (a5 + 1))] ar) else (
 ∃ an, an < ay ∧ I0 an [.bool ap, .int .i64 (IntKind.i64.wrap (a5 + 1))] a4)

abbrev Q0f.J3 (ak aj : Bool) (ah : Int) (I0 : Nat → List Value → World → Prop) (ai : Nat) (w a3 af : World) (R : RW) (a4 : World) : Prop :=
 bif ak then (
 ∃ (ad : Option Addr) (aa ac : Nat), a4.cell? ((blk a3.heap.size).add 0) = some (.slice ad aa ac) ∧
 ∃ (a5 a0 a2 a6 a1 : Int), cellsAt a4 (blk af.heap.size) [.int .i64 a5, .int .u64 a0, .int .i64 a2, .int .i64 a6, .int .i64 a1] 0 ∧
 thenW (a4.alloc (.cells #[.int .i64 a5, .int .u64 a0, .int .i64 a2, .int .i64 a6, .int .i64 a1] 111)) fun ae =>
 ∃ (ab : Option Addr) (a8 a9 : Nat) (a7 : World), (Builtin.append_ #[66, 66] 66 #[.slice ad aa ac, .slice (some (blk a4.heap.size)) 1 1]).run Try.prog ae = .ok (.slice ab a8 a9) a7 ∧
 Q0d a7 (((blk a3.heap.size).add 0).add 0) ∧
 thenW (a7.setCell (((blk a3.heap.size).add 0).add 0) (.slice ab a8 a9)) fun ag =>
 Q0f.J1 ah I0 ai w a3 af R ag) else (
 Q0f.J2 aj ah I0 ai w a3 af R a4)

abbrev Q0f.J4 (a3 : Bool) (a1 : Int) (I0 : Nat → List Value → World → Prop) (a4 : Nat) (w a2 a5 : World) (R : RW) (a0 : World) : Prop :=
 Q0f.J2 a3 a1 I0 a4 w a2 a5 R a0

abbrev Q0f.J5 (a8 : Bool) (a3 : Int) (I0 : Nat → List Value → World → Prop) (ab : Nat) (w a5 aa : World) (R : RW) (a9 : World) : Prop :=
 thenW (a9.drew) fun a0 =>
 bif !a8 then (
 ∃ (a4 : Option Addr) (a6 a7 : Nat), a0.cell? ((blk w.heap.size).add 0) = some (.slice a4 a6 a7) ∧
 a4.elim False fun ac =>
 0 ≤ (a3 : Int) ∧ (a3 : Int) < (a6 : Int) ∧
 ∃ (a1 : Int), a0.cell? ((ac.add (Int.toNat a3 * 5)).add 0) = some (.int .i64 a1) ∧
 ∃ (a2 : Int), a0.cell? ((blk aa.heap.size).add 0) = some (.int .i64 a2) ∧
 Q0f.J3 (decide (a1 ≥ a2)) a8 a3 I0 ab w a5 aa R a0) else (
 Q0f.J4 a8 a3 I0 ab w a5 aa R a0)

def Q0f.M (be : Option Addr) (bb bh : Nat) (au b8 ai b4 ba ar : Int) (R : RW) (w : World) : Prop :=
 thenW (w.alloc (.cells #[.slice be bb bh, .int .i64 au] 68)) fun bf =>
 thenW (bf.alloc (.cells #[.int .i64 b8, .int .u64 ai, .int .i64 b4, .int .i64 ba, .int .i64 ar] 111)) fun b5 =>
 thenW (b5.alloc (.cells #[.slice none 0 0, .int .i64 0] 68)) fun a6 =>
 ∃ (ag : Int), a6.cell? ((blk w.heap.size).add 1) = some (.int .i64 ag) ∧
 thenW (a6.alloc (.cells #[.slice none 0 0, .int .i64 0] 68)) fun bc =>
 putsK bc (blk a6.heap.size) [.slice none 0 0, .int .i64 ag] 0 fun b9 =>
 ∃ (I0 : Nat → List Value → World → Prop) (bk : Nat), I0 bk [.bool false, .int .i64 0] b9 ∧ ∀ (bj : Nat) (a7 : World) (al : Bool) (bd : Int), I0 bj [.bool al, .int .i64 bd] a7 →
 ∃ (bg : Option Addr) (b7 bi : Nat), a7.cell? ((blk w.heap.size).add 0) = some (.slice bg b7 bi) ∧
 bif decide (bd < (b7 : Int)) then (
 Q0f.J5 al bd I0 bj w a6 bf R a7) else (
 bif !al then (
 ∃ (b3 : Option Addr) (b1 av : Nat), a7.cell? ((blk a6.heap.size).add 0) = some (.slice b3 b1 av) ∧
 ∃ (af a2 aa am a5 : Int), cellsAt a7 (blk bf.heap.size) [.int .i64 af, .int .u64 a2, .int .i64 aa, .int .i64 am, .int .i64 a5] 0 ∧
 thenW (a7.alloc (.cells #[.int .i64 af, .int .u64 a2, .int .i64 aa, .int .i64 am, .int .i64 a5] 111)) fun b6 =>
 ∃ (ax : Option Addr) (az b0 : Nat) (aj : World), (Builtin.append_ #[66, 66] 66 #[.slice b3 b1 av, .slice (some (blk a7.heap.size)) 1 1]).run Try.prog b6 = .ok (.slice ax az b0) aj ∧
 Q0d aj (((blk a6.heap.size).add 0).add 0) ∧
 thenW (aj.setCell (((blk a6.heap.size).add 0).add 0) (.slice ax az b0)) fun b2 =>
 ∃ (ao : Option Addr) (aq ah : Nat) (a3 : Int), cellsAt b2 (blk a6.heap.size) [.slice ao aq ah, .int .i64 a3] 0 ∧
 putsK b2 (blk b5.heap.size) [.slice ao aq ah, .int .i64 a3] 0 fun ay =>
 ∃ (ac : Option Addr) (a8 ad : Nat) (a0 : Int), cellsAt ay (blk b5.heap.size) [.slice ac a8 ad, .int .i64 a0] 0 ∧
 R (.agg #[.slice ac a8 ad, .int .i64 a0]) ay) else (
 ∃ (ak : Option Addr) (ap an : Nat) (a4 : Int), cellsAt a7 (blk a6.heap.size) [.slice ak ap an, .int .i64 a4] 0 ∧
 putsK a7 (blk b5.heap.size) [.slice ak ap an, .int .i64 a4] 0 fun aw =>
 ∃ (ab : Option Addr) (ae a9 : Nat) (a1 : Int), cellsAt aw (blk b5.heap.size) [.slice ab ae a9, .int .i64 a1] 0 ∧
 R (.agg #[.slice ab ae a9, .int .i64 a1]) aw))

theorem Q0f.ok (a5 : Option Addr) (a7 a8 : Nat) (a2 a4 a0 a3 a6 a1 : Int) {R : RW} {w : World} (h : Q0f.M a5 a7 a8 a2 a4 a0 a3 a6 a1 R w) : Calls Try.prog 56 #[.agg #[.slice a5 a7 a8, .int .i64 a2], .agg #[.int .i64 a4, .int .u64 a0, .int .i64 a3, .int .i64 a6, .int .i64 a1]] w fun e w' => ∃ v, e = .returned v ∧ R v w' :=
  Q0j follows (H := [(0, [2, 3, 4, 5], [(6, (.one .bool)), (7, (.one (.int .i64)))])]) (args := [.agg #[.slice a5 a7 a8, .int .i64 a2], .agg #[.int .i64 a4, .int .u64 a0, .int .i64 a3, .int .i64 a6, .int .i64 a1]]) (cast (by kernel_rfl) h)

def Q0f.N (c0 : Option Addr) (a9 cm : Nat) (b5 a4 ac az bm al : Int) (R : RW) (w : World) : Prop :=
 ∀ (bf : World) (c1 c6 b9 ax : Nat), Ext no w bf → Priv w bf [c1, c6, b9, ax] →
 ∃ (I0 : Nat → List Value → World → Prop) (cl : Nat), I0 cl [.bool false, .int .i64 0, .slice none 0 0, .int .i64 0, .slice none 0 0, .int .i64 b5] bf ∧ ∀ (bk : Nat) (a3 : World) (a5 : Bool) (a1 : Int) (ai : Option Addr) (ah aj : Nat) (a2 : Int) (af : Option Addr) (ae aa : Nat) (a0 : Int), I0 bk [.bool a5, .int .i64 a1, .slice ai ah aj, .int .i64 a2, .slice af ae aa, .int .i64 a0] a3 →
 (a1 < (a9 : Int) →
 (a5 = false →
 ∃ bl : Addr, c0 = some bl ∧
 0 ≤ (a1 : Int) ∧ (a1 : Int) < (a9 : Int) ∧
 ∃ (aq : Int), a3.cell? ((bl.add (Int.toNat a1 * 5)).add 0) = some (.int .i64 aq) ∧
 (aq ≥ a4 →
 ∀ (b1 : World) (cd : Nat), Ext no a3 b1 → Blk b1 cd 111 [.int .i64 a4, .int .u64 ac, .int .i64 az, .int .i64 bm, .int .i64 al] → a3.heap.size ≤ cd → cd < b1.heap.size →
 ∃ (bg : Option Addr) (bd bj : Nat) (bi : World), (Builtin.append_ #[66, 66] 66 #[.slice af ae aa, .slice (some (blk cd)) 1 1]).run Try.prog b1 = .ok (.slice bg bd bj) bi ∧
 Keep [c1, c6, b9, ax] b1 bi ∧
 0 ≤ (a1 : Int) ∧ (a1 : Int) < (a9 : Int) ∧
 ∀ (ao : World), Ext (fun b => b = ax) bi ao →
 ∃ (b4 : Int), ao.cell? ((bl.add (Int.toNat a1 * 5)).add 0) = some (.int .i64 b4) ∧
 (b4 ≠ a4 →
 0 ≤ (a1 : Int) ∧ (a1 : Int) < (a9 : Int) ∧
 ∃ (b0 a7 ak b7 ag : Int), cellsAt ao (bl.add (Int.toNat a1 * 5)) [.int .i64 b0, .int .u64 a7, .int .i64 ak, .int .i64 b7, .int .i64 ag] 0 ∧
 ∀ (ap : World) (cc : Nat), Ext no ao ap → Blk ap cc 111 [.int .i64 b0, .int .u64 a7, .int .i64 ak, .int .i64 b7, .int .i64 ag] → ao.heap.size ≤ cc → cc < ap.heap.size →
 ∃ (c3 : Option Addr) (br bs : Nat) (bh : World), (Builtin.append_ #[66, 66] 66 #[.slice bg bd bj, .slice (some (blk cc)) 1 1]).run Try.prog ap = .ok (.slice c3 br bs) bh ∧
 Keep [c1, c6, b9, ax] ap bh ∧
 (-9223372036854775808 : Int) ≤ (a1 + 1) ∧ (a1 + 1) < 9223372036854775808 ∧
 ∀ (bn : World), Ext (fun b => b = ax) bh bn →
 ∃ cg, cg < bk ∧ I0 cg [.bool true, .int .i64 (a1 + 1), .slice ai ah aj, .int .i64 a2, .slice c3 br bs, .int .i64 a0] bn) ∧
 (b4 = a4 →
 (-9223372036854775808 : Int) ≤ (a1 + 1) ∧ (a1 + 1) < 9223372036854775808 ∧
 ∃ ci, ci < bk ∧ I0 ci [.bool true, .int .i64 (a1 + 1), .slice ai ah aj, .int .i64 a2, .slice bg bd bj, .int .i64 a0] ao)) ∧
 (aq < a4 →
 0 ≤ (a1 : Int) ∧ (a1 : Int) < (a9 : Int) ∧
 ∃ (ar : Int), a3.cell? ((bl.add (Int.toNat a1 * 5)).add 0) = some (.int .i64 ar) ∧
 (ar ≠ a4 →
 0 ≤ (a1 : Int) ∧ (a1 : Int) < (a9 : Int) ∧
 ∃ (aw a8 an b8 ad : Int), cellsAt a3 (bl.add (Int.toNat a1 * 5)) [.int .i64 aw, .int .u64 a8, .int .i64 an, .int .i64 b8, .int .i64 ad] 0 ∧
 ∀ (av : World) (ca : Nat), Ext no a3 av → Blk av ca 111 [.int .i64 aw, .int .u64 a8, .int .i64 an, .int .i64 b8, .int .i64 ad] → a3.heap.size ≤ ca → ca < av.heap.size →
 ∃ (c5 : Option Addr) (c4 bu : Nat) (bc : World), (Builtin.append_ #[66, 66] 66 #[.slice af ae aa, .slice (some (blk ca)) 1 1]).run Try.prog av = .ok (.slice c5 c4 bu) bc ∧
 Keep [c1, c6, b9, ax] av bc ∧
 (-9223372036854775808 : Int) ≤ (a1 + 1) ∧ (a1 + 1) < 9223372036854775808 ∧
 ∀ (bo : World), Ext (fun b => b = ax) bc bo →
 ∃ cf, cf < bk ∧ I0 cf [.bool a5, .int .i64 (a1 + 1), .slice ai ah aj, .int .i64 a2, .slice c5 c4 bu, .int .i64 a0] bo) ∧
 (ar = a4 →
 (-9223372036854775808 : Int) ≤ (a1 + 1) ∧ (a1 + 1) < 9223372036854775808 ∧
 ∀ (bx : World), Ext no a3 bx →
 ∃ cj, cj < bk ∧ I0 cj [.bool a5, .int .i64 (a1 + 1), .slice ai ah aj, .int .i64 a2, .slice af ae aa, .int .i64 a0] bx))) ∧
 (a5 = true →
 ∃ ce : Addr, c0 = some ce ∧
 0 ≤ (a1 : Int) ∧ (a1 : Int) < (a9 : Int) ∧
 ∃ (b3 : Int), a3.cell? ((ce.add (Int.toNat a1 * 5)).add 0) = some (.int .i64 b3) ∧
 (b3 ≠ a4 →
 0 ≤ (a1 : Int) ∧ (a1 : Int) < (a9 : Int) ∧
 ∃ (au a6 am ba ab : Int), cellsAt a3 (ce.add (Int.toNat a1 * 5)) [.int .i64 au, .int .u64 a6, .int .i64 am, .int .i64 ba, .int .i64 ab] 0 ∧
 ∀ (ay : World) (c9 : Nat), Ext no a3 ay → Blk ay c9 111 [.int .i64 au, .int .u64 a6, .int .i64 am, .int .i64 ba, .int .i64 ab] → a3.heap.size ≤ c9 → c9 < ay.heap.size →
 ∃ (c2 : Option Addr) (bw bp : Nat) (be : World), (Builtin.append_ #[66, 66] 66 #[.slice af ae aa, .slice (some (blk c9)) 1 1]).run Try.prog ay = .ok (.slice c2 bw bp) be ∧
 Keep [c1, c6, b9, ax] ay be ∧
 (-9223372036854775808 : Int) ≤ (a1 + 1) ∧ (a1 + 1) < 9223372036854775808 ∧
 ∀ (bv : World), Ext (fun b => b = ax) be bv →
 ∃ ch, ch < bk ∧ I0 ch [.bool a5, .int .i64 (a1 + 1), .slice ai ah aj, .int .i64 a2, .slice c2 bw bp, .int .i64 a0] bv) ∧
 (b3 = a4 →
 (-9223372036854775808 : Int) ≤ (a1 + 1) ∧ (a1 + 1) < 9223372036854775808 ∧
 ∀ (c8 : World), Ext no a3 c8 →
 ∃ ck, ck < bk ∧ I0 ck [.bool a5, .int .i64 (a1 + 1), .slice ai ah aj, .int .i64 a2, .slice af ae aa, .int .i64 a0] c8))) ∧
 ((a9 : Int) ≤ a1 →
 (a5 = false →
 ∀ (b2 : World) (cb : Nat), Ext no a3 b2 → Blk b2 cb 111 [.int .i64 a4, .int .u64 ac, .int .i64 az, .int .i64 bm, .int .i64 al] → a3.heap.size ≤ cb → cb < b2.heap.size →
 ∃ (bz : Option Addr) (bq c7 : Nat) (bb : World), (Builtin.append_ #[66, 66] 66 #[.slice af ae aa, .slice (some (blk cb)) 1 1]).run Try.prog b2 = .ok (.slice bz bq c7) bb ∧
 Keep [b9, ax] b2 bb ∧
 ∀ (bt : World), Ext (fun b => b = b9 ∨ b = ax) bb bt →
 R (.agg #[.slice bz bq c7, .int .i64 a0]) bt) ∧
 (a5 = true →
 ∀ (b6 : World), Ext (fun b => b = b9) a3 b6 →
 R (.agg #[.slice af ae aa, .int .i64 a0]) b6))

theorem Q0f.up (af : Option Addr) (ae ah : Nat) (a8 a9 a7 ag aw aa : Int) {R : RW} {w : World} (h : Q0f.N af ae ah a8 a9 a7 ag aw aa R w) : Q0f.M af ae ah a8 a9 a7 ag aw aa R w := by
  unfold Q0f.M
  unfold Q0f.N at h
  refine Q01 fun eg e8 => ?_
  have a3 := Blk.of_new e8
  have ex := ((Ext.refl no w)).size
  have ef := (Ext.refl no w).x_alloc e8
  refine Q01 fun bv e9 => ?_
  have a2 := Blk.of_new e9
  have er := (ef).size
  have ei := Nat.ne_of_lt a3.lt
  have a3 := a3.x_alloc e9
  have ej := ef.x_alloc e9
  refine Q01 fun a5 cz => ?_
  have a4 := Blk.of_new cz
  have em := (ej).size
  have ee := Nat.ne_of_lt a3.lt
  have a3 := a3.x_alloc cz
  have ek := Nat.ne_of_lt a2.lt
  have a2 := a2.x_alloc cz
  have ct := ej.x_alloc cz
  refine ⟨a8, a3.celli 1 rfl rfl, ?_⟩
  refine Q01 fun f1 bw => ?_
  have a1 := Blk.of_new bw
  have eh := (ct).size
  have am := Nat.ne_of_lt a3.lt
  have a3 := a3.x_alloc bw
  have an := Nat.ne_of_lt a2.lt
  have a2 := a2.x_alloc bw
  have al := Nat.ne_of_lt a4.lt
  have a4 := a4.x_alloc bw
  have dp := ct.x_alloc bw
  refine Q0o (k := 0) (j := 0) a1 (Nat.le_of_ble_eq_true rfl) fun cc cy ez => ?_
  have dt := dp.x_puts cy (.inr eh)
  have a3 := a3.x_puts cy am
  have a2 := a2.x_puts cy an
  have a4 := a4.x_puts cy al
  have a1 : Blk cc a5.heap.size 68 [.slice none 0 0, .int .i64 a8] := ez
  have h := h cc (w.heap.size) (eg.heap.size) (bv.heap.size) (a5.heap.size) dt (Priv.cons ex a3.lt (Priv.cons er a2.lt (Priv.cons em a4.lt (Priv.cons eh a1.lt Priv.nil))))
  obtain ⟨I0, eo, h0, h⟩ := h
  refine ⟨fun k vs ww => ∃ (aj : Option Addr) (ai ak : Nat) (a6 : Int) (ad : Option Addr) (ac ab : Nat) (a0 : Int), Blk ww w.heap.size 68 [.slice af ae ah, .int .i64 a8] ∧ Blk ww eg.heap.size 111 [.int .i64 a9, .int .u64 a7, .int .i64 ag, .int .i64 aw, .int .i64 aa] ∧ Blk ww bv.heap.size 68 [.slice aj ai ak, .int .i64 a6] ∧ Blk ww a5.heap.size 68 [.slice ad ac ab, .int .i64 a0] ∧ I0 k (vs ++ [.slice aj ai ak, .int .i64 a6, .slice ad ac ab, .int .i64 a0]) ww, eo, ⟨none, 0, 0, 0, none, 0, 0, a8, a3, a2, a4, a1, h0⟩, fun f0 ao cp ey hI => ?_⟩
  obtain ⟨aj, ai, ak, a6, ad, ac, ab, a0, a3, a2, a4, a1, hI⟩ := hI
  have h := h f0 ao cp ey aj ai ak a6 ad ac ab a0 hI
  refine ⟨af, ae, ah, a3.celli 0 rfl rfl, ?_⟩
  refine bif_fo (fun dc => ?_) (fun dc => ?_)
  ·have h := h.2 (Int.not_lt.1 (of_decide_eq_false dc))
   refine bif_fo (fun eb => ?_) (fun eb => ?_)
   ·have h := h.2 (not_f eb)
    refine ⟨ad, ac, ab, a0, ⟨a1.celli 0 rfl rfl, a1.celli 1 rfl rfl, trivial⟩, ?_⟩
    have co : Ext (fun b => b = bv.heap.size) ao ao := ((Ext.refl no ao)).none
    refine Q0o (k := 0) (j := 0) a4 (Nat.le_of_ble_eq_true rfl) fun bf dn d1 => ?_
    have cf := co.x_puts dn (.inl rfl)
    have a4 : Blk bf bv.heap.size 68 [.slice ad ac ab, .int .i64 a0] := d1
    refine ⟨ad, ac, ab, a0, ⟨a4.celli 0 rfl rfl, a4.celli 1 rfl rfl, trivial⟩, ?_⟩
    have h := h bf cf
    exact h
   have h := h.1 (not_t eb)
   refine ⟨ad, ac, ab, a1.celli 0 rfl rfl, ?_⟩
   refine ⟨a9, a7, ag, aw, aa, ⟨a2.celli 0 rfl rfl, a2.celli 1 rfl rfl, a2.celli 2 rfl rfl, a2.celli 3 rfl rfl, a2.celli 4 rfl rfl, trivial⟩, ?_⟩
   refine Q01 fun e0 ch => ?_
   have a4 := a4.x_alloc ch
   have a1 := a1.x_alloc ch
   have h := h e0 ao.heap.size ((Ext.refl no ao).x_alloc ch) (Blk.of_new ch) ((Ext.refl no ao)).size (Q0v ch)
   obtain ⟨b9, b6, bd, az, hr, hk, h⟩ := h
   refine ⟨b9, b6, bd, az, hr, ?_⟩
   have a4 := hk.blk a4 (by simp)
   have a1 := hk.blk a1 (by simp)
   have dm : Ext (fun b => b = a5.heap.size) az az := ((Ext.refl no az)).none
   refine ⟨a1.cani 0 rfl rfl, Q01 fun dv dz => ?_⟩
   have dr := dm.x_set (q := a5.heap.size) (i := 0) rfl (.inl rfl) dz
   have a4 := a4.oth (q := a5.heap.size) (i := 0) rfl al dz
   have a1 := a1.seti 0 rfl dz
   refine ⟨b9, b6, bd, a0, ⟨a1.celli 0 rfl rfl, a1.celli 1 rfl rfl, trivial⟩, ?_⟩
   have dl : Ext (fun b => b = bv.heap.size ∨ b = a5.heap.size) az dv := (dr).mono fun _ h _ => .inr h
   refine Q0o (k := 0) (j := 0) a4 (Nat.le_of_ble_eq_true rfl) fun c7 ev el => ?_
   have dj := dl.x_puts ev (.inl (.inl rfl))
   have a4 : Blk c7 bv.heap.size 68 [.slice b9 b6 bd, .int .i64 a0] := el
   refine ⟨b9, b6, bd, a0, ⟨a4.celli 0 rfl rfl, a4.celli 1 rfl rfl, trivial⟩, ?_⟩
   have h := h c7 dj
   exact h
  have h := h.1 (of_decide_eq_true dc)
  unfold Q0f.J5
  refine Q01 fun e5 ca => ?_
  have b3 := (Ext.refl no ao).x_drew ca
  have a3 := a3.x_drew ca
  have a2 := a2.x_drew ca
  have a4 := a4.x_drew ca
  have a1 := a1.x_drew ca
  refine bif_fo (fun d7 => ?_) (fun d7 => ?_)
  ·have h := h.2 (not_f d7)
   first | unfold Q0f.J3 | unfold Q0f.J4
   first | unfold Q0f.J1 | unfold Q0f.J2
   refine Q01 fun ec cl => ?_
   have bg := b3.x_drew cl
   have a3 := a3.x_drew cl
   have a2 := a2.x_drew cl
   have a4 := a4.x_drew cl
   have a1 := a1.x_drew cl
   refine ⟨af, ae, ah, a3.celli 0 rfl rfl, ?_⟩
   obtain ⟨f2, cs, h⟩ := h
   refine Q06 cs ?_
   obtain ⟨au, ar, h⟩ := h
   refine ⟨au, ar, ?_⟩
   obtain ⟨cq, dd, h⟩ := h
   refine ⟨cq, (bg).cell dd id, ?_⟩
   refine ⟨a9, a2.celli 0 rfl rfl, ?_⟩
   refine bif_fo (fun dw => ?_) (fun dw => ?_)
   ·have h := h.2 (bne_f dw)
    obtain ⟨b2, ax, h⟩ := h
    try rw [w64 b2 ax]
    have h := h ec bg
    obtain ⟨ew, hk, h⟩ := h
    exact ⟨ew, hk, aj, ai, ak, a6, ad, ac, ab, a0, a3, a2, a4, a1, h⟩
   have h := h.1 (bne_t dw)
   refine Q01 fun d5 cd => ?_
   have bi := bg.x_drew cd
   have a3 := a3.x_drew cd
   have a2 := a2.x_drew cd
   have a4 := a4.x_drew cd
   have a1 := a1.x_drew cd
   refine ⟨ad, ac, ab, a1.celli 0 rfl rfl, ?_⟩
   refine ⟨af, ae, ah, a3.celli 0 rfl rfl, ?_⟩
   refine Q06 cs ?_
   obtain ⟨au, ar, h⟩ := h
   refine ⟨au, ar, ?_⟩
   obtain ⟨bk, ap, bb, cm, ay, e6, h⟩ := h
   refine ⟨bk, ap, bb, cm, ay, Q1R (bi) e6, ?_⟩
   refine Q01 fun ds bp => ?_
   have a3 := a3.x_alloc bp
   have a2 := a2.x_alloc bp
   have a4 := a4.x_alloc bp
   have a1 := a1.x_alloc bp
   have h := h ds d5.heap.size (bi.x_alloc bp) (Blk.of_new bp) (bi).size (Q0v bp)
   refine ⟨a1.celli 0 rfl rfl, ?_⟩
   obtain ⟨ce, c9, c3, b7, hr, hk, h⟩ := h
   refine ⟨ce, c9, c3, b7, hr, ?_⟩
   have a3 := hk.blk a3 (by simp)
   have a2 := hk.blk a2 (by simp)
   have a4 := hk.blk a4 (by simp)
   have a1 := hk.blk a1 (by simp)
   have e4 : Ext (fun b => b = a5.heap.size) b7 b7 := ((Ext.refl no b7)).none
   refine ⟨a1.cani 0 rfl rfl, Q01 fun dq cv => ?_⟩
   have d8 := e4.x_set (q := a5.heap.size) (i := 0) rfl (.inl rfl) cv
   have a3 := a3.oth (q := a5.heap.size) (i := 0) rfl am cv
   have a2 := a2.oth (q := a5.heap.size) (i := 0) rfl an cv
   have a4 := a4.oth (q := a5.heap.size) (i := 0) rfl al cv
   have a1 := a1.seti 0 rfl cv
   obtain ⟨b2, ax, h⟩ := h
   try rw [w64 b2 ax]
   have h := h dq d8
   obtain ⟨es, hk, h⟩ := h
   exact ⟨es, hk, aj, ai, ak, a6, ce, c9, c3, a0, a3, a2, a4, a1, h⟩
  have h := h.1 (not_t d7)
  refine ⟨af, ae, ah, a3.celli 0 rfl rfl, ?_⟩
  obtain ⟨f3, b1, h⟩ := h
  refine Q06 b1 ?_
  obtain ⟨au, ar, h⟩ := h
  refine ⟨au, ar, ?_⟩
  obtain ⟨bx, e7, h⟩ := h
  refine ⟨bx, (b3).cell e7 id, ?_⟩
  refine ⟨a9, a2.celli 0 rfl rfl, ?_⟩
  first | unfold Q0f.J3 | unfold Q0f.J4
  refine bif_fo (fun d6 => ?_) (fun d6 => ?_)
  ·have h := h.2 (Int.not_le.1 (of_decide_eq_false d6))
   first | unfold Q0f.J1 | unfold Q0f.J2
   refine Q01 fun du cx => ?_
   have bu := b3.x_drew cx
   have a3 := a3.x_drew cx
   have a2 := a2.x_drew cx
   have a4 := a4.x_drew cx
   have a1 := a1.x_drew cx
   refine ⟨af, ae, ah, a3.celli 0 rfl rfl, ?_⟩
   refine Q06 b1 ?_
   obtain ⟨au, ar, h⟩ := h
   refine ⟨au, ar, ?_⟩
   obtain ⟨bz, ed, h⟩ := h
   refine ⟨bz, (bu).cell ed id, ?_⟩
   refine ⟨a9, a2.celli 0 rfl rfl, ?_⟩
   refine bif_fo (fun df => ?_) (fun df => ?_)
   ·have h := h.2 (bne_f df)
    obtain ⟨b2, ax, h⟩ := h
    try rw [w64 b2 ax]
    have h := h du bu
    obtain ⟨eu, hk, h⟩ := h
    exact ⟨eu, hk, aj, ai, ak, a6, ad, ac, ab, a0, a3, a2, a4, a1, h⟩
   have h := h.1 (bne_t df)
   refine Q01 fun db c0 => ?_
   have bo := bu.x_drew c0
   have a3 := a3.x_drew c0
   have a2 := a2.x_drew c0
   have a4 := a4.x_drew c0
   have a1 := a1.x_drew c0
   refine ⟨ad, ac, ab, a1.celli 0 rfl rfl, ?_⟩
   refine ⟨af, ae, ah, a3.celli 0 rfl rfl, ?_⟩
   refine Q06 b1 ?_
   obtain ⟨au, ar, h⟩ := h
   refine ⟨au, ar, ?_⟩
   obtain ⟨bl, av, be, ck, b0, dx, h⟩ := h
   refine ⟨bl, av, be, ck, b0, Q1R (bo) dx, ?_⟩
   refine Q01 fun de bn => ?_
   have a3 := a3.x_alloc bn
   have a2 := a2.x_alloc bn
   have a4 := a4.x_alloc bn
   have a1 := a1.x_alloc bn
   have h := h de db.heap.size (bo.x_alloc bn) (Blk.of_new bn) (bo).size (Q0v bn)
   refine ⟨a1.celli 0 rfl rfl, ?_⟩
   obtain ⟨cn, ci, c8, b5, hr, hk, h⟩ := h
   refine ⟨cn, ci, c8, b5, hr, ?_⟩
   have a3 := hk.blk a3 (by simp)
   have a2 := hk.blk a2 (by simp)
   have a4 := hk.blk a4 (by simp)
   have a1 := hk.blk a1 (by simp)
   have e3 : Ext (fun b => b = a5.heap.size) b5 b5 := ((Ext.refl no b5)).none
   refine ⟨a1.cani 0 rfl rfl, Q01 fun dh c6 => ?_⟩
   have d2 := e3.x_set (q := a5.heap.size) (i := 0) rfl (.inl rfl) c6
   have a3 := a3.oth (q := a5.heap.size) (i := 0) rfl am c6
   have a2 := a2.oth (q := a5.heap.size) (i := 0) rfl an c6
   have a4 := a4.oth (q := a5.heap.size) (i := 0) rfl al c6
   have a1 := a1.seti 0 rfl c6
   obtain ⟨b2, ax, h⟩ := h
   try rw [w64 b2 ax]
   have h := h dh d2
   obtain ⟨en, hk, h⟩ := h
   exact ⟨en, hk, aj, ai, ak, a6, cn, ci, c8, a0, a3, a2, a4, a1, h⟩
  have h := h.1 (of_decide_eq_true d6)
  refine ⟨ad, ac, ab, a1.celli 0 rfl rfl, ?_⟩
  refine ⟨a9, a7, ag, aw, aa, ⟨a2.celli 0 rfl rfl, a2.celli 1 rfl rfl, a2.celli 2 rfl rfl, a2.celli 3 rfl rfl, a2.celli 4 rfl rfl, trivial⟩, ?_⟩
  refine Q01 fun dy bh => ?_
  have a3 := a3.x_alloc bh
  have a2 := a2.x_alloc bh
  have a4 := a4.x_alloc bh
  have a1 := a1.x_alloc bh
  have h := h dy e5.heap.size (b3.x_alloc bh) (Blk.of_new bh) (b3).size (Q0v bh)
  obtain ⟨br, bm, bt, bc, hr, hk, h⟩ := h
  refine ⟨br, bm, bt, bc, hr, ?_⟩
  have a3 := hk.blk a3 (by simp)
  have a2 := hk.blk a2 (by simp)
  have a4 := hk.blk a4 (by simp)
  have a1 := hk.blk a1 (by simp)
  have dg : Ext (fun b => b = a5.heap.size) bc bc := ((Ext.refl no bc)).none
  refine ⟨a1.cani 0 rfl rfl, Q01 fun ep c2 => ?_⟩
  have da := dg.x_set (q := a5.heap.size) (i := 0) rfl (.inl rfl) c2
  have a3 := a3.oth (q := a5.heap.size) (i := 0) rfl am c2
  have a2 := a2.oth (q := a5.heap.size) (i := 0) rfl an c2
  have a4 := a4.oth (q := a5.heap.size) (i := 0) rfl al c2
  have a1 := a1.seti 0 rfl c2
  first | unfold Q0f.J1 | unfold Q0f.J2
  refine Q01 fun cu c1 => ?_
  have dk := da.x_drew c1
  have a3 := a3.x_drew c1
  have a2 := a2.x_drew c1
  have a4 := a4.x_drew c1
  have a1 := a1.x_drew c1
  refine ⟨af, ae, ah, a3.celli 0 rfl rfl, ?_⟩
  refine Q06 b1 ?_
  obtain ⟨au, ar, h⟩ := h
  refine ⟨au, ar, ?_⟩
  have h := h cu dk
  obtain ⟨cw, ea, h⟩ := h
  refine ⟨cw, ea, ?_⟩
  refine ⟨a9, a2.celli 0 rfl rfl, ?_⟩
  refine bif_fo (fun d0 => ?_) (fun d0 => ?_)
  ·have h := h.2 (bne_f d0)
   obtain ⟨b2, ax, h⟩ := h
   try rw [w64 b2 ax]
   obtain ⟨et, hk, h⟩ := h
   exact ⟨et, hk, aj, ai, ak, a6, br, bm, bt, a0, a3, a2, a4, a1, h⟩
  have h := h.1 (bne_t d0)
  refine Q01 fun di cj => ?_
  have bs := (Ext.refl no cu).x_drew cj
  have a3 := a3.x_drew cj
  have a2 := a2.x_drew cj
  have a4 := a4.x_drew cj
  have a1 := a1.x_drew cj
  refine ⟨br, bm, bt, a1.celli 0 rfl rfl, ?_⟩
  refine ⟨af, ae, ah, a3.celli 0 rfl rfl, ?_⟩
  refine Q06 b1 ?_
  obtain ⟨au, ar, h⟩ := h
  refine ⟨au, ar, ?_⟩
  obtain ⟨bq, aq, b8, cb, b4, e1, h⟩ := h
  refine ⟨bq, aq, b8, cb, b4, Q1R (bs) e1, ?_⟩
  refine Q01 fun d3 bj => ?_
  have a3 := a3.x_alloc bj
  have a2 := a2.x_alloc bj
  have a4 := a4.x_alloc bj
  have a1 := a1.x_alloc bj
  have h := h d3 di.heap.size (bs.x_alloc bj) (Blk.of_new bj) (bs).size (Q0v bj)
  refine ⟨a1.celli 0 rfl rfl, ?_⟩
  obtain ⟨cg, c4, c5, ba, hr, hk, h⟩ := h
  refine ⟨cg, c4, c5, ba, hr, ?_⟩
  have a3 := hk.blk a3 (by simp)
  have a2 := hk.blk a2 (by simp)
  have a4 := hk.blk a4 (by simp)
  have a1 := hk.blk a1 (by simp)
  have d4 : Ext (fun b => b = a5.heap.size) ba ba := ((Ext.refl no ba)).none
  refine ⟨a1.cani 0 rfl rfl, Q01 fun d9 cr => ?_⟩
  have e2 := d4.x_set (q := a5.heap.size) (i := 0) rfl (.inl rfl) cr
  have a3 := a3.oth (q := a5.heap.size) (i := 0) rfl am cr
  have a2 := a2.oth (q := a5.heap.size) (i := 0) rfl an cr
  have a4 := a4.oth (q := a5.heap.size) (i := 0) rfl al cr
  have a1 := a1.seti 0 rfl cr
  obtain ⟨b2, ax, h⟩ := h
  try rw [w64 b2 ax]
  have h := h d9 e2
  obtain ⟨eq, hk, h⟩ := h
  exact ⟨eq, hk, aj, ai, ak, a6, cg, c4, c5, a0, a3, a2, a4, a1, h⟩

theorem Q0f.go (a5 : Option Addr) (a7 a8 : Nat) (a2 a4 a0 a3 a6 a1 : Int) {R : RW} {w : World} (h : Q0f.N a5 a7 a8 a2 a4 a0 a3 a6 a1 R w) : Calls Try.prog 56 #[.agg #[.slice a5 a7 a8, .int .i64 a2], .agg #[.int .i64 a4, .int .u64 a0, .int .i64 a3, .int .i64 a6, .int .i64 a1]] w fun e w' => ∃ v, e = .returned v ∧ R v w' := Q0f.ok a5 a7 a8 a2 a4 a0 a3 a6 a1 (Q0f.up a5 a7 a8 a2 a4 a0 a3 a6 a1 h)
abbrev Q09.J1 (ai ak aj : Addr) (R : RW) (a7 : World) : Prop :=
 ∃ (aa : Option Addr) (ac ab : Nat) (a2 : Int), cellsAt a7 aj [.slice aa ac ab, .int .i64 a2] 0 ∧
 ∃ (a9 : Int), a7.cell? (ak.add 1) = some (.int .i64 a9) ∧
 ∃ (a1 : Int), a7.cell? (ak.add 2) = some (.int .u64 a1) ∧
 ∃ (a8 : Int), a7.cell? (aj.add 1) = some (.int .i64 a8) ∧
 Calls Try.prog 56 #[.agg #[.slice aa ac ab, .int .i64 a2], .agg #[.int .i64 a9, .int .u64 a1, .int .i64 (IntKind.i64.wrap (a8 + 1)), .int .i64 (-1), .int .i64 0]] a7 fun ah al => ∃ (ae : Option Addr) (ag af : Nat) (a5 : Int), ah = .returned (.agg #[.slice ae ag af, .int .i64 a5]) ∧
 putsK al ai [.slice ae ag af, .int .i64 a5] 0 fun ad =>
 ∃ (a4 : Option Addr) (a3 a6 : Nat) (a0 : Int), cellsAt ad ai [.slice a4 a3 a6, .int .i64 a0] 0 ∧
 R (.tuple #[.agg #[.slice a4 a3 a6, .int .i64 a0], .int .i64 0]) ad

abbrev Q09.J2 (al ao ap aq : Addr) (R : RW) (ae : World) : Prop :=
 ∃ (a4 : Int), ae.cell? (ap.add 3) = some (.int .i64 a4) ∧
 Q0d ae ((al.add 4).add 0) ∧
 thenW (ae.setCell ((al.add 4).add 0) (.int .i64 a4)) fun af =>
 ∃ (ad : Option Addr) (ab ac : Nat) (a3 : Int), cellsAt af aq [.slice ad ab ac, .int .i64 a3] 0 ∧
 ∃ (aa a1 a9 ag a2 : Int), cellsAt af al [.int .i64 aa, .int .u64 a1, .int .i64 a9, .int .i64 ag, .int .i64 a2] 0 ∧
 Calls Try.prog 56 #[.agg #[.slice ad ab ac, .int .i64 a3], .agg #[.int .i64 aa, .int .u64 a1, .int .i64 a9, .int .i64 ag, .int .i64 a2]] af fun an am => ∃ (ai : Option Addr) (ah ak : Nat) (a7 : Int), an = .returned (.agg #[.slice ai ah ak, .int .i64 a7]) ∧
 putsK am ao [.slice ai ah ak, .int .i64 a7] 0 fun aj =>
 ∃ (a8 : Option Addr) (a6 a5 : Nat) (a0 : Int), cellsAt aj ao [.slice a8 a6 a5, .int .i64 a0] 0 ∧
 R (.tuple #[.agg #[.slice a8 a6 a5, .int .i64 a0], .int .i64 0]) aj

abbrev Q09.J3 (a1 a8 a6 a5 : Addr) (R : RW) (a3 : World) : Prop :=
 ∃ (a0 : Int), a3.cell? (a5.add 1) = some (.int .i64 a0) ∧
 Q0d a3 ((a1.add 3).add 0) ∧
 thenW (a3.setCell ((a1.add 3).add 0) (.int .i64 a0)) fun a2 =>
 ∃ (a4 : Int), a2.cell? (a1.add 3) = some (.int .i64 a4) ∧
 bif decide (a4 < 0) then (
 Q0d a2 ((a1.add 3).add 0) ∧
 thenW (a2.setCell ((a1.add 3).add 0) (.int .i64 (-2))) fun a7 =>
 Q09.J2 a1 a8 a6 a5 R a7) else (
 Q09.J2 a1 a8 a6 a5 R a2)

abbrev Q09.J4 (a8 a7 a9 aa : Addr) (R : RW) (a4 : World) : Prop :=
 ∃ (a5 : Int), a4.cell? (a8.add 3) = some (.int .i64 a5) ∧
 bif a5 != (-1) then (
 putsK a4 a7 [.slice none 0 0, .int .i64 0] 0 fun a6 =>
 ∃ (a1 : Option Addr) (a3 a2 : Nat) (a0 : Int), cellsAt a6 a7 [.slice a1 a3 a2, .int .i64 a0] 0 ∧
 R (.tuple #[.agg #[.slice a1 a3 a2, .int .i64 a0], .int .i64 10]) a6) else (
 Q09.J3 a8 a7 a9 aa R a4)

abbrev Q09.J5 (au : Option Addr) (ap : Nat) (ah ax aq : Addr) (R : RW) (ao : World) : Prop :=
 ∃ (I1 : Nat → List Value → World → Prop) (aw : Nat), I1 aw [.int .i64 0] ao ∧ ∀ (an : Nat) (aa : World) (a4 : Int), I1 an [.int .i64 a4] aa →
 bif decide (a4 < (ap : Int)) then (
 thenW (aa.drew) fun a8 =>
 au.elim False fun ay =>
 0 ≤ (a4 : Int) ∧ (a4 : Int) < (ap : Int) ∧
 ∃ (ag : Int), a8.cell? ((ay.add (Int.toNat a4 * 5)).add 0) = some (.int .i64 ag) ∧
 ∃ (a3 : Option Addr) (a2 ae : Nat), a8.cell? (ax.add 4) = some (.slice a3 a2 ae) ∧
 a3.elim False fun av =>
 0 ≤ (a4 : Int) ∧ (a4 : Int) < (a2 : Int) ∧
 ∃ (af : Int), a8.cell? ((av.add (Int.toNat a4 * 2)).add 0) = some (.int .i64 af) ∧
 bif ag != af then (
 putsK a8 ah [.slice none 0 0, .int .i64 0] 0 fun ak =>
 ∃ (ab : Option Addr) (ac a7 : Nat) (a1 : Int), cellsAt ak ah [.slice ab ac a7, .int .i64 a1] 0 ∧
 R (.tuple #[.agg #[.slice ab ac a7, .int .i64 a1], .int .i64 10]) ak) else (
 ∃ ar, ar < an ∧ I1 ar [.int .i64 (IntKind.i64.wrap (a4 + 1))] a8)) else (
 ∃ (al : Option Addr) (aj am : Nat), aa.cell? (aq.add 0) = some (.slice al aj am) ∧
 ∃ (a5 : Int), aa.cell? (aq.add 1) = some (.int .i64 a5) ∧
 putsK aa ah [.slice al aj am, .int .i64 (IntKind.i64.wrap (a5 + 1))] 0 fun ai =>
 ∃ (a6 : Option Addr) (a9 ad : Nat) (a0 : Int), cellsAt ai ah [.slice a6 a9 ad, .int .i64 a0] 0 ∧
 R (.tuple #[.agg #[.slice a6 a9 ad, .int .i64 a0], .int .i64 0]) ai)

abbrev Q09.J6 (ak au ar : Addr) (R : RW) (aq : World) : Prop :=
 ∃ (aj : Option Addr) (ai ah : Nat) (a2 : Int), cellsAt aq ar [.slice aj ai ah, .int .i64 a2] 0 ∧
 Calls Try.prog 45 #[.agg #[.slice aj ai ah, .int .i64 a2]] aq fun av a3 => ∃ (ae : Option Addr) (a5 an : Nat), av = .returned (.slice ae a5 an) ∧
 ∃ (ag : Option Addr) (a4 af : Nat), a3.cell? (au.add 4) = some (.slice ag a4 af) ∧
 bif (a5 : Int) != (a4 : Int) then (
 putsK a3 ak [.slice none 0 0, .int .i64 0] 0 fun ao =>
 ∃ (ab : Option Addr) (a8 a7 : Nat) (a1 : Int), cellsAt ao ak [.slice ab a8 a7, .int .i64 a1] 0 ∧
 R (.tuple #[.agg #[.slice ab a8 a7, .int .i64 a1], .int .i64 10]) ao) else (
 ∃ (al : Option Addr) (ad am : Nat), a3.cell? (au.add 5) = some (.slice al ad am) ∧
 ∃ (a9 : Int), a3.cell? (ar.add 1) = some (.int .i64 a9) ∧
 bif !(((ad : Int) == 0) == (a9 == (-1))) then (
 putsK a3 ak [.slice none 0 0, .int .i64 0] 0 fun ap =>
 ∃ (ac : Option Addr) (a6 aa : Nat) (a0 : Int), cellsAt ap ak [.slice ac a6 aa, .int .i64 a0] 0 ∧
 R (.tuple #[.agg #[.slice ac a6 aa, .int .i64 a0], .int .i64 10]) ap) else (
 Q09.J5 ae a5 ak au ar R a3))

abbrev Q09.J7 (a7 a9 a8 : Addr) (R : RW) (a5 : World) : Prop :=
 ∃ (a3 : Int), a5.cell? (a8.add 1) = some (.int .i64 a3) ∧
 bif decide (a3 ≥ 19) then (
 putsK a5 a7 [.slice none 0 0, .int .i64 0] 0 fun a6 =>
 ∃ (a1 : Option Addr) (a4 a2 : Nat) (a0 : Int), cellsAt a6 a7 [.slice a1 a4 a2, .int .i64 a0] 0 ∧
 R (.tuple #[.agg #[.slice a1 a4 a2, .int .i64 a0], .int .i64 2]) a6) else (
 Q09.J6 a7 a9 a8 R a5)

abbrev Q09.J8 (am ap ar : Addr) (R : RW) (al : World) : Prop :=
 ∃ (ag : Option Addr) (af ak : Nat) (a5 : Int), cellsAt al ar [.slice ag af ak, .int .i64 a5] 0 ∧
 ∃ (aj : Int), al.cell? (ap.add 1) = some (.int .i64 aj) ∧
 Calls Try.prog 55 #[.agg #[.slice ag af ak, .int .i64 a5], .int .i64 aj] al fun au an => ∃ (ai a2 ae ao ac : Int) (a7 : Bool), au = .returned (.tuple #[.agg #[.int .i64 ai, .int .u64 a2, .int .i64 ae, .int .i64 ao, .int .i64 ac], .bool a7]) ∧
 thenW (an.alloc (.cells #[.int .i64 0, .int .u64 0, .int .i64 0, .int .i64 0, .int .i64 0] 111)) fun av =>
 putsK av (blk an.heap.size) [.int .i64 ai, .int .u64 a2, .int .i64 ae, .int .i64 ao, .int .i64 ac] 0 fun ad =>
 ∃ (a8 : Int), ad.cell? (ap.add 0) = some (.int .i64 a8) ∧
 bif a8 == 1 then (
 bif a7 then (
 putsK ad am [.slice none 0 0, .int .i64 0] 0 fun aq =>
 ∃ (a9 : Option Addr) (ab aa : Nat) (a1 : Int), cellsAt aq am [.slice a9 ab aa, .int .i64 a1] 0 ∧
 R (.tuple #[.agg #[.slice a9 ab aa, .int .i64 a1], .int .i64 13]) aq) else (
 Q09.J1 am ap ar R ad)) else (
 bif a8 == 2 then (
 bif !a7 then (
 putsK ad am [.slice none 0 0, .int .i64 0] 0 fun ah =>
 ∃ (a3 : Option Addr) (a6 a4 : Nat) (a0 : Int), cellsAt ah am [.slice a3 a6 a4, .int .i64 a0] 0 ∧
 R (.tuple #[.agg #[.slice a3 a6 a4, .int .i64 a0], .int .i64 20]) ah) else (
 Q09.J4 (blk an.heap.size) am ap ar R ad)) else (
 Q09.J7 am ap ar R ad))

def Q09.M (az : Option Addr) (ax b0 : Nat) (ak ao ar ae al : Int) (ag : Option Addr) (ah af : Nat) (am : Option Addr) (an ap : Nat) (R : RW) (w : World) : Prop :=
 thenW (w.alloc (.cells #[.slice az ax b0, .int .i64 ak] 68)) fun ay =>
 thenW (ay.alloc (.cells #[.int .i64 ao, .int .i64 ar, .int .u64 ae, .int .i64 al, .slice ag ah af, .slice am an ap] 77)) fun aj =>
 thenW (aj.alloc (.cells #[.slice none 0 0, .int .i64 0] 68)) fun av =>
 ∃ (a7 ai a4 a5 : Int) (a2 : Option Addr) (a1 a3 : Nat) (a8 : Option Addr) (a6 ab : Nat), cellsAt av (blk ay.heap.size) [.int .i64 a7, .int .i64 ai, .int .u64 a4, .int .i64 a5, .slice a2 a1 a3, .slice a8 a6 ab] 0 ∧
 Calls Try.prog 54 #[.agg #[.int .i64 a7, .int .i64 ai, .int .u64 a4, .int .i64 a5, .slice a2 a1 a3, .slice a8 a6 ab]] av fun aw aq => ∃ (ac : Bool), aw = .returned (.bool ac) ∧
 bif !ac then (
 putsK aq (blk aj.heap.size) [.slice none 0 0, .int .i64 0] 0 fun au =>
 ∃ (ad : Option Addr) (a9 aa : Nat) (a0 : Int), cellsAt au (blk aj.heap.size) [.slice ad a9 aa, .int .i64 a0] 0 ∧
 R (.tuple #[.agg #[.slice ad a9 aa, .int .i64 a0], .int .i64 1]) au) else (
 Q09.J8 (blk aj.heap.size) (blk ay.heap.size) (blk w.heap.size) R aq)

theorem Q09.ok (ab : Option Addr) (ac ad : Nat) (a5 a9 aa a0 a4 : Int) (a3 : Option Addr) (a1 a2 : Nat) (a7 : Option Addr) (a8 a6 : Nat) {R : RW} {w : World} (h : Q09.M ab ac ad a5 a9 aa a0 a4 a3 a1 a2 a7 a8 a6 R w) : Calls Try.prog 24 #[.agg #[.slice ab ac ad, .int .i64 a5], .agg #[.int .i64 a9, .int .i64 aa, .int .u64 a0, .int .i64 a4, .slice a3 a1 a2, .slice a7 a8 a6]] w fun e w' => ∃ v, e = .returned v ∧ R v w' :=
  Q0j follows (H := [(1, [2, 3, 4, 8], [(9, (.one (.int .i64)))])]) (args := [.agg #[.slice ab ac ad, .int .i64 a5], .agg #[.int .i64 a9, .int .i64 aa, .int .u64 a0, .int .i64 a4, .slice a3 a1 a2, .slice a7 a8 a6]]) (cast (by kernel_rfl) h)

def Q09.N (al : Option Addr) (aj am : Nat) (a0 a4 aq ab a7 : Int) (aa : Option Addr) (a1 ap : Nat) (b1 : Option Addr) (ae b5 : Nat) (R : RW) (w : World) : Prop :=
 ∀ (az : World) (c0 bz a9 : Nat), Ext no w az → Priv w az [c0, bz, a9] →
 Calls Try.prog 54 #[.agg #[.int .i64 a4, .int .i64 aq, .int .u64 ab, .int .i64 a7, .slice aa a1 ap, .slice b1 ae b5]] az fun c4 ax => ∃ (a6 : Bool), c4 = .returned (.bool a6) ∧
 Keep [c0, bz, a9] az ax ∧
 (a6 = false →
 ∀ (bp : World), Ext (fun b => b = a9) ax bp →
 R (.tuple #[.agg #[.slice none 0 0, .int .i64 0], .int .i64 1]) bp) ∧
 (a6 = true →
 Calls Try.prog 55 #[.agg #[.slice al aj am, .int .i64 a0], .int .i64 aq] ax fun c2 a8 => ∃ (ar a5 ad b3 ay : Int) (a3 : Bool), c2 = .returned (.tuple #[.agg #[.int .i64 ar, .int .u64 a5, .int .i64 ad, .int .i64 b3, .int .i64 ay], .bool a3]) ∧
 Keep [c0, bz, a9] ax a8 ∧
 (a4 = 1 →
 (a3 = true →
 ∀ (bs : World), Ext (fun b => b = a9) a8 bs →
 R (.tuple #[.agg #[.slice none 0 0, .int .i64 0], .int .i64 13]) bs) ∧
 (a3 = false →
 (-9223372036854775808 : Int) ≤ (a0 + 1) ∧ (a0 + 1) < 9223372036854775808 ∧
 ∀ (ac : World), Ext no a8 ac →
 Calls Try.prog 56 #[.agg #[.slice al aj am, .int .i64 a0], .agg #[.int .i64 aq, .int .u64 ab, .int .i64 (a0 + 1), .int .i64 (-1), .int .i64 0]] ac fun c6 bu => ∃ (bi : Option Addr) (bt bb : Nat) (ag : Int), c6 = .returned (.agg #[.slice bi bt bb, .int .i64 ag]) ∧
 Keep [a9] ac bu ∧
 ∀ (bh : World), Ext (fun b => b = a9) bu bh →
 R (.tuple #[.agg #[.slice bi bt bb, .int .i64 ag], .int .i64 0]) bh)) ∧
 (a4 ≠ 1 →
 (a4 = 2 →
 (a3 = false →
 ∀ (bd : World), Ext (fun b => b = a9) a8 bd →
 R (.tuple #[.agg #[.slice none 0 0, .int .i64 0], .int .i64 20]) bd) ∧
 (a3 = true →
 (b3 ≠ (-1) →
 ∀ (bx : World), Ext (fun b => b = a9) a8 bx →
 R (.tuple #[.agg #[.slice none 0 0, .int .i64 0], .int .i64 10]) bx) ∧
 (b3 = (-1) →
 (a0 < 0 →
 ∀ (b2 : World), Ext no a8 b2 →
 Calls Try.prog 56 #[.agg #[.slice al aj am, .int .i64 a0], .agg #[.int .i64 ar, .int .u64 a5, .int .i64 ad, .int .i64 (-2), .int .i64 a7]] b2 fun c3 ba => ∃ (br : Option Addr) (bk bf : Nat) (ai : Int), c3 = .returned (.agg #[.slice br bk bf, .int .i64 ai]) ∧
 Keep [a9] b2 ba ∧
 ∀ (bj : World), Ext (fun b => b = a9) ba bj →
 R (.tuple #[.agg #[.slice br bk bf, .int .i64 ai], .int .i64 0]) bj) ∧
 ((0 : Int) ≤ a0 →
 ∀ (b4 : World), Ext no a8 b4 →
 Calls Try.prog 56 #[.agg #[.slice al aj am, .int .i64 a0], .agg #[.int .i64 ar, .int .u64 a5, .int .i64 ad, .int .i64 a0, .int .i64 a7]] b4 fun c1 bm => ∃ (bc : Option Addr) (bl bn : Nat) (af : Int), c1 = .returned (.agg #[.slice bc bl bn, .int .i64 af]) ∧
 Keep [a9] b4 bm ∧
 ∀ (b6 : World), Ext (fun b => b = a9) bm b6 →
 R (.tuple #[.agg #[.slice bc bl bn, .int .i64 af], .int .i64 0]) b6)))) ∧
 (a4 ≠ 2 →
 (a0 ≥ 19 →
 ∀ (be : World), Ext (fun b => b = a9) a8 be →
 R (.tuple #[.agg #[.slice none 0 0, .int .i64 0], .int .i64 2]) be) ∧
 (a0 < 19 →
 ∀ (ac : World), Ext no a8 ac →
 Calls Try.prog 45 #[.agg #[.slice al aj am, .int .i64 a0]] ac fun c5 aw => ∃ (au : Option Addr) (a2 b0 : Nat), c5 = .returned (.slice au a2 b0) ∧
 Keep [c0, bz, a9] ac aw ∧
 ((a2 : Int) ≠ (a1 : Int) →
 ∀ (b8 : World), Ext (fun b => b = a9) aw b8 →
 R (.tuple #[.agg #[.slice none 0 0, .int .i64 0], .int .i64 10]) b8) ∧
 ((a2 : Int) = (a1 : Int) →
 (((ae : Int) == 0) ≠ (a0 == (-1)) →
 ∀ (bv : World), Ext (fun b => b = a9) aw bv →
 R (.tuple #[.agg #[.slice none 0 0, .int .i64 0], .int .i64 10]) bv) ∧
 (((ae : Int) == 0) = (a0 == (-1)) →
 ∃ (I1 : Nat → List Value → World → Prop) (cb : Nat), I1 cb [.int .i64 0, .slice none 0 0, .int .i64 0] aw ∧ ∀ (c7 : Nat) (ak : World) (an : Int) (bo : Option Addr) (b9 b7 : Nat) (ah : Int), I1 c7 [.int .i64 an, .slice bo b9 b7, .int .i64 ah] ak →
 (an < (a2 : Int) →
 ∃ c8 : Addr, au = some c8 ∧
 0 ≤ (an : Int) ∧ (an : Int) < (a2 : Int) ∧
 ∃ (ao : Int), ak.cell? ((c8.add (Int.toNat an * 5)).add 0) = some (.int .i64 ao) ∧
 ∃ ca : Addr, aa = some ca ∧
 0 ≤ (an : Int) ∧ (an : Int) < (a1 : Int) ∧
 ∃ (av : Int), ak.cell? ((ca.add (Int.toNat an * 2)).add 0) = some (.int .i64 av) ∧
 (ao ≠ av →
 ∀ (bg : World), Ext (fun b => b = a9) ak bg →
 R (.tuple #[.agg #[.slice none 0 0, .int .i64 0], .int .i64 10]) bg) ∧
 (ao = av →
 (-9223372036854775808 : Int) ≤ (an + 1) ∧ (an + 1) < 9223372036854775808 ∧
 ∀ (bw : World), Ext no ak bw →
 ∃ c9, c9 < c7 ∧ I1 c9 [.int .i64 (an + 1), .slice bo b9 b7, .int .i64 ah] bw)) ∧
 ((a2 : Int) ≤ an →
 (-9223372036854775808 : Int) ≤ (a0 + 1) ∧ (a0 + 1) < 9223372036854775808 ∧
 ∀ (bq : World), Ext (fun b => b = a9) ak bq →
 R (.tuple #[.agg #[.slice al aj am, .int .i64 (a0 + 1)], .int .i64 0]) bq)))))))

theorem Q09.up (aj : Option Addr) (ah al : Nat) (a0 ai ao ac a2 : Int) (a8 : Option Addr) (a9 a7 : Nat) (ak : Option Addr) (am an : Nat) {R : RW} {w : World} (h : Q09.N aj ah al a0 ai ao ac a2 a8 a9 a7 ak am an R w) : Q09.M aj ah al a0 ai ao ac a2 a8 a9 a7 ak am an R w := by
  unfold Q09.M
  unfold Q09.N at h
  refine Q01 fun e1 e9 => ?_
  have a6 := Blk.of_new e9
  have f4 := ((Ext.refl no w)).size
  have e2 := (Ext.refl no w).x_alloc e9
  refine Q01 fun a3 cz => ?_
  have aa := Blk.of_new cz
  have eo := (e2).size
  have e0 := Nat.ne_of_lt a6.lt
  have a6 := a6.x_alloc cz
  have ca := e2.x_alloc cz
  refine Q01 fun dx cf => ?_
  have a1 := Blk.of_new cf
  have e8 := (ca).size
  have dz := Nat.ne_of_lt a6.lt
  have a6 := a6.x_alloc cf
  have e3 := Nat.ne_of_lt aa.lt
  have aa := aa.x_alloc cf
  have d9 := ca.x_alloc cf
  refine ⟨ai, ao, ac, a2, a8, a9, a7, ak, am, an, ⟨aa.celli 0 rfl rfl, aa.celli 1 rfl rfl, aa.celli 2 rfl rfl, aa.celli 3 rfl rfl, aa.celli 4 rfl rfl, aa.celli 5 rfl rfl, trivial⟩, ?_⟩
  have h := h dx (w.heap.size) (e1.heap.size) (a3.heap.size) d9 (Priv.cons f4 a6.lt (Priv.cons eo aa.lt (Priv.cons e8 a1.lt Priv.nil)))
  refine h.mono fun el ba h => ?_
  obtain ⟨b4, he, hk, h⟩ := h
  refine ⟨b4, he, ?_⟩
  have a6 := hk.blk a6 (by simp)
  have aa := hk.blk aa (by simp)
  have a1 := hk.blk a1 (by simp)
  refine bif_of (fun d2 => ?_) (fun d2 => ?_)
  ·have h := h.1 (not_t d2)
   have cv : Ext (fun b => b = a3.heap.size) ba ba := ((Ext.refl no ba)).none
   refine Q0o (k := 0) (j := 0) a1 (Nat.le_of_ble_eq_true rfl) fun c3 f0 ey => ?_
   have cw := cv.x_puts f0 (.inl rfl)
   have a1 : Blk c3 a3.heap.size 68 [.slice none 0 0, .int .i64 0] := ey
   refine ⟨none, 0, 0, 0, ⟨a1.celli 0 rfl rfl, a1.celli 1 rfl rfl, trivial⟩, ?_⟩
   have h := h c3 cw
   exact h
  have h := h.2 (not_f d2)
  unfold Q09.J8
  refine ⟨aj, ah, al, a0, ⟨a6.celli 0 rfl rfl, a6.celli 1 rfl rfl, trivial⟩, ?_⟩
  refine ⟨ao, aa.celli 1 rfl rfl, ?_⟩
  refine h.mono fun e6 a5 h => ?_
  obtain ⟨af, a4, ab, bk, ag, b9, he, hk, h⟩ := h
  refine ⟨af, a4, ab, bk, ag, b9, he, ?_⟩
  have a6 := hk.blk a6 (by simp)
  have aa := hk.blk aa (by simp)
  have a1 := hk.blk a1 (by simp)
  refine Q01 fun eq bx => ?_
  have ae := Blk.of_new bx
  have bv := ((Ext.refl no a5)).size
  have av := Nat.ne_of_lt a6.lt
  have a6 := a6.x_alloc bx
  have b2 := Nat.ne_of_lt aa.lt
  have aa := aa.x_alloc bx
  have au := Nat.ne_of_lt a1.lt
  have a1 := a1.x_alloc bx
  have de := (Ext.refl no a5).x_alloc bx
  refine Q0o (k := 0) (j := 0) ae (Nat.le_of_ble_eq_true rfl) fun aw ch f7 => ?_
  have ax := de.x_puts ch (.inr bv)
  have a6 := a6.x_puts ch av
  have aa := aa.x_puts ch b2
  have a1 := a1.x_puts ch au
  have ae : Blk aw a5.heap.size 111 [.int .i64 af, .int .u64 a4, .int .i64 ab, .int .i64 bk, .int .i64 ag] := f7
  refine ⟨ai, aa.celli 0 rfl rfl, ?_⟩
  refine bif_of (fun cy => ?_) (fun cy => ?_)
  ·have h := h.1 (beq_t cy)
   refine bif_of (fun cx => ?_) (fun cx => ?_)
   ·have h := h.1 cx
    have cp : Ext (fun b => b = a3.heap.size) a5 aw := (ax).none
    refine Q0o (k := 0) (j := 0) a1 (Nat.le_of_ble_eq_true rfl) fun c8 f2 ex => ?_
    have dn := cp.x_puts f2 (.inl rfl)
    have a1 : Blk c8 a3.heap.size 68 [.slice none 0 0, .int .i64 0] := ex
    refine ⟨none, 0, 0, 0, ⟨a1.celli 0 rfl rfl, a1.celli 1 rfl rfl, trivial⟩, ?_⟩
    have h := h c8 dn
    exact h
   have h := h.2 cx
   unfold Q09.J1
   refine ⟨aj, ah, al, a0, ⟨a6.celli 0 rfl rfl, a6.celli 1 rfl rfl, trivial⟩, ?_⟩
   refine ⟨ao, aa.celli 1 rfl rfl, ?_⟩
   refine ⟨ac, aa.celli 2 rfl rfl, ?_⟩
   refine ⟨a0, a6.celli 1 rfl rfl, ?_⟩
   obtain ⟨c4, bq, h⟩ := h
   try rw [w64 c4 bq]
   have h := h aw ax
   refine h.mono fun f6 bn h => ?_
   obtain ⟨be, bm, b7, aq, he, hk, h⟩ := h
   refine ⟨be, bm, b7, aq, he, ?_⟩
   have a1 := hk.blk a1 (by simp)
   have dt : Ext (fun b => b = a3.heap.size) bn bn := ((Ext.refl no bn)).none
   refine Q0o (k := 0) (j := 0) a1 (Nat.le_of_ble_eq_true rfl) fun c0 ef er => ?_
   have d4 := dt.x_puts ef (.inl rfl)
   have a1 : Blk c0 a3.heap.size 68 [.slice be bm b7, .int .i64 aq] := er
   refine ⟨be, bm, b7, aq, ⟨a1.celli 0 rfl rfl, a1.celli 1 rfl rfl, trivial⟩, ?_⟩
   have h := h c0 d4
   exact h
  have h := h.2 (beq_f cy)
  refine bif_of (fun cl => ?_) (fun cl => ?_)
  ·have h := h.1 (beq_t cl)
   refine bif_of (fun cj => ?_) (fun cj => ?_)
   ·have h := h.1 (not_t cj)
    have dc : Ext (fun b => b = a3.heap.size) a5 aw := (ax).none
    refine Q0o (k := 0) (j := 0) a1 (Nat.le_of_ble_eq_true rfl) fun bs f1 ec => ?_
    have dl := dc.x_puts f1 (.inl rfl)
    have a1 : Blk bs a3.heap.size 68 [.slice none 0 0, .int .i64 0] := ec
    refine ⟨none, 0, 0, 0, ⟨a1.celli 0 rfl rfl, a1.celli 1 rfl rfl, trivial⟩, ?_⟩
    have h := h bs dl
    exact h
   have h := h.2 (not_f cj)
   unfold Q09.J4
   refine ⟨bk, ae.celli 3 rfl rfl, ?_⟩
   refine bif_of (fun di => ?_) (fun di => ?_)
   ·have h := h.1 (bne_t di)
    have dv : Ext (fun b => b = a3.heap.size) a5 aw := (ax).none
    refine Q0o (k := 0) (j := 0) a1 (Nat.le_of_ble_eq_true rfl) fun cd e5 ea => ?_
    have d8 := dv.x_puts e5 (.inl rfl)
    have a1 : Blk cd a3.heap.size 68 [.slice none 0 0, .int .i64 0] := ea
    refine ⟨none, 0, 0, 0, ⟨a1.celli 0 rfl rfl, a1.celli 1 rfl rfl, trivial⟩, ?_⟩
    have h := h cd d8
    exact h
   have h := h.2 (bne_f di)
   unfold Q09.J3
   refine ⟨a0, a6.celli 1 rfl rfl, ?_⟩
   refine ⟨ae.cani 3 rfl rfl, Q01 fun cr c9 => ?_⟩
   have bw := ax.x_set (q := a5.heap.size) (i := 3) rfl (.inr bv) c9
   have a6 := a6.oth (q := a5.heap.size) (i := 3) rfl av c9
   have aa := aa.oth (q := a5.heap.size) (i := 3) rfl b2 c9
   have a1 := a1.oth (q := a5.heap.size) (i := 3) rfl au c9
   have ae : Blk cr a5.heap.size 111 [.int .i64 af, .int .u64 a4, .int .i64 ab, .int .i64 a0, .int .i64 ag] := ae.seti 3 rfl c9
   refine ⟨a0, ae.celli 3 rfl rfl, ?_⟩
   refine bif_fo (fun cq => ?_) (fun cq => ?_)
   ·have h := h.2 (Int.not_lt.1 (of_decide_eq_false cq))
    unfold Q09.J2
    refine ⟨a2, aa.celli 3 rfl rfl, ?_⟩
    refine ⟨ae.cani 4 rfl rfl, Q01 fun c6 ce => ?_⟩
    have dd := bw.x_set (q := a5.heap.size) (i := 4) rfl (.inr bv) ce
    have a6 := a6.oth (q := a5.heap.size) (i := 4) rfl av ce
    have a1 := a1.oth (q := a5.heap.size) (i := 4) rfl au ce
    have ae : Blk c6 a5.heap.size 111 [.int .i64 af, .int .u64 a4, .int .i64 ab, .int .i64 a0, .int .i64 a2] := ae.seti 4 rfl ce
    refine ⟨aj, ah, al, a0, ⟨a6.celli 0 rfl rfl, a6.celli 1 rfl rfl, trivial⟩, ?_⟩
    refine ⟨af, a4, ab, a0, a2, ⟨ae.celli 0 rfl rfl, ae.celli 1 rfl rfl, ae.celli 2 rfl rfl, ae.celli 3 rfl rfl, ae.celli 4 rfl rfl, trivial⟩, ?_⟩
    have h := h c6 dd
    refine h.mono fun e4 bh h => ?_
    obtain ⟨b8, bg, bi, ap, he, hk, h⟩ := h
    refine ⟨b8, bg, bi, ap, he, ?_⟩
    have a1 := hk.blk a1 (by simp)
    have dk : Ext (fun b => b = a3.heap.size) bh bh := ((Ext.refl no bh)).none
    refine Q0o (k := 0) (j := 0) a1 (Nat.le_of_ble_eq_true rfl) fun bo eu ek => ?_
    have d3 := dk.x_puts eu (.inl rfl)
    have a1 : Blk bo a3.heap.size 68 [.slice b8 bg bi, .int .i64 ap] := ek
    refine ⟨b8, bg, bi, ap, ⟨a1.celli 0 rfl rfl, a1.celli 1 rfl rfl, trivial⟩, ?_⟩
    have h := h bo d3
    exact h
   have h := h.1 (of_decide_eq_true cq)
   refine ⟨ae.cani 3 rfl rfl, Q01 fun cm br => ?_⟩
   have ck := bw.x_set (q := a5.heap.size) (i := 3) rfl (.inr bv) br
   have a6 := a6.oth (q := a5.heap.size) (i := 3) rfl av br
   have aa := aa.oth (q := a5.heap.size) (i := 3) rfl b2 br
   have a1 := a1.oth (q := a5.heap.size) (i := 3) rfl au br
   have ae : Blk cm a5.heap.size 111 [.int .i64 af, .int .u64 a4, .int .i64 ab, .int .i64 (-2), .int .i64 ag] := ae.seti 3 rfl br
   unfold Q09.J2
   refine ⟨a2, aa.celli 3 rfl rfl, ?_⟩
   refine ⟨ae.cani 4 rfl rfl, Q01 fun c2 cg => ?_⟩
   have dg := ck.x_set (q := a5.heap.size) (i := 4) rfl (.inr bv) cg
   have a6 := a6.oth (q := a5.heap.size) (i := 4) rfl av cg
   have a1 := a1.oth (q := a5.heap.size) (i := 4) rfl au cg
   have ae : Blk c2 a5.heap.size 111 [.int .i64 af, .int .u64 a4, .int .i64 ab, .int .i64 (-2), .int .i64 a2] := ae.seti 4 rfl cg
   refine ⟨aj, ah, al, a0, ⟨a6.celli 0 rfl rfl, a6.celli 1 rfl rfl, trivial⟩, ?_⟩
   refine ⟨af, a4, ab, (-2), a2, ⟨ae.celli 0 rfl rfl, ae.celli 1 rfl rfl, ae.celli 2 rfl rfl, ae.celli 3 rfl rfl, ae.celli 4 rfl rfl, trivial⟩, ?_⟩
   have h := h c2 dg
   refine h.mono fun eg b6 h => ?_
   obtain ⟨bl, bf, bd, ar, he, hk, h⟩ := h
   refine ⟨bl, bf, bd, ar, he, ?_⟩
   have a1 := hk.blk a1 (by simp)
   have dr : Ext (fun b => b = a3.heap.size) b6 b6 := ((Ext.refl no b6)).none
   refine Q0o (k := 0) (j := 0) a1 (Nat.le_of_ble_eq_true rfl) fun c1 em eb => ?_
   have ds := dr.x_puts em (.inl rfl)
   have a1 : Blk c1 a3.heap.size 68 [.slice bl bf bd, .int .i64 ar] := eb
   refine ⟨bl, bf, bd, ar, ⟨a1.celli 0 rfl rfl, a1.celli 1 rfl rfl, trivial⟩, ?_⟩
   have h := h c1 ds
   exact h
  have h := h.2 (beq_f cl)
  unfold Q09.J7
  refine ⟨a0, a6.celli 1 rfl rfl, ?_⟩
  refine bif_of (fun d0 => ?_) (fun d0 => ?_)
  ·have h := h.1 (of_decide_eq_true d0)
   have db : Ext (fun b => b = a3.heap.size) a5 aw := (ax).none
   refine Q0o (k := 0) (j := 0) a1 (Nat.le_of_ble_eq_true rfl) fun bt en ez => ?_
   have du := db.x_puts en (.inl rfl)
   have a1 : Blk bt a3.heap.size 68 [.slice none 0 0, .int .i64 0] := ez
   refine ⟨none, 0, 0, 0, ⟨a1.celli 0 rfl rfl, a1.celli 1 rfl rfl, trivial⟩, ?_⟩
   have h := h bt du
   exact h
  have h := h.2 (Int.not_le.1 (of_decide_eq_false d0))
  unfold Q09.J6
  refine ⟨aj, ah, al, a0, ⟨a6.celli 0 rfl rfl, a6.celli 1 rfl rfl, trivial⟩, ?_⟩
  have h := h aw ax
  refine h.mono fun ep ay h => ?_
  obtain ⟨bj, bb, bc, he, hk, h⟩ := h
  refine ⟨bj, bb, bc, he, ?_⟩
  have a6 := hk.blk a6 (by simp)
  have aa := hk.blk aa (by simp)
  have a1 := hk.blk a1 (by simp)
  refine ⟨a8, a9, a7, aa.celli 4 rfl rfl, ?_⟩
  refine bif_of (fun cu => ?_) (fun cu => ?_)
  ·have h := h.1 (bne_t cu)
   have cn : Ext (fun b => b = a3.heap.size) ay ay := ((Ext.refl no ay)).none
   refine Q0o (k := 0) (j := 0) a1 (Nat.le_of_ble_eq_true rfl) fun bp es ee => ?_
   have dj := cn.x_puts es (.inl rfl)
   have a1 : Blk bp a3.heap.size 68 [.slice none 0 0, .int .i64 0] := ee
   refine ⟨none, 0, 0, 0, ⟨a1.celli 0 rfl rfl, a1.celli 1 rfl rfl, trivial⟩, ?_⟩
   have h := h bp dj
   exact h
  have h := h.2 (bne_f cu)
  refine ⟨ak, am, an, aa.celli 5 rfl rfl, ?_⟩
  refine ⟨a0, a6.celli 1 rfl rfl, ?_⟩
  refine bif_of (fun dh => ?_) (fun dh => ?_)
  ·have h := h.1 (bbeq_f (not_t dh))
   have d1 : Ext (fun b => b = a3.heap.size) ay ay := ((Ext.refl no ay)).none
   refine Q0o (k := 0) (j := 0) a1 (Nat.le_of_ble_eq_true rfl) fun cb et f3 => ?_
   have co := d1.x_puts et (.inl rfl)
   have a1 : Blk cb a3.heap.size 68 [.slice none 0 0, .int .i64 0] := f3
   refine ⟨none, 0, 0, 0, ⟨a1.celli 0 rfl rfl, a1.celli 1 rfl rfl, trivial⟩, ?_⟩
   have h := h cb co
   exact h
  have h := h.2 (bbeq_t (not_f dh))
  unfold Q09.J5
  obtain ⟨I1, ew, h0, h⟩ := h
  refine ⟨fun k vs ww => ∃ (b3 : Option Addr) (b1 b0 : Nat) (ad : Int), Blk ww w.heap.size 68 [.slice aj ah al, .int .i64 a0] ∧ Blk ww e1.heap.size 77 [.int .i64 ai, .int .i64 ao, .int .u64 ac, .int .i64 a2, .slice a8 a9 a7, .slice ak am an] ∧ Blk ww a3.heap.size 68 [.slice b3 b1 b0, .int .i64 ad] ∧ I1 k (vs ++ [.slice b3 b1 b0, .int .i64 ad]) ww, ew, ⟨none, 0, 0, 0, a6, aa, a1, h0⟩, fun eh az ed hI => ?_⟩
  obtain ⟨b3, b1, b0, ad, a6, aa, a1, hI⟩ := hI
  have h := h eh az ed b3 b1 b0 ad hI
  refine bif_fo (fun d5 => ?_) (fun d5 => ?_)
  ·have h := h.2 (Int.not_lt.1 (of_decide_eq_false d5))
   refine ⟨aj, ah, al, a6.celli 0 rfl rfl, ?_⟩
   refine ⟨a0, a6.celli 1 rfl rfl, ?_⟩
   obtain ⟨c4, bq, h⟩ := h
   try rw [w64 c4 bq]
   have ct : Ext (fun b => b = a3.heap.size) az az := ((Ext.refl no az)).none
   refine Q0o (k := 0) (j := 0) a1 (Nat.le_of_ble_eq_true rfl) fun c7 ei f5 => ?_
   have df := ct.x_puts ei (.inl rfl)
   have a1 : Blk c7 a3.heap.size 68 [.slice aj ah al, .int .i64 (a0 + 1)] := f5
   refine ⟨aj, ah, al, (a0 + 1), ⟨a1.celli 0 rfl rfl, a1.celli 1 rfl rfl, trivial⟩, ?_⟩
   have h := h c7 df
   exact h
  have h := h.1 (of_decide_eq_true d5)
  refine Q01 fun cc ci => ?_
  have b5 := (Ext.refl no az).x_drew ci
  have a6 := a6.x_drew ci
  have aa := aa.x_drew ci
  have a1 := a1.x_drew ci
  obtain ⟨f8, dy, h⟩ := h
  refine Q06 dy ?_
  obtain ⟨dp, d6, h⟩ := h
  refine ⟨dp, d6, ?_⟩
  obtain ⟨bu, d7, h⟩ := h
  refine ⟨bu, (b5).cell d7 id, ?_⟩
  refine ⟨a8, a9, a7, aa.celli 4 rfl rfl, ?_⟩
  obtain ⟨f9, da, h⟩ := h
  refine Q06 da ?_
  obtain ⟨dp, d6, h⟩ := h
  refine ⟨dp, d6, ?_⟩
  obtain ⟨c5, dw, h⟩ := h
  refine ⟨c5, (b5).cell dw id, ?_⟩
  refine bif_fo (fun dm => ?_) (fun dm => ?_)
  ·have h := h.2 (bne_f dm)
   obtain ⟨c4, bq, h⟩ := h
   try rw [w64 c4 bq]
   have h := h cc b5
   obtain ⟨ev, hk, h⟩ := h
   exact ⟨ev, hk, b3, b1, b0, ad, a6, aa, a1, h⟩
  have h := h.1 (bne_t dm)
  have dq : Ext (fun b => b = a3.heap.size) az cc := (b5).none
  refine Q0o (k := 0) (j := 0) a1 (Nat.le_of_ble_eq_true rfl) fun bz ej e7 => ?_
  have cs := dq.x_puts ej (.inl rfl)
  have a1 : Blk bz a3.heap.size 68 [.slice none 0 0, .int .i64 0] := e7
  refine ⟨none, 0, 0, 0, ⟨a1.celli 0 rfl rfl, a1.celli 1 rfl rfl, trivial⟩, ?_⟩
  have h := h bz cs
  exact h

theorem Q09.go (ab : Option Addr) (ac ad : Nat) (a5 a9 aa a0 a4 : Int) (a3 : Option Addr) (a1 a2 : Nat) (a7 : Option Addr) (a8 a6 : Nat) {R : RW} {w : World} (h : Q09.N ab ac ad a5 a9 aa a0 a4 a3 a1 a2 a7 a8 a6 R w) : Calls Try.prog 24 #[.agg #[.slice ab ac ad, .int .i64 a5], .agg #[.int .i64 a9, .int .i64 aa, .int .u64 a0, .int .i64 a4, .slice a3 a1 a2, .slice a7 a8 a6]] w fun e w' => ∃ v, e = .returned v ∧ R v w' := Q09.ok ab ac ad a5 a9 aa a0 a4 a3 a1 a2 a7 a8 a6 (Q09.up ab ac ad a5 a9 aa a0 a4 a3 a1 a2 a7 a8 a6 h)
open W (OwnB)
abbrev RRw (N : Nat) (w : World) (o : Own) (a : Option Addr) (c : Nat) (ml : List Mem) : Prop := LRow 111 5 N w o a ml.length c (ml.flatMap Mem.C)
section
variable {w w' w1 : World} {o o' o1 : Own} {a b : Option Addr} {c d N : Nat} {s t : MS} {m : Mem} {cg : Chg} {ml : List Mem}
theorem RRw.push (h : RRw N w o a c ml) (ok : Tags w o) (hl : ml.length < 1000000) (m : Mem) {q : Nat} (hb : Blk w q 111 m.C) (hq : N ≤ q) (hq' : q < w.heap.size) :
    ∃ a' n' c' w' o', (Builtin.append_ #[66, 66] 66 #[.slice a ml.length c, .slice (some (blk q)) 1 1]).run Try.prog w = .ok (.slice a' n' c') w' ∧ n' = (ml ++ [m]).length ∧ Step (fun j => N ≤ j) w o w' o' ∧ RRw N w' o' a' c' (ml ++ [m]) := by
  obtain ⟨i, hi, hz, hsz, hby⟩ := info_of inf111
  obtain ⟨a', c', w', o', hrun, s2, hrow, _⟩ := LRow.push (ty := 66) Try.underlying66 hi hz hsz hby rfl (by decide) h ok hq hq' (xa := some (blk q)) (m := 1) (xc := 1) (news := m.C) rfl (RowAt.of_blk hb) m.one (by omega) (by omega)
  exact ⟨a', _, c', w', o', hrun, by simp, s2, by unfold RRw; rw [List.length_append, List.flatMap_append]; simpa using hrow⟩
end
set_option maxHeartbeats 4000000
open W (OwnB)
def putGo (m : Mem) : List Mem → Bool → List Mem
  | [], inb => if inb then [] else [m]
  | x :: r, inb => (if inb = false ∧ m.who ≤ x.who then [m] else []) ++ (if x.who = m.who then [] else [x]) ++ putGo m r (inb || decide (m.who ≤ x.who))
def mputR (l : List Mem) (m : Mem) : List Mem := putGo m l false
section
variable {w w' w1 : World} {o o' o1 : Own} {a b : Option Addr} {c d N : Nat} {s t : MS} {m : Mem} {cg : Chg} {ml : List Mem} {l : List Wr} {wa oa : Option Addr} {wc oc : Nat}
theorem Q3X (m : Mem) : ∀ l : List Mem, putGo m l true = l.filter fun x => decide (x.who ≠ m.who)
  | [] => rfl
  | x :: r => by
    simp only [putGo, Bool.true_or, Q3X m r, List.filter_cons]
    by_cases h : x.who = m.who <;> simp [h]
theorem Q2n (m : Mem) : ∀ l : List Mem, putGo m l false = l.take (findI l m.who) ++ m :: (l.drop (findI l m.who)).filter fun x => decide (x.who ≠ m.who)
  | [] => rfl
  | x :: r => by
    by_cases h : x.who < m.who
    · have e : findI (x :: r) m.who = findI r m.who + 1 := by unfold findI; rw [List.takeWhile_cons, if_pos (by simpa using h)]; rfl
      have h1 : ¬ m.who ≤ x.who := by omega
      have h2 : x.who ≠ m.who := by omega
      rw [e]
      simp [putGo, h1, h2, Q2n m r]
    · have e : findI (x :: r) m.who = 0 := by unfold findI; rw [List.takeWhile_cons, if_neg (by simpa using h)]; rfl
      have h1 : m.who ≤ x.who := by omega
      rw [e]
      simp only [putGo, h1, and_self, if_true, List.take_zero, List.nil_append, List.drop_zero, decide_true, Bool.or_true, Q3X, List.filter_cons, List.singleton_append]
      by_cases h2 : x.who = m.who <;> simp [h2]
theorem Q6E (hs : Sorted ml) (h : isAt ml m.who = false) : mputR ml m = ml.take (findI ml m.who) ++ m :: ml.drop (findI ml m.who) := by
  unfold mputR
  rw [Q2n, List.filter_eq_self.2]
  intro x hx
  obtain ⟨j, hj⟩ := List.getElem?_of_mem hx
  rw [List.getElem?_drop] at hj
  have hlt : findI ml m.who < ml.length := by have := (List.getElem?_eq_some_iff.1 hj).1; omega
  have hg : ml[findI ml m.who]? = some ml[findI ml m.who] := List.getElem?_eq_getElem hlt
  have h1 := Q5l hg
  have h2 : m.who ≠ (ml[findI ml m.who]).who := fun e => by
    unfold isAt at h; rw [hg] at h; exact of_decide_eq_false h e.symm
  rcases Nat.eq_zero_or_pos j with rfl | hp
  · rw [Nat.add_zero, hg] at hj; cases hj; simp; omega
  · have := hs.get hg hj (by omega); simp; omega
theorem Q5i (hs : Sorted ml) {x : Mem} (hx : ml[findI ml m.who]? = some x) (hw : x.who = m.who) : mputR ml m = ml.set (findI ml m.who) m := by
  have hlt := (List.getElem?_eq_some_iff.1 hx).1
  unfold mputR
  rw [Q2n, List.set_eq_take_append_cons_drop, if_pos hlt]
  congr 2
  rw [List.drop_eq_getElem_cons hlt]
  have e : ml[findI ml m.who] = x := (List.getElem?_eq_some_iff.1 hx).2
  rw [e, List.filter_cons, if_neg (by simpa using hw), List.filter_eq_self.2]
  intro y hy
  obtain ⟨j, hj⟩ := List.getElem?_of_mem hy
  rw [List.getElem?_drop] at hj
  have := hs.get hx hj (by omega)
  simp; omega
theorem who_F (x : Int) : Q0c.F x = decide (0 ≤ x ∧ x < 8) := by
  unfold Q0c.F
  by_cases h : x ≥ 0
  · rw [if_pos h]
    by_cases h2 : x < 8 <;> simp [h2] <;> omega
  · rw [if_neg h]
    rw [eq_comm, decide_eq_false_iff_not]; omega
theorem Q5X (ok : Tags w o) (p : Int) : Calls Try.prog 20 #[.int .u64 p] w (fun x w' => ∃ o' a' c', x = .returned (.agg #[.slice a' (newM p).ml.length c', .int .i64 (newM p).ep]) ∧ Step no w o w' o' ∧ Row w' o' a' ((newM p).ml.flatMap Mem.C) ∧ (newM p).ml.length ≤ c') := by
  refine (Q0X.go p (R := fun v w' => ∃ o' a' c', v = (.agg #[.slice a' (newM p).ml.length c', .int .i64 (newM p).ep]) ∧ Step no w o w' o' ∧ Row w' o' a' ((newM p).ml.flatMap Mem.C) ∧ (newM p).ml.length ≤ c') ?_).mono fun x w' ⟨v, he, o', a', c', hv, hw⟩ => ⟨o', a', c', by rw [he, hv], hw⟩
  unfold Q0X.N
  intro w3 q4 p5 X3 hb hq hq' hp w7 X7
  have s3 := (Step.of_no X3 ok).tag (p := p5) (j := p5) (hp p5 (by simp)).1 (by have := (hp p5 (by simp)).2; omega)
  have h5 := hp p5 (by simp)
  have M3 : Mine [p5] w3 (tag (grow w o) p5 p5) := fun p hp' => by rw [show p = p5 by simpa using hp']; exact ⟨by omega, Q1r⟩
  have s7 := Step.stores X7 s3.ok M3 (by simp)
  have r3 : Row w3 (tag (grow w o) p5 p5) (some (blk q4)) ((newM p).ml.flatMap Mem.C) := ⟨RowAt.of_blk hb, fun _ ad ha => by cases ha; rw [tag_ne (by show q4 ≠ p5; omega)]; exact grow_ge hq⟩
  exact ⟨_, some (blk q4), 1, rfl, s3.trans' s7 fun i hi => .inr (by simp at hi; omega), r3.step s7, Nat.le_refl _⟩
theorem Q5I (hr : Row w o a (ml.flatMap Mem.C)) (ok : Tags w o) (hs : Sorted ml) (hl : ml.length < 1000000) (ep x : Int) :
    Calls Try.prog 55 #[.agg #[.slice a ml.length c, .int .i64 ep], .int .i64 x] w (Ret (.tuple #[(findM ml x).1.V, .bool (findM ml x).2]) fun w' => ∃ o', Step no w o w' o') := by
  refine Q0M.run a ml.length c ep x ?_
  unfold Q0M.N
  intro w5 p7 X5 hp
  obtain ⟨s5, M5⟩ := Step.priv X5 hp ok
  have g : w.heap.size ≤ p7 := (hp p7 (by simp)).1
  refine ⟨fun m vs w1 => ∃ (t : Nat), vs = [.int .i64 t, .int .i64 0, .int .u64 0, .int .i64 0, .int .i64 0, .int .i64 0] ∧ m + t = ml.length ∧ w1 = w5 ∧ ∀ y ∈ ml.take t, y.who ≠ x, ml.length, ⟨0, rfl, rfl, rfl, by simp⟩, ?_⟩
  rintro m w1 i0 k1 k2 k3 k4 k5 ⟨t, hi, hm, rfl, hno⟩
  simp only [List.cons.injEq, Value.int.injEq, true_and, and_true] at hi
  obtain ⟨rfl, rfl, rfl, rfl, rfl, rfl⟩ := hi
  refine ⟨fun ht => ?_, fun ht w38 X38 => ?_⟩
  · have htl : t < ml.length := by omega
    have hg : ml[t]? = some ml[t] := List.getElem?_eq_getElem htl
    have hym := List.getElem_mem htl
    have htk : ml.take (t + 1) = ml.take t ++ [ml[t]] := by rw [List.take_add_one, hg]; rfl
    generalize ml[t] = y at *
    have hr5 := hr.step s5
    obtain ⟨ad, rfl⟩ := hr.1.faddr Mem.len (by decide) htl
    refine ⟨ad, rfl, by omega, by omega, y.who, by rw [Int.toNat_natCast]; exact hr5.1.fcell Mem.len hg 0 rfl, fun he => ⟨by omega, by omega, y.who, y.pub, y.fr, y.to_, y.lim, by rw [Int.toNat_natCast]; exact hr5.1.floads Mem.len hg, fun w32 X32 => ?_⟩, fun hne => ⟨by omega, by omega, m - 1, by omega, t + 1, rfl, by omega, rfl, fun z hz => ?_⟩⟩
    · have s32 := Step.stores X32 s5.ok M5 (by simp)
      have hF : findM ml x = (y, true) := by rw [← he]; exact Q5A hs hym
      rw [hF]
      exact ⟨rfl, _, s5.trans' s32 fun i hi => .inr (by simp at hi; omega)⟩
    · rw [htk] at hz
      rcases List.mem_append.1 hz with hz | hz
      · exact hno z hz
      · simp at hz; subst hz; exact hne
  · have s38 := Step.stores X38 s5.ok M5 (by simp)
    have : t = ml.length := by omega
    subst this
    rw [List.take_length] at hno
    have hF : findM ml x = (Mem.z, false) := by
      unfold findM
      rw [if_neg]
      intro h
      obtain ⟨y, hy, hw⟩ := Q3b h
      exact hno y (List.mem_of_getElem? hy) hw
    rw [hF]
    exact ⟨rfl, _, s5.trans' s38 fun i hi => .inr (by simp at hi; omega)⟩
theorem Q4C (hr : Row w o a (ml.flatMap Mem.C)) (ok : Tags w o) (hl : ml.length < 1000) (ep : Int) :
    Calls Try.prog 45 #[.agg #[.slice a ml.length c, .int .i64 ep]] w (fun x w' => ∃ o' a' c', x = .returned (.slice a' (nowM ml).length c') ∧ Step no w o w' o' ∧ Row w' o' a' ((nowM ml).flatMap Mem.C) ∧ (nowM ml).length ≤ c') := by
  refine (Q0R.go a ml.length c ep (R := fun v w' => ∃ o' a' c', v = (.slice a' (nowM ml).length c') ∧ Step no w o w' o' ∧ Row w' o' a' ((nowM ml).flatMap Mem.C) ∧ (nowM ml).length ≤ c') ?_).mono fun x w' ⟨v, he, o', a', c', hv, hw⟩ => ⟨o', a', c', by rw [he, hv], hw⟩
  unfold Q0R.N
  intro w3 p4 X3 hp
  obtain ⟨s3, M3⟩ := Step.priv X3 hp ok
  have g4 := hp p4 (by simp)
  refine ⟨fun m vs w1 => ∃ (t : Nat) (a1 : Option Addr) (c1 : Nat) (o1 : Own), vs = [.slice a1 (nowM (ml.take t)).length c1, .int .i64 t] ∧ m + t = ml.length ∧ Step no w o w1 o1 ∧ Mine [p4] w1 o1 ∧ w3.heap.size ≤ w1.heap.size ∧ RRw w3.heap.size w1 o1 a1 c1 (nowM (ml.take t)), ml.length, ⟨0, none, 0, _, rfl, rfl, s3, M3, Nat.le_refl _, LRow.nil _ _ _ _ _⟩, ?_⟩
  rintro m w1 ra rn rc i ⟨t, a1, c1, o1, hi, hm, s1, M1, hsz, r1⟩
  simp only [List.cons.injEq, Value.slice.injEq, Value.int.injEq, true_and, and_true] at hi
  obtain ⟨⟨rfl, rfl, rfl⟩, rfl⟩ := hi
  refine ⟨fun ht => ?_, fun ht => ?_⟩
  · have htl : t < ml.length := by omega
    have hg : ml[t]? = some ml[t] := List.getElem?_eq_getElem htl
    have htk : ml.take (t + 1) = ml.take t ++ [ml[t]] := by rw [List.take_add_one, hg]; rfl
    generalize ml[t] = x at *
    obtain ⟨ad, rfl⟩ := hr.1.faddr Mem.len (by decide) htl
    refine ⟨ad, rfl, by omega, by omega, x.to_, by rw [Int.toNat_natCast]; exact (hr.step s1).1.fcell Mem.len hg 3 rfl, fun hto => ⟨by omega, by omega, x.who, x.pub, x.fr, x.to_, x.lim, by rw [Int.toNat_natCast]; exact (hr.step s1).1.floads Mem.len hg, fun w25 q26 X25 hb hq hq' => ?_⟩, fun hto => ⟨by omega, by omega, ?_⟩⟩
    · have s25 := Step.of_no X25 s1.ok
      have r25 : RRw w3.heap.size w25 _ ra rc (nowM (ml.take t)) := LRow.step r1 s25 fun k h => h.elim
      have hln : (nowM (ml.take t)).length < 1000000 := by
        have h1 : (nowM (ml.take t)).length ≤ (ml.take t).length := List.length_filter_le _ _
        rw [List.length_take] at h1; omega
      obtain ⟨a', n', c', w', o', hrun, hn', s2, hrow⟩ := r25.push s25.ok hln x hb (by omega) hq'
      have hnw : nowM (ml.take (t + 1)) = nowM (ml.take t) ++ [x] := by rw [htk]; unfold nowM; rw [List.filter_append]; simp [hto]
      have hs3 := s3.size
      refine ⟨a', n', c', w', hrun, (M1.step s25).keep s2 (fun p hp' => by simp at hp'; omega), by omega, by omega, m - 1, by omega, t + 1, a', c', o', by rw [hn', hnw]; rfl, by omega, (s1.trans s25).trans' s2 fun i hi => .inr (by omega), (M1.step s25).step s2, Nat.le_trans hsz (Nat.le_trans X25.size s2.size), by rw [hnw]; exact hrow⟩
    · have hnw : nowM (ml.take (t + 1)) = nowM (ml.take t) := by rw [htk]; unfold nowM; rw [List.filter_append]; simp [hto]
      exact ⟨m - 1, by omega, t + 1, ra, rc, _, by rw [hnw]; simp, by omega, s1, M1, hsz, by rw [hnw]; exact r1⟩
  · have : t = ml.length := by omega
    subst this
    rw [List.take_length] at r1 ⊢
    exact ⟨_, ra, rc, rfl, noStep (K := no) s1, r1.give s1 s3.size, r1.le⟩
theorem Q6c (hr : Row w o a (ml.flatMap Mem.C)) (ok : Tags w o) (hl : ml.length < 1000) (ep : Int) (m : Mem) :
    Calls Try.prog 56 #[.agg #[.slice a ml.length c, .int .i64 ep], m.V] w (fun x w' => ∃ o' a' c', x = .returned (.agg #[.slice a' (mputR ml m).length c', .int .i64 ep]) ∧ Step no w o w' o' ∧ Row w' o' a' ((mputR ml m).flatMap Mem.C) ∧ (mputR ml m).length ≤ c') := by
  refine (Q0f.go a ml.length c ep m.who m.pub m.fr m.to_ m.lim (R := fun v w' => ∃ o' a' c', v = (.agg #[.slice a' (mputR ml m).length c', .int .i64 ep]) ∧ Step no w o w' o' ∧ Row w' o' a' ((mputR ml m).flatMap Mem.C) ∧ (mputR ml m).length ≤ c') ?_).mono fun x w' ⟨v, he, o', a', c', hv, hw⟩ => ⟨o', a', c', by rw [he, hv], hw⟩
  unfold Q0f.N
  intro w13 p14 p15 p16 p17 X13 hp
  obtain ⟨s13, M13⟩ := Step.priv X13 hp ok
  have g : ∀ p ∈ [p14, p15, p16, p17], w.heap.size ≤ p := fun p h => (hp p h).1
  have hM : ∀ p ∈ [p14, p15, p16, p17], p < w13.heap.size := fun p h => M13.lt h
  have hs13 := s13.size
  refine ⟨fun k vs w1 => ∃ (inb : Bool) (t : Nat) (a1 : Option Addr) (c1 : Nat) (out : List Mem) (o1 : Own), vs = [.bool inb, .int .i64 t, .slice none 0 0, .int .i64 0, .slice a1 out.length c1, .int .i64 ep] ∧ k + t = ml.length ∧ Step no w o w1 o1 ∧ Mine [p14, p15, p16, p17] w1 o1 ∧ w13.heap.size ≤ w1.heap.size ∧ RRw w13.heap.size w1 o1 a1 c1 out ∧ out ++ putGo m (ml.drop t) inb = mputR ml m ∧ out.length ≤ 2 * t, ml.length, ⟨false, 0, none, 0, [], _, rfl, rfl, s13, M13, Nat.le_refl _, LRow.nil _ _ _ _ _, rfl, Nat.le_refl _⟩, ?_⟩
  intro k w26 inb0 i0 k5a k5n k5c k6 k11a k11n k11c k12 hI
  obtain ⟨inb, t, a1, c1, out, o1, hi, hk, s1, M1, hsz, r1, hout, hol⟩ := hI
  simp only [List.cons.injEq, Value.slice.injEq, Value.int.injEq, Value.bool.injEq, true_and, and_true] at hi
  obtain ⟨rfl, rfl, ⟨rfl, rfl, rfl⟩, rfl, ⟨rfl, rfl, rfl⟩, rfl⟩ := hi
  -- one more
  have psh : ∀ {wz : World} {oz : Own} {az : Option Addr} {cz : Nat} {outz : List Mem} (x : Mem) {wy : World} {q : Nat}, Step no w o wz oz → Mine [p14, p15, p16, p17] wz oz → w13.heap.size ≤ wz.heap.size → RRw w13.heap.size wz oz az cz outz → outz.length < 1000000 → Ext no wz wy → Blk wy q 111 x.C → wz.heap.size ≤ q → q < wy.heap.size →
      ∃ a' n' c' w' o', (Builtin.append_ #[66, 66] 66 #[.slice az outz.length cz, .slice (some (blk q)) 1 1]).run Try.prog wy = .ok (.slice a' n' c') w' ∧ n' = (outz ++ [x]).length ∧ (∀ L, (∀ p ∈ L, p ∈ [p14, p15, p16, p17]) → Keep L wy w') ∧ Step no w o w' o' ∧ Mine [p14, p15, p16, p17] w' o' ∧ w13.heap.size ≤ w'.heap.size ∧ RRw w13.heap.size w' o' a' c' (outz ++ [x]) := by
    intro wz oz az cz outz x wy q sz Mz hz rz hoz X hb hq hq'
    have sy := Step.of_no X sz.ok
    have ry : RRw w13.heap.size wy _ az cz outz := LRow.step rz sy fun k h => h.elim
    obtain ⟨a', n', c', w', o', hrun, hn', s2, hrow⟩ := ry.push sy.ok hoz x hb (by omega) hq'
    refine ⟨a', n', c', w', o', hrun, hn', fun L hL => ((Mz.step sy).sub hL).keep s2 (fun p hp' => by have := hM p (hL p hp'); omega), (sz.trans sy).trans' s2 fun i hi => .inr (by omega), (Mz.step sy).step s2, Nat.le_trans hz (Nat.le_trans X.size s2.size), hrow⟩
  -- a store into a block of one's own
  have sto : ∀ {wz wy : World} {oz : Own} {az : Option Addr} {cz : Nat} {outz : List Mem} {mm : Nat → Prop}, (∀ b, mm b → b ∈ [p14, p15, p16, p17]) → Step no w o wz oz → Mine [p14, p15, p16, p17] wz oz → w13.heap.size ≤ wz.heap.size → RRw w13.heap.size wz oz az cz outz → Ext mm wz wy → ∃ oy, Step no w o wy oy ∧ Mine [p14, p15, p16, p17] wy oy ∧ w13.heap.size ≤ wy.heap.size ∧ RRw w13.heap.size wy oy az cz outz := by
    intro wz wy oz az cz outz mm hmm sz Mz hz rz X
    have s2 := Step.stores X sz.ok Mz hmm
    exact ⟨_, sz.trans' s2 fun i hi => .inr (g i hi), Mz.step s2, Nat.le_trans hz s2.size, LRow.step rz s2 fun k hk => .inl (hM k hk)⟩
  refine ⟨fun ht => ?_, fun ht => ?_⟩
  · have htl : t < ml.length := by omega
    have hg : ml[t]? = some ml[t] := List.getElem?_eq_getElem htl
    have hdrop := List.drop_eq_getElem_cons htl
    rw [hdrop] at hout
    generalize ml[t] = x at *
    obtain ⟨ad, rfl⟩ := hr.1.faddr Mem.len (by decide) htl
    have c0 : ∀ {wz : World} {oz : Own}, Step no w o wz oz → wz.cell? ((ad.add (Int.toNat (t : Int) * 5)).add 0) = some (.int .i64 x.who) := fun sz => by rw [Int.toNat_natCast]; exact (hr.step sz).1.fcell Mem.len hg 0 rfl
    have ld : ∀ {wz : World} {oz : Own}, Step no w o wz oz → cellsAt wz (ad.add (Int.toNat (t : Int) * 5)) [.int .i64 x.who, .int .u64 x.pub, .int .i64 x.fr, .int .i64 x.to_, .int .i64 x.lim] 0 := fun sz => by rw [Int.toNat_natCast]; exact (hr.step sz).1.floads Mem.len hg
    refine ⟨fun hin => ⟨ad, rfl, by omega, by omega, x.who, c0 s1, fun hge w34 q35 X34 hb hq hq' => ?_, fun hlt => ⟨by omega, by omega, x.who, c0 s1, fun hne => ⟨by omega, by omega, x.who, x.pub, x.fr, x.to_, x.lim, ld s1, fun w34 q35 X34 hb hq hq' => ?_⟩, fun h => by omega⟩⟩, fun hin => ⟨ad, rfl, by omega, by omega, x.who, c0 s1, fun hne => ⟨by omega, by omega, x.who, x.pub, x.fr, x.to_, x.lim, ld s1, fun w34 q35 X34 hb hq hq' => ?_⟩, fun he => ⟨by omega, by omega, fun w75 X75 => ?_⟩⟩⟩
    · obtain ⟨a', n', c', w37, o37, hrun, hn', hkp, s37, M37, z37, r37⟩ := psh m s1 M1 hsz r1 (by omega) X34 hb hq hq'
      refine ⟨a', n', c', w37, hrun, hkp _ (fun p h => h), by omega, by omega, fun w39 X39 => ?_⟩
      obtain ⟨o39, s39, M39, z39, r39⟩ := sto (by simp) s37 M37 z37 r37 X39
      have hstep : out ++ [m] ++ (if x.who = m.who then [] else [x]) ++ putGo m (ml.drop (t + 1)) true = mputR ml m := by
        rw [← hout, hin]; simp only [putGo, show m.who ≤ x.who by omega, and_self, if_true, decide_true, Bool.or_true, List.append_assoc]
      refine ⟨x.who, c0 s39, fun hne => ⟨by omega, by omega, x.who, x.pub, x.fr, x.to_, x.lim, ld s39, fun w50 q51 X50 hb2 hq2 hq2' => ?_⟩, fun he => ⟨by omega, by omega, k - 1, by omega, true, t + 1, a', c', out ++ [m], o39, by rw [hn']; rfl, by omega, s39, M39, z39, r39, ?_, by simp; omega⟩⟩
      · rw [hn']
        obtain ⟨a2, n2, c2, w53, o53, hrun2, hn2, hkp2, s53, M53, z53, r53⟩ := psh x s39 M39 z39 r39 (by simp; omega) X50 hb2 hq2 hq2'
        refine ⟨a2, n2, c2, w53, hrun2, hkp2 _ (fun p h => h), by omega, by omega, fun w54 X54 => ?_⟩
        obtain ⟨o54, s54, M54, z54, r54⟩ := sto (by simp) s53 M53 z53 r53 X54
        rw [if_neg hne] at hstep
        exact ⟨k - 1, by omega, true, t + 1, a2, c2, out ++ [m] ++ [x], o54, by rw [hn2]; rfl, by omega, s54, M54, z54, r54, hstep, by simp; omega⟩
      · rw [if_pos he, List.append_nil] at hstep; exact hstep
    · obtain ⟨a', n', c', w37, o37, hrun, hn', hkp, s37, M37, z37, r37⟩ := psh x s1 M1 hsz r1 (by omega) X34 hb hq hq'
      refine ⟨a', n', c', w37, hrun, hkp _ (fun p h => h), by omega, by omega, fun w39 X39 => ?_⟩
      obtain ⟨o39, s39, M39, z39, r39⟩ := sto (by simp) s37 M37 z37 r37 X39
      refine ⟨k - 1, by omega, inb0, t + 1, a', c', out ++ [x], o39, by rw [hn']; rfl, by omega, s39, M39, z39, r39, ?_, by simp; omega⟩
      rw [← hout, hin]
      have h1 : ¬ m.who ≤ x.who := by omega
      simp [putGo, h1, hne]
    · obtain ⟨a', n', c', w37, o37, hrun, hn', hkp, s37, M37, z37, r37⟩ := psh x s1 M1 hsz r1 (by omega) X34 hb hq hq'
      refine ⟨a', n', c', w37, hrun, hkp _ (fun p h => h), by omega, by omega, fun w39 X39 => ?_⟩
      obtain ⟨o39, s39, M39, z39, r39⟩ := sto (by simp) s37 M37 z37 r37 X39
      refine ⟨k - 1, by omega, inb0, t + 1, a', c', out ++ [x], o39, by rw [hn']; rfl, by omega, s39, M39, z39, r39, ?_, by simp; omega⟩
      rw [← hout, hin]
      simp [putGo, hne]
    · obtain ⟨o75, s75, M75, z75, r75⟩ := sto (mm := no) (fun _ h => h.elim) s1 M1 hsz r1 X75
      refine ⟨k - 1, by omega, inb0, t + 1, _, _, out, o75, rfl, by omega, s75, M75, z75, r75, ?_, by omega⟩
      rw [← hout, hin]
      simp [putGo, he]
  · have : t = ml.length := by omega
    subst this
    rw [List.drop_length] at hout
    refine ⟨fun hin w95 q96 X95 hb hq hq' => ?_, fun hin w103 X103 => ?_⟩
    · obtain ⟨a', n', c', w37, o37, hrun, hn', hkp, s37, M37, z37, r37⟩ := psh m s1 M1 hsz r1 (by omega) X95 hb hq hq'
      refine ⟨a', n', c', w37, hrun, hkp _ (fun p h => by simp at h ⊢; omega), fun w101 X101 => ?_⟩
      obtain ⟨o39, s39, M39, z39, r39⟩ := sto (by simp [or_comm]) s37 M37 z37 r37 X101
      have : out ++ [m] = mputR ml m := by rw [← hout, hin]; rfl
      rw [this] at r39 hn'
      exact ⟨_, a', c', by rw [hn'], noStep (K := no) s39, r39.give s39 hs13, r39.le⟩
    · obtain ⟨o39, s39, M39, z39, r39⟩ := sto (by simp) s1 M1 hsz r1 X103
      have : out = mputR ml m := by rw [← hout, hin]; simp [putGo]
      rw [this] at r39 ⊢
      exact ⟨_, _, _, rfl, noStep (K := no) s39, r39.give s39 hs13, r39.le⟩
end
open W (OwnB)
section
variable {w w' w1 : World} {o o' o1 : Own} {a b : Option Addr} {c d N : Nat} {s t : MS} {m : Mem} {cg : Chg} {ml : List Mem} {l : List Wr} {wa oa : Option Addr} {wc oc : Nat}
theorem Q3T : boxesP [] = false := rfl
theorem Q4Y (h : cg.kd = 1) : rightM cg = decide ((0 ≤ cg.who ∧ cg.who < 8) ∧ cg.pub ≠ 0 ∧ cg.lim = 0 ∧ cg.ws = [] ∧ cg.old = []) := by
  unfold rightM
  by_cases h1 : 0 ≤ cg.who ∧ cg.who < 8
  · rw [if_pos h1, show (cg.kd == 3) = false by rw [h]; rfl]
    by_cases h2 : cg.ws = [] ∧ cg.old = []
    · rw [h2.1, h2.2, if_pos Q3T.symm, if_neg (by simp), if_pos h]
      simp [h1]
    · have : decide ((0 ≤ cg.who ∧ cg.who < 8) ∧ cg.pub ≠ 0 ∧ cg.lim = 0 ∧ cg.ws = [] ∧ cg.old = []) = false := decide_eq_false fun h => h2 ⟨h.2.2.2.1, h.2.2.2.2⟩
      rw [this]
      split
      · rw [if_pos ⟨by rw [h]; decide, h2⟩]
      · rfl
  · rw [if_neg h1, eq_comm, decide_eq_false_iff_not]; exact fun h => h1 h.1
theorem Q5n (h : cg.kd = 2) : rightM cg = decide ((0 ≤ cg.who ∧ cg.who < 8) ∧ cg.who ≠ 0 ∧ cg.pub = 0 ∧ 0 ≤ cg.lim ∧ cg.lim ≤ 200 ∧ cg.ws = [] ∧ cg.old = []) := by
  unfold rightM
  by_cases h1 : 0 ≤ cg.who ∧ cg.who < 8
  · rw [if_pos h1, show (cg.kd == 3) = false by rw [h]; rfl]
    by_cases h2 : cg.ws = [] ∧ cg.old = []
    · rw [h2.1, h2.2, if_pos Q3T.symm, if_neg (by simp), if_neg (by rw [h]; decide), if_pos h]
      simp [h1]
    · have : decide ((0 ≤ cg.who ∧ cg.who < 8) ∧ cg.who ≠ 0 ∧ cg.pub = 0 ∧ 0 ≤ cg.lim ∧ cg.lim ≤ 200 ∧ cg.ws = [] ∧ cg.old = []) = false := decide_eq_false fun h => h2 ⟨h.2.2.2.2.2.1, h.2.2.2.2.2.2⟩
      rw [this]
      split
      · rw [if_pos ⟨by rw [h]; decide, h2⟩]
      · rfl
  · rw [if_neg h1, eq_comm, decide_eq_false_iff_not]; exact fun h => h1 h.1
theorem Q2T (h : cg.kd = 3) : rightM cg = (boxesP cg.ws && decide (cg.who = 0 ∧ cg.pub = 0 ∧ cg.lim = 0 ∧ (cg.old.length = 0 ∨ cg.old.length = 24))) := by
  unfold rightM
  by_cases h1 : 0 ≤ cg.who ∧ cg.who < 8
  · rw [if_pos h1, show (cg.kd == 3) = true by rw [h]; rfl]
    cases hb : boxesP cg.ws
    · rw [if_neg (by decide)]; rfl
    · rw [if_pos rfl, if_neg (fun h' => h'.1 h), if_neg (by rw [h]; decide), if_neg (by rw [h]; decide), if_pos h]; rfl
  · rw [if_neg h1]
    have : decide (cg.who = 0 ∧ cg.pub = 0 ∧ cg.lim = 0 ∧ (cg.old.length = 0 ∨ cg.old.length = 24)) = false := decide_eq_false fun h => h1 (by rw [h.1]; decide)
    rw [this, Bool.and_false]
theorem Q6I (h1 : cg.kd ≠ 1) (h2 : cg.kd ≠ 2) (h3 : cg.kd ≠ 3) : rightM cg = false := by
  unfold rightM
  split
  · split
    · split
      · rfl
      · simp only [if_neg h1, if_neg h2, if_neg h3]
    · rfl
  · rfl
theorem Q32 (hr : RowAt w wa (l.flatMap Wr.C)) (hl : l.map Wr.p = cg.ws) (hn : l.length < 1000000) (ho : cg.old.length < 1000000) :
    Calls Try.prog 54 #[chgV cg wa wc oa oc] w (Ret (.bool (rightM cg)) fun w' => Ext no w w') := by
  refine Q0u.run cg.kd cg.who cg.pub cg.lim wa cg.ws.length wc oa cg.old.length oc ?_
  unfold Q0u.N
  simp only [who_F]
  have hlen : cg.ws.length = l.length := by rw [← hl]; simp
  have hz : cg.ws = [] ↔ cg.ws.length = 0 := List.length_eq_zero_iff.symm
  have hz2 : cg.old = [] ↔ cg.old.length = 0 := List.length_eq_zero_iff.symm
  have key : ∀ {w1 : World} {b : Bool}, Ext no w w1 → b = rightM cg → Value.bool b = .bool (rightM cg) ∧ Ext no w w1 := fun X h => ⟨by rw [h], X⟩
  have f1 : cg.kd = 1 → ¬ ((0 ≤ cg.who ∧ cg.who < 8) ∧ cg.pub ≠ 0 ∧ cg.lim = 0 ∧ cg.ws = [] ∧ cg.old = []) → false = rightM cg := fun h h2 => by rw [Q4Y h, decide_eq_false h2]
  have f2 : cg.kd = 2 → ¬ ((0 ≤ cg.who ∧ cg.who < 8) ∧ cg.who ≠ 0 ∧ cg.pub = 0 ∧ 0 ≤ cg.lim ∧ cg.lim ≤ 200 ∧ cg.ws = [] ∧ cg.old = []) → false = rightM cg := fun h h2 => by rw [Q5n h, decide_eq_false h2]
  have f3 : cg.kd = 3 → ¬ (cg.who = 0 ∧ cg.pub = 0 ∧ cg.lim = 0 ∧ (cg.old.length = 0 ∨ cg.old.length = 24)) → false = rightM cg := fun h h2 => by rw [Q2T h, decide_eq_false h2, Bool.and_false]
  have f4 : cg.kd = 3 → boxesP cg.ws = false → false = rightM cg := fun h h2 => by rw [Q2T h, h2, Bool.false_and]
  have f5 : cg.kd ≠ 1 → cg.kd ≠ 2 → cg.kd ≠ 3 → false = rightM cg := fun a b c => (Q6I a b c).symm
  refine ⟨fun ho0 => ⟨fun h3 w7 X => key X ?_, fun h3 => ⟨fun h24 w7 X => key X (f3 h3 (by omega)), fun h24 => ?_⟩⟩, fun ho0 => ?_⟩
  · by_cases h1 : cg.kd = 1
    · exact f1 h1 (by rw [hz2]; omega)
    · by_cases h2 : cg.kd = 2
      · exact f2 h2 (by rw [hz2]; omega)
      · exact f5 h1 h2 h3
  all_goals have hoo : cg.old.length = 0 ∨ cg.old.length = 24 := by omega
  all_goals refine ⟨fun h1 => ?_, fun h1 => ⟨fun h2 => ?_, fun h2 => ⟨fun h3 w7 X7 => ?_, fun h3 w7 X7 => key X7 (f5 h1 h2 h3)⟩⟩⟩
  all_goals try (exfalso; omega)
  rotate_left
  · refine ⟨fun hw => ⟨fun hp => ⟨fun hl1 w14 X => key X ?_, fun hl1 w14 X => key X (f1 h1 fun h => hl1 h.2.2.1)⟩, fun hp w14 X => key X (f1 h1 fun h => h.2.1 hp)⟩, fun hw w14 X => key X (f1 h1 fun h => of_decide_eq_false hw h.1)⟩
    rw [Q4Y h1, Bool.eq_iff_iff, beq_iff_eq, decide_eq_true_iff]
    exact ⟨fun h => ⟨of_decide_eq_true hw, hp, hl1, hz.2 (by omega), hz2.2 (by omega)⟩, fun h => by rw [h.2.2.2.1]; rfl⟩
  · refine ⟨fun hw => ⟨fun hw0 => ⟨fun hp => ⟨fun hl0 => ⟨fun hl1 w14 X => key X ?_, fun hl1 w14 X => key X (f2 h2 fun h => by omega)⟩, fun hl0 w14 X => key X (f2 h2 fun h => by omega)⟩, fun hp w14 X => key X (f2 h2 fun h => hp h.2.2.1)⟩, fun hw0 w14 X => key X (f2 h2 fun h => h.2.1 hw0)⟩, fun hw w14 X => key X (f2 h2 fun h => of_decide_eq_false hw h.1)⟩
    rw [Q5n h2, Bool.eq_iff_iff, beq_iff_eq, decide_eq_true_iff]
    exact ⟨fun h => ⟨of_decide_eq_true hw, hw0, hp, hl0, hl1, hz.2 (by omega), hz2.2 (by omega)⟩, fun h => by rw [h.2.2.2.2.2.1]; rfl⟩
  all_goals
    refine ⟨fun m vs w1 => ∃ (t : Nat) (last : Int), vs = [.int .i64 t] ∧ m + t = l.length ∧ Ext no w w1 ∧ boxesGo (-1) cg.ws = boxesGo last (cg.ws.drop t) ∧ (t = 0 → last = -1) ∧ (∀ x, 0 < t → cg.ws[t - 1]? = some x → last = x.1), l.length, ⟨0, -1, rfl, rfl, X7, rfl, fun _ => rfl, fun x h => absurd h (by omega)⟩, ?_⟩
    rintro m w1 i ⟨t, last, hi, hm, X1, hbx, hz0, hzp⟩
    simp only [List.cons.injEq, Value.int.injEq, true_and, and_true] at hi
    subst hi
    refine ⟨fun ht => ?_, fun ht => ?_⟩
    · have htl : t < l.length := by omega
      have htw : t < cg.ws.length := by omega
      have hg : l[t]? = some l[t] := List.getElem?_eq_getElem htl
      have hgw : cg.ws[t]? = some l[t].p := by rw [← hl, List.getElem?_map, hg]; rfl
      have hgw' : cg.ws[t] = l[t].p := (List.getElem?_eq_some_iff.1 hgw).2
      rw [Q2I htw, hgw'] at hbx
      have hprev : ∀ (_ : 0 < t), ∃ y, l[t - 1]? = some y ∧ last = y.who := fun h0 => by
        have h1 : t - 1 < l.length := by omega
        exact ⟨l[t - 1], List.getElem?_eq_getElem h1, hzp (l[t - 1]).p h0 (by rw [← hl, List.getElem?_map, List.getElem?_eq_getElem h1]; rfl)⟩
      generalize l[t] = x at *
      have hr1 := hr.no X1
      obtain ⟨ad, rfl⟩ := hr.faddr Wr.len (by decide) htl
      refine ⟨ad, rfl, by omega, by omega, x.who, by rw [Int.toNat_natCast]; exact hr1.fcell Wr.len hg 0 rfl, fun hw w46 X46 => key (X1.trans X46) (f4 h3 ?_), fun hw => ⟨by omega, by omega, x.a, x.b.length, x.c, by rw [Int.toNat_natCast]; exact hr1.fcell Wr.len hg 1 rfl, fun hb w46 X46 => key (X1.trans X46) (f4 h3 ?_), fun hb => ⟨fun hi => ?_, fun hi => ⟨by omega, by omega, fun w46 X46 => ⟨m - 1, by omega, t + 1, x.who, rfl, by omega, X1.trans X46, ?_, fun h => by omega, fun y _ hy => ?_⟩⟩⟩⟩⟩
      · unfold boxesP; rw [hbx, show decide (0 ≤ x.p.1 ∧ x.p.1 < 8) = false from hw]; rfl
      · unfold boxesP; rw [hbx, show decide (x.p.2.length = 16) = false from decide_eq_false fun h => hb (by rw [show x.b.length = 16 from h]; rfl)]; simp
      · obtain ⟨y, hy, hyl⟩ := hprev (by omega)
        refine ⟨by omega, by omega, by omega, by omega, y.who, by rw [show ((t : Int) - 1).toNat = t - 1 by omega]; exact hr1.fcell Wr.len hy 0 rfl, by omega, by omega, x.who, by rw [Int.toNat_natCast]; exact hr1.fcell Wr.len hg 0 rfl, fun hge w46 X46 => key (X1.trans X46) (f4 h3 ?_), fun hlt => ⟨by omega, by omega, fun w46 X46 => ⟨m - 1, by omega, t + 1, x.who, rfl, by omega, X1.trans X46, ?_, fun h => by omega, fun y _ hy => ?_⟩⟩⟩
        · unfold boxesP; rw [hbx, show decide (last < x.p.1) = false from decide_eq_false fun h => by have : last < x.who := h; omega]; simp
        · rw [hbx, show decide (0 ≤ x.p.1 ∧ x.p.1 < 8) = true from hw, decide_eq_true (show last < x.p.1 by show last < x.who; omega), decide_eq_true (show x.p.2.length = 16 by show x.b.length = 16; omega)]; rfl
        · rw [Nat.add_sub_cancel, hgw] at hy; cases hy; rfl
      · have h0 := hz0 (by omega)
        have hw' : 0 ≤ x.who ∧ x.who < 8 := of_decide_eq_true hw
        rw [hbx, show decide (0 ≤ x.p.1 ∧ x.p.1 < 8) = true from hw, decide_eq_true (show last < x.p.1 by show last < x.who; omega), decide_eq_true (show x.p.2.length = 16 by show x.b.length = 16; omega)]; rfl
      · rw [Nat.add_sub_cancel, hgw] at hy; cases hy; rfl
    · have htt : cg.ws.drop t = [] := List.drop_eq_nil_of_le (by omega)
      rw [htt] at hbx
      have hbP : boxesP cg.ws = decide ((cg.ws.length : Int) > 0) := by
        unfold boxesP; rw [hbx]
        show (true && decide (cg.ws ≠ [])) = _
        rw [Bool.true_and, decide_eq_decide, Ne, hz]; omega
      refine ⟨fun hw => ⟨fun hp => ⟨fun hl1 => key X1 ?_, fun hl1 => key X1 (f3 h3 fun h => hl1 h.2.2.1)⟩, fun hp => key X1 (f3 h3 fun h => hp h.2.1)⟩, fun hw => key X1 (f3 h3 fun h => hw h.1)⟩
      rw [Q2T h3, ← hbP, decide_eq_true (show cg.who = 0 ∧ cg.pub = 0 ∧ cg.lim = 0 ∧ (cg.old.length = 0 ∨ cg.old.length = 24) from ⟨hw, hp, hl1, hoo⟩), Bool.and_true]
theorem findM_2 (ml : List Mem) (x : Int) : (findM ml x).2 = isAt ml x := by
  unfold findM; cases h : isAt ml x <;> simp [h]
theorem Q6H {x : Int} (h : isAt ml x = true) : ∃ m, ml[findI ml x]? = some m ∧ m.who = x ∧ findM ml x = (m, true) := by
  obtain ⟨m, hm, hw⟩ := Q3b h
  exact ⟨m, hm, hw, by unfold findM; rw [if_pos h, hm]; rfl⟩
theorem Q4O (hr : Row w o a (s.ml.flatMap Mem.C)) (ok : Tags w o) (hs : s.ok) (hc : s.ml.length ≤ c) (hw : Row w o wa (l.flatMap Wr.C)) (hl : l.map Wr.p = cg.ws) (hn : l.length < 1000000) (ho : cg.old.length < 1000000) :
    Calls Try.prog 24 #[.agg #[.slice a s.ml.length c, .int .i64 s.ep], chgV cg wa wc oa oc] w (MsG w o (applyM s cg)) := by
  have hle := hs.le
  have h0 := hs.ep0
  have h1 := hs.ep1
  have hlen : cg.ws.length = l.length := by rw [← hl]; simp
  refine (Q09.go a s.ml.length c s.ep cg.kd cg.who cg.pub cg.lim wa cg.ws.length wc oa cg.old.length oc (R := MsR w o (applyM s cg)) ?_).mono fun x w' ⟨v, he, h⟩ => h.of he
  unfold Q09.N
  intro w11 p12 p13 p14 X11 hp
  obtain ⟨s11, M11⟩ := Step.priv X11 hp ok
  have g : ∀ p ∈ [p12, p13, p14], w.heap.size ≤ p := fun p h => (hp p h).1
  refine (Q32 (hw.step s11).1 hl hn ho).mono fun e w17 ⟨he, X17⟩ => ⟨_, he, X17.kept, fun hf w20 X20 => ?_, fun hf => ?_⟩
  all_goals have s17' := Step.of_no X17 s11.ok
  all_goals have s17 := s11.trans s17'
  all_goals have M17 := M11.step s17'
  · have s20 := Step.stores X20 s17'.ok (M17.sub (M := [p14]) (by simp)) (by simp)
    unfold applyM; rw [if_neg (by rw [hf]; decide)]
    exact MsR.zero (s17.trans' s20 fun i hi => .inr (g i (by simp at hi ⊢; omega))) 1
  refine (Q5I (hr.step s17) s17.ok hs.sorted (by omega) s.ep cg.who).mono fun e w28 ⟨he, o28, s28'⟩ => ⟨_, _, _, _, _, _, he, M17.keep s28' fun _ _ => id, ?_⟩
  have s28 := s17.trans s28'
  have M28 := M17.step s28'
  have hA : applyM s cg = if cg.kd = 1 then inviteM s cg else if cg.kd = 2 then revokeM s cg else beginM s cg := by unfold applyM; rw [if_pos hf]
  have zero : ∀ {w20 : World} (k : Int), applyM s cg = (MS.z, k) → Ext (fun b => b = p14) w28 w20 → MsR w o (applyM s cg) (.tuple #[.agg #[.slice none 0 0, .int .i64 0], .int .i64 k]) w20 := fun k hk X => by
    rw [hk]
    have s20 := Step.stores X s28.ok (M28.sub (M := [p14]) (by simp)) (by simp)
    exact MsR.zero (s28.trans' s20 fun i hi => .inr (g i (by simp at hi ⊢; omega))) k
  have put : ∀ {w34 : World} (m : Mem), applyM s cg = (⟨mputR s.ml m, s.ep⟩, 0) → Ext no w28 w34 →
      Calls Try.prog 56 #[.agg #[.slice a s.ml.length c, .int .i64 s.ep], m.V] w34 fun ee43 ww44 => ∃ (L41a : Option Addr) (L41n L41c : Nat) (Epoch42 : Int), ee43 = .returned (.agg #[.slice L41a L41n L41c, .int .i64 Epoch42]) ∧ Keep [p14] w34 ww44 ∧
        ∀ (ww46 : World), Ext (fun b => b = p14) ww44 ww46 → MsR w o (applyM s cg) (.tuple #[.agg #[.slice L41a L41n L41c, .int .i64 Epoch42], .int .i64 0]) ww46 := fun m hk X => by
    rw [hk]
    have s34' := Step.of_no X s28.ok
    have s34 := s28.trans s34'
    refine (Q6c (hr.step s34) s34.ok (by omega) s.ep m).mono fun x w44 ⟨o44, a', c', he, s44, r44, hc'⟩ => ⟨_, _, _, _, he, ((M28.step s34').sub (M := [p14]) (by simp)).keep s44 fun _ _ => id, fun w46 X46 => ?_⟩
    have s46 := Step.stores X46 s44.ok ((((M28.step s34').step s44)).sub (M := [p14]) (by simp)) (by simp)
    exact ⟨_, a', c', rfl, (s34.trans s44).trans' s46 fun i hi => .inr (g i (by simp at hi ⊢; omega)), r44.step s46, hc'⟩
  have hF2 := findM_2 s.ml cg.who
  refine ⟨fun hk => ?_, fun hk1 => ⟨fun hk => ?_, fun hk2 => ?_⟩⟩
  · rw [if_pos hk] at hA
    refine ⟨fun hi w38 X => zero 13 ?_ X, fun hi => ⟨by omega, by omega, fun w34 X => put ⟨cg.who, cg.pub, s.ep + 1, -1, 0⟩ ?_ X⟩⟩
    · rw [hA]; unfold inviteM; rw [if_pos (by rw [← hF2]; exact hi)]
    · rw [hF2] at hi
      rw [hA]; unfold inviteM; rw [if_neg (by rw [hi]; decide), Q6E hs.sorted hi]
  · rw [if_neg (by omega), if_pos hk] at hA
    refine ⟨fun hi w38 X => zero 20 ?_ X, fun hi => ?_⟩
    · rw [hA]; unfold revokeM; rw [if_neg (by rw [← hF2, hi]; decide)]
    · rw [hF2] at hi
      obtain ⟨m, hm, hmw, hF⟩ := Q6H hi
      rw [hF]
      have hR : revokeM s cg = if m.to_ = -1 then (⟨s.ml.set (findI s.ml cg.who) { m with to_ := if s.ep < 0 then -2 else s.ep, lim := cg.lim }, s.ep⟩, 0) else (MS.z, 10) := by unfold revokeM; rw [if_pos hi, hm]
      refine ⟨fun hto w38 X => zero 10 ?_ X, fun hto => ⟨fun he w59 X => put ⟨m.who, m.pub, m.fr, -2, cg.lim⟩ ?_ X, fun he w59 X => put ⟨m.who, m.pub, m.fr, s.ep, cg.lim⟩ ?_ X⟩⟩
      · rw [hA, hR, if_neg hto]
      · rw [hA, hR, if_pos hto, if_pos he, Q5i (m := ⟨m.who, m.pub, m.fr, -2, cg.lim⟩) hs.sorted (x := m) (by show s.ml[findI s.ml m.who]? = _; rw [hmw]; exact hm) rfl]
        show _ = (MS.mk (s.ml.set (findI s.ml m.who) _) _, _)
        rw [hmw]
      · rw [hA, hR, if_pos hto, if_neg (by omega), Q5i (m := ⟨m.who, m.pub, m.fr, s.ep, cg.lim⟩) hs.sorted (x := m) (by show s.ml[findI s.ml m.who]? = _; rw [hmw]; exact hm) rfl]
        show _ = (MS.mk (s.ml.set (findI s.ml m.who) _) _, _)
        rw [hmw]
  · rw [if_neg hk1, if_neg hk2] at hA
    refine ⟨fun he w38 X => zero 2 ?_ X, fun he w34 X34 => ?_⟩
    · rw [hA]; unfold beginM; rw [if_pos (by omega)]
    have hB : applyM s cg = if ((cg.old.length : Int) == 0) = decide (s.ep < 0) then (if (nowM s.ml).map Mem.who = cg.ws.map Prod.fst then (⟨s.ml, s.ep + 1⟩, 0) else (MS.z, 10)) else (MS.z, 10) := by rw [hA]; unfold beginM; rw [if_neg (by omega)]
    have s34' := Step.of_no X34 s28.ok
    have s34 := s28.trans s34'
    have M34 := M28.step s34'
    refine (Q4C (hr.step s34) s34.ok (by omega) s.ep).mono fun x w82 ⟨o82, na, nc, hx, s82', r82, _⟩ => ⟨_, _, _, hx, M34.keep s82' fun _ _ => id, ?_⟩
    have s82 := s34.trans s82'
    have M82 := M34.step s82'
    have ten : ∀ {w1 w20 : World} {o1 : Own}, applyM s cg = (MS.z, 10) → Step no w o w1 o1 → Mine [p12, p13, p14] w1 o1 → Ext (fun b => b = p14) w1 w20 → MsR w o (applyM s cg) (.tuple #[.agg #[.slice none 0 0, .int .i64 0], .int .i64 10]) w20 := fun hk s1 M1 X => by
      rw [hk]
      have s20 := Step.stores X s1.ok (M1.sub (M := [p14]) (by simp)) (by simp)
      exact MsR.zero (s1.trans' s20 fun i hi => .inr (g i (by simp at hi ⊢; omega))) 10
    have hnl : (nowM s.ml).length ≤ s.ml.length := List.length_filter_le _ _
    refine ⟨fun hne w85 X85 => ten ?_ s82 M82 X85, fun heq => ⟨fun hne w85 X85 => ten ?_ s82 M82 X85, fun heo => ?_⟩⟩
    · rw [hB, if_neg (c := (nowM s.ml).map Mem.who = cg.ws.map Prod.fst) (fun h => hne (by have := congrArg List.length h; simp at this; omega)), ite_self]
    · rw [hB, if_neg]
      intro h
      apply hne
      rw [h, Bool.eq_iff_iff, decide_eq_true_iff, beq_iff_eq]; omega
    have hB2 : applyM s cg = if (nowM s.ml).map Mem.who = cg.ws.map Prod.fst then (⟨s.ml, s.ep + 1⟩, 0) else (MS.z, 10) := by
      rw [hB, if_pos]
      rw [heo, Bool.eq_iff_iff, decide_eq_true_iff, beq_iff_eq]; omega
    refine ⟨fun m vs w1 => ∃ (t : Nat) (o1 : Own), vs = [.int .i64 t, .slice none 0 0, .int .i64 0] ∧ m + t = (nowM s.ml).length ∧ Step no w82 o82 w1 o1 ∧ ((nowM s.ml).map Mem.who).take t = (cg.ws.map Prod.fst).take t, (nowM s.ml).length, ⟨0, o82, rfl, rfl, Step.refl _ s82.ok, rfl⟩, ?_⟩
    rintro m w94 i0 xa xn xc xe ⟨t, o94, hi, hm, s94, htk⟩
    simp only [List.cons.injEq, Value.slice.injEq, Value.int.injEq, true_and, and_true] at hi
    obtain ⟨rfl, ⟨rfl, rfl, rfl⟩, rfl⟩ := hi
    refine ⟨fun ht => ?_, fun ht => ⟨by omega, by omega, fun w108 X108 => ?_⟩⟩
    · have htl : t < (nowM s.ml).length := by omega
      have htw : t < l.length := by omega
      have hg : (nowM s.ml)[t]? = some (nowM s.ml)[t] := List.getElem?_eq_getElem htl
      have hgw : l[t]? = some l[t] := List.getElem?_eq_getElem htw
      have e1 : ((nowM s.ml).map Mem.who)[t]? = some (nowM s.ml)[t].who := by rw [List.getElem?_map, hg]; rfl
      have e2 : (cg.ws.map Prod.fst)[t]? = some l[t].who := by rw [← hl, List.getElem?_map, List.getElem?_map, hgw]; rfl
      generalize (nowM s.ml)[t] = x at *
      generalize l[t] = y at *
      obtain ⟨ad, rfl⟩ := r82.1.faddr Mem.len (by decide) htl
      obtain ⟨bd, rfl⟩ := hw.1.faddr Wr.len (by decide) htw
      refine ⟨ad, rfl, by omega, by omega, x.who, by rw [Int.toNat_natCast]; exact (r82.step s94).1.fcell Mem.len hg 0 rfl, bd, rfl, by omega, by omega, y.who, by rw [Int.toNat_natCast]; exact ((hw.step s82).step s94).1.fcell Wr.len hgw 0 rfl, fun hne w105 X105 => ten ?_ (s82.trans s94) (M82.step s94) X105, fun heq => ⟨by omega, by omega, fun w96 X96 => ⟨m - 1, by omega, t + 1, _, rfl, by omega, s94.trans (Step.of_no X96 s94.ok), ?_⟩⟩⟩
      · rw [hB2, if_neg]
        intro h
        rw [h, e2] at e1
        exact hne (Option.some.inj e1).symm
      · rw [List.take_add_one, List.take_add_one, htk, e1, e2, heq]
    · have hall : (nowM s.ml).map Mem.who = cg.ws.map Prod.fst := by
        rwa [List.take_of_length_le (by simp; omega), List.take_of_length_le (by simp; omega)] at htk
      rw [hB2, if_pos hall]
      have s94w := s82.trans s94
      have s108 := Step.stores X108 s94.ok ((M82.step s94).sub (M := [p14]) (by simp)) (by simp)
      have sF := s94w.trans' s108 fun i hi => .inr (g i (by simp at hi ⊢; omega))
      exact ⟨_, a, c, rfl, sF, hr.step sF, hc⟩
end
def clone64.M (a0 : Option Addr) (a7 a5 : Nat) (R : RW) (w : World) : Prop :=
 bif Option.isNone a0 then (
 R (.slice none 0 0) w) else (
 thenW (w.alloc (.cells #[] 36)) fun a6 =>
 ∃ (a1 : Option Addr) (a4 a3 : Nat) (a2 : World), (Builtin.append_ #[22, 22] 22 #[.slice (some (blk w.heap.size)) 0 0, .slice a0 a7 a5]).run Try.prog a6 = .ok (.slice a1 a4 a3) a2 ∧
 R (.slice a1 a4 a3) a2)

theorem clone64.ok (a2 : Option Addr) (a1 a0 : Nat) {R : RW} {w : World} (h : clone64.M a2 a1 a0 R w) : Calls Try.prog 36 #[.slice a2 a1 a0] w fun e w' => ∃ v, e = .returned v ∧ R v w' :=
  Q0j follows (H := []) (args := [.slice a2 a1 a0]) (cast (by kernel_rfl) h)

def cloneB.M (a0 : Option Addr) (a7 a5 : Nat) (R : RW) (w : World) : Prop :=
 bif Option.isNone a0 then (
 R (.slice none 0 0) w) else (
 thenW (w.alloc (.cells #[] 5)) fun a6 =>
 ∃ (a1 : Option Addr) (a4 a3 : Nat) (a2 : World), (Builtin.append_ #[25, 25] 25 #[.slice (some (blk w.heap.size)) 0 0, .slice a0 a7 a5]).run Try.prog a6 = .ok (.slice a1 a4 a3) a2 ∧
 R (.slice a1 a4 a3) a2)

theorem cloneB.ok (a2 : Option Addr) (a1 a0 : Nat) {R : RW} {w : World} (h : cloneB.M a2 a1 a0 R w) : Calls Try.prog 60 #[.slice a2 a1 a0] w fun e w' => ∃ v, e = .returned v ∧ R v w' :=
  Q0j follows (H := []) (args := [.slice a2 a1 a0]) (cast (by kernel_rfl) h)

def oNew.M (a5 : Option Addr) (a4 a3 : Nat) (R : RW) (w : World) : Prop :=
 Calls Try.prog 36 #[.slice a5 a4 a3] w fun ah ac => ∃ (a1 : Option Addr) (a2 a0 : Nat), ah = .returned (.slice a1 a2 a0) ∧
 thenW (ac.alloc (.map #[] 0)) fun af =>
 thenW (af.alloc (.map #[] 0)) fun ae =>
 thenW (ae.alloc (.map #[] 0)) fun ab =>
 thenW (ab.alloc (.map #[] 0)) fun ag =>
 thenW (ag.alloc (.map #[] 0)) fun ad =>
 thenW (ad.alloc (.map #[] 0)) fun a9 =>
 thenW (a9.alloc (.map #[] 0)) fun a8 =>
 thenW (a8.alloc (.map #[] 0)) fun a6 =>
 thenW (a6.alloc (.map #[] 0)) fun a7 =>
 thenW (a7.alloc (.cells #[.slice a1 a2 a0, .map (some ac.heap.size), .int .u64 1, .map (some af.heap.size), .map (some ae.heap.size), .map (some ab.heap.size), .map (some ag.heap.size), .map (some ad.heap.size), .map (some a9.heap.size), .map (some a8.heap.size), .map (some a6.heap.size)] 102)) fun aa =>
 R (.pointer (some (blk a7.heap.size))) aa

theorem oNew.ok (a2 : Option Addr) (a1 a0 : Nat) {R : RW} {w : World} (h : oNew.M a2 a1 a0 R w) : Calls Try.prog 15 #[.slice a2 a1 a0] w fun e w' => ∃ v, e = .returned v ∧ R v w' :=
  Q0j follows (H := []) (args := [.slice a2 a1 a0]) (cast (by kernel_rfl) h)

def oTake.M (o1 : Option Addr) (h2 : Int) (R : RW) (w : World) : Prop :=
 bif h2 == 0 then (
 R (.bool false) w) else (
 o1.elim False fun a3 =>
 ∃ (a1 : Option Nat), w.cell? (a3.add 1) = some (.map a1) ∧
 ∃ (v5 : Bool), (Instr.lookup 94 (.map a1) (.int .u64 h2) false).run Try.prog w = .ok (.bool v5) w ∧
 bif v5 then (
 R (.bool false) w) else (
 o1.elim False fun a6 =>
 ∃ (a0 : Option Nat), w.cell? (a6.add 1) = some (.map a0) ∧
 ∃ a2 : World, (Instr.mapUpdate 94 (.map a0) (.int .u64 h2) (.bool true)).run Try.prog w = .ok () a2 ∧
 R (.bool true) a2))

theorem oTake.ok (o1 : Option Addr) (h2 : Int) {R : RW} {w : World} (h : oTake.M o1 h2 R w) : Calls Try.prog 72 #[.pointer o1, .int .u64 h2] w fun e w' => ∃ v, e = .returned v ∧ R v w' :=
  Q0j follows (H := []) (args := [.pointer o1, .int .u64 h2]) (cast (by kernel_rfl) h)

def oFresh.M (o1 : Option Addr) (R : RW) (w : World) : Prop :=
 ∃ (I0 : Nat → List Value → World → Prop) (m2 : Nat), I0 m2 [] w ∧ ∀ (m3 : Nat) (ai : World), I0 m3 [] ai →
 o1.elim False fun a5 =>
 ∃ (af : Option Addr) (a4 ag : Nat), ai.cell? (a5.add 0) = some (.slice af a4 ag) ∧
 bif decide ((a4 : Int) > 0) then (
 o1.elim False fun a7 =>
 ∃ (a6 : Option Addr) (a3 ah : Nat), ai.cell? (a7.add 0) = some (.slice a6 a3 ah) ∧
 a6.elim False fun a9 =>
 0 ≤ (0 : Int) ∧ (0 : Int) < (a3 : Int) ∧
 ∃ (al : Int), ai.cell? (a9.add (Int.toNat 0 * 1)) = some (.int .u64 al) ∧
 o1.elim False fun az =>
 ∃ (a0 : Option Addr) (a1 a2 : Nat), ai.cell? (az.add 0) = some (.slice a0 a1 a2) ∧
 (0 : Int) ≤ (1 : Int) ∧ (1 : Int) ≤ (a1 : Int) ∧
 o1.elim False fun au =>
 Q0d ai ((au.add 0).add 0) ∧
 thenW (ai.setCell ((au.add 0).add 0) (.slice (if a2 = Int.toNat 1 then a0 else Option.map (fun z : Addr => z.add ((Int.toNat 1) * 1)) a0) (a1 - (Int.toNat 1)) (a2 - (Int.toNat 1)))) fun an =>
 Calls Try.prog 72 #[.pointer o1, .int .u64 al] an fun am ak => ∃ (ac : Bool), am = .returned (.bool ac) ∧
 bif ac then (
 R (.int .u64 al) ak) else (
 ∃ aq, aq < m3 ∧ I0 aq [] ak)) else (
 ∃ (I2 : Nat → List Value → World → Prop) (ay : Nat), I2 ay [] ai ∧ ∀ (ar : Nat) (aj : World), I2 ar [] aj →
 o1.elim False fun ax =>
 ∃ (ae : Int), aj.cell? (ax.add 2) = some (.int .u64 ae) ∧
 Calls Try.prog 72 #[.pointer o1, .int .u64 ae] aj fun ap ad => ∃ (ab : Bool), ap = .returned (.bool ab) ∧
 bif !ab then (
 o1.elim False fun b1 =>
 ∃ (aa : Int), ad.cell? (b1.add 2) = some (.int .u64 aa) ∧
 o1.elim False fun av =>
 Q0d ad ((av.add 2).add 0) ∧
 thenW (ad.setCell ((av.add 2).add 0) (.int .u64 (IntKind.u64.wrap (aa + 1)))) fun ao =>
 ∃ aw, aw < ar ∧ I2 aw [] ao) else (
 o1.elim False fun b0 =>
 ∃ (a8 : Int), ad.cell? (b0.add 2) = some (.int .u64 a8) ∧
 R (.int .u64 a8) ad))

theorem oFresh.ok (o1 : Option Addr) {R : RW} {w : World} (h : oFresh.M o1 R w) : Calls Try.prog 37 #[.pointer o1] w fun e w' => ∃ v, e = .returned v ∧ R v w' :=
  Q0j follows (H := [(0, [0, 3], []), (2, [0, 3], [])]) (args := [.pointer o1]) (cast (by kernel_rfl) h)

def oKey.M (o1 : Option Addr) (R : RW) (w : World) : Prop :=
 bif Option.isNone o1 then (
 R (.int .u64 0) w) else (
 Calls Try.prog 37 #[.pointer o1] w fun a4 a3 => ∃ (a0 : Int), a4 = .returned (.int .u64 a0) ∧
 o1.elim False fun a5 =>
 ∃ (a1 : Option Nat), a3.cell? (a5.add 4) = some (.map a1) ∧
 ∃ a2 : World, (Instr.mapUpdate 94 (.map a1) (.int .u64 a0) (.bool true)).run Try.prog a3 = .ok () a2 ∧
 R (.int .u64 a0) a2)

theorem oKey.ok (o1 : Option Addr) {R : RW} {w : World} (h : oKey.M o1 R w) : Calls Try.prog 39 #[.pointer o1] w fun e w' => ∃ v, e = .returned v ∧ R v w' :=
  Q0j follows (H := []) (args := [.pointer o1]) (cast (by kernel_rfl) h)

def oPair.M (o1 : Option Addr) (R : RW) (w : World) : Prop :=
 bif Option.isNone o1 then (
 R (.tuple #[.int .u64 0, .int .u64 0]) w) else (
 Calls Try.prog 37 #[.pointer o1] w fun ab a8 => ∃ (a1 : Int), ab = .returned (.int .u64 a1) ∧
 o1.elim False fun a5 =>
 ∃ (a2 : Option Nat), a8.cell? (a5.add 5) = some (.map a2) ∧
 ∃ a7 : World, (Instr.mapUpdate 94 (.map a2) (.int .u64 a1) (.bool true)).run Try.prog a8 = .ok () a7 ∧
 Calls Try.prog 37 #[.pointer o1] a7 fun aa a6 => ∃ (a3 : Int), aa = .returned (.int .u64 a3) ∧
 o1.elim False fun a9 =>
 ∃ (a0 : Option Nat), a6.cell? (a9.add 6) = some (.map a0) ∧
 ∃ a4 : World, (Instr.mapUpdate 96 (.map a0) (.int .u64 a3) (.int .u64 a1)).run Try.prog a6 = .ok () a4 ∧
 R (.tuple #[.int .u64 a1, .int .u64 a3]) a4)

theorem oPair.ok (o1 : Option Addr) {R : RW} {w : World} (h : oPair.M o1 R w) : Calls Try.prog 16 #[.pointer o1] w fun e w' => ∃ v, e = .returned v ∧ R v w' :=
  Q0j follows (H := []) (args := [.pointer o1]) (cast (by kernel_rfl) h)

def oSeal.M (o1 : Option Addr) (aq : Int) (af : Option Addr) (ah ai : Nat) (ag : Option Addr) (aa aj : Nat) (R : RW) (w : World) : Prop :=
 Calls Try.prog 13 #[.int .i64 (aa : Int)] w fun b3 al => ∃ (a1 : Int), b3 = .returned (.int .i64 a1) ∧
 bif Option.isNone o1 then (
 R (.tuple #[.slice none 0 0, .int .i64 23]) al) else (
 o1.elim False fun a8 =>
 ∃ (ak : Option Nat), al.cell? (a8.add 4) = some (.map ak) ∧
 ∃ (b2 : Bool), (Instr.lookup 94 (.map ak) (.int .u64 aq) false).run Try.prog al = .ok (.bool b2) al ∧
 bif !b2 then (
 R (.tuple #[.slice none 0 0, .int .i64 11]) al) else (
 bif decide (a1 < 0) then (
 R (.tuple #[.slice none 0 0, .int .i64 3]) al) else (
 Calls Try.prog 37 #[.pointer o1] al fun aw au => ∃ (a2 : Int), aw = .returned (.int .u64 a2) ∧
 thenW (au.drew) fun ap =>
 o1.elim False fun b0 =>
 ∃ (a0 : Option Nat), ap.cell? (b0.add 9) = some (.map a0) ∧
 Calls Try.prog 60 #[.slice af ah ai] ap fun av an => ∃ (a3 : Option Addr) (a4 a9 : Nat), av = .returned (.slice a3 a4 a9) ∧
 an.cell? (b0.add 9) = some (.map a0) ∧
 Calls Try.prog 60 #[.slice ag aa aj] an fun ar ao => ∃ (a7 : Option Addr) (a5 a6 : Nat), ar = .returned (.slice a7 a5 a6) ∧
 ao.cell? (b0.add 9) = some (.map a0) ∧
 ∃ am : World, (Instr.mapUpdate 99 (.map a0) (.int .u64 a2) (.agg #[.int .u64 aq, .slice a3 a4 a9, .slice a7 a5 a6])).run Try.prog ao = .ok () am ∧
 Calls Try.prog 33 #[.int .i64 a1] am fun ax az => ∃ (ad : Int), ax = .returned (.int .i64 ad) ∧
 Calls Try.prog 66 #[.int .u64 a2, .int .i64 ad] az fun ay b1 => ∃ (ae : Option Addr) (ab ac : Nat), ay = .returned (.slice ae ab ac) ∧
 R (.tuple #[.slice ae ab ac, .int .i64 0]) b1)))

theorem oSeal.ok (o1 : Option Addr) (a6 : Int) (a5 : Option Addr) (a2 a0 : Nat) (a1 : Option Addr) (a3 a4 : Nat) {R : RW} {w : World} (h : oSeal.M o1 a6 a5 a2 a0 a1 a3 a4 R w) : Calls Try.prog 29 #[.pointer o1, .int .u64 a6, .slice a5 a2 a0, .slice a1 a3 a4] w fun e w' => ∃ v, e = .returned v ∧ R v w' :=
  Q0j follows (H := []) (args := [.pointer o1, .int .u64 a6, .slice a5 a2 a0, .slice a1 a3 a4]) (cast (by kernel_rfl) h)

def oOpen.M (o1 : Option Addr) (bu : Int) (b5 : Option Addr) (b6 b9 : Nat) (cf : Option Addr) (c0 ch : Nat) (R : RW) (w : World) : Prop :=
 bif Option.isNone o1 then (
 R (.tuple #[.slice none 0 0, .int .i64 23]) w) else (
 thenW (w.drew) fun ba =>
 o1.elim False fun a6 =>
 ∃ (a0 : Option Nat), ba.cell? (a6.add 9) = some (.map a0) ∧
 (Calls Try.prog 69 #[.slice cf c0 ch] ba fun ci a1 => ∃ (a9 : Int), ci = .returned (.int .u64 a9) ∧
 a1.cell? (a6.add 9) = some (.map a0) ∧
 ∃ (bk : Int) (a8 : Option Addr) (a2 a3 : Nat) (a5 : Option Addr) (a4 a7 : Nat) (cd : Bool), (Instr.lookup 99 (.map a0) (.int .u64 a9) true).run Try.prog a1 = .ok (.tuple #[.agg #[.int .u64 bk, .slice a8 a2 a3, .slice a5 a4 a7], .bool cd]) a1 ∧
 thenW (a1.alloc (.cells #[.int .u64 0, .slice none 0 0, .slice none 0 0] 134)) fun bg =>
 (Instr.lookup 99 (.map a0) (.int .u64 a9) true).run Try.prog bg = .ok (.tuple #[.agg #[.int .u64 bk, .slice a8 a2 a3, .slice a5 a4 a7], .bool cd]) bg ∧
 bg.cell? (a6.add 9) = some (.map a0) ∧
 Q0d bg ((blk a1.heap.size).add 0) ∧
 thenW (bg.setCell ((blk a1.heap.size).add 0) (.int .u64 bk)) fun bv =>
 Q0d bv ((blk a1.heap.size).add 1) ∧
 thenW (bv.setCell ((blk a1.heap.size).add 1) (.slice a8 a2 a3)) fun bx =>
 Q0d bx ((blk a1.heap.size).add 2) ∧
 thenW (bx.setCell ((blk a1.heap.size).add 2) (.slice a5 a4 a7)) fun br =>
 bif !cd then (
 R (.tuple #[.slice none 0 0, .int .i64 4]) br) else (
 ∃ (bd : Option Addr) (ag bb : Nat), br.cell? ((blk a1.heap.size).add 2) = some (.slice bd ag bb) ∧
 Calls Try.prog 13 #[.int .i64 (ag : Int)] br fun c4 c6 => ∃ (ah : Int), c4 = .returned (.int .i64 ah) ∧
 Calls Try.prog 33 #[.int .i64 ah] c6 fun cc bi => ∃ (bc : Int), cc = .returned (.int .i64 bc) ∧
 bif (c0 : Int) != (IntKind.i64.wrap ((8 : Int) + bc)) then (
 R (.tuple #[.slice none 0 0, .int .i64 4]) bi) else (
 ∃ (bn : Int), bi.cell? ((blk a1.heap.size).add 0) = some (.int .u64 bn) ∧
 bif bn != bu then (
 R (.tuple #[.slice none 0 0, .int .i64 11]) bi) else (
 ∃ (av : Option Addr) (ai aq : Nat), bi.cell? ((blk a1.heap.size).add 1) = some (.slice av ai aq) ∧
 Calls Try.prog 70 #[.slice av ai aq, .slice b5 b6 b9] bi fun cb bq => ∃ (b8 : Bool), cb = .returned (.bool b8) ∧
 bif !b8 then (
 R (.tuple #[.slice none 0 0, .int .i64 5]) bq) else (
 ∃ (an : Option Addr) (ak ac : Nat), bq.cell? ((blk a1.heap.size).add 2) = some (.slice an ak ac) ∧
 Calls Try.prog 60 #[.slice an ak ac] bq fun ca c9 => ∃ (ao : Option Addr) (ar au : Nat), ca = .returned (.slice ao ar au) ∧
 R (.tuple #[.slice ao ar au, .int .i64 0]) c9))))) ∧
 (thenW (ba.alloc (.cells #[.int .u64 0, .slice none 0 0, .slice none 0 0] 134)) fun bw =>
 bw.cell? (a6.add 9) = some (.map a0) ∧
 Calls Try.prog 69 #[.slice cf c0 ch] bw fun ce bl => ∃ (ay : Int), ce = .returned (.int .u64 ay) ∧
 bl.cell? (a6.add 9) = some (.map a0) ∧
 ∃ (bo : Int) (aw : Option Addr) (b4 ad : Nat) (ax : Option Addr) (az b0 : Nat) (cg : Bool), (Instr.lookup 99 (.map a0) (.int .u64 ay) true).run Try.prog bl = .ok (.tuple #[.agg #[.int .u64 bo, .slice aw b4 ad, .slice ax az b0], .bool cg]) bl ∧
 Q0d bl ((blk ba.heap.size).add 0) ∧
 thenW (bl.setCell ((blk ba.heap.size).add 0) (.int .u64 bo)) fun bt =>
 Q0d bt ((blk ba.heap.size).add 1) ∧
 thenW (bt.setCell ((blk ba.heap.size).add 1) (.slice aw b4 ad)) fun bz =>
 Q0d bz ((blk ba.heap.size).add 2) ∧
 thenW (bz.setCell ((blk ba.heap.size).add 2) (.slice ax az b0)) fun bs =>
 bif !cg then (
 R (.tuple #[.slice none 0 0, .int .i64 4]) bs) else (
 ∃ (bf : Option Addr) (al be : Nat), bs.cell? ((blk ba.heap.size).add 2) = some (.slice bf al be) ∧
 Calls Try.prog 13 #[.int .i64 (al : Int)] bs fun c7 c2 => ∃ (ab : Int), c7 = .returned (.int .i64 ab) ∧
 Calls Try.prog 33 #[.int .i64 ab] c2 fun c1 bh => ∃ (bj : Int), c1 = .returned (.int .i64 bj) ∧
 bif (c0 : Int) != (IntKind.i64.wrap ((8 : Int) + bj)) then (
 R (.tuple #[.slice none 0 0, .int .i64 4]) bh) else (
 ∃ (bm : Int), bh.cell? ((blk ba.heap.size).add 0) = some (.int .u64 bm) ∧
 bif bm != bu then (
 R (.tuple #[.slice none 0 0, .int .i64 11]) bh) else (
 ∃ (aj : Option Addr) (ae b2 : Nat), bh.cell? ((blk ba.heap.size).add 1) = some (.slice aj ae b2) ∧
 Calls Try.prog 70 #[.slice aj ae b2, .slice b5 b6 b9] bh fun c5 bp => ∃ (b7 : Bool), c5 = .returned (.bool b7) ∧
 bif !b7 then (
 R (.tuple #[.slice none 0 0, .int .i64 5]) bp) else (
 ∃ (am : Option Addr) (b3 ap : Nat), bp.cell? ((blk ba.heap.size).add 2) = some (.slice am b3 ap) ∧
 Calls Try.prog 60 #[.slice am b3 ap] bp fun c3 c8 => ∃ (af : Option Addr) (b1 aa : Nat), c3 = .returned (.slice af b1 aa) ∧
 R (.tuple #[.slice af b1 aa, .int .i64 0]) c8))))))

theorem oOpen.ok (o1 : Option Addr) (a3 : Int) (a0 : Option Addr) (a2 a1 : Nat) (a4 : Option Addr) (a6 a5 : Nat) {R : RW} {w : World} (h : oOpen.M o1 a3 a0 a2 a1 a4 a6 a5 R w) : Calls Try.prog 31 #[.pointer o1, .int .u64 a3, .slice a0 a2 a1, .slice a4 a6 a5] w fun e w' => ∃ v, e = .returned v ∧ R v w' :=
  Q0j follows (H := []) (args := [.pointer o1, .int .u64 a3, .slice a0 a2 a1, .slice a4 a6 a5]) (cast (by kernel_rfl) h)

def oWrap.M (o1 : Option Addr) (a3 ab : Int) (R : RW) (w : World) : Prop :=
 bif Option.isNone o1 then (
 R (.tuple #[.slice none 0 0, .int .i64 23]) w) else (
 o1.elim False fun a4 =>
 ∃ (a2 : Option Nat), w.cell? (a4.add 6) = some (.map a2) ∧
 ∃ (v6 : Int) (v7 : Bool), (Instr.lookup 96 (.map a2) (.int .u64 a3) true).run Try.prog w = .ok (.tuple #[.int .u64 v6, .bool v7]) w ∧
 bif !v7 then (
 R (.tuple #[.slice none 0 0, .int .i64 20]) w) else (
 o1.elim False fun a8 =>
 ∃ (a9 : Option Nat), w.cell? (a8.add 4) = some (.map a9) ∧
 ∃ (ag : Bool), (Instr.lookup 94 (.map a9) (.int .u64 ab) false).run Try.prog w = .ok (.bool ag) w ∧
 bif !ag then (
 R (.tuple #[.slice none 0 0, .int .i64 11]) w) else (
 Calls Try.prog 37 #[.pointer o1] w fun ad aa => ∃ (a1 : Int), ad = .returned (.int .u64 a1) ∧
 o1.elim False fun ah =>
 ∃ (a0 : Option Nat), aa.cell? (ah.add 10) = some (.map a0) ∧
 ∃ ac : World, (Instr.mapUpdate 100 (.map a0) (.int .u64 a1) (.agg #[.int .u64 a3, .int .u64 ab])).run Try.prog aa = .ok () ac ∧
 Calls Try.prog 66 #[.int .u64 a1, .int .i64 8] ac fun ae af => ∃ (a5 : Option Addr) (a7 a6 : Nat), ae = .returned (.slice a5 a7 a6) ∧
 R (.tuple #[.slice a5 a7 a6, .int .i64 0]) af)))

theorem oWrap.ok (o1 : Option Addr) (a0 a1 : Int) {R : RW} {w : World} (h : oWrap.M o1 a0 a1 R w) : Calls Try.prog 41 #[.pointer o1, .int .u64 a0, .int .u64 a1] w fun e w' => ∃ v, e = .returned v ∧ R v w' :=
  Q0j follows (H := []) (args := [.pointer o1, .int .u64 a0, .int .u64 a1]) (cast (by kernel_rfl) h)

def oUnwrap.M (o1 : Option Addr) (ac : Int) (av : Option Addr) (aq ay : Nat) (R : RW) (w : World) : Prop :=
 bif Option.isNone o1 then (
 R (.tuple #[.int .u64 0, .int .i64 23]) w) else (
 thenW (w.drew) fun ah =>
 o1.elim False fun a5 =>
 ∃ (a0 : Option Nat), ah.cell? (a5.add 10) = some (.map a0) ∧
 (Calls Try.prog 69 #[.slice av aq ay] ah fun b0 ag => ∃ (a8 : Int), b0 = .returned (.int .u64 a8) ∧
 ag.cell? (a5.add 10) = some (.map a0) ∧
 ∃ (a1 af : Int) (ar : Bool), (Instr.lookup 100 (.map a0) (.int .u64 a8) true).run Try.prog ag = .ok (.tuple #[.agg #[.int .u64 a1, .int .u64 af], .bool ar]) ag ∧
 thenW (ag.alloc (.cells #[.int .u64 0, .int .u64 0] 144)) fun ad =>
 (Instr.lookup 100 (.map a0) (.int .u64 a8) true).run Try.prog ad = .ok (.tuple #[.agg #[.int .u64 a1, .int .u64 af], .bool ar]) ad ∧
 ad.cell? (a5.add 10) = some (.map a0) ∧
 Q0d ad ((blk ag.heap.size).add 0) ∧
 thenW (ad.setCell ((blk ag.heap.size).add 0) (.int .u64 a1)) fun ao =>
 Q0d ao ((blk ag.heap.size).add 1) ∧
 thenW (ao.setCell ((blk ag.heap.size).add 1) (.int .u64 af)) fun al =>
 bif !ar then (
 R (.tuple #[.int .u64 0, .int .i64 4]) al) else (
 bif (aq : Int) != 16 then (
 R (.tuple #[.int .u64 0, .int .i64 4]) al) else (
 thenW (al.drew) fun aa =>
 o1.elim False fun b1 =>
 ∃ (a6 : Option Nat), aa.cell? (b1.add 6) = some (.map a6) ∧
 ∃ (a3 : Int), aa.cell? ((blk ag.heap.size).add 0) = some (.int .u64 a3) ∧
 ∃ (aw : Int), (Instr.lookup 96 (.map a6) (.int .u64 a3) false).run Try.prog aa = .ok (.int .u64 aw) aa ∧
 bif aw != ac then (
 R (.tuple #[.int .u64 0, .int .i64 11]) aa) else (
 ∃ (aj : Int), aa.cell? ((blk ag.heap.size).add 1) = some (.int .u64 aj) ∧
 R (.tuple #[.int .u64 aj, .int .i64 0]) aa)))) ∧
 (thenW (ah.alloc (.cells #[.int .u64 0, .int .u64 0] 144)) fun an =>
 an.cell? (a5.add 10) = some (.map a0) ∧
 Calls Try.prog 69 #[.slice av aq ay] an fun au ae => ∃ (a9 : Int), au = .returned (.int .u64 a9) ∧
 ae.cell? (a5.add 10) = some (.map a0) ∧
 ∃ (a4 ai : Int) (ax : Bool), (Instr.lookup 100 (.map a0) (.int .u64 a9) true).run Try.prog ae = .ok (.tuple #[.agg #[.int .u64 a4, .int .u64 ai], .bool ax]) ae ∧
 Q0d ae ((blk ah.heap.size).add 0) ∧
 thenW (ae.setCell ((blk ah.heap.size).add 0) (.int .u64 a4)) fun ap =>
 Q0d ap ((blk ah.heap.size).add 1) ∧
 thenW (ap.setCell ((blk ah.heap.size).add 1) (.int .u64 ai)) fun am =>
 bif !ax then (
 R (.tuple #[.int .u64 0, .int .i64 4]) am) else (
 bif (aq : Int) != 16 then (
 R (.tuple #[.int .u64 0, .int .i64 4]) am) else (
 thenW (am.drew) fun ab =>
 o1.elim False fun b2 =>
 ∃ (a7 : Option Nat), ab.cell? (b2.add 6) = some (.map a7) ∧
 ∃ (a2 : Int), ab.cell? ((blk ah.heap.size).add 0) = some (.int .u64 a2) ∧
 ∃ (az : Int), (Instr.lookup 96 (.map a7) (.int .u64 a2) false).run Try.prog ab = .ok (.int .u64 az) ab ∧
 bif az != ac then (
 R (.tuple #[.int .u64 0, .int .i64 11]) ab) else (
 ∃ (ak : Int), ab.cell? ((blk ah.heap.size).add 1) = some (.int .u64 ak) ∧
 R (.tuple #[.int .u64 ak, .int .i64 0]) ab)))))

theorem oUnwrap.ok (o1 : Option Addr) (a0 : Int) (a1 : Option Addr) (a3 a2 : Nat) {R : RW} {w : World} (h : oUnwrap.M o1 a0 a1 a3 a2 R w) : Calls Try.prog 59 #[.pointer o1, .int .u64 a0, .slice a1 a3 a2] w fun e w' => ∃ v, e = .returned v ∧ R v w' :=
  Q0j follows (H := []) (args := [.pointer o1, .int .u64 a0, .slice a1 a3 a2]) (cast (by kernel_rfl) h)

def oBox.M (h1 a0 : Int) (R : RW) (w : World) : Prop :=
 ∃ (a2 : Option Addr) (a4 a5 : Nat) (a6 : World), (Instr.makeSlice 25 (.int .i64 (IntKind.i64.wrap ((8 : Int) + a0))) (.int .i64 (IntKind.i64.wrap ((8 : Int) + a0)))).run Try.prog w = .ok (.slice a2 a4 a5) a6 ∧
 ∃ (I0 : Nat → List Value → World → Prop) (m6 : Nat), I0 m6 [.int .i64 0] a6 ∧ ∀ (m7 : Nat) (a1 : World) (t5 : Int), I0 m7 [.int .i64 t5] a1 →
 bif decide (t5 < 8) then (
 0 ≤ ((IntKind.i64.wrap ((56 : Int) - (IntKind.i64.wrap ((8 : Int) * t5)))) : Int) ∧
 a2.elim False fun a9 =>
 0 ≤ (t5 : Int) ∧ (t5 : Int) < (a4 : Int) ∧
 Q0d a1 ((a9.add (Int.toNat t5 * 1)).add 0) ∧
 thenW (a1.setCell ((a9.add (Int.toNat t5 * 1)).add 0) (.int .u8 (IntKind.u8.wrap (Int.fdiv h1 (2 ^ (min (Int.toNat (IntKind.i64.wrap ((56 : Int) - (IntKind.i64.wrap ((8 : Int) * t5))))) (IntKind.bits .u64))))))) fun a3 =>
 ∃ a7, a7 < m7 ∧ I0 a7 [.int .i64 (IntKind.i64.wrap (t5 + 1))] a3) else (
 R (.slice a2 a4 a5) a1)

theorem oBox.ok (h1 a0 : Int) {R : RW} {w : World} (h : oBox.M h1 a0 R w) : Calls Try.prog 66 #[.int .u64 h1, .int .i64 a0] w fun e w' => ∃ v, e = .returned v ∧ R v w' :=
  Q0j follows (H := [(0, [0, 5], [(10, (.one (.int .i64)))])]) (args := [.int .u64 h1, .int .i64 a0]) (cast (by kernel_rfl) h)

def oHandle.M (a1 : Option Addr) (a4 a3 : Nat) (R : RW) (w : World) : Prop :=
 bif decide ((a4 : Int) < 8) then (
 R (.int .u64 0) w) else (
 (0 : Int) ≤ (8 : Int) ∧ (8 : Int) ≤ (a4 : Int) ∧
 Calls Try.prog 90 #[.slice (if a3 = Int.toNat 8 then a1 else Option.map (fun z : Addr => z.add ((Int.toNat 8) * 1)) a1) (a4 - (Int.toNat 8)) (a3 - (Int.toNat 8)), .func (.func 91) #[] #[]] w fun a9 a6 => ∃ (a0 : Bool), a9 = .returned (.bool a0) ∧
 bif a0 then (
 R (.int .u64 0) a6) else (
 (0 : Int) ≤ (8 : Int) ∧ (8 : Int) ≤ (a3 : Int) ∧
 ∃ (I0 : Nat → List Value → World → Prop) (m7 : Nat), I0 m7 [.int .u64 0, .int .i64 0] a6 ∧ ∀ (m8 : Nat) (a2 : World) (n5 t6 : Int), I0 m8 [.int .u64 n5, .int .i64 t6] a2 →
 bif decide (t6 < (((Int.toNat 8) - 0 : Nat) : Int)) then (
 (if a3 = 0 then a1 else Option.map (fun z : Addr => z.add (0 * 1)) a1).elim False fun a8 =>
 0 ≤ (t6 : Int) ∧ (t6 : Int) < (((Int.toNat 8) - 0 : Nat) : Int) ∧
 ∃ (a7 : Int), a2.cell? (a8.add (Int.toNat t6 * 1)) = some (.int .u8 a7) ∧
 0 ≤ (8 : Int) ∧
 ∃ a5, a5 < m8 ∧ I0 a5 [.int .u64 (IntKind.u64.wrap ((BitVec.ofInt (IntKind.bits .u64) (IntKind.u64.wrap (n5 * 2 ^ (min (Int.toNat 8) (IntKind.bits .u64)))) ||| BitVec.ofInt (IntKind.bits .u64) (IntKind.u64.wrap a7)).toNat)), .int .i64 (IntKind.i64.wrap (t6 + 1))] a2) else (
 R (.int .u64 n5) a2)))

theorem oHandle.ok (a2 : Option Addr) (a0 a1 : Nat) {R : RW} {w : World} (h : oHandle.M a2 a0 a1 R w) : Calls Try.prog 69 #[.slice a2 a0 a1] w fun e w' => ∃ v, e = .returned v ∧ R v w' :=
  Q0j follows (H := [(0, [15, 16], [(3, (.one (.int .u64))), (17, (.one (.int .i64)))])]) (args := [.slice a2 a0 a1]) (cast (by kernel_rfl) h)

def hNz.M (c1 : Int) (R : RW) (w : World) : Prop :=
 R (.bool (c1 != 0)) w

theorem hNz.ok (c1 : Int) {R : RW} {w : World} (h : hNz.M c1 R w) : Calls Try.prog 91 #[.int .u8 c1] w fun e w' => ∃ v, e = .returned v ∧ R v w' :=
  Q0j follows (H := []) (args := [.int .u8 c1]) (cast (by kernel_rfl) h)

def bClass.M (n1 : Int) (R : RW) (w : World) : Prop :=
 ∃ (I0 : Nat → List Value → World → Prop) (m3 : Nat), I0 m3 [.int .i64 0] w ∧ ∀ (m4 : Nat) (a1 : World) (t2 : Int), I0 m4 [.int .i64 t2] a1 →
 bif decide (t2 < 7) then (
 bif decide (n1 ≥ 0) then (
 Calls Try.prog 34 #[.int .i64 t2] a1 fun a4 a3 => ∃ (a0 : Int), a4 = .returned (.int .i64 a0) ∧
 bif decide (n1 ≤ a0) then (
 R (.int .i64 t2) a3) else (
 ∃ m9, m9 < m4 ∧ I0 m9 [.int .i64 (IntKind.i64.wrap (t2 + 1))] a3)) else (
 ∃ a2, a2 < m4 ∧ I0 a2 [.int .i64 (IntKind.i64.wrap (t2 + 1))] a1)) else (
 R (.int .i64 (-1)) a1)

theorem bClass.ok (n1 : Int) {R : RW} {w : World} (h : bClass.M n1 R w) : Calls Try.prog 13 #[.int .i64 n1] w fun e w' => ∃ v, e = .returned v ∧ R v w' :=
  Q0j follows (H := [(0, [0], [(4, (.one (.int .i64)))])]) (args := [.int .i64 n1]) (cast (by kernel_rfl) h)

def bSize.M (c1 : Int) (R : RW) (w : World) : Prop :=
 Calls Try.prog 71 #[.int .i64 c1] w fun a2 a1 => ∃ (a0 : Int), a2 = .returned (.int .i64 a0) ∧
 R (.int .i64 a0) a1

theorem bSize.ok (c1 : Int) {R : RW} {w : World} (h : bSize.M c1 R w) : Calls Try.prog 33 #[.int .i64 c1] w fun e w' => ∃ v, e = .returned v ∧ R v w' :=
  Q0j follows (H := []) (args := [.int .i64 c1]) (cast (by kernel_rfl) h)

def bsize.M (c1 : Int) (R : RW) (w : World) : Prop :=
 bif decide (c1 < 0) then (
 R (.int .i64 0) w) else (
 bif decide (c1 ≥ 7) then (
 R (.int .i64 0) w) else (
 0 ≤ (c1 : Int) ∧
 R (.int .i64 (IntKind.i64.wrap (16 * 2 ^ (min (Int.toNat c1) (IntKind.bits .i64))))) w))

theorem bsize.ok (c1 : Int) {R : RW} {w : World} (h : bsize.M c1 R w) : Calls Try.prog 71 #[.int .i64 c1] w fun e w' => ∃ v, e = .returned v ∧ R v w' :=
  Q0j follows (H := []) (args := [.int .i64 c1]) (cast (by kernel_rfl) h)

def broom.M (c1 : Int) (R : RW) (w : World) : Prop :=
 Calls Try.prog 71 #[.int .i64 c1] w fun a2 a1 => ∃ (a0 : Int), a2 = .returned (.int .i64 a0) ∧
 bif decide ((IntKind.i64.wrap (a0 - 1)) ≥ 128) then (
 R (.int .i64 (IntKind.i64.wrap ((IntKind.i64.wrap (a0 - 1)) - 1))) a1) else (
 R (.int .i64 (IntKind.i64.wrap (a0 - 1))) a1)

theorem broom.ok (c1 : Int) {R : RW} {w : World} (h : broom.M c1 R w) : Calls Try.prog 34 #[.int .i64 c1] w fun e w' => ∃ v, e = .returned v ∧ R v w' :=
  Q0j follows (H := []) (args := [.int .i64 c1]) (cast (by kernel_rfl) h)

def bEqual.M (a2 : Option Addr) (a1 a0 : Nat) (a3 : Option Addr) (a5 a4 : Nat) (R : RW) (w : World) : Prop :=
 ∃ (s3 : ByteArray), (convert 25 9 (.slice a2 a1 a0)).run Try.prog w = .ok (.string s3) w ∧
 ∃ (s4 : ByteArray), (convert 25 9 (.slice a3 a5 a4)).run Try.prog w = .ok (.string s4) w ∧
 R (.bool (s3.toList == s4.toList)) w

theorem bEqual.ok (a2 : Option Addr) (a1 a0 : Nat) (a3 : Option Addr) (a5 a4 : Nat) {R : RW} {w : World} (h : bEqual.M a2 a1 a0 a3 a5 a4 R w) : Calls Try.prog 70 #[.slice a2 a1 a0, .slice a3 a5 a4] w fun e w' => ∃ v, e = .returned v ∧ R v w' :=
  Q0j follows (H := []) (args := [.slice a2 a1 a0, .slice a3 a5 a4]) (cast (by kernel_rfl) h)

def bCF.M (a3 : Option Addr) (a8 a2 a4 : Nat) (a6 a5 : Array Value) (R : RW) (w : World) : Prop :=
 Calls Try.prog 97 #[.slice a3 a8 a2, .func (.func a4) a6 a5] w fun a1 a7 => ∃ (a0 : Int), a1 = .returned (.int .i64 a0) ∧
 R (.bool (decide (a0 ≥ 0))) a7

theorem bCF.ok (a1 : Option Addr) (a5 a0 a2 : Nat) (a4 a3 : Array Value) {R : RW} {w : World} (h : bCF.M a1 a5 a0 a2 a4 a3 R w) : Calls Try.prog 90 #[.slice a1 a5 a0, .func (.func a2) a4 a3] w fun e w' => ∃ v, e = .returned v ∧ R v w' :=
  Q0j follows (H := []) (args := [.slice a1 a5 a0, .func (.func a2) a4 a3]) (cast (by kernel_rfl) h)

def bIF.M (ab : Option Addr) (aa ac a4 : Nat) (a9 a8 : Array Value) (R : RW) (w : World) : Prop :=
 ∃ (I0 : Nat → List Value → World → Prop) (m4 : Nat), I0 m4 [.int .i64 0] w ∧ ∀ (m5 : Nat) (a2 : World) (t3 : Int), I0 m5 [.int .i64 t3] a2 →
 bif decide (t3 < (aa : Int)) then (
 ab.elim False fun a7 =>
 0 ≤ (t3 : Int) ∧ (t3 : Int) < (aa : Int) ∧
 ∃ (x8 : Int), a2.cell? (a7.add (Int.toNat t3 * 1)) = some (.int .u8 x8) ∧
 bif enters Try.prog a4 then Calls Try.prog a4 (a9.toList ++ ([.int .u8 x8] : List Value) ++ a8.toList).toArray a2 (fun a3 a1 => ∃ (r9 : Bool), a3 = .returned (.bool r9) ∧
 bif r9 then (
 R (.int .i64 t3) a1) else (
 ∃ a5, a5 < m5 ∧ I0 a5 [.int .i64 (IntKind.i64.wrap (t3 + 1))] a1)) else (∃ (r9 : Bool) (a0 : World), (Q1i a4 (a9.toList ++ ([.int .u8 x8] : List Value) ++ a8.toList).toArray).run Try.prog a2 = .ok (.bool r9) a0 ∧
 bif r9 then (
 R (.int .i64 t3) a0) else (
 ∃ a6, a6 < m5 ∧ I0 a6 [.int .i64 (IntKind.i64.wrap (t3 + 1))] a0))) else (
 R (.int .i64 (-1)) a2)

theorem bIF.ok (a1 : Option Addr) (a5 a0 a2 : Nat) (a4 a3 : Array Value) {R : RW} {w : World} (h : bIF.M a1 a5 a0 a2 a4 a3 R w) : Calls Try.prog 97 #[.slice a1 a5 a0, .func (.func a2) a4 a3] w fun e w' => ∃ v, e = .returned v ∧ R v w' :=
  Q0j follows (H := [(0, [0, 1, 7], [(8, (.one (.int .i64)))])]) (args := [.slice a1 a5 a0, .func (.func a2) a4 a3]) (cast (by kernel_rfl) h)

theorem inf36 : (Try.prog.info? 36).map (fun i => (i.zero, i.size, i.bytes)) = some (some (.int .u64 0), 1, 8) := by kernel_rfl
theorem inf4 : (Try.prog.info? 4).map (fun i => (i.zero, i.size, i.bytes)) = some (some (.bool false), 1, 1) := by kernel_rfl
set_option linter.unusedSectionVars false

structure Sealed where
  key : Int
  bound : List UInt8
  plain : List UInt8
structure OS where
  draws : List Int
  used : List Int
  next : Int
  hashes : List (List UInt8 × Int)
  keys : List Int
  secrets : List Int
  publics : List (Int × Int)
  signs : List ((Int × List UInt8) × Int)
  signed : List (Int × (Int × List UInt8))
  sealed : List (Int × Sealed)
  wrapped : List (Int × (Int × Int))

structure OG where
  p : Nat
  used : Nat
  hashes : Nat
  keys : Nat
  secrets : Nat
  publics : Nat
  signs : Nat
  signed : Nat
  sealed : Nat
  wrapped : Nat
  x : Nat → Prop
def OG.list (g : OG) : List Nat := [g.p, g.used, g.hashes, g.keys, g.secrets, g.publics, g.signs, g.signed, g.sealed, g.wrapped]
def OG.m (g : OG) : Nat → Prop := fun b => b ∈ g.list
def OG.M (g : OG) : Nat → Prop := fun b => g.m b ∨ g.x b

def u64V (n : Int) : Value := .int .u64 n
def signedV (x : Int × List UInt8) : Value := .agg #[.int .u64 x.1, strV x.2]
def bset (l : List Int) : List (Int × Value) := l.map fun n => (n, .bool true)
def SealedV (w : World) (m : Nat → Prop) (s : Sealed) (v : Value) : Prop :=
  ∃ ba bc pa pc, v = .agg #[.int .u64 s.key, .slice ba s.bound.length bc, .slice pa s.plain.length pc] ∧ RowAt w ba (bytesV s.bound) ∧ (bytesV s.bound ≠ [] → Out m ba) ∧ RowAt w pa (bytesV s.plain) ∧ (bytesV s.plain ≠ [] → Out m pa)
def SealedL (w : World) (m : Nat → Prop) : List (Int × Sealed) → List (Int × Value) → Prop
  | [], [] => True
  | p :: r, q :: s => p.1 = q.1 ∧ SealedV w m p.2 q.2 ∧ SealedL w m r s
  | _, _ => False

def OrcP (w : World) (g : OG) (draws : List Int) (next : Int) : Prop :=
  ∃ da dc, Blk w g.p 102 [.slice da draws.length dc, .map (some g.used), .int .u64 next, .map (some g.hashes), .map (some g.keys), .map (some g.secrets), .map (some g.publics), .map (some g.signs), .map (some g.signed), .map (some g.sealed), .map (some g.wrapped)] ∧
    draws.length ≤ dc ∧ RowAt w da (draws.map u64V) ∧ (draws.map u64V ≠ [] → Out g.M da)

structure Orc (w : World) (g : OG) (S : OS) : Prop where
  nd : g.list.Nodup
  st : OrcP w g S.draws S.next
  used : MapIs w g.used u64V (bset S.used)
  hashes : MapIs w g.hashes strV (S.hashes.map fun p => (p.1, u64V p.2))
  keys : MapIs w g.keys u64V (bset S.keys)
  secrets : MapIs w g.secrets u64V (bset S.secrets)
  publics : MapIs w g.publics u64V (S.publics.map fun p => (p.1, u64V p.2))
  signs : MapIs w g.signs signedV (S.signs.map fun p => (p.1, u64V p.2))
  signed : MapIs w g.signed u64V (S.signed.map fun p => (p.1, signedV p.2))
  sealed : ∃ lv, MapIs w g.sealed u64V lv ∧ SealedL w g.M S.sealed lv
  wrapped : MapIs w g.wrapped u64V (S.wrapped.map fun p => (p.1, .agg #[.int .u64 p.2.1, .int .u64 p.2.2]))
  xm : ∀ b, g.m b → ¬ g.x b
  xlt : ∀ b, g.x b → b < w.heap.size

theorem SealedL.ext {w w' : World} {m n : Nat → Prop} (k : Ext n w w') (hn : ∀ b, n b → m b) : ∀ {l : List (Int × Sealed)} {lv : List (Int × Value)}, SealedL w m l lv → SealedL w' m l lv
  | [], [], _ => trivial
  | p :: r, q :: s, h => by
    obtain ⟨h1, ⟨ba, bc, pa, pc, hv, h2, h3, h4, h5⟩, h6⟩ := h
    exact ⟨h1, ⟨ba, bc, pa, pc, hv, h2.ext' k (fun h0 ad ha hb => h3 h0 ad ha (hn _ hb)), h3, h4.ext' k (fun h0 ad ha hb => h5 h0 ad ha (hn _ hb)), h5⟩, SealedL.ext k hn h6⟩
  | [], _ :: _, h => h.elim
  | _ :: _, [], h => h.elim
theorem OrcP.ext {w w' : World} {g : OG} {d : List Int} {x : Int} {n : Nat → Prop} (h : OrcP w g d x) (k : Ext n w w') (hn : ∀ b, n b → g.M b) (hp : ¬ n g.p) : OrcP w' g d x := by
  obtain ⟨da, dc, h1, h2, h3, h4⟩ := h
  exact ⟨da, dc, h1.ext k hp, h2, h3.ext' k (fun h0 ad ha hb => h4 h0 ad ha (hn _ hb)), h4⟩

section
variable {w w' : World} {g : OG} {S : OS}
theorem m_list {g : OG} : g.m g.p ∧ g.m g.used ∧ g.m g.hashes ∧ g.m g.keys ∧ g.m g.secrets ∧ g.m g.publics ∧ g.m g.signs ∧ g.m g.signed ∧ g.m g.sealed ∧ g.m g.wrapped := by simp [OG.m, OG.list]
theorem Orc.ext {m : Nat → Prop} (h : Orc w g S) (k : Ext m w w') (hd : ∀ b, b < w.heap.size → m b → g.x b) : Orc w' g S := by
  have k' : Ext g.x w w' := k.mono fun b hb hlt => hd b hlt hb
  obtain ⟨lv, h1, h2⟩ := h.sealed
  obtain ⟨q1, q2, q3, q4, q5, q6, q7, q8, q9, q10⟩ := m_list (g := g)
  exact ⟨h.nd, h.st.ext k' (fun b hb => .inr hb) (h.xm _ q1), h.used.ext k' (h.xm _ q2), h.hashes.ext k' (h.xm _ q3), h.keys.ext k' (h.xm _ q4), h.secrets.ext k' (h.xm _ q5), h.publics.ext k' (h.xm _ q6), h.signs.ext k' (h.xm _ q7), h.signed.ext k' (h.xm _ q8), ⟨lv, h1.ext k' (h.xm _ q9), h2.ext k' fun b hb => .inr hb⟩, h.wrapped.ext k' (h.xm _ q10), h.xm, fun b hb => Nat.lt_of_lt_of_le (h.xlt b hb) k.size⟩
theorem Orc.none (h : Orc w g S) (k : Ext no w w') : Orc w' g S := h.ext k fun b _ hb => hb.elim
theorem Orc.mlt (h : Orc w g S) : ∀ b, g.m b → b < w.heap.size := fun b hb => by
  obtain ⟨da, dc, hp, _⟩ := h.st
  obtain ⟨lv, hse, _⟩ := h.sealed
  simp only [OG.m, OG.list, List.mem_cons, List.not_mem_nil, or_false] at hb
  rcases hb with rfl | rfl | rfl | rfl | rfl | rfl | rfl | rfl | rfl | rfl
  · exact hp.lt
  · exact h.used.lt
  · exact h.hashes.lt
  · exact h.keys.lt
  · exact h.secrets.lt
  · exact h.publics.lt
  · exact h.signs.lt
  · exact h.signed.lt
  · exact hse.lt
  · exact h.wrapped.lt
def OG.more (g : OG) (w w' : World) : OG := { g with x := fun b => g.x b ∨ (w.heap.size ≤ b ∧ b < w'.heap.size) }
theorem SealedL.wide {w : World} {m n : Nat → Prop} (hn : ∀ b, n b → m b ∨ w.heap.size ≤ b) : ∀ {l : List (Int × Sealed)} {lv : List (Int × Value)}, SealedL w m l lv → SealedL w n l lv
  | [], [], _ => trivial
  | p :: r, q :: s, h => by
    obtain ⟨h1, ⟨ba, bc, pa, pc, hv, h2, h3, h4, h5⟩, h6⟩ := h
    refine ⟨h1, ⟨ba, bc, pa, pc, hv, h2, fun h0 ad ha hb => ?_, h4, fun h0 ad ha hb => ?_⟩, SealedL.wide hn h6⟩
    · rcases hn _ hb with h | h
      · exact h3 h0 ad ha h
      · have := h2.lt h0 ha; omega
    · rcases hn _ hb with h | h
      · exact h5 h0 ad ha h
      · have := h4.lt h0 ha; omega
  | [], _ :: _, h => h.elim
  | _ :: _, [], h => h.elim
theorem Orc.foreign {n : Nat → Prop} (h : Orc w g S) (k : Ext n w w') (hd : ∀ b, b < w.heap.size → n b → g.x b) : Orc w' (g.more w w') S := by
  have hw := h.ext k hd
  have k' : Ext g.x w w' := k.mono fun b hb hlt => hd b hlt hb
  have hM : ∀ b, (g.more w w').M b → g.M b ∨ w.heap.size ≤ b := fun b hb => by
    rcases hb with hb | hb | hb
    · exact .inl (.inl hb)
    · exact .inl (.inr hb)
    · exact .inr hb.1
  obtain ⟨lv, h1, h2⟩ := h.sealed
  obtain ⟨lv', h1', h2'⟩ := hw.sealed
  obtain ⟨da, dc, hp, h3, h4, h5⟩ := h.st
  refine ⟨hw.nd, ⟨da, dc, hp.ext k' (h.xm _ m_list.1), h3, h4.ext' k' (fun h0 ad ha hb => h5 h0 ad ha (.inr hb)), fun h0 ad ha hb => ?_⟩, hw.used, hw.hashes, hw.keys, hw.secrets, hw.publics, hw.signs, hw.signed,
    ⟨lv, h1.ext k' (h.xm _ m_list.2.2.2.2.2.2.2.2.1), (h2.wide hM).ext k' fun b hb => .inr (.inl hb)⟩, hw.wrapped, fun b hb hx => ?_, fun b hb => ?_⟩
  · rcases hM _ hb with h | h
    · exact h5 h0 ad ha h
    · have := h4.lt h0 ha; omega
  · rcases hx with hx | hx
    · exact h.xm b hb hx
    · have := h.mlt b hb; omega
  · rcases hb with hb | hb
    · exact Nat.lt_of_lt_of_le (h.xlt b hb) k.size
    · exact hb.2
theorem nd_ne (h : Orc w g S) : g.p ≠ g.used ∧ g.p ≠ g.hashes ∧ g.p ≠ g.keys ∧ g.p ≠ g.secrets ∧ g.p ≠ g.publics ∧ g.p ≠ g.signs ∧ g.p ≠ g.signed ∧ g.p ≠ g.sealed ∧ g.p ≠ g.wrapped ∧
    g.used ≠ g.hashes ∧ g.used ≠ g.keys ∧ g.used ≠ g.secrets ∧ g.used ≠ g.publics ∧ g.used ≠ g.signs ∧ g.used ≠ g.signed ∧ g.used ≠ g.sealed ∧ g.used ≠ g.wrapped ∧
    g.hashes ≠ g.keys ∧ g.hashes ≠ g.secrets ∧ g.hashes ≠ g.publics ∧ g.hashes ≠ g.signs ∧ g.hashes ≠ g.signed ∧ g.hashes ≠ g.sealed ∧ g.hashes ≠ g.wrapped ∧
    g.keys ≠ g.secrets ∧ g.keys ≠ g.publics ∧ g.keys ≠ g.signs ∧ g.keys ≠ g.signed ∧ g.keys ≠ g.sealed ∧ g.keys ≠ g.wrapped ∧
    g.secrets ≠ g.publics ∧ g.secrets ≠ g.signs ∧ g.secrets ≠ g.signed ∧ g.secrets ≠ g.sealed ∧ g.secrets ≠ g.wrapped ∧
    g.publics ≠ g.signs ∧ g.publics ≠ g.signed ∧ g.publics ≠ g.sealed ∧ g.publics ≠ g.wrapped ∧
    g.signs ≠ g.signed ∧ g.signs ≠ g.sealed ∧ g.signs ≠ g.wrapped ∧ g.signed ≠ g.sealed ∧ g.signed ≠ g.wrapped ∧ g.sealed ≠ g.wrapped := by
  have := h.nd
  simp only [OG.list, List.nodup_cons, List.mem_cons, not_or, List.not_mem_nil, not_false_eq_true, List.nodup_nil, and_true] at this
  simp only [this, ne_eq, not_false_eq_true, and_self]

theorem one_sub {g : OG} {b : Nat} (hb : b ∈ g.list) : ∀ c, (fun x => x = b) c → g.M c := fun c hc => by subst hc; exact .inl hb

theorem Orc.set_used (h : Orc w g S) (k : Ext (fun b => b = g.used) w w') {l : List Int} (hl : MapIs w' g.used u64V (bset l)) : Orc w' g { S with used := l } := by
  have hn := nd_ne h
  have hs := one_sub (g := g) (b := g.used) (by simp [OG.list])
  obtain ⟨lv, h1, h2⟩ := h.sealed
  exact ⟨h.nd, h.st.ext k hs (by simp_all), hl, h.hashes.ext k (by simp_all [eq_comm]), h.keys.ext k (by simp_all [eq_comm]), h.secrets.ext k (by simp_all [eq_comm]), h.publics.ext k (by simp_all [eq_comm]), h.signs.ext k (by simp_all [eq_comm]), h.signed.ext k (by simp_all [eq_comm]), ⟨lv, h1.ext k (by simp_all [eq_comm]), h2.ext k hs⟩, h.wrapped.ext k (by simp_all [eq_comm]), h.xm, fun b hb => Nat.lt_of_lt_of_le (h.xlt b hb) k.size⟩
theorem Orc.set_keys (h : Orc w g S) (k : Ext (fun b => b = g.keys) w w') {l : List Int} (hl : MapIs w' g.keys u64V (bset l)) : Orc w' g { S with keys := l } := by
  have hn := nd_ne h
  have hs := one_sub (g := g) (b := g.keys) (by simp [OG.list])
  obtain ⟨lv, h1, h2⟩ := h.sealed
  exact ⟨h.nd, h.st.ext k hs (by simp_all), h.used.ext k (by simp_all [eq_comm]), h.hashes.ext k (by simp_all [eq_comm]), hl, h.secrets.ext k (by simp_all [eq_comm]), h.publics.ext k (by simp_all [eq_comm]), h.signs.ext k (by simp_all [eq_comm]), h.signed.ext k (by simp_all [eq_comm]), ⟨lv, h1.ext k (by simp_all [eq_comm]), h2.ext k hs⟩, h.wrapped.ext k (by simp_all [eq_comm]), h.xm, fun b hb => Nat.lt_of_lt_of_le (h.xlt b hb) k.size⟩
theorem Orc.set_secrets (h : Orc w g S) (k : Ext (fun b => b = g.secrets) w w') {l : List Int} (hl : MapIs w' g.secrets u64V (bset l)) : Orc w' g { S with secrets := l } := by
  have hn := nd_ne h
  have hs := one_sub (g := g) (b := g.secrets) (by simp [OG.list])
  obtain ⟨lv, h1, h2⟩ := h.sealed
  exact ⟨h.nd, h.st.ext k hs (by simp_all), h.used.ext k (by simp_all [eq_comm]), h.hashes.ext k (by simp_all [eq_comm]), h.keys.ext k (by simp_all [eq_comm]), hl, h.publics.ext k (by simp_all [eq_comm]), h.signs.ext k (by simp_all [eq_comm]), h.signed.ext k (by simp_all [eq_comm]), ⟨lv, h1.ext k (by simp_all [eq_comm]), h2.ext k hs⟩, h.wrapped.ext k (by simp_all [eq_comm]), h.xm, fun b hb => Nat.lt_of_lt_of_le (h.xlt b hb) k.size⟩
theorem Orc.set_publics (h : Orc w g S) (k : Ext (fun b => b = g.publics) w w') {l : List (Int × Int)} (hl : MapIs w' g.publics u64V (l.map fun p => (p.1, u64V p.2))) : Orc w' g { S with publics := l } := by
  have hn := nd_ne h
  have hs := one_sub (g := g) (b := g.publics) (by simp [OG.list])
  obtain ⟨lv, h1, h2⟩ := h.sealed
  exact ⟨h.nd, h.st.ext k hs (by simp_all), h.used.ext k (by simp_all [eq_comm]), h.hashes.ext k (by simp_all [eq_comm]), h.keys.ext k (by simp_all [eq_comm]), h.secrets.ext k (by simp_all [eq_comm]), hl, h.signs.ext k (by simp_all [eq_comm]), h.signed.ext k (by simp_all [eq_comm]), ⟨lv, h1.ext k (by simp_all [eq_comm]), h2.ext k hs⟩, h.wrapped.ext k (by simp_all [eq_comm]), h.xm, fun b hb => Nat.lt_of_lt_of_le (h.xlt b hb) k.size⟩
theorem Orc.set_wrapped (h : Orc w g S) (k : Ext (fun b => b = g.wrapped) w w') {l : List (Int × (Int × Int))} (hl : MapIs w' g.wrapped u64V (l.map fun p => (p.1, .agg #[.int .u64 p.2.1, .int .u64 p.2.2]))) : Orc w' g { S with wrapped := l } := by
  have hn := nd_ne h
  have hs := one_sub (g := g) (b := g.wrapped) (by simp [OG.list])
  obtain ⟨lv, h1, h2⟩ := h.sealed
  exact ⟨h.nd, h.st.ext k hs (by simp_all), h.used.ext k (by simp_all [eq_comm]), h.hashes.ext k (by simp_all [eq_comm]), h.keys.ext k (by simp_all [eq_comm]), h.secrets.ext k (by simp_all [eq_comm]), h.publics.ext k (by simp_all [eq_comm]), h.signs.ext k (by simp_all [eq_comm]), h.signed.ext k (by simp_all [eq_comm]), ⟨lv, h1.ext k (by simp_all [eq_comm]), h2.ext k hs⟩, hl, h.xm, fun b hb => Nat.lt_of_lt_of_le (h.xlt b hb) k.size⟩
theorem Orc.set_sealed (h : Orc w g S) (k : Ext (fun b => b = g.sealed) w w') {l : List (Int × Sealed)} {lv : List (Int × Value)} (hl : MapIs w' g.sealed u64V lv) (hv : SealedL w' g.M l lv) : Orc w' g { S with sealed := l } := by
  have hn := nd_ne h
  have hs := one_sub (g := g) (b := g.sealed) (by simp [OG.list])
  exact ⟨h.nd, h.st.ext k hs (by simp_all), h.used.ext k (by simp_all [eq_comm]), h.hashes.ext k (by simp_all [eq_comm]), h.keys.ext k (by simp_all [eq_comm]), h.secrets.ext k (by simp_all [eq_comm]), h.publics.ext k (by simp_all [eq_comm]), h.signs.ext k (by simp_all [eq_comm]), h.signed.ext k (by simp_all [eq_comm]), ⟨lv, hl, hv⟩, h.wrapped.ext k (by simp_all [eq_comm]), h.xm, fun b hb => Nat.lt_of_lt_of_le (h.xlt b hb) k.size⟩
theorem Orc.set_p (h : Orc w g S) (k : Ext (fun b => b = g.p) w w') {d : List Int} {x : Int} (hl : OrcP w' g d x) : Orc w' g { S with draws := d, next := x } := by
  have hn := nd_ne h
  have hs := one_sub (g := g) (b := g.p) (by simp [OG.list])
  obtain ⟨lv, h1, h2⟩ := h.sealed
  exact ⟨h.nd, hl, h.used.ext k (by simp_all [eq_comm]), h.hashes.ext k (by simp_all [eq_comm]), h.keys.ext k (by simp_all [eq_comm]), h.secrets.ext k (by simp_all [eq_comm]), h.publics.ext k (by simp_all [eq_comm]), h.signs.ext k (by simp_all [eq_comm]), h.signed.ext k (by simp_all [eq_comm]), ⟨lv, h1.ext k (by simp_all [eq_comm]), h2.ext k hs⟩, h.wrapped.ext k (by simp_all [eq_comm]), h.xm, fun b hb => Nat.lt_of_lt_of_le (h.xlt b hb) k.size⟩
end

theorem Q2D {l : List Int} {h : Int} : mlook (bset l) h = if h ∈ l then some (.bool true) else none := by
  induction l with
  | nil => rfl
  | cons a r ih =>
    simp only [bset, List.map_cons, mlook] at ih ⊢
    by_cases ha : a = h
    · simp [ha]
    · simp only [ha, if_false, List.mem_cons, Ne.symm ha, false_or]; exact ih
theorem Q4m {l : List Int} {h : Int} (hn : h ∉ l) : mput (bset l) h (.bool true) = bset (l ++ [h]) := by
  induction l with
  | nil => rfl
  | cons a r ih =>
    simp only [List.mem_cons, not_or] at hn
    simp only [bset, List.map_cons, List.cons_append, mput, Ne.symm hn.1, if_false] at ih ⊢
    rw [ih hn.2]
theorem Q4i {l : List Int} {h : Int} (hn : h ∈ l) : mput (bset l) h (.bool true) = bset l := by
  induction l with
  | nil => cases hn
  | cons a r ih =>
    simp only [bset, List.map_cons, mput] at ih ⊢
    by_cases ha : a = h
    · simp [ha]
    · simp only [ha, if_false]
      rw [ih (by rcases List.mem_cons.1 hn with h | h; exact absurd h.symm ha; exact h)]

/-! ### lists of pairs -/
section
variable {κ β : Type} [DecidableEq κ]
def alook : List (κ × β) → κ → Option β
  | [], _ => none
  | p :: r, x => if p.1 = x then some p.2 else alook r x
def aput : List (κ × β) → κ → β → List (κ × β)
  | [], x, v => [(x, v)]
  | p :: r, x, v => if p.1 = x then (x, v) :: r else p :: aput r x v
theorem Q2r (f : β → Value) : ∀ (l : List (κ × β)) (x : κ), mlook (l.map fun p => (p.1, f p.2)) x = (alook l x).map f
  | [], x => rfl
  | p :: r, x => by
    simp only [List.map_cons, mlook, alook]
    by_cases h : p.1 = x
    · simp [h]
    · simp only [h, if_false]; exact Q2r f r x
theorem Q43 (f : β → Value) : ∀ (l : List (κ × β)) (x : κ) (v : β), mput (l.map fun p => (p.1, f p.2)) x (f v) = (aput l x v).map fun p => (p.1, f p.2)
  | [], x, v => rfl
  | p :: r, x, v => by
    simp only [List.map_cons, mput, aput]
    by_cases h : p.1 = x
    · simp [h]
    · simp only [h, if_false, List.map_cons]; rw [Q43 f r x v]
theorem Q1j : ∀ (l : List (κ × β)) (x y : κ) (v : β), alook (aput l x v) y = if x = y then some v else alook l y
  | [], x, y, v => rfl
  | p :: r, x, y, v => by
    simp only [aput]
    by_cases h : p.1 = x
    · subst h; simp only [if_true, alook]; split <;> rfl
    · simp only [h, if_false, alook, Q1j r x y v]
      by_cases h2 : p.1 = y
      · subst h2; simp [Ne.symm h]
      · simp [h2]
end

/-! ### a fresh handle -/
def pickD : List Int → List Int → Option (Int × List Int)
  | [], _ => none
  | h :: r, used => if h = 0 ∨ h ∈ used then pickD r used else some (h, r)
def pickN (used : List Int) : Nat → Int → Int
  | 0, n => n
  | k + 1, n => if n = 0 ∨ n ∈ used then pickN used k (n + 1) else n
def freshOf (S : OS) : Int × OS :=
  match pickD S.draws S.used with
  | some (h, r) => (h, { S with draws := r, used := S.used ++ [h] })
  | none => let h := pickN S.used (S.used.length + 1) S.next; (h, { S with draws := [], next := h, used := S.used ++ [h] })
def OS.ok (S : OS) : Prop := 1 ≤ S.next ∧ (∀ n, 1 ≤ n → n < S.next → n ∈ S.used) ∧ S.next ≤ S.used.length + 1 ∧ ∀ d ∈ S.draws, 0 ≤ d ∧ d < 18446744073709551616

theorem Q1o (used : List Int) : ∀ (k : Nat) (n : Int), 1 ≤ n → (∃ m, n ≤ m ∧ m < n + k ∧ m ∉ used) →
    n ≤ pickN used k n ∧ pickN used k n < n + k ∧ pickN used k n ∉ used ∧ pickN used k n ≠ 0 ∧ ∀ m, n ≤ m → m < pickN used k n → m ∈ used
  | 0, n, h1, ⟨m, h2, h3, _⟩ => by omega
  | k + 1, n, h1, ⟨m, h2, h3, h4⟩ => by
    simp only [pickN]
    by_cases hn : n = 0 ∨ n ∈ used
    · rw [if_pos hn]
      have hn' : n ∈ used := hn.resolve_left (by omega)
      have hm : m ≠ n := fun e => h4 (e ▸ hn')
      obtain ⟨a, b, c, d, e⟩ := Q1o used k (n + 1) (by omega) ⟨m, by omega, by omega, h4⟩
      refine ⟨by omega, by omega, c, d, fun q hq1 hq2 => ?_⟩
      by_cases hqn : q = n
      · subst hqn; exact hn'
      · exact e q (by omega) hq2
    · rw [if_neg hn]
      rw [not_or] at hn
      exact ⟨by omega, by omega, hn.2, hn.1, fun q h1 h2 => by omega⟩

theorem gap (used : List Int) : ∀ (k : Nat) (n : Int), used.length < k → ∃ m, n ≤ m ∧ m < n + k ∧ m ∉ used := by
  induction used with
  | nil => intro k n hk; exact ⟨n, by omega, by simp at hk; omega, by simp⟩
  | cons a r ih =>
    intro k n hk
    simp only [List.length_cons] at hk
    -- numbers below and above a
    by_cases ha : n ≤ a ∧ a < n + k
    · by_cases hr : (r.length : Int) < a - n
      · obtain ⟨m, h1, h2, h3⟩ := ih (a - n).toNat n (by omega)
        exact ⟨m, h1, by omega, by simp only [List.mem_cons, not_or]; exact ⟨by omega, h3⟩⟩
      · -- count below and above together: move the numbers above a down by one
        obtain ⟨m, h1, h2, h3⟩ : ∃ m, n ≤ m ∧ m < n + (k - 1 : Nat) ∧ m ∉ r.map (fun x => if a < x then x - 1 else x) := by
          have hl : (r.map (fun x => if a < x then x - 1 else x)).length < k - 1 := by simp; omega
          have : ∀ (l : List Int) (k : Nat), l.length < k → ∃ m, n ≤ m ∧ m < n + k ∧ m ∉ l := by
            intro l
            induction hq : l.length generalizing l with
            | zero =>
              intro k hk
              have : l = [] := List.eq_nil_of_length_eq_zero hq
              subst this; exact ⟨n, by omega, by omega, by simp⟩
            | succ q ihq =>
              intro k hk
              by_cases hall : ∃ m, n ≤ m ∧ m < n + k ∧ m ∉ l
              · exact hall
              · exfalso
                -- the last number is in l: strike it
                have hlast : (n + k - 1) ∈ l := by
                  by_cases h : (n + k - 1) ∈ l
                  · exact h
                  · exact absurd ⟨n + k - 1, by omega, by omega, h⟩ hall
                have hlen : (l.erase (n + k - 1)).length = q := by rw [List.length_erase_of_mem hlast, hq]; rfl
                obtain ⟨m, h1, h2, h3⟩ := ihq (l.erase (n + k - 1)) hlen (k - 1) (by omega)
                refine hall ⟨m, h1, by omega, fun hm => h3 ?_⟩
                exact (List.mem_erase_of_ne (by omega)).2 hm
          exact this _ _ hl
        by_cases hma : m < a
        · refine ⟨m, h1, by omega, ?_⟩
          simp only [List.mem_cons, not_or]
          refine ⟨by omega, fun hm => h3 ?_⟩
          exact List.mem_map.2 ⟨m, hm, by rw [if_neg (by omega)]⟩
        · refine ⟨m + 1, by omega, by omega, ?_⟩
          simp only [List.mem_cons, not_or]
          refine ⟨by omega, fun hm => h3 ?_⟩
          exact List.mem_map.2 ⟨m + 1, hm, by rw [if_pos (by omega)]; omega⟩
    · obtain ⟨m, h1, h2, h3⟩ := ih k n (by omega)
      exact ⟨m, h1, h2, by simp only [List.mem_cons, not_or]; exact ⟨by omega, h3⟩⟩

theorem Q2g {d used : List Int} {h : Int} {r : List Int} (hp : pickD d used = some (h, r)) : h ≠ 0 ∧ h ∉ used ∧ h ∈ d := by
  induction d with
  | nil => simp [pickD] at hp
  | cons a d ih =>
    simp only [pickD] at hp
    by_cases ha : a = 0 ∨ a ∈ used
    · rw [if_pos ha] at hp
      obtain ⟨h1, h2, h3⟩ := ih hp
      exact ⟨h1, h2, List.mem_cons_of_mem _ h3⟩
    · rw [if_neg ha] at hp
      simp only [Option.some.injEq, Prod.mk.injEq] at hp
      rw [not_or] at ha
      exact ⟨hp.1 ▸ ha.1, hp.1 ▸ ha.2, hp.1 ▸ List.mem_cons_self⟩

theorem Q3H {d used : List Int} {h : Int} {r : List Int} (hp : pickD d used = some (h, r)) : ∀ x ∈ r, x ∈ d := by
  induction d with
  | nil => simp [pickD] at hp
  | cons a d ih =>
    simp only [pickD] at hp
    by_cases ha : a = 0 ∨ a ∈ used
    · rw [if_pos ha] at hp
      exact fun x hx => List.mem_cons_of_mem _ (ih hp x hx)
    · rw [if_neg ha] at hp
      simp only [Option.some.injEq, Prod.mk.injEq] at hp
      rw [← hp.2]
      exact fun x hx => List.mem_cons_of_mem _ hx
theorem Q3c {S : OS} (h : S.ok) (hl : S.used.length < 1000000) : 0 < (freshOf S).1 ∧ (freshOf S).1 < 18446744073709551616 := by
  obtain ⟨h1, h2, h3, h4⟩ := h
  unfold freshOf
  cases hp : pickD S.draws S.used with
  | some q =>
    obtain ⟨x, r⟩ := q
    obtain ⟨a, b, c⟩ := Q2g hp
    have := h4 x c
    exact ⟨by show 0 < x; omega, this.2⟩
  | none =>
    obtain ⟨a, b, c, d, e⟩ := Q1o S.used (S.used.length + 1) S.next h1 (gap S.used _ _ (by omega))
    exact ⟨by show 0 < pickN _ _ _; omega, by show pickN _ _ _ < _; omega⟩
theorem Q1e {S : OS} (h : S.ok) : (freshOf S).1 ≠ 0 ∧ (freshOf S).1 ∉ S.used ∧ (freshOf S).2.used = S.used ++ [(freshOf S).1] ∧ (freshOf S).2.ok := by
  obtain ⟨h1, h2, h3, h4⟩ := h
  unfold freshOf
  cases hp : pickD S.draws S.used with
  | some q =>
    obtain ⟨x, r⟩ := q
    obtain ⟨a, b, _⟩ := Q2g hp
    exact ⟨a, b, rfl, h1, fun n hn1 hn2 => List.mem_append_left _ (h2 n hn1 hn2), by simp; omega, fun d hd => h4 d (Q3H hp d hd)⟩
  | none =>
    obtain ⟨a, b, c, d, e⟩ := Q1o S.used (S.used.length + 1) S.next h1 (gap S.used _ _ (by omega))
    refine ⟨d, c, rfl, by show 1 ≤ pickN _ _ _; omega, fun n hn1 hn2 => ?_, ?_, fun d hd => by cases hd⟩
    · refine List.mem_append_left _ ?_
      by_cases hlt : n < S.next
      · exact h2 n hn1 hlt
      · exact e n (by omega) hn2
    · -- all numbers from 1 on below it are used, and they are apart
      show pickN S.used (S.used.length + 1) S.next ≤ ((S.used ++ [_]).length : Int) + 1
      have hall : ∀ m, 1 ≤ m → m < pickN S.used (S.used.length + 1) S.next → m ∈ S.used := fun m h1' h2' => by
        by_cases hlt : m < S.next
        · exact h2 m h1' hlt
        · exact e m (by omega) h2'
      by_cases hle : pickN S.used (S.used.length + 1) S.next ≤ (S.used.length : Int) + 2
      · simp; omega
      · obtain ⟨m, q1, q2, q3⟩ := gap S.used (S.used.length + 1) 1 (by omega)
        exact absurd (hall m q1 (by omega)) q3

theorem Q0Q (S : OS) : (freshOf S).2.hashes = S.hashes ∧ (freshOf S).2.keys = S.keys ∧ (freshOf S).2.secrets = S.secrets ∧ (freshOf S).2.publics = S.publics ∧
    (freshOf S).2.signs = S.signs ∧ (freshOf S).2.signed = S.signed ∧ (freshOf S).2.sealed = S.sealed ∧ (freshOf S).2.wrapped = S.wrapped := by
  unfold freshOf
  cases pickD S.draws S.used with
  | some q => exact ⟨rfl, rfl, rfl, rfl, rfl, rfl, rfl, rfl⟩
  | none => exact ⟨rfl, rfl, rfl, rfl, rfl, rfl, rfl, rfl⟩

def OS.init (l : List Int) : OS := ⟨l, [], 1, [], [], [], [], [], [], [], []⟩
theorem OS.init_ok (l : List Int) (hl : ∀ d ∈ l, 0 ≤ d ∧ d < 18446744073709551616) : (OS.init l).ok := ⟨Int.le_refl _, fun n h1 h2 => by simp only [OS.init] at h2; omega, by simp [OS.init], hl⟩
def badd (l : List Int) (x : Int) : List Int := if x ∈ l then l else l ++ [x]
theorem Q4F (l : List Int) (x : Int) : mput (bset l) x (.bool true) = bset (badd l x) := by
  unfold badd
  split
  · exact Q4i ‹_›
  · exact Q4m ‹_›
def keyOf (S : OS) : Int × OS := ((freshOf S).1, { (freshOf S).2 with keys := badd S.keys (freshOf S).1 })
theorem Q48 {S : OS} (h : S.ok) : (keyOf S).2.ok ∧ (keyOf S).2.used.length ≤ S.used.length + 1 := by
  obtain ⟨_, _, h3, h4⟩ := Q1e h
  exact ⟨h4, by show (freshOf S).2.used.length ≤ _; rw [h3]; simp⟩

def pairOf (S : OS) : (Int × Int) × OS :=
  let S1 := { (freshOf S).2 with secrets := badd S.secrets (freshOf S).1 }
  (((freshOf S).1, (freshOf S1).1), { (freshOf S1).2 with publics := aput S.publics (freshOf S1).1 (freshOf S).1 })
theorem Q2v {S : OS} (h : S.ok) : (pairOf S).2.ok ∧ (pairOf S).2.used.length ≤ S.used.length + 2 := by
  obtain ⟨_, _, h3, h4⟩ := Q1e h
  have h5 : OS.ok { (freshOf S).2 with secrets := badd S.secrets (freshOf S).1 } := h4
  obtain ⟨_, _, h6, h7⟩ := Q1e h5
  exact ⟨h7, by show (freshOf _).2.used.length ≤ _; rw [h6]; show ((freshOf S).2.used ++ _).length ≤ _; rw [h3]; simp⟩
theorem Q4W {S : OS} (h : S.ok) : (pairOf S).1.1 ≠ 0 ∧ (pairOf S).1.2 ≠ 0 ∧ (pairOf S).1.1 ∉ S.used ∧ (pairOf S).1.2 ∉ S.used ∧ (pairOf S).1.1 ≠ (pairOf S).1.2 ∧ (pairOf S).2.used = S.used ++ [(pairOf S).1.1] ++ [(pairOf S).1.2] ∧
    (pairOf S).2.secrets = badd S.secrets (pairOf S).1.1 ∧ (pairOf S).2.publics = aput S.publics (pairOf S).1.2 (pairOf S).1.1 ∧
    (pairOf S).2.hashes = S.hashes ∧ (pairOf S).2.keys = S.keys ∧ (pairOf S).2.signs = S.signs ∧ (pairOf S).2.signed = S.signed ∧ (pairOf S).2.sealed = S.sealed ∧ (pairOf S).2.wrapped = S.wrapped := by
  obtain ⟨a1, a2, a3, a4⟩ := Q1e h
  have h5 : OS.ok { (freshOf S).2 with secrets := badd S.secrets (freshOf S).1 } := a4
  obtain ⟨b1, b2, b3, b4⟩ := Q1e h5
  obtain ⟨c1, c2, c3, c4, c5, c6, c7, c8⟩ := Q0Q S
  obtain ⟨d1, d2, d3, d4, d5, d6, d7, d8⟩ := Q0Q { (freshOf S).2 with secrets := badd S.secrets (freshOf S).1 }
  have hu : ({ (freshOf S).2 with secrets := badd S.secrets (freshOf S).1 } : OS).used = S.used ++ [(freshOf S).1] := a3
  rw [hu] at b2 b3
  simp only [List.mem_append, List.mem_singleton, not_or] at b2
  exact ⟨a1, b1, a2, b2.1, fun e => b2.2 e.symm, b3, d3, rfl, d1.trans c1, d2.trans c2, d5.trans c5, d6.trans c6, d7.trans c7, d8.trans c8⟩

theorem SealedL.look {w : World} {m : Nat → Prop} : ∀ {l : List (Int × Sealed)} {lv : List (Int × Value)}, SealedL w m l lv → ∀ x, (alook l x = none ∧ mlook lv x = none) ∨ ∃ s v, alook l x = some s ∧ mlook lv x = some v ∧ SealedV w m s v
  | [], [], _, x => .inl ⟨rfl, rfl⟩
  | p :: r, q :: s, h, x => by
    obtain ⟨h1, h2, h3⟩ := h
    simp only [alook, mlook, ← h1]
    by_cases hp : p.1 = x
    · rw [if_pos hp, if_pos hp]; exact .inr ⟨_, _, rfl, rfl, h2⟩
    · rw [if_neg hp, if_neg hp]; exact SealedL.look h3 x
  | [], _ :: _, h, _ => h.elim
  | _ :: _, [], h, _ => h.elim
theorem SealedL.put {w : World} {m : Nat → Prop} {x : Int} {t : Sealed} {v : Value} (hv : SealedV w m t v) : ∀ {l : List (Int × Sealed)} {lv : List (Int × Value)}, SealedL w m l lv → SealedL w m (aput l x t) (mput lv x v)
  | [], [], _ => ⟨rfl, hv, trivial⟩
  | p :: r, q :: s, h => by
    obtain ⟨h1, h2, h3⟩ := h
    simp only [aput, mput, ← h1]
    by_cases hp : p.1 = x
    · rw [if_pos hp, if_pos hp]; exact ⟨rfl, hv, h3⟩
    · rw [if_neg hp, if_neg hp]; exact ⟨h1, h2, SealedL.put hv h3⟩
  | [], _ :: _, h => h.elim
  | _ :: _, [], h => h.elim
theorem Orc.ltM {w : World} {g : OG} {S : OS} (h : Orc w g S) : ∀ b, g.M b → b < w.heap.size := fun b hb => hb.elim (h.mlt b) (h.xlt b)

theorem keysU : Keys Try.prog 36 u64V := Q6G Try.underlying36
def Gives (v : Value) (Q : World → Prop) (e : Ending) (w' : World) : Prop := e = .returned v ∧ Q w'

section
variable {w w' : World} {g : OG} {S : OS}
theorem Orc.pCell (h : Orc w g S) {i : Nat} {v : Value} (hv : ∀ da dc, ([.slice da S.draws.length dc, .map (some g.used), .int .u64 S.next, .map (some g.hashes), .map (some g.keys), .map (some g.secrets), .map (some g.publics), .map (some g.signs), .map (some g.signed), .map (some g.sealed), .map (some g.wrapped)] : List Value)[i]? = some v) :
    w.cell? ((blk g.p).add i) = some v := by
  obtain ⟨da, dc, hb, _⟩ := h.st
  exact hb.cella (hv da dc)

theorem m_used : g.m g.used := by simp [OG.m, OG.list]
theorem m_p : g.m g.p := by simp [OG.m, OG.list]
theorem m_keys : g.m g.keys := by simp [OG.m, OG.list]
theorem Q63 : g.m g.secrets := by simp [OG.m, OG.list]
theorem Q5Q : g.m g.publics := by simp [OG.m, OG.list]

theorem take_no (h : Orc w g S) {x : Int} (hx : x = 0 ∨ x ∈ S.used) :
    Calls Try.prog 72 #[.pointer (some (blk g.p)), .int .u64 x] w (Gives (.bool false) fun w' => w' = w) := by
  refine (oTake.ok _ _ (R := fun v w' => v = .bool false ∧ w' = w) ?_).mono fun e w' ⟨v, he, hv, hw⟩ => ⟨by rw [he, hv], hw⟩
  unfold oTake.M
  by_cases h0 : x = 0
  · subst h0; exact ⟨rfl, rfl⟩
  · have hx' : x ∈ S.used := hx.resolve_left h0
    have : (x == 0) = false := by simpa using h0
    rw [this]
    obtain ⟨i, hi, hz, _⟩ := info_of inf4
    have hl := h.used.lookup keysU Try.underlying94 hi hz x false
    rw [Q2D, if_pos hx'] at hl
    exact ⟨some g.used, h.pCell fun _ _ => rfl, true, hl, rfl, rfl⟩
theorem Q57 (h : Orc w g S) {x : Int} (h0 : x ≠ 0) (hx : x ∉ S.used) :
    Calls Try.prog 72 #[.pointer (some (blk g.p)), .int .u64 x] w (Gives (.bool true) fun w' => Orc w' g { S with used := S.used ++ [x] } ∧ Ext g.m w w') := by
  refine (oTake.ok _ _ (R := fun v w' => v = .bool true ∧ Orc w' g { S with used := S.used ++ [x] } ∧ Ext g.m w w') ?_).mono fun e w' ⟨v, he, hv, hw⟩ => ⟨by rw [he, hv], hw⟩
  unfold oTake.M
  have : (x == 0) = false := by simpa using h0
  rw [this]
  obtain ⟨i, hi, hz, _⟩ := info_of inf4
  have hl := h.used.lookup keysU Try.underlying94 hi hz x false
  rw [Q2D, if_neg hx] at hl
  obtain ⟨w1, hr, hm, hext⟩ := h.used.update keysU Try.underlying94 x (.bool true)
  rw [Q4m hx] at hm
  exact ⟨some g.used, h.pCell fun _ _ => rfl, false, hl, some g.used, h.pCell fun _ _ => rfl, w1, hr, rfl, h.set_used (hext _ rfl) hm, hext _ m_used⟩

theorem Q1Q (h : Orc w g S) (hok : S.ok) (hlen : S.used.length < 1000000) :
    Calls Try.prog 37 #[.pointer (some (blk g.p))] w (Gives (u64V (freshOf S).1) fun w' => Orc w' g (freshOf S).2 ∧ Ext g.m w w') := by
  refine (oFresh.ok _ (R := fun v w' => v = u64V (freshOf S).1 ∧ Orc w' g (freshOf S).2 ∧ Ext g.m w w') ?_).mono fun e w' ⟨v, he, hv, hw⟩ => ⟨by rw [he, hv], hw⟩
  unfold oFresh.M
  refine ⟨fun k vs w1 => ∃ d, k = d.length ∧ Orc w1 g { S with draws := d } ∧ pickD d S.used = pickD S.draws S.used ∧ Ext g.m w w1, S.draws.length, ⟨S.draws, rfl, h, rfl, Ext.refl _ _⟩, ?_⟩
  rintro k w1 ⟨d, rfl, h1, hp, hx⟩
  obtain ⟨da, dc, hb, hle, hrow, hout⟩ := h1.st
  refine ⟨da, d.length, dc, hb.cella rfl, ?_⟩
  cases d with
  | nil =>
    -- the counter
    simp only [List.length_nil, Int.natCast_zero, gt_iff_lt, Int.lt_irrefl, decide_false, cond_false]
    have hf : freshOf S = (pickN S.used (S.used.length + 1) S.next, { S with draws := [], next := pickN S.used (S.used.length + 1) S.next, used := S.used ++ [pickN S.used (S.used.length + 1) S.next] }) := by
      simp [freshOf, ← hp, pickD]
    obtain ⟨q1, q2, q3, q4⟩ := hok
    obtain ⟨a1, a2, a3, a4, a5⟩ := Q1o S.used (S.used.length + 1) S.next q1 (gap S.used _ _ (by omega))
    rw [hf]
    generalize hN : pickN S.used (S.used.length + 1) S.next = N at *
    refine ⟨fun k vs w1 => ∃ n, S.next ≤ n ∧ n ≤ N ∧ k = (N - n).toNat ∧ Orc w1 g { S with draws := [], next := n } ∧ Ext g.m w w1, (N - S.next).toNat, ⟨S.next, Int.le_refl _, a1, rfl, h1, hx⟩, ?_⟩
    rintro k w2 ⟨n, hn1, hn2, rfl, h2, hx2⟩
    refine ⟨n, h2.pCell fun _ _ => rfl, ?_⟩
    by_cases hn : n = N
    · subst hn
      refine (Q57 h2 a4 a3).mono fun e w3 ⟨he, h3, hx3⟩ => ⟨true, he, ?_⟩
      exact ⟨n, h3.pCell fun _ _ => rfl, rfl, h3, hx2.trans hx3⟩
    · refine (take_no h2 (.inr (a5 n hn1 (by omega)))).mono fun e w3 ⟨he, hw3⟩ => ⟨false, he, ?_⟩
      subst hw3
      obtain ⟨da2, dc2, hb2, hle2, hrow2, hout2⟩ := h2.st
      have hwr : IntKind.u64.wrap (n + 1) = n + 1 := by
        simp only [IntKind.wrap, IntKind.bits, IntKind.signed]
        simp
        omega
      refine ⟨n, h2.pCell fun _ _ => rfl, hb2.cana (i := 2) rfl, Q01 fun w4 hw4 => ?_⟩
      rw [hwr] at hw4
      have hext : Ext (fun b => b = g.p) w3 w4 := by
        subst hw4; exact (Ext.refl _ _).setCell (.inl (by rw [add_zero, add_blk])) _
      have hb4 := hb2.seta 2 (.int .u64 (n + 1))
      refine ⟨(N - (n + 1)).toNat, by omega, n + 1, by omega, by omega, rfl, ?_, hx2.trans (hext.mono fun b hb _ => by subst hb; exact m_p)⟩
      refine h2.set_p hext ⟨da2, dc2, ?_, hle2, RowAt.nil _ _, hout2⟩
      subst hw4
      exact hb4
  | cons x r =>
    have hpos : decide (((x :: r).length : Int) > 0) = true := by simp
    rw [hpos]
    have hcell : w1.cell? (((blk g.p).add 0)) = some (.slice da (x :: r).length dc) := hb.cella rfl
    obtain ⟨ad, rfl⟩ := hrow.addr (by simp)
    have hx0 : w1.cell? (ad.add (Int.toNat 0 * 1)) = some (.int .u64 x) := hrow.at_ (i := 0) rfl
    refine ⟨_, _, dc, hcell, Int.le_refl _, by show (0 : Int) < ((x :: r).length : Int); rw [List.length_cons]; omega, x, hx0, _, _, dc, hcell, by omega, by show (1 : Int) ≤ ((x :: r).length : Int); rw [List.length_cons]; omega, hb.cana (i := 0) rfl, Q01 fun w2 hw2 => ?_⟩
    have hext : Ext (fun b => b = g.p) w1 w2 := by
      subst hw2; exact (Ext.refl _ _).setCell (.inl (by rw [add_zero, add_blk])) _
    have hb2 := hb.seta 0 (.slice (if dc = Int.toNat 1 then some ad else Option.map (fun z : Addr => z.add ((Int.toNat 1) * 1)) (some ad)) ((x :: r).length - (Int.toNat 1)) (dc - (Int.toNat 1)))
    have hxm : Ext g.m w w2 := hx.trans (hext.mono fun b hb _ => by subst hb; exact m_p)
    have hrow2 : RowAt w1 (if dc = 1 then some ad else Option.map (·.add 1) (some ad)) (r.map u64V) := by
      have := hrow.drop 1 dc (fun e => by simp only [List.length_cons, List.length_map] at hle ⊢; omega)
      simpa using this
    have hout2 : r.map u64V ≠ [] → Out g.M (if dc = 1 then some ad else Option.map (·.add 1) (some ad)) := fun _ q hq => by
      split at hq
      · exact hout (by simp) q hq
      · simp only [Option.map_some, Option.some.injEq] at hq
        subst hq; rw [Q17]; exact hout (by simp) ad rfl
    have h2 : Orc w2 g { S with draws := r } := by
      refine h1.set_p (x := S.next) hext ⟨_, dc - 1, ?_, by simp at hle ⊢; omega, hrow2.ext' hext (fun h0 q hq hb => hout2 h0 q hq (.inl (by rw [hb]; exact m_p))), hout2⟩
      subst hw2
      exact hb2
    by_cases hxu : x = 0 ∨ x ∈ S.used
    · refine (take_no h2 hxu).mono fun e w3 ⟨he, hw3⟩ => ⟨false, he, ?_⟩
      subst hw3
      exact ⟨r.length, by simp, r, rfl, h2, by rw [← hp]; simp [pickD, hxu], hxm⟩
    · rw [not_or] at hxu
      refine (Q57 h2 hxu.1 hxu.2).mono fun e w3 ⟨he, h3, hx3⟩ => ⟨true, he, ?_⟩
      have hf : freshOf S = (x, { S with draws := r, used := S.used ++ [x] }) := by
        simp [freshOf, ← hp, pickD, hxu]
      rw [hf]
      exact ⟨rfl, h3, hxm.trans hx3⟩

theorem u64_one (l : List Int) : ∀ u ∈ l.map u64V, u.oneCell' = true := fun u hu => by
  obtain ⟨b, _, rfl⟩ := List.mem_map.1 hu; rfl
theorem Q4j {a : Option Addr} {c : Nat} {l : List Int} (h : RowAt w a (l.map u64V)) (hl : l.length ≤ 1000000) :
    Calls Try.prog 36 #[.slice a l.length c] w (fun e w' => ∃ a' c', e = .returned (.slice a' l.length c') ∧ l.length ≤ c' ∧ RowAt w' a' (l.map u64V) ∧ Ext no w w' ∧ Fresh w w' a') := by
  refine (clone64.ok a l.length c (R := fun v w' => ∃ a' c', v = (.slice a' l.length c') ∧ l.length ≤ c' ∧ RowAt w' a' (l.map u64V) ∧ Ext no w w' ∧ Fresh w w' a') ?_).mono fun e w' ⟨v, he, a', c', hv, hw⟩ => ⟨a', c', by rw [he, hv], hw⟩
  unfold clone64.M
  cases a with
  | none =>
    have : l = [] := by simpa using h.none_nil
    subst this
    exact ⟨none, 0, rfl, Nat.le_refl _, RowAt.nil _ _, Ext.refl _ _, fun ad ha => by cases ha⟩
  | some ad =>
    rw [Option.isNone_some, cond_false]
    refine Q01 fun w2 hw2 => ?_
    subst hw2
    obtain ⟨i, hi, hz, hs, hb⟩ := info_of inf36
    obtain ⟨a', c', w', hr, h1, h2, h3, h4⟩ := Q4y (c := c) (m := l.length) (ty := 22) Try.underlying22 hi hz hs hb rfl (by simp) h (u64_one l) (by omega) (by omega)
    exact ⟨a', l.length, c', w', hr, a', c', rfl, h1, h2, h3, h4⟩
theorem Q1A {a : Option Addr} {c : Nat} {l : List UInt8} (h : RowAt w a (bytesV l)) (hl : l.length ≤ 1000000) :
    Calls Try.prog 60 #[.slice a l.length c] w (fun e w' => ∃ a' c', e = .returned (.slice a' l.length c') ∧ l.length ≤ c' ∧ RowAt w' a' (bytesV l) ∧ Ext no w w' ∧ Fresh w w' a') := by
  refine (cloneB.ok a l.length c (R := fun v w' => ∃ a' c', v = (.slice a' l.length c') ∧ l.length ≤ c' ∧ RowAt w' a' (bytesV l) ∧ Ext no w w' ∧ Fresh w w' a') ?_).mono fun e w' ⟨v, he, a', c', hv, hw⟩ => ⟨a', c', by rw [he, hv], hw⟩
  unfold cloneB.M
  cases a with
  | none =>
    have : l = [] := by simpa [bytesV] using h.none_nil
    subst this
    exact ⟨none, 0, rfl, Nat.le_refl _, RowAt.nil _ _, Ext.refl _ _, fun ad ha => by cases ha⟩
  | some ad =>
    rw [Option.isNone_some, cond_false]
    refine Q01 fun w2 hw2 => ?_
    subst hw2
    obtain ⟨i, hi, hz, hs, hb⟩ := info_of inf5
    obtain ⟨a', c', w', hr, h1, h2, h3, h4⟩ := Q4y (c := c) (m := l.length) (ty := 25) Try.underlying25 hi hz hs hb rfl (Q1k l) h (Q2C l) (by omega) (by omega)
    exact ⟨a', l.length, c', w', hr, a', c', rfl, h1, h2, h3, h4⟩

theorem new_map {κ : Type} [DecidableEq κ] (enc : κ → Value) {w1 w2 : World} (h : w2 = w1.alloc (.map #[] 0)) : MapIs w2 w1.heap.size enc [] ∧ Ext no w1 w2 ∧ w2.heap.size = w1.heap.size + 1 := by
  subst h; exact ⟨MapIs.new _ _, (Ext.refl _ _).alloc _, by simp⟩
theorem Q6g (x0 : Nat → Prop) (hx0 : ∀ b, x0 b → b < w.heap.size) {a : Option Addr} {c : Nat} {l : List Int} (h : RowAt w a (l.map u64V)) (hl : l.length ≤ 1000000) :
    Calls Try.prog 15 #[.slice a l.length c] w (fun e w' => ∃ g : OG, e = .returned (.pointer (some (blk g.p))) ∧ Orc w' g (OS.init l) ∧ Ext no w w' ∧ (∀ b, g.m b → w.heap.size ≤ b ∧ b < w'.heap.size) ∧ g.x = x0) := by
  refine (oNew.ok a l.length c (R := fun v w' => ∃ g : OG, v = (.pointer (some (blk g.p))) ∧ Orc w' g (OS.init l) ∧ Ext no w w' ∧ (∀ b, g.m b → w.heap.size ≤ b ∧ b < w'.heap.size) ∧ g.x = x0) ?_).mono fun e w' ⟨v, he, g, hv, hw⟩ => ⟨g, by rw [he, hv], hw⟩
  unfold oNew.M
  refine (Q4j h hl).mono fun e w4 ⟨a', c', he, hle, hrow, hx, hf⟩ => ⟨a', l.length, c', he, ?_⟩
  refine Q01 fun w5 h5 => Q01 fun w6 h6 => Q01 fun w7 h7 => Q01 fun w8 h8 => Q01 fun w9 h9 => Q01 fun w10 h10 => Q01 fun w11 h11 => Q01 fun w12 h12 => Q01 fun w13 h13 => Q01 fun w14 h14 => ?_
  obtain ⟨m5, e5, s5⟩ := new_map u64V h5
  obtain ⟨m6, e6, s6⟩ := new_map strV h6
  obtain ⟨m7, e7, s7⟩ := new_map u64V h7
  obtain ⟨m8, e8, s8⟩ := new_map u64V h8
  obtain ⟨m9, e9, s9⟩ := new_map u64V h9
  obtain ⟨m10, e10, s10⟩ := new_map signedV h10
  obtain ⟨m11, e11, s11⟩ := new_map u64V h11
  obtain ⟨m12, e12, s12⟩ := new_map u64V h12
  obtain ⟨m13, e13, s13⟩ := new_map u64V h13
  have e14 : Ext no w13 w14 := by rw [h14]; exact (Ext.refl _ _).alloc _
  have s14 : w14.heap.size = w13.heap.size + 1 := by rw [h14]; simp
  have x13 := e14
  have x12 := e13.trans x13
  have x11 := e12.trans x12
  have x10 := e11.trans x11
  have x9 := e10.trans x10
  have x8 := e9.trans x9
  have x7 := e8.trans x8
  have x6 := e7.trans x7
  have x5 := e6.trans x6
  have x4 := e5.trans x5
  have hsz := hx.size
  have hm : ∀ b, (OG.mk w13.heap.size w4.heap.size w5.heap.size w6.heap.size w7.heap.size w8.heap.size w9.heap.size w10.heap.size w11.heap.size w12.heap.size x0).m b → w4.heap.size ≤ b ∧ b < w14.heap.size := fun b hb => by
    simp only [OG.m, OG.list, List.mem_cons, List.not_mem_nil, or_false] at hb
    omega
  refine ⟨⟨w13.heap.size, w4.heap.size, w5.heap.size, w6.heap.size, w7.heap.size, w8.heap.size, w9.heap.size, w10.heap.size, w11.heap.size, w12.heap.size, x0⟩, rfl, ⟨?_, ?_, m5.ext x5 id, m6.ext x6 id, m7.ext x7 id, m8.ext x8 id, m9.ext x9 id, m10.ext x10 id, m11.ext x11 id, ⟨[], m12.ext x12 id, trivial⟩, m13.ext x13 id, fun b hb hxx => ?_, fun b hb => ?_⟩, hx.trans x4, fun b hb => ⟨?_, (hm b hb).2⟩, rfl⟩
  · simp only [OG.list, List.nodup_cons, List.mem_cons, not_or, List.not_mem_nil, not_false_eq_true, List.nodup_nil, and_true]
    omega
  · refine ⟨a', c', ?_, hle, hrow.ext x4 (fun _ _ h => h), fun _ => hf.out fun b hb => hb.elim (fun hb => .inr (hm b hb).1) (fun hb => .inl (hx0 b hb))⟩
    rw [h14]
    exact Blk.new _ _ _
  · have h1 := (hm b hb).1
    have h2 := hx0 b hxx
    omega
  · exact Nat.lt_of_lt_of_le (hx0 b hb) (hx.trans x4).size
  · exact Nat.le_trans hsz (hm b hb).1

theorem Q6t (h : Orc w g S) (hok : S.ok) (hlen : S.used.length < 1000000) :
    Calls Try.prog 39 #[.pointer (some (blk g.p))] w (Gives (u64V (keyOf S).1) fun w' => Orc w' g (keyOf S).2 ∧ Ext g.m w w') := by
  refine (oKey.ok _ (R := fun v w' => v = u64V (keyOf S).1 ∧ Orc w' g (keyOf S).2 ∧ Ext g.m w w') ?_).mono fun e w' ⟨v, he, hv, hw⟩ => ⟨by rw [he, hv], hw⟩
  unfold oKey.M
  refine (Q1Q h hok hlen).mono fun e w4 ⟨he, hO, hx⟩ => ⟨(freshOf S).1, he, ?_⟩
  obtain ⟨w7, hu, hm, hext⟩ := hO.keys.update keysU Try.underlying94 (freshOf S).1 (.bool true)
  rw [(Q0Q S).2.1, Q4F] at hm
  exact ⟨some g.keys, hO.pCell fun _ _ => rfl, w7, hu, rfl, hO.set_keys (hext _ rfl) hm, hx.trans (hext _ m_keys)⟩

end
section
variable {w w' : World} {g : OG} {S : OS}
theorem Q6K : g.m g.sealed := by simp [OG.m, OG.list]
theorem Q5U : g.m g.wrapped := by simp [OG.m, OG.list]

theorem Q68 (h : Orc w g S) (hok : S.ok) (hlen : S.used.length + 1 < 1000000) :
    Calls Try.prog 16 #[.pointer (some (blk g.p))] w (Gives (.tuple #[u64V (pairOf S).1.1, u64V (pairOf S).1.2]) fun w' => Orc w' g (pairOf S).2 ∧ Ext g.m w w') := by
  refine (oPair.ok _ (R := fun v w' => v = .tuple #[u64V (pairOf S).1.1, u64V (pairOf S).1.2] ∧ Orc w' g (pairOf S).2 ∧ Ext g.m w w') ?_).mono fun e w' ⟨v, he, hv, hw⟩ => ⟨by rw [he, hv], hw⟩
  unfold oPair.M
  refine (Q1Q h hok (by omega)).mono fun e w4 ⟨he, hO, hx⟩ => ⟨(freshOf S).1, he, ?_⟩
  obtain ⟨w7, hu, hm, hext⟩ := hO.secrets.update keysU Try.underlying94 (freshOf S).1 (.bool true)
  rw [(Q0Q S).2.2.1, Q4F] at hm
  have hO7 := hO.set_secrets (hext _ rfl) hm
  obtain ⟨_, _, h3, h4⟩ := Q1e hok
  refine ⟨some g.secrets, hO.pCell fun _ _ => rfl, w7, hu, ?_⟩
  refine (Q1Q hO7 h4 (by show (freshOf S).2.used.length < _; rw [h3]; simp; omega)).mono fun e w10 ⟨he, hO10, hx10⟩ => ⟨_, he, ?_⟩
  obtain ⟨w13, hu13, hm13, hext13⟩ := hO10.publics.update keysU Try.underlying96 (pairOf S).1.2 (u64V (freshOf S).1)
  rw [Q43, (Q0Q _).2.2.2.1] at hm13
  rw [show ({ (freshOf S).2 with secrets := badd S.secrets (freshOf S).1 } : OS).publics = S.publics from (Q0Q S).2.2.2.1] at hm13
  exact ⟨some g.publics, hO10.pCell fun _ _ => rfl, w13, hu13, rfl, hO10.set_publics (hext13 _ rfl) hm13, ((hx.trans (hext _ Q63)).trans hx10).trans (hext13 _ Q5Q)⟩

theorem Q5m (h : Orc w g S) (k : Int) : (Instr.lookup 94 (.map (some g.keys)) (.int .u64 k) false).run Try.prog w = .ok (.bool (decide (k ∈ S.keys))) w := by
  obtain ⟨i, hi, hz, _⟩ := info_of inf4
  have hl := h.keys.lookup keysU Try.underlying94 hi hz k false
  rw [Q2D] at hl
  refine hl.trans ?_
  by_cases hk : k ∈ S.keys
  · simp [hk]
  · simp [hk]
theorem Q4R (h : Orc w g S) (k : Int) : (Instr.lookup 96 (.map (some g.publics)) (.int .u64 k) true).run Try.prog w = .ok (.tuple #[.int .u64 ((alook S.publics k).getD 0), .bool (alook S.publics k).isSome]) w := by
  obtain ⟨i, hi, hz, _⟩ := info_of inf36
  have hl := h.publics.lookup keysU Try.underlying96 hi hz k true
  rw [Q2r] at hl
  refine hl.trans ?_
  cases alook S.publics k <;> rfl

end
def POrc (w : World) (o : Own) (k : Nat) (S : OS) : Prop := ∃ g : OG, g.p = k ∧ Orc w g S ∧ (∀ b, g.m b → o b = some k) ∧ (∀ b, b < w.heap.size → ∀ j, o b = some j → j ≠ k → g.x b)
def Gs (K : Nat → Prop) (w : World) (o : Own) (v : Value) (Q : World → Own → Prop) (e : Ending) (w' : World) : Prop := ∃ o', e = .returned v ∧ Step K w o w' o' ∧ Q w' o'
section
variable {w w' : World} {o o' : Own} {k : Nat} {S : OS} {K : Nat → Prop}
theorem POrc.lt (h : POrc w o k S) : k < w.heap.size := by obtain ⟨g, rfl, h1, _⟩ := h; exact h1.mlt _ m_p
theorem POrc.step (h : POrc w o k S) (s : Step K w o w' o') (hk : ¬ K k) : POrc w' o' k S := by
  obtain ⟨g, h0, h1, h2, h3⟩ := h
  refine ⟨g.more w w', h0, h1.foreign s.ext fun b hb ⟨j, hj, hK⟩ => h3 b hb j hj fun e => hk (e ▸ hK), fun b hb => ?_, fun b hb j hj hne => ?_⟩
  · rw [s.same b (h1.mlt b hb)]; exact h2 b hb
  · by_cases hl : b < w.heap.size
    · rw [s.same b hl] at hj; exact .inl (h3 b hl j hj hne)
    · exact .inr ⟨by omega, hb⟩
theorem own_out {g : OG} {a : Option Addr} {cs : List Value} (h2 : ∀ b, g.m b → o b = some k) (hr : Row w o a cs) : cs ≠ [] → Out g.m a := fun h0 ad ha hm => by
  have := h2 _ hm
  rw [hr.2 h0 ad ha] at this; cases this
theorem POrc.turn {g : OG} {S' : OS} (h2 : ∀ b, g.m b → o b = some g.p) (h3 : ∀ b, b < w.heap.size → ∀ j, o b = some j → j ≠ g.p → g.x b) (hl : ∀ b, g.m b → b < w.heap.size) (ok : Tags w o) (h : Orc w' g S') (X : Ext g.m w w') :
    Step (fun j => j = g.p) w o w' (grow w o) ∧ POrc w' (grow w o) g.p S' := by
  refine ⟨Step.of_ext X ok fun b hb _ => h2 b hb, g, rfl, h, fun b hb => ?_, fun b hb j hj hne => ?_⟩
  · rw [grow_lt (hl b hb)]; exact h2 b hb
  · by_cases hlt : b < w.heap.size
    · rw [grow_lt hlt] at hj; exact h3 b hlt j hj hne
    · rw [grow_ge (by omega)] at hj; cases hj
open Classical in
theorem NewO (ok : Tags w o) {a : Option Addr} {c : Nat} {l : List Int} (h : RowAt w a (l.map u64V)) (hl : l.length ≤ 1000000) :
    Calls Try.prog 15 #[.slice a l.length c] w (fun e w' => ∃ k o', e = .returned (.pointer (some (blk k))) ∧ w.heap.size ≤ k ∧ Step no w o w' o' ∧ POrc w' o' k (OS.init l)) := by
  refine (Q6g (fun b => b < w.heap.size ∧ o b ≠ none) (fun b hb => hb.1) h hl).mono fun e w' ⟨g, he, hO, hx, hg, hgx⟩ => ?_
  have hp := hg _ m_p
  refine ⟨g.p, fun b => if b < w.heap.size then o b else if g.m b then some g.p else none, he, hp.1, ⟨hx.mono fun _ h _ => h.elim, fun b hb => if_pos hb, ok, fun b j hb hj => ?_⟩, g, rfl, hO, fun b hb => ?_, fun b hb j hj hne => ?_⟩
  · by_cases hlt : b < w.heap.size
    · simp only [if_pos hlt] at hj; exact Nat.lt_of_lt_of_le (ok b j hlt hj) hx.size
    · simp only [if_neg hlt] at hj
      split at hj
      · cases hj; exact hp.2
      · cases hj
  · have := (hg b hb).1
    simp only [if_neg (by omega : ¬ b < w.heap.size), if_pos hb]
  · by_cases hlt : b < w.heap.size
    · simp only [if_pos hlt] at hj
      rw [hgx]
      exact ⟨hlt, by rw [hj]; simp⟩
    · simp only [if_neg hlt] at hj
      split at hj
      · cases hj; exact absurd rfl hne
      · cases hj
theorem PairO (h : POrc w o k S) (ok : Tags w o) (hok : S.ok) (hlen : S.used.length + 1 < 1000000) :
    Calls Try.prog 16 #[.pointer (some (blk k))] w (Gs (fun j => j = k) w o (.tuple #[u64V (pairOf S).1.1, u64V (pairOf S).1.2]) fun w' o' => POrc w' o' k (pairOf S).2) := by
  obtain ⟨g, rfl, h1, h2, h3⟩ := h
  refine (Q68 h1 hok hlen).mono fun e w' ⟨he, hO, hx⟩ => ?_
  obtain ⟨s, p⟩ := POrc.turn h2 h3 h1.mlt ok hO hx
  exact ⟨_, he, s, p⟩
end
end Go.Proofs.Ytgeakpldocfccaa