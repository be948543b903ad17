/- Members' laws: predicates. -/
import Derived.Test.YtgeakpldocfccaaGreatZB
import Derived.Test.YtgeakpldocfccaaGreatZA
import Derived.KernelRfl
set_option linter.unusedVariables false
set_option linter.unusedSimpArgs false
set_option maxRecDepth 20000
set_option maxHeartbeats 2000000
namespace Go.Proofs.YtgeakpldocfccaaGreat
open Go Go.Mx Go.Proofs
theorem inf112 : (Tryz.prog.info? 112).map (fun i => (i.zero, i.size, i.bytes)) = some (some (.agg #[.int .i64 0, .int .u64 0, .int .i64 0, .int .i64 0, .int .i64 0]), 5, 40) := by kernel_rfl
def Q18.M (a1 : Int) (R : RW) (w : World) : Prop :=
 thenW (w.alloc (.cells #[.slice none 0 0, .int .i64 0] 68)) fun a6 =>
 thenW (a6.alloc (.cells #[.int .i64 0, .int .u64 a1, .int .i64 0, .int .i64 (-1), .int .i64 0] 112)) fun a7 =>
 putsK a7 (blk w.heap.size) [.slice (some (blk a6.heap.size)) 1 1, .int .i64 (-1)] 0 fun a5 =>
 ∃ (a2 : Option Addr) (a3 a4 : Nat) (a0 : Int), cellsAt a5 (blk w.heap.size) [.slice a2 a3 a4, .int .i64 a0] 0 ∧
 R (.agg #[.slice a2 a3 a4, .int .i64 a0]) a5

theorem Q18.ok (a0 : Int) {R : RW} {w : World} (h : Q18.M a0 R w) : Calls Tryz.prog 20 #[.int .u64 a0] w fun e w' => ∃ v, e = .returned v ∧ R v w' :=
  Q0i follows (H := []) (args := [.int .u64 a0]) (cast (by kernel_rfl) h)

def Q18.N (a0 : Int) (R : RW) (w : World) : Prop :=
 ∀ (a1 : World) (q4 p5 : Nat), Ext no w a1 → Blk a1 q4 112 [.int .i64 0, .int .u64 a0, .int .i64 0, .int .i64 (-1), .int .i64 0] → w.heap.size ≤ q4 → q4 < a1.heap.size → Privq w q4 [p5] →
 ∀ (a2 : World), Ext (fun b => b = p5) a1 a2 →
 R (.agg #[.slice (some (blk q4)) 1 1, .int .i64 (-1)]) a2

theorem Q18.up (a0 : Int) {R : RW} {w : World} (h : Q18.N a0 R w) : Q18.M a0 R w := by
  unfold Q18.M
  unfold Q18.N at h
  refine Q01 fun a3 e2 => ?_
  have a1 := Blk.of_new e2
  have a6 := ((Ext.refl no w)).size
  have a4 := (Ext.refl no w).x_alloc e2
  refine Q01 fun a2 e3 => ?_
  have a7 := a1.lt
  have a1 := a1.x_alloc e3
  have h := h a2 a3.heap.size (w.heap.size) (a4.x_alloc e3) (Blk.of_new e3) (a4).size (Q0A e3) (Privq.cons a6 a7 Privq.nil)
  have a9 : Ext (fun b => b = w.heap.size) a2 a2 := ((Ext.refl no a2)).none
  refine Q0s (k := 0) (j := 0) a1 (Nat.le_of_ble_eq_true rfl) fun a5 X6 b6 => ?_
  have a8 := a9.x_puts X6 (.inl rfl)
  have a1 : Blk a5 w.heap.size 68 [.slice (some (blk a3.heap.size)) 1 1, .int .i64 (-1)] := b6
  refine ⟨(some (blk a3.heap.size)), 1, 1, (-1), ⟨a1.celli 0 rfl rfl, a1.celli 1 rfl rfl, trivial⟩, ?_⟩
  have h := h a5 a8
  exact h

theorem Q18.go (a0 : Int) {R : RW} {w : World} (h : Q18.N a0 R w) : Calls Tryz.prog 20 #[.int .u64 a0] w fun e w' => ∃ v, e = .returned v ∧ R v w' := Q18.ok a0 (Q18.up a0 h)
def Q0c.M (n1 : Int) (R : RW) (w : World) : Prop :=
 bif decide (n1 ≥ 0) then (
 R (.bool (decide (n1 < 8))) w) else (
 R (.bool false) w)

theorem Q0c.ok (n1 : Int) {R : RW} {w : World} (h : Q0c.M n1 R w) : Calls Tryz.prog 93 #[.int .i64 n1] w fun e w' => ∃ v, e = .returned v ∧ R v w' :=
  Q0i follows (H := []) (args := [.int .i64 n1]) (cast (by kernel_rfl) h)

def Q0c.N (n1 : Int) (R : RW) (w : World) : Prop :=
 (n1 ≥ 0 →
 R (.bool (decide (n1 < 8))) w) ∧
 (n1 < 0 →
 R (.bool false) w)

theorem Q0c.up (n1 : Int) {R : RW} {w : World} (h : Q0c.N n1 R w) : Q0c.M n1 R w := by
  unfold Q0c.M
  unfold Q0c.N at h
  refine bif_of (fun c2 => ?_) (fun c2 => ?_)
  ·have h := h.1 (of_decide_eq_true c2)
   exact h
  have h := h.2 (Int.not_le.1 (of_decide_eq_false c2))
  exact h

theorem Q0c.go (n1 : Int) {R : RW} {w : World} (h : Q0c.N n1 R w) : Calls Tryz.prog 93 #[.int .i64 n1] w fun e w' => ∃ v, e = .returned v ∧ R v w' := Q0c.ok n1 (Q0c.up n1 h)
theorem Q0c.run (n1 : Int) {V : Value} {Q : World → Prop} {w : World} (h : Q0c.N n1 (fun v w' => v = V ∧ Q w') w) : Calls Tryz.prog 93 #[.int .i64 n1] w (Ret V Q) := (Q0c.go n1 h).mono fun e w' ⟨v, he, hv, hq⟩ => ⟨by rw [he, hv], hq⟩

def Q0c.F (n1 : Int) : Bool :=
  if n1 ≥ 0 then
    (decide (n1 < 8))
  else
    false
theorem Q0c.pure (n1 : Int) {w : World} : Calls Tryz.prog 93 #[.int .i64 n1] w (Ret (.bool (Q0c.F n1)) fun w' => Ext no w w') := by
  refine Q0c.run n1 ?_
  unfold Q0c.N
  refine ⟨fun c0 => ?_, fun c0 => ?_⟩
  ·exact ⟨by unfold Q0c.F; rw [if_pos c0], Ext.refl _ _⟩
  ·exact ⟨by unfold Q0c.F; rw [if_neg (show ¬ (n1 ≥ 0) from by omega)], Ext.refl _ _⟩

abbrev Q0y.J1 (a3 : Addr) (R : RW) (am : World) : Prop :=
 ∃ (a4 : Int), am.cell? (a3.add 0) = some (.int .i64 a4) ∧
 bif a4 == 1 then (
 ∃ (be : Int), am.cell? (a3.add 1) = some (.int .i64 be) ∧
 Calls Tryz.prog 93 #[.int .i64 be] am fun bi al => ∃ (bd : Bool), bi = .returned (.bool bd) ∧
 bif bd then (
 ∃ (a8 : Int), al.cell? (a3.add 2) = some (.int .u64 a8) ∧
 bif a8 != 0 then (
 ∃ (an : Int), al.cell? (a3.add 3) = some (.int .i64 an) ∧
 bif an == 0 then (
 ∃ (b1 : Option Addr) (a6 b0 : Nat), al.cell? (a3.add 4) = some (.slice b1 a6 b0) ∧
 R (.bool ((a6 : Int) == 0)) al) else (
 R (.bool false) al)) else (
 R (.bool false) al)) else (
 R (.bool false) al)) else (
 bif a4 == 2 then (
 ∃ (b5 : Int), am.cell? (a3.add 1) = some (.int .i64 b5) ∧
 Calls Tryz.prog 93 #[.int .i64 b5] am fun bl a1 => ∃ (b6 : Bool), bl = .returned (.bool b6) ∧
 bif b6 then (
 ∃ (bb : Int), a1.cell? (a3.add 1) = some (.int .i64 bb) ∧
 bif bb != 0 then (
 ∃ (ab : Int), a1.cell? (a3.add 2) = some (.int .u64 ab) ∧
 bif ab == 0 then (
 ∃ (aq : Int), a1.cell? (a3.add 3) = some (.int .i64 aq) ∧
 bif decide (aq ≥ 0) then (
 ∃ (ap : Int), a1.cell? (a3.add 3) = some (.int .i64 ap) ∧
 bif decide (ap ≤ 200) then (
 ∃ (b4 : Option Addr) (ak av : Nat), a1.cell? (a3.add 4) = some (.slice b4 ak av) ∧
 R (.bool ((ak : Int) == 0)) a1) else (
 R (.bool false) a1)) else (
 R (.bool false) a1)) else (
 R (.bool false) a1)) else (
 R (.bool false) a1)) else (
 R (.bool false) a1)) else (
 bif a4 == 3 then (
 ∃ (I1 : Nat → List Value → World → Prop) (bs : Nat), I1 bs [.int .i64 0] am ∧ ∀ (bh : Nat) (a2 : World) (ae : Int), I1 bh [.int .i64 ae] a2 →
 ∃ (b3 : Option Addr) (ag ar : Nat), a2.cell? (a3.add 4) = some (.slice b3 ag ar) ∧
 bif decide (ae < (ag : Int)) then (
 thenW (a2.drew) fun bf =>
 ∃ (a7 : Option Addr) (ad ay : Nat), bf.cell? (a3.add 4) = some (.slice a7 ad ay) ∧
 a7.elim False fun bp =>
 0 ≤ (ae : Int) ∧ (ae : Int) < (ad : Int) ∧
 ∃ (b8 : Int), bf.cell? ((bp.add (Int.toNat ae * 2)).add 0) = some (.int .i64 b8) ∧
 Calls Tryz.prog 93 #[.int .i64 b8] bf fun bj a0 => ∃ (bc : Bool), bj = .returned (.bool bc) ∧
 bif !bc then (
 R (.bool false) a0) else (
 ∃ (a5 : Option Addr) (aa ax : Nat), a0.cell? (a3.add 4) = some (.slice a5 aa ax) ∧
 a5.elim False fun bq =>
 0 ≤ (ae : Int) ∧ (ae : Int) < (aa : Int) ∧
 ∃ (bm : Option Addr) (bg bk : Nat), a0.cell? ((bq.add (Int.toNat ae * 2)).add 1) = some (.slice bm bg bk) ∧
 bif (bg : Int) != 16 then (
 R (.bool false) a0) else (
 bif decide (ae > 0) then (
 ∃ (a9 : Option Addr) (af b2 : Nat), a0.cell? (a3.add 4) = some (.slice a9 af b2) ∧
 a9.elim False fun bt =>
 0 ≤ ((IntKind.i64.wrap (ae - 1)) : Int) ∧ ((IntKind.i64.wrap (ae - 1)) : Int) < (af : Int) ∧
 ∃ (ba : Int), a0.cell? ((bt.add (Int.toNat (IntKind.i64.wrap (ae - 1)) * 2)).add 0) = some (.int .i64 ba) ∧
 ∃ (ah : Option Addr) (aj az : Nat), a0.cell? (a3.add 4) = some (.slice ah aj az) ∧
 ah.elim False fun br =>
 0 ≤ (ae : Int) ∧ (ae : Int) < (aj : Int) ∧
 ∃ (b7 : Int), a0.cell? ((br.add (Int.toNat ae * 2)).add 0) = some (.int .i64 b7) ∧
 bif decide (ba ≥ b7) then (
 R (.bool false) a0) else (
 ∃ bn, bn < bh ∧ I1 bn [.int .i64 (IntKind.i64.wrap (ae + 1))] a0)) else (
 ∃ bo, bo < bh ∧ I1 bo [.int .i64 (IntKind.i64.wrap (ae + 1))] a0)))) else (
 ∃ (b9 : Int), a2.cell? (a3.add 1) = some (.int .i64 b9) ∧
 bif b9 == 0 then (
 ∃ (ai : Int), a2.cell? (a3.add 2) = some (.int .u64 ai) ∧
 bif ai == 0 then (
 ∃ (ao : Int), a2.cell? (a3.add 3) = some (.int .i64 ao) ∧
 bif ao == 0 then (
 ∃ (au : Option Addr) (ac aw : Nat), a2.cell? (a3.add 4) = some (.slice au ac aw) ∧
 R (.bool (decide ((ac : Int) > 0))) a2) else (
 R (.bool false) a2)) else (
 R (.bool false) a2)) else (
 R (.bool false) a2))) else (
 R (.bool false) am)))

def Q0y.M (a8 af a2 a5 : Int) (a4 : Option Addr) (a0 a3 : Nat) (ae : Option Addr) (a9 ab : Nat) (R : RW) (w : World) : Prop :=
 thenW (w.alloc (.cells #[.int .i64 a8, .int .i64 af, .int .u64 a2, .int .i64 a5, .slice a4 a0 a3, .slice ae a9 ab] 77)) fun aa =>
 ∃ (ah : Option Addr) (a7 ag : Nat), aa.cell? ((blk w.heap.size).add 5) = some (.slice ah a7 ag) ∧
 bif (a7 : Int) != 0 then (
 ∃ (a6 : Int), aa.cell? ((blk w.heap.size).add 0) = some (.int .i64 a6) ∧
 bif a6 != 3 then (
 R (.bool false) aa) else (
 ∃ (ad : Option Addr) (a1 ac : Nat), aa.cell? ((blk w.heap.size).add 5) = some (.slice ad a1 ac) ∧
 bif (a1 : Int) != 24 then (
 R (.bool false) aa) else (
 Q0y.J1 (blk w.heap.size) R aa))) else (
 Q0y.J1 (blk w.heap.size) R aa)

theorem Q0y.ok (a5 a9 a1 a4 : Int) (a3 : Option Addr) (a0 a2 : Nat) (a8 : Option Addr) (a6 a7 : Nat) {R : RW} {w : World} (h : Q0y.M a5 a9 a1 a4 a3 a0 a2 a8 a6 a7 R w) : Calls Tryz.prog 59 #[.agg #[.int .i64 a5, .int .i64 a9, .int .u64 a1, .int .i64 a4, .slice a3 a0 a2, .slice a8 a6 a7]] w fun e w' => ∃ v, e = .returned v ∧ R v w' :=
  Q0i follows (H := [(1, [1], [(3, (.one (.int .i64)))])]) (args := [.agg #[.int .i64 a5, .int .i64 a9, .int .u64 a1, .int .i64 a4, .slice a3 a0 a2, .slice a8 a6 a7]]) (cast (by kernel_rfl) h)

def Q0y.N (a3 a4 a2 a1 : Int) (ah : Option Addr) (a0 ar : Nat) (b4 : Option Addr) (af b3 : Nat) (R : RW) (w : World) : Prop :=
 ((af : Int) ≠ 0 →
 (a3 ≠ 3 →
 ∀ (ag : World), Ext no w ag →
 R (.bool false) ag) ∧
 (a3 = 3 →
 ((af : Int) ≠ 24 →
 ∀ (ag : World), Ext no w ag →
 R (.bool false) ag) ∧
 ((af : Int) = 24 →
 (a3 = 1 →
 ((Q0c.F a4) = true →
 (a2 ≠ 0 →
 (a1 = 0 →
 ∀ (ae : World), Ext no w ae →
 R (.bool ((a0 : Int) == 0)) ae) ∧
 (a1 ≠ 0 →
 ∀ (ae : World), Ext no w ae →
 R (.bool false) ae)) ∧
 (a2 = 0 →
 ∀ (ae : World), Ext no w ae →
 R (.bool false) ae)) ∧
 ((Q0c.F a4) = false →
 ∀ (ae : World), Ext no w ae →
 R (.bool false) ae)) ∧
 (a3 ≠ 1 →
 (a3 = 2 →
 ((Q0c.F a4) = true →
 (a4 ≠ 0 →
 (a2 = 0 →
 (a1 ≥ 0 →
 (a1 ≤ 200 →
 ∀ (a6 : World), Ext no w a6 →
 R (.bool ((a0 : Int) == 0)) a6) ∧
 ((200 : Int) < a1 →
 ∀ (a6 : World), Ext no w a6 →
 R (.bool false) a6)) ∧
 (a1 < 0 →
 ∀ (a6 : World), Ext no w a6 →
 R (.bool false) a6)) ∧
 (a2 ≠ 0 →
 ∀ (a6 : World), Ext no w a6 →
 R (.bool false) a6)) ∧
 (a4 = 0 →
 ∀ (a6 : World), Ext no w a6 →
 R (.bool false) a6)) ∧
 ((Q0c.F a4) = false →
 ∀ (a6 : World), Ext no w a6 →
 R (.bool false) a6)) ∧
 (a3 ≠ 2 →
 (a3 = 3 →
 ∀ (ag : World), Ext no w ag →
 ∃ (I1 : Nat → List Value → World → Prop) (b7 : Nat), I1 b7 [.int .i64 0] ag ∧ ∀ (az : Nat) (a9 : World) (ac : Int), I1 az [.int .i64 ac] a9 →
 (ac < (a0 : Int) →
 ∃ av : Addr, ah = some av ∧
 0 ≤ (ac : Int) ∧ (ac : Int) < (a0 : Int) ∧
 ∃ (am : Int), a9.cell? ((av.add (Int.toNat ac * 2)).add 0) = some (.int .i64 am) ∧
 ((Q0c.F am) = false →
 ∀ (aa : World), Ext no a9 aa →
 R (.bool false) aa) ∧
 ((Q0c.F am) = true →
 0 ≤ (ac : Int) ∧ (ac : Int) < (a0 : Int) ∧
 ∃ (b1 : Option Addr) (ap ax : Nat), a9.cell? ((av.add (Int.toNat ac * 2)).add 1) = some (.slice b1 ap ax) ∧
 ((ap : Int) ≠ 16 →
 ∀ (aa : World), Ext no a9 aa →
 R (.bool false) aa) ∧
 ((ap : Int) = 16 →
 (ac > 0 →
 (-9223372036854775808 : Int) ≤ (ac - 1) ∧ (ac - 1) < 9223372036854775808 ∧
 0 ≤ ((ac - 1) : Int) ∧ ((ac - 1) : Int) < (a0 : Int) ∧
 ∃ (al : Int), a9.cell? ((av.add (Int.toNat (ac - 1) * 2)).add 0) = some (.int .i64 al) ∧
 0 ≤ (ac : Int) ∧ (ac : Int) < (a0 : Int) ∧
 ∃ (ak : Int), a9.cell? ((av.add (Int.toNat ac * 2)).add 0) = some (.int .i64 ak) ∧
 (al ≥ ak →
 ∀ (aa : World), Ext no a9 aa →
 R (.bool false) aa) ∧
 (al < ak →
 (-9223372036854775808 : Int) ≤ (ac + 1) ∧ (ac + 1) < 9223372036854775808 ∧
 ∀ (aa : World), Ext no a9 aa →
 ∃ b5, b5 < az ∧ I1 b5 [.int .i64 (ac + 1)] aa)) ∧
 (ac ≤ 0 →
 (-9223372036854775808 : Int) ≤ (ac + 1) ∧ (ac + 1) < 9223372036854775808 ∧
 ∀ (aa : World), Ext no a9 aa →
 ∃ b6, b6 < az ∧ I1 b6 [.int .i64 (ac + 1)] aa)))) ∧
 ((a0 : Int) ≤ ac →
 (a4 = 0 →
 (a2 = 0 →
 (a1 = 0 →
 R (.bool (decide ((a0 : Int) > 0))) a9) ∧
 (a1 ≠ 0 →
 R (.bool false) a9)) ∧
 (a2 ≠ 0 →
 R (.bool false) a9)) ∧
 (a4 ≠ 0 →
 R (.bool false) a9))) ∧
 (a3 ≠ 3 →
 ∀ (ag : World), Ext no w ag →
 R (.bool false) ag)))))) ∧
 ((af : Int) = 0 →
 (a3 = 1 →
 ((Q0c.F a4) = true →
 (a2 ≠ 0 →
 (a1 = 0 →
 ∀ (ad : World), Ext no w ad →
 R (.bool ((a0 : Int) == 0)) ad) ∧
 (a1 ≠ 0 →
 ∀ (ad : World), Ext no w ad →
 R (.bool false) ad)) ∧
 (a2 = 0 →
 ∀ (ad : World), Ext no w ad →
 R (.bool false) ad)) ∧
 ((Q0c.F a4) = false →
 ∀ (ad : World), Ext no w ad →
 R (.bool false) ad)) ∧
 (a3 ≠ 1 →
 (a3 = 2 →
 ((Q0c.F a4) = true →
 (a4 ≠ 0 →
 (a2 = 0 →
 (a1 ≥ 0 →
 (a1 ≤ 200 →
 ∀ (a5 : World), Ext no w a5 →
 R (.bool ((a0 : Int) == 0)) a5) ∧
 ((200 : Int) < a1 →
 ∀ (a5 : World), Ext no w a5 →
 R (.bool false) a5)) ∧
 (a1 < 0 →
 ∀ (a5 : World), Ext no w a5 →
 R (.bool false) a5)) ∧
 (a2 ≠ 0 →
 ∀ (a5 : World), Ext no w a5 →
 R (.bool false) a5)) ∧
 (a4 = 0 →
 ∀ (a5 : World), Ext no w a5 →
 R (.bool false) a5)) ∧
 ((Q0c.F a4) = false →
 ∀ (a5 : World), Ext no w a5 →
 R (.bool false) a5)) ∧
 (a3 ≠ 2 →
 (a3 = 3 →
 ∀ (ag : World), Ext no w ag →
 ∃ (I1 : Nat → List Value → World → Prop) (b8 : Nat), I1 b8 [.int .i64 0] ag ∧ ∀ (b2 : Nat) (a7 : World) (ab : Int), I1 b2 [.int .i64 ab] a7 →
 (ab < (a0 : Int) →
 ∃ aw : Addr, ah = some aw ∧
 0 ≤ (ab : Int) ∧ (ab : Int) < (a0 : Int) ∧
 ∃ (an : Int), a7.cell? ((aw.add (Int.toNat ab * 2)).add 0) = some (.int .i64 an) ∧
 ((Q0c.F an) = false →
 ∀ (a8 : World), Ext no a7 a8 →
 R (.bool false) a8) ∧
 ((Q0c.F an) = true →
 0 ≤ (ab : Int) ∧ (ab : Int) < (a0 : Int) ∧
 ∃ (b0 : Option Addr) (ao ay : Nat), a7.cell? ((aw.add (Int.toNat ab * 2)).add 1) = some (.slice b0 ao ay) ∧
 ((ao : Int) ≠ 16 →
 ∀ (a8 : World), Ext no a7 a8 →
 R (.bool false) a8) ∧
 ((ao : Int) = 16 →
 (ab > 0 →
 (-9223372036854775808 : Int) ≤ (ab - 1) ∧ (ab - 1) < 9223372036854775808 ∧
 0 ≤ ((ab - 1) : Int) ∧ ((ab - 1) : Int) < (a0 : Int) ∧
 ∃ (aj : Int), a7.cell? ((aw.add (Int.toNat (ab - 1) * 2)).add 0) = some (.int .i64 aj) ∧
 0 ≤ (ab : Int) ∧ (ab : Int) < (a0 : Int) ∧
 ∃ (ai : Int), a7.cell? ((aw.add (Int.toNat ab * 2)).add 0) = some (.int .i64 ai) ∧
 (aj ≥ ai →
 ∀ (a8 : World), Ext no a7 a8 →
 R (.bool false) a8) ∧
 (aj < ai →
 (-9223372036854775808 : Int) ≤ (ab + 1) ∧ (ab + 1) < 9223372036854775808 ∧
 ∀ (a8 : World), Ext no a7 a8 →
 ∃ au, au < b2 ∧ I1 au [.int .i64 (ab + 1)] a8)) ∧
 (ab ≤ 0 →
 (-9223372036854775808 : Int) ≤ (ab + 1) ∧ (ab + 1) < 9223372036854775808 ∧
 ∀ (a8 : World), Ext no a7 a8 →
 ∃ aq, aq < b2 ∧ I1 aq [.int .i64 (ab + 1)] a8)))) ∧
 ((a0 : Int) ≤ ab →
 (a4 = 0 →
 (a2 = 0 →
 (a1 = 0 →
 R (.bool (decide ((a0 : Int) > 0))) a7) ∧
 (a1 ≠ 0 →
 R (.bool false) a7)) ∧
 (a2 ≠ 0 →
 R (.bool false) a7)) ∧
 (a4 ≠ 0 →
 R (.bool false) a7))) ∧
 (a3 ≠ 3 →
 ∀ (ag : World), Ext no w ag →
 R (.bool false) ag))))

theorem Q0y.up (a7 a6 a3 a4 : Int) (a2 : Option Addr) (a0 a1 : Nat) (aa : Option Addr) (a8 a9 : Nat) {R : RW} {w : World} (h : Q0y.N a7 a6 a3 a4 a2 a0 a1 aa a8 a9 R w) : Q0y.M a7 a6 a3 a4 a2 a0 a1 aa a8 a9 R w := by
  unfold Q0y.M
  unfold Q0y.N at h
  refine Q01 fun ap e7 => ?_
  have a5 := Blk.of_new e7
  have bq := ((Ext.refl no w)).size
  have ai := (Ext.refl no w).x_alloc e7
  refine ⟨aa, a8, a9, a5.celli 5 rfl rfl, ?_⟩
  refine bif_of (fun c8 => ?_) (fun c8 => ?_)
  have h := h.1 (bne_t c8)
  refine ⟨a7, a5.celli 0 rfl rfl, ?_⟩
  refine bif_of (fun c9 => ?_) (fun c9 => ?_)
  ·have h := h.1 (bne_t c9)
   have h := h ap ai
   exact h
  have h := h.2 (bne_f c9)
  refine ⟨aa, a8, a9, a5.celli 5 rfl rfl, ?_⟩
  refine bif_of (fun bb => ?_) (fun bb => ?_)
  ·have h := h.1 (bne_t bb)
   have h := h ap ai
   exact h
  have h := h.2 (bne_f bb)
  rotate_left
  have h := h.2 (bne_f c8)
  rotate_left
  all_goals
   unfold Q0y.J1
   refine ⟨a7, a5.celli 0 rfl rfl, ?_⟩
   refine bif_of (fun av => ?_) (fun av => ?_)
   ·have h := h.1 (beq_t av)
    refine ⟨a6, a5.celli 1 rfl rfl, ?_⟩
    refine (Q0c.pure a6).mono fun ee ww14 ⟨he, hxx⟩ => ⟨(Q0c.F a6), he, ?_⟩
    have af := ai.trans hxx
    have a5 := a5.ext hxx id
    refine bif_fo (fun az => ?_) (fun az => ?_)
    ·have h := h.2 az
     have h := h ww14 af
     exact h
    have h := h.1 az
    refine ⟨a3, a5.celli 2 rfl rfl, ?_⟩
    refine bif_fo (fun au => ?_) (fun au => ?_)
    ·have h := h.2 (bne_f au)
     have h := h ww14 af
     exact h
    have h := h.1 (bne_t au)
    refine ⟨a4, a5.celli 3 rfl rfl, ?_⟩
    refine bif_fo (fun aq => ?_) (fun aq => ?_)
    ·have h := h.2 (beq_f aq)
     have h := h ww14 af
     exact h
    have h := h.1 (beq_t aq)
    refine ⟨a2, a0, a1, a5.celli 4 rfl rfl, ?_⟩
    have h := h ww14 af
    exact h
   have h := h.2 (beq_f av)
   refine bif_of (fun b4 => ?_) (fun b4 => ?_)
   ·have h := h.1 (beq_t b4)
    refine ⟨a6, a5.celli 1 rfl rfl, ?_⟩
    refine (Q0c.pure a6).mono fun ee ww23 ⟨he, hxx⟩ => ⟨(Q0c.F a6), he, ?_⟩
    have ac := ai.trans hxx
    have a5 := a5.ext hxx id
    refine bif_fo (fun ay => ?_) (fun ay => ?_)
    ·have h := h.2 ay
     have h := h ww23 ac
     exact h
    have h := h.1 ay
    refine ⟨a6, a5.celli 1 rfl rfl, ?_⟩
    refine bif_fo (fun b5 => ?_) (fun b5 => ?_)
    ·have h := h.2 (bne_f b5)
     have h := h ww23 ac
     exact h
    have h := h.1 (bne_t b5)
    refine ⟨a3, a5.celli 2 rfl rfl, ?_⟩
    refine bif_fo (fun b3 => ?_) (fun b3 => ?_)
    ·have h := h.2 (beq_f b3)
     have h := h ww23 ac
     exact h
    have h := h.1 (beq_t b3)
    refine ⟨a4, a5.celli 3 rfl rfl, ?_⟩
    refine bif_fo (fun b7 => ?_) (fun b7 => ?_)
    ·have h := h.2 (Int.not_le.1 (of_decide_eq_false b7))
     have h := h ww23 ac
     exact h
    have h := h.1 (of_decide_eq_true b7)
    refine ⟨a4, a5.celli 3 rfl rfl, ?_⟩
    refine bif_fo (fun aw => ?_) (fun aw => ?_)
    ·have h := h.2 (Int.not_le.1 (of_decide_eq_false aw))
     have h := h ww23 ac
     exact h
    have h := h.1 (of_decide_eq_true aw)
    refine ⟨a2, a0, a1, a5.celli 4 rfl rfl, ?_⟩
    have h := h ww23 ac
    exact h
   have h := h.2 (beq_f b4)
   refine bif_fo (fun b6 => ?_) (fun b6 => ?_)
   ·have h := h.2 (beq_f b6)
    have h := h ap ai
    exact h
   have h := h.1 (beq_t b6)
   have h := h ap ai
   obtain ⟨I1, bl, h0, h⟩ := h
   refine ⟨fun k vs ww => Blk ww w.heap.size 77 [.int .i64 a7, .int .i64 a6, .int .u64 a3, .int .i64 a4, .slice a2 a0 a1, .slice aa a8 a9] ∧ I1 k vs ww, bl, ⟨a5, h0⟩, fun bm an bp hI => ?_⟩
   obtain ⟨a5, hI⟩ := hI
   have h := h bm an bp hI
   refine ⟨a2, a0, a1, a5.celli 4 rfl rfl, ?_⟩
   refine bif_fo (fun bi => ?_) (fun bi => ?_)
   ·have h := h.2 (Int.not_lt.1 (of_decide_eq_false bi))
    refine ⟨a6, a5.celli 1 rfl rfl, ?_⟩
    refine bif_fo (fun bd => ?_) (fun bd => ?_)
    ·have h := h.2 (beq_f bd)
     exact h
    have h := h.1 (beq_t bd)
    refine ⟨a3, a5.celli 2 rfl rfl, ?_⟩
    refine bif_fo (fun bc => ?_) (fun bc => ?_)
    ·have h := h.2 (beq_f bc)
     exact h
    have h := h.1 (beq_t bc)
    refine ⟨a4, a5.celli 3 rfl rfl, ?_⟩
    refine bif_fo (fun bg => ?_) (fun bg => ?_)
    ·have h := h.2 (beq_f bg)
     exact h
    have h := h.1 (beq_t bg)
    refine ⟨a2, a0, a1, a5.celli 4 rfl rfl, ?_⟩
    exact h
   have h := h.1 (of_decide_eq_true bi)
   refine Q01 fun bo bj => ?_
   have am := (Ext.refl no an).x_drew bj
   have a5 := a5.x_drew bj
   refine ⟨a2, a0, a1, a5.celli 4 rfl rfl, ?_⟩
   obtain ⟨br, ae, h⟩ := h
   refine Q05 ae ?_
   obtain ⟨ag, ah, h⟩ := h
   refine ⟨ag, ah, ?_⟩
   obtain ⟨ad, b2, h⟩ := h
   refine ⟨ad, (am).cell b2 id, ?_⟩
   refine (Q0c.pure ad).mono fun ee ww46 ⟨he, hxx⟩ => ⟨(Q0c.F ad), he, ?_⟩
   have ab := am.trans hxx
   have a5 := a5.ext hxx id
   refine bif_of (fun ax => ?_) (fun ax => ?_)
   ·have h := h.1 (not_t ax)
    have h := h ww46 ab
    exact h
   have h := h.2 (not_f ax)
   refine ⟨a2, a0, a1, a5.celli 4 rfl rfl, ?_⟩
   refine Q05 ae ?_
   obtain ⟨ag, ah, h⟩ := h
   refine ⟨ag, ah, ?_⟩
   obtain ⟨ba, bh, b1, bf, h⟩ := h
   refine ⟨ba, bh, b1, (ab).cell bf id, ?_⟩
   refine bif_of (fun b8 => ?_) (fun b8 => ?_)
   ·have h := h.1 (bne_t b8)
    have h := h ww46 ab
    exact h
   have h := h.2 (bne_f b8)
   refine bif_fo (fun b9 => ?_) (fun b9 => ?_)
   ·have h := h.2 (Int.not_lt.1 (of_decide_eq_false b9))
    obtain ⟨ao, al, h⟩ := h
    try rw [w64 ao al]
    have h := h ww46 ab
    obtain ⟨bn, hk, h⟩ := h
    exact ⟨bn, hk, a5, h⟩
   have h := h.1 (of_decide_eq_true b9)
   refine ⟨a2, a0, a1, a5.celli 4 rfl rfl, ?_⟩
   obtain ⟨ao, al, h⟩ := h
   try rw [w64 ao al]
   refine Q05 ae ?_
   obtain ⟨ag, ah, h⟩ := h
   refine ⟨ag, ah, ?_⟩
   obtain ⟨ak, ar, h⟩ := h
   refine ⟨ak, (ab).cell ar id, ?_⟩
   refine ⟨a2, a0, a1, a5.celli 4 rfl rfl, ?_⟩
   refine Q05 ae ?_
   obtain ⟨ag, ah, h⟩ := h
   refine ⟨ag, ah, ?_⟩
   obtain ⟨aj, be, h⟩ := h
   refine ⟨aj, (ab).cell be id, ?_⟩
   refine bif_of (fun b0 => ?_) (fun b0 => ?_)
   ·have h := h.1 (of_decide_eq_true b0)
    have h := h ww46 ab
    exact h
   have h := h.2 (Int.not_le.1 (of_decide_eq_false b0))
   obtain ⟨ao, al, h⟩ := h
   try rw [w64 ao al]
   have h := h ww46 ab
   obtain ⟨bk, hk, h⟩ := h
   exact ⟨bk, hk, a5, h⟩

theorem Q0y.go (a5 a9 a1 a4 : Int) (a3 : Option Addr) (a0 a2 : Nat) (a8 : Option Addr) (a6 a7 : Nat) {R : RW} {w : World} (h : Q0y.N a5 a9 a1 a4 a3 a0 a2 a8 a6 a7 R w) : Calls Tryz.prog 59 #[.agg #[.int .i64 a5, .int .i64 a9, .int .u64 a1, .int .i64 a4, .slice a3 a0 a2, .slice a8 a6 a7]] w fun e w' => ∃ v, e = .returned v ∧ R v w' := Q0y.ok a5 a9 a1 a4 a3 a0 a2 a8 a6 a7 (Q0y.up a5 a9 a1 a4 a3 a0 a2 a8 a6 a7 h)
theorem Q0y.run (a5 a9 a1 a4 : Int) (a3 : Option Addr) (a0 a2 : Nat) (a8 : Option Addr) (a6 a7 : Nat) {V : Value} {Q : World → Prop} {w : World} (h : Q0y.N a5 a9 a1 a4 a3 a0 a2 a8 a6 a7 (fun v w' => v = V ∧ Q w') w) : Calls Tryz.prog 59 #[.agg #[.int .i64 a5, .int .i64 a9, .int .u64 a1, .int .i64 a4, .slice a3 a0 a2, .slice a8 a6 a7]] w (Ret V Q) := (Q0y.go a5 a9 a1 a4 a3 a0 a2 a8 a6 a7 h).mono fun e w' ⟨v, he, hv, hq⟩ => ⟨by rw [he, hv], hq⟩

def Q0R.M (av : Option Addr) (ar ax : Nat) (ae au : Int) (R : RW) (w : World) : Prop :=
 thenW (w.alloc (.cells #[.slice av ar ax, .int .i64 ae] 68)) fun ai =>
 thenW (ai.alloc (.cells #[.int .i64 0, .int .u64 0, .int .i64 0, .int .i64 0, .int .i64 0] 112)) fun b1 =>
 ∃ (I0 : Nat → List Value → World → Prop) (m7 : Nat), I0 m7 [.int .i64 0] b1 ∧ ∀ (m8 : Nat) (af : World) (i6 : Int), I0 m8 [.int .i64 i6] af →
 ∃ (az : Option Addr) (al aq : Nat), af.cell? ((blk w.heap.size).add 0) = some (.slice az al aq) ∧
 bif decide (i6 < (al : Int)) then (
 ∃ (aj : Option Addr) (ap aw : Nat), af.cell? ((blk w.heap.size).add 0) = some (.slice aj ap aw) ∧
 aj.elim False fun b3 =>
 0 ≤ (i6 : Int) ∧ (i6 : Int) < (ap : Int) ∧
 ∃ (ag : Int), af.cell? ((b3.add (Int.toNat i6 * 5)).add 0) = some (.int .i64 ag) ∧
 bif ag == au then (
 ∃ (an : Option Addr) (am ay : Nat), af.cell? ((blk w.heap.size).add 0) = some (.slice an am ay) ∧
 an.elim False fun b2 =>
 0 ≤ (i6 : Int) ∧ (i6 : Int) < (am : Int) ∧
 ∃ (ad a4 ab ah a7 : Int), cellsAt af (b2.add (Int.toNat i6 * 5)) [.int .i64 ad, .int .u64 a4, .int .i64 ab, .int .i64 ah, .int .i64 a7] 0 ∧
 putsK af (blk ai.heap.size) [.int .i64 ad, .int .u64 a4, .int .i64 ab, .int .i64 ah, .int .i64 a7] 0 fun ak =>
 ∃ (a8 a0 a6 ac a3 : Int), cellsAt ak (blk ai.heap.size) [.int .i64 a8, .int .u64 a0, .int .i64 a6, .int .i64 ac, .int .i64 a3] 0 ∧
 R (.tuple #[.agg #[.int .i64 a8, .int .u64 a0, .int .i64 a6, .int .i64 ac, .int .i64 a3], .bool true]) ak) else (
 ∃ b0, b0 < m8 ∧ I0 b0 [.int .i64 (IntKind.i64.wrap (i6 + 1))] af)) else (
 putsK af (blk ai.heap.size) [.int .i64 0, .int .u64 0, .int .i64 0, .int .i64 0, .int .i64 0] 0 fun ao =>
 ∃ (a9 a1 a5 aa a2 : Int), cellsAt ao (blk ai.heap.size) [.int .i64 a9, .int .u64 a1, .int .i64 a5, .int .i64 aa, .int .i64 a2] 0 ∧
 R (.tuple #[.agg #[.int .i64 a9, .int .u64 a1, .int .i64 a5, .int .i64 aa, .int .i64 a2], .bool false]) ao)

theorem Q0R.ok (a3 : Option Addr) (a1 a2 : Nat) (a0 a4 : Int) {R : RW} {w : World} (h : Q0R.M a3 a1 a2 a0 a4 R w) : Calls Tryz.prog 60 #[.agg #[.slice a3 a1 a2, .int .i64 a0], .int .i64 a4] w fun e w' => ∃ v, e = .returned v ∧ R v w' :=
  Q0i follows (H := [(0, [1, 2, 4], [(6, (.one (.int .i64)))])]) (args := [.agg #[.slice a3 a1 a2, .int .i64 a0], .int .i64 a4]) (cast (by kernel_rfl) h)

def Q0R.N (ai : Option Addr) (a9 an : Nat) (ag ac : Int) (R : RW) (w : World) : Prop :=
 ∀ (aj : World) (p7 : Nat), Ext no w aj → Priv w aj [p7] →
 ∃ (I0 : Nat → List Value → World → Prop) (am : Nat), I0 am [.int .i64 0, .int .i64 0, .int .u64 0, .int .i64 0, .int .i64 0, .int .i64 0] aj ∧ ∀ (ak : Nat) (a5 : World) (i8 ad a1 a7 ab a3 : Int), I0 ak [.int .i64 i8, .int .i64 ad, .int .u64 a1, .int .i64 a7, .int .i64 ab, .int .i64 a3] a5 →
 (i8 < (a9 : Int) →
 ∃ ah : Addr, ai = some ah ∧
 0 ≤ (i8 : Int) ∧ (i8 : Int) < (a9 : Int) ∧
 ∃ (a8 : Int), a5.cell? ((ah.add (Int.toNat i8 * 5)).add 0) = some (.int .i64 a8) ∧
 (a8 = ac →
 0 ≤ (i8 : Int) ∧ (i8 : Int) < (a9 : Int) ∧
 ∃ (a6 a0 a4 aa a2 : Int), cellsAt a5 (ah.add (Int.toNat i8 * 5)) [.int .i64 a6, .int .u64 a0, .int .i64 a4, .int .i64 aa, .int .i64 a2] 0 ∧
 ∀ (af : World), Ext (fun b => b = p7) a5 af →
 R (.tuple #[.agg #[.int .i64 a6, .int .u64 a0, .int .i64 a4, .int .i64 aa, .int .i64 a2], .bool true]) af) ∧
 (a8 ≠ ac →
 (-9223372036854775808 : Int) ≤ (i8 + 1) ∧ (i8 + 1) < 9223372036854775808 ∧
 ∃ al, al < ak ∧ I0 al [.int .i64 (i8 + 1), .int .i64 ad, .int .u64 a1, .int .i64 a7, .int .i64 ab, .int .i64 a3] a5)) ∧
 ((a9 : Int) ≤ i8 →
 ∀ (ae : World), Ext (fun b => b = p7) a5 ae →
 R (.tuple #[.agg #[.int .i64 0, .int .u64 0, .int .i64 0, .int .i64 0, .int .i64 0], .bool false]) ae)

theorem Q0R.up (ab : Option Addr) (aa ac : Nat) (a5 ai : Int) {R : RW} {w : World} (h : Q0R.N ab aa ac a5 ai R w) : Q0R.M ab aa ac a5 ai R w := by
  unfold Q0R.M
  unfold Q0R.N at h
  refine Q01 fun ah e4 => ?_
  have ag := Blk.of_new e4
  have be := ((Ext.refl no w)).size
  have b0 := (Ext.refl no w).x_alloc e4
  refine Q01 fun ba e5 => ?_
  have a7 := Blk.of_new e5
  have b6 := (b0).size
  have az := Nat.ne_of_lt ag.lt
  have ag := ag.x_alloc e5
  have b1 := b0.x_alloc e5
  have h := h ba (ah.heap.size) b1 (Priv.cons b6 a7.lt Priv.nil)
  obtain ⟨I0, b8, h0, h⟩ := h
  refine ⟨fun k vs ww => ∃ (ae a0 a3 ad a1 : Int), Blk ww w.heap.size 68 [.slice ab aa ac, .int .i64 a5] ∧ Blk ww ah.heap.size 112 [.int .i64 ae, .int .u64 a0, .int .i64 a3, .int .i64 ad, .int .i64 a1] ∧ I0 k (vs ++ [.int .i64 ae, .int .u64 a0, .int .i64 a3, .int .i64 ad, .int .i64 a1]) ww, b8, ⟨0, 0, 0, 0, 0, ag, a7, h0⟩, fun b5 a9 i8 hI => ?_⟩
  obtain ⟨ae, a0, a3, ad, a1, ag, a7, hI⟩ := hI
  have h := h b5 a9 i8 ae a0 a3 ad a1 hI
  refine ⟨ab, aa, ac, ag.celli 0 rfl rfl, ?_⟩
  refine bif_fo (fun ao => ?_) (fun ao => ?_)
  ·have h := h.2 (Int.not_lt.1 (of_decide_eq_false ao))
   have ay : Ext (fun b => b = ah.heap.size) a9 a9 := ((Ext.refl no a9)).none
   refine Q0s (k := 0) (j := 0) a7 (Nat.le_of_ble_eq_true rfl) fun al b9 b3 => ?_
   have aq := ay.x_puts b9 (.inl rfl)
   have a7 : Blk al ah.heap.size 112 [.int .i64 0, .int .u64 0, .int .i64 0, .int .i64 0, .int .i64 0] := b3
   refine ⟨0, 0, 0, 0, 0, ⟨a7.celli 0 rfl rfl, a7.celli 1 rfl rfl, a7.celli 2 rfl rfl, a7.celli 3 rfl rfl, a7.celli 4 rfl rfl, trivial⟩, ?_⟩
   have h := h al aq
   exact h
  have h := h.1 (of_decide_eq_true ao)
  refine ⟨ab, aa, ac, ag.celli 0 rfl rfl, ?_⟩
  obtain ⟨bd, aj, h⟩ := h
  refine Q05 aj ?_
  obtain ⟨av, aw, h⟩ := h
  refine ⟨av, aw, ?_⟩
  obtain ⟨ak, au, h⟩ := h
  refine ⟨ak, au, ?_⟩
  refine bif_fo (fun an => ?_) (fun an => ?_)
  ·have h := h.2 (beq_f an)
   obtain ⟨bb, b7, h⟩ := h
   try rw [w64 bb b7]
   obtain ⟨bc, hk, h⟩ := h
   exact ⟨bc, hk, ae, a0, a3, ad, a1, ag, a7, h⟩
  have h := h.1 (beq_t an)
  refine ⟨ab, aa, ac, ag.celli 0 rfl rfl, ?_⟩
  refine Q05 aj ?_
  obtain ⟨av, aw, h⟩ := h
  refine ⟨av, aw, ?_⟩
  obtain ⟨a8, a2, a6, af, a4, ax, h⟩ := h
  refine ⟨a8, a2, a6, af, a4, ax, ?_⟩
  have ap : Ext (fun b => b = ah.heap.size) a9 a9 := ((Ext.refl no a9)).none
  refine Q0s (k := 0) (j := 0) a7 (Nat.le_of_ble_eq_true rfl) fun am b2 b4 => ?_
  have ar := ap.x_puts b2 (.inl rfl)
  have a7 : Blk am ah.heap.size 112 [.int .i64 a8, .int .u64 a2, .int .i64 a6, .int .i64 af, .int .i64 a4] := b4
  refine ⟨a8, a2, a6, af, a4, ⟨a7.celli 0 rfl rfl, a7.celli 1 rfl rfl, a7.celli 2 rfl rfl, a7.celli 3 rfl rfl, a7.celli 4 rfl rfl, trivial⟩, ?_⟩
  have h := h am ar
  exact h

theorem Q0R.go (a3 : Option Addr) (a1 a2 : Nat) (a0 a4 : Int) {R : RW} {w : World} (h : Q0R.N a3 a1 a2 a0 a4 R w) : Calls Tryz.prog 60 #[.agg #[.slice a3 a1 a2, .int .i64 a0], .int .i64 a4] w fun e w' => ∃ v, e = .returned v ∧ R v w' := Q0R.ok a3 a1 a2 a0 a4 (Q0R.up a3 a1 a2 a0 a4 h)
theorem Q0R.run (a3 : Option Addr) (a1 a2 : Nat) (a0 a4 : Int) {V : Value} {Q : World → Prop} {w : World} (h : Q0R.N a3 a1 a2 a0 a4 (fun v w' => v = V ∧ Q w') w) : Calls Tryz.prog 60 #[.agg #[.slice a3 a1 a2, .int .i64 a0], .int .i64 a4] w (Ret V Q) := (Q0R.go a3 a1 a2 a0 a4 h).mono fun e w' ⟨v, he, hv, hq⟩ => ⟨by rw [he, hv], hq⟩

abbrev Q0Y.J1 (ak : Option Addr) (aj al : Nat) (a5 : Int) (I0 : Nat → List Value → World → Prop) (m7 : Nat) (w : World) (R : RW) (a2 : World) : Prop :=
 ∃ (ab : Option Addr) (a9 ah : Nat), a2.cell? ((blk w.heap.size).add 0) = some (.slice ab a9 ah) ∧
 ab.elim False fun ao =>
 0 ≤ (a5 : Int) ∧ (a5 : Int) < (a9 : Int) ∧
 ∃ (af : Int), a2.cell? ((ao.add (Int.toNat a5 * 5)).add 3) = some (.int .i64 af) ∧
 bif af == (-1) then (
 ∃ (a7 : Option Addr) (a8 ai : Nat), a2.cell? ((blk w.heap.size).add 0) = some (.slice a7 a8 ai) ∧
 a7.elim False fun ap =>
 0 ≤ (a5 : Int) ∧ (a5 : Int) < (a8 : Int) ∧
 ∃ (a4 a0 a3 a6 a1 : Int), cellsAt a2 (ap.add (Int.toNat a5 * 5)) [.int .i64 a4, .int .u64 a0, .int .i64 a3, .int .i64 a6, .int .i64 a1] 0 ∧
 thenW (a2.alloc (.cells #[.int .i64 a4, .int .u64 a0, .int .i64 a3, .int .i64 a6, .int .i64 a1] 112)) fun ag =>
 ∃ (ad : Option Addr) (ac ae : Nat) (aa : World), (Builtin.append_ #[66, 66] 66 #[.slice ak aj al, .slice (some (blk a2.heap.size)) 1 1]).run Tryz.prog ag = .ok (.slice ad ac ae) aa ∧
 ∃ am, am < m7 ∧ I0 am [.slice ad ac ae, .int .i64 (IntKind.i64.wrap (a5 + 1))] aa) else (
 ∃ an, an < m7 ∧ I0 an [.slice ak aj al, .int .i64 (IntKind.i64.wrap (a5 + 1))] a2)

def Q0Y.M (a7 : Option Addr) (a5 a6 : Nat) (a3 : Int) (R : RW) (w : World) : Prop :=
 thenW (w.alloc (.cells #[.slice a7 a5 a6, .int .i64 a3] 68)) fun ab =>
 ∃ (I0 : Nat → List Value → World → Prop) (m6 : Nat), I0 m6 [.slice none 0 0, .int .i64 0] ab ∧ ∀ (m7 : Nat) (a4 : World) (a2 : Option Addr) (a1 a0 : Nat) (i5 : Int), I0 m7 [.slice a2 a1 a0, .int .i64 i5] a4 →
 ∃ (aa : Option Addr) (a8 a9 : Nat), a4.cell? ((blk w.heap.size).add 0) = some (.slice aa a8 a9) ∧
 bif decide (i5 < (a8 : Int)) then (
 Q0Y.J1 a2 a1 a0 i5 I0 m7 w R a4) else (
 R (.slice a2 a1 a0) a4)

theorem Q0Y.ok (a3 : Option Addr) (a1 a2 : Nat) (a0 : Int) {R : RW} {w : World} (h : Q0Y.M a3 a1 a2 a0 R w) : Calls Tryz.prog 51 #[.agg #[.slice a3 a1 a2, .int .i64 a0]] w fun e w' => ∃ v, e = .returned v ∧ R v w' :=
  Q0i follows (H := [(0, [1], [(3, (.one .slice)), (4, (.one (.int .i64)))])]) (args := [.agg #[.slice a3 a1 a2, .int .i64 a0]]) (cast (by kernel_rfl) h)

def Q0Y.N (ai : Option Addr) (a8 an : Nat) (ag : Int) (R : RW) (w : World) : Prop :=
 ∀ (aj : World) (p4 : Nat), Ext no w aj → Priv w aj [p4] →
 ∃ (I0 : Nat → List Value → World → Prop) (m7 : Nat), I0 m7 [.slice none 0 0, .int .i64 0] aj ∧ ∀ (m8 : Nat) (ac : World) (a2 : Option Addr) (a1 a3 : Nat) (i6 : Int), I0 m8 [.slice a2 a1 a3, .int .i64 i6] ac →
 (i6 < (a8 : Int) →
 ∃ ak : Addr, ai = some ak ∧
 0 ≤ (i6 : Int) ∧ (i6 : Int) < (a8 : Int) ∧
 ∃ (aa : Int), ac.cell? ((ak.add (Int.toNat i6 * 5)).add 3) = some (.int .i64 aa) ∧
 (aa = (-1) →
 0 ≤ (i6 : Int) ∧ (i6 : Int) < (a8 : Int) ∧
 ∃ (a6 a0 a5 a9 a4 : Int), cellsAt ac (ak.add (Int.toNat i6 * 5)) [.int .i64 a6, .int .u64 a0, .int .i64 a5, .int .i64 a9, .int .i64 a4] 0 ∧
 ∀ (a7 : World) (ah : Nat), Ext no ac a7 → Blk a7 ah 112 [.int .i64 a6, .int .u64 a0, .int .i64 a5, .int .i64 a9, .int .i64 a4] → ac.heap.size ≤ ah → ah < a7.heap.size →
 ∃ (ae : Option Addr) (af ad : Nat) (ab : World), (Builtin.append_ #[66, 66] 66 #[.slice a2 a1 a3, .slice (some (blk ah)) 1 1]).run Tryz.prog a7 = .ok (.slice ae af ad) ab ∧
 Keep [p4] a7 ab ∧
 (-9223372036854775808 : Int) ≤ (i6 + 1) ∧ (i6 + 1) < 9223372036854775808 ∧
 ∃ al, al < m8 ∧ I0 al [.slice ae af ad, .int .i64 (i6 + 1)] ab) ∧
 (aa ≠ (-1) →
 (-9223372036854775808 : Int) ≤ (i6 + 1) ∧ (i6 + 1) < 9223372036854775808 ∧
 ∃ am, am < m8 ∧ I0 am [.slice a2 a1 a3, .int .i64 (i6 + 1)] ac)) ∧
 ((a8 : Int) ≤ i6 →
 R (.slice a2 a1 a3) ac)

theorem Q0Y.up (a3 : Option Addr) (a1 a4 : Nat) (a0 : Int) {R : RW} {w : World} (h : Q0Y.N a3 a1 a4 a0 R w) : Q0Y.M a3 a1 a4 a0 R w := by
  unfold Q0Y.M
  unfold Q0Y.N at h
  refine Q01 fun az e3 => ?_
  have a5 := Blk.of_new e3
  have ax := ((Ext.refl no w)).size
  have ay := (Ext.refl no w).x_alloc e3
  have h := h az (w.heap.size) ay (Priv.cons ax a5.lt Priv.nil)
  obtain ⟨I0, m7, h0, h⟩ := h
  refine ⟨fun k vs ww => Blk ww w.heap.size 68 [.slice a3 a1 a4, .int .i64 a0] ∧ I0 k vs ww, m7, ⟨a5, h0⟩, fun m8 ae aa a8 ab i6 hI => ?_⟩
  obtain ⟨a5, hI⟩ := hI
  have h := h m8 ae aa a8 ab i6 hI
  refine ⟨a3, a1, a4, a5.celli 0 rfl rfl, ?_⟩
  refine bif_fo (fun ar => ?_) (fun ar => ?_)
  ·have h := h.2 (Int.not_lt.1 (of_decide_eq_false ar))
   exact h
  have h := h.1 (of_decide_eq_true ar)
  unfold Q0Y.J1
  refine ⟨a3, a1, a4, a5.celli 0 rfl rfl, ?_⟩
  obtain ⟨b1, ac, h⟩ := h
  refine Q05 ac ?_
  obtain ⟨am, ao, h⟩ := h
  refine ⟨am, ao, ?_⟩
  obtain ⟨ag, ah, h⟩ := h
  refine ⟨ag, ah, ?_⟩
  refine bif_fo (fun ai => ?_) (fun ai => ?_)
  ·have h := h.2 (beq_f ai)
   obtain ⟨au, al, h⟩ := h
   try rw [w64 au al]
   obtain ⟨b0, hk, h⟩ := h
   exact ⟨b0, hk, a5, h⟩
  have h := h.1 (beq_t ai)
  refine ⟨a3, a1, a4, a5.celli 0 rfl rfl, ?_⟩
  refine Q05 ac ?_
  obtain ⟨am, ao, h⟩ := h
  refine ⟨am, ao, ?_⟩
  obtain ⟨a9, a2, a7, ad, a6, ap, h⟩ := h
  refine ⟨a9, a2, a7, ad, a6, ap, ?_⟩
  refine Q01 fun ak af => ?_
  have a5 := a5.x_alloc af
  have h := h ak ae.heap.size ((Ext.refl no ae).x_alloc af) (Blk.of_new af) ((Ext.refl no ae)).size (Q0A af)
  obtain ⟨aq, av, aj, an, hr, hk, h⟩ := h
  refine ⟨aq, av, aj, an, hr, ?_⟩
  have a5 := hk.blk a5 (by simp)
  obtain ⟨au, al, h⟩ := h
  try rw [w64 au al]
  obtain ⟨aw, hk, h⟩ := h
  exact ⟨aw, hk, a5, h⟩

theorem Q0Y.go (a3 : Option Addr) (a1 a2 : Nat) (a0 : Int) {R : RW} {w : World} (h : Q0Y.N a3 a1 a2 a0 R w) : Calls Tryz.prog 51 #[.agg #[.slice a3 a1 a2, .int .i64 a0]] w fun e w' => ∃ v, e = .returned v ∧ R v w' := Q0Y.ok a3 a1 a2 a0 (Q0Y.up a3 a1 a2 a0 h)
abbrev Q0g.J1 (a2 : Int) (I0 : Nat → List Value → World → Prop) (ax : Nat) (w ae ay : World) (R : RW) (an : World) : Prop :=
 thenW (an.drew) fun a5 =>
 ∃ (ah : Option Addr) (af au : Nat), a5.cell? ((blk w.heap.size).add 0) = some (.slice ah af au) ∧
 ah.elim False fun aw =>
 0 ≤ (a2 : Int) ∧ (a2 : Int) < (af : Int) ∧
 ∃ (aa : Int), a5.cell? ((aw.add (Int.toNat a2 * 5)).add 0) = some (.int .i64 aa) ∧
 ∃ (ab : Int), a5.cell? ((blk ay.heap.size).add 0) = some (.int .i64 ab) ∧
 bif aa != ab then (
 thenW (a5.drew) fun a3 =>
 ∃ (a8 : Option Addr) (ac ad : Nat), a3.cell? ((blk ae.heap.size).add 0) = some (.slice a8 ac ad) ∧
 ∃ (aj : Option Addr) (ag aq : Nat), a3.cell? ((blk w.heap.size).add 0) = some (.slice aj ag aq) ∧
 aj.elim False fun av =>
 0 ≤ (a2 : Int) ∧ (a2 : Int) < (ag : Int) ∧
 ∃ (a6 a0 a4 a7 a1 : Int), cellsAt a3 (av.add (Int.toNat a2 * 5)) [.int .i64 a6, .int .u64 a0, .int .i64 a4, .int .i64 a7, .int .i64 a1] 0 ∧
 thenW (a3.alloc (.cells #[.int .i64 a6, .int .u64 a0, .int .i64 a4, .int .i64 a7, .int .i64 a1] 112)) fun am =>
 am.cell? ((blk ae.heap.size).add 0) = some (.slice a8 ac ad) ∧
 ∃ (al : Option Addr) (ak ai : Nat) (a9 : World), (Builtin.append_ #[66, 66] 66 #[.slice a8 ac ad, .slice (some (blk a3.heap.size)) 1 1]).run Tryz.prog am = .ok (.slice al ak ai) a9 ∧
 Q0e a9 (((blk ae.heap.size).add 0).add 0) ∧
 thenW (a9.setCell (((blk ae.heap.size).add 0).add 0) (.slice al ak ai)) fun ap =>
 ∃ ao, ao < ax ∧ I0 ao [.bool true, .int .i64 (IntKind.i64.wrap (a2 + 1))] ap) else (
 ∃ ar, ar < ax ∧ I0 ar [.bool true, .int .i64 (IntKind.i64.wrap (a2 + 1))] a5)

abbrev Q0g.J2 (av : Bool) (a2 : Int) (I0 : Nat → List Value → World → Prop) (ay : Nat) (w ae az : World) (R : RW) (ar : World) : Prop :=
 thenW (ar.drew) fun a5 =>
 ∃ (aj : Option Addr) (ak ap : Nat), a5.cell? ((blk w.heap.size).add 0) = some (.slice aj ak ap) ∧
 aj.elim False fun ax =>
 0 ≤ (a2 : Int) ∧ (a2 : Int) < (ak : Int) ∧
 ∃ (ab : Int), a5.cell? ((ax.add (Int.toNat a2 * 5)).add 0) = some (.int .i64 ab) ∧
 ∃ (aa : Int), a5.cell? ((blk az.heap.size).add 0) = some (.int .i64 aa) ∧
 bif ab != aa then (
 thenW (a5.drew) fun a4 =>
 ∃ (a7 : Option Addr) (ac a8 : Nat), a4.cell? ((blk ae.heap.size).add 0) = some (.slice a7 ac a8) ∧
 ∃ (ai : Option Addr) (ah aq : Nat), a4.cell? ((blk w.heap.size).add 0) = some (.slice ai ah aq) ∧
 ai.elim False fun aw =>
 0 ≤ (a2 : Int) ∧ (a2 : Int) < (ah : Int) ∧
 ∃ (a6 a0 a3 a9 a1 : Int), cellsAt a4 (aw.add (Int.toNat a2 * 5)) [.int .i64 a6, .int .u64 a0, .int .i64 a3, .int .i64 a9, .int .i64 a1] 0 ∧
 thenW (a4.alloc (.cells #[.int .i64 a6, .int .u64 a0, .int .i64 a3, .int .i64 a9, .int .i64 a1] 112)) fun al =>
 al.cell? ((blk ae.heap.size).add 0) = some (.slice a7 ac a8) ∧
 ∃ (ag : Option Addr) (am af : Nat) (ad : World), (Builtin.append_ #[66, 66] 66 #[.slice a7 ac a8, .slice (some (blk a4.heap.size)) 1 1]).run Tryz.prog al = .ok (.slice ag am af) ad ∧
 Q0e ad (((blk ae.heap.size).add 0).add 0) ∧
 thenW (ad.setCell (((blk ae.heap.size).add 0).add 0) (.slice ag am af)) fun an =>
 ∃ au, au < ay ∧ I0 au [.bool av, .int .i64 (IntKind.i64.wrap (a2 + 1))] an) else (
 ∃ ao, ao < ay ∧ I0 ao [.bool av, .int .i64 (IntKind.i64.wrap (a2 + 1))] a5)

abbrev Q0g.J3 (aj ak : Bool) (ai : Int) (I0 : Nat → List Value → World → Prop) (ah : Nat) (w a4 ag : World) (R : RW) (a5 : World) : Prop :=
 bif aj then (
 ∃ (ad : Option Addr) (ac ab : Nat), a5.cell? ((blk a4.heap.size).add 0) = some (.slice ad ac ab) ∧
 ∃ (a3 a0 a2 a6 a1 : Int), cellsAt a5 (blk ag.heap.size) [.int .i64 a3, .int .u64 a0, .int .i64 a2, .int .i64 a6, .int .i64 a1] 0 ∧
 thenW (a5.alloc (.cells #[.int .i64 a3, .int .u64 a0, .int .i64 a2, .int .i64 a6, .int .i64 a1] 112)) fun af =>
 ∃ (a9 : Option Addr) (a8 aa : Nat) (a7 : World), (Builtin.append_ #[66, 66] 66 #[.slice ad ac ab, .slice (some (blk a5.heap.size)) 1 1]).run Tryz.prog af = .ok (.slice a9 a8 aa) a7 ∧
 Q0e a7 (((blk a4.heap.size).add 0).add 0) ∧
 thenW (a7.setCell (((blk a4.heap.size).add 0).add 0) (.slice a9 a8 aa)) fun ae =>
 Q0g.J1 ai I0 ah w a4 ag R ae) else (
 Q0g.J2 ak ai I0 ah w a4 ag R a5)

abbrev Q0g.J4 (a3 : Bool) (a2 : Int) (I0 : Nat → List Value → World → Prop) (a4 : Nat) (w a1 a5 : World) (R : RW) (a0 : World) : Prop :=
 Q0g.J2 a3 a2 I0 a4 w a1 a5 R a0

abbrev Q0g.J5 (a7 : Bool) (a4 : Int) (I0 : Nat → List Value → World → Prop) (ab : Nat) (w a3 aa : World) (R : RW) (a8 : World) : Prop :=
 thenW (a8.drew) fun a0 =>
 bif !a7 then (
 ∃ (a5 : Option Addr) (a6 a9 : Nat), a0.cell? ((blk w.heap.size).add 0) = some (.slice a5 a6 a9) ∧
 a5.elim False fun ac =>
 0 ≤ (a4 : Int) ∧ (a4 : Int) < (a6 : Int) ∧
 ∃ (a1 : Int), a0.cell? ((ac.add (Int.toNat a4 * 5)).add 0) = some (.int .i64 a1) ∧
 ∃ (a2 : Int), a0.cell? ((blk aa.heap.size).add 0) = some (.int .i64 a2) ∧
 Q0g.J3 (decide (a1 ≥ a2)) a7 a4 I0 ab w a3 aa R a0) else (
 Q0g.J4 a7 a4 I0 ab w a3 aa R a0)

def Q0g.M (be : Option Addr) (b9 bi : Nat) (ar b6 am b4 bc au : Int) (R : RW) (w : World) : Prop :=
 thenW (w.alloc (.cells #[.slice be b9 bi, .int .i64 ar] 68)) fun bf =>
 thenW (bf.alloc (.cells #[.int .i64 b6, .int .u64 am, .int .i64 b4, .int .i64 bc, .int .i64 au] 112)) fun b7 =>
 thenW (b7.alloc (.cells #[.slice none 0 0, .int .i64 0] 68)) fun a6 =>
 ∃ (ag : Int), a6.cell? ((blk w.heap.size).add 1) = some (.int .i64 ag) ∧
 thenW (a6.alloc (.cells #[.slice none 0 0, .int .i64 0] 68)) fun bh =>
 putsK bh (blk a6.heap.size) [.slice none 0 0, .int .i64 ag] 0 fun bg =>
 ∃ (I0 : Nat → List Value → World → Prop) (bk : Nat), I0 bk [.bool false, .int .i64 0] bg ∧ ∀ (bj : Nat) (a7 : World) (aj : Bool) (bd : Int), I0 bj [.bool aj, .int .i64 bd] a7 →
 ∃ (ba : Option Addr) (b5 bb : Nat), a7.cell? ((blk w.heap.size).add 0) = some (.slice ba b5 bb) ∧
 bif decide (bd < (b5 : Int)) then (
 Q0g.J5 aj bd I0 bj w a6 bf R a7) else (
 bif !aj then (
 ∃ (az : Option Addr) (b2 av : Nat), a7.cell? ((blk a6.heap.size).add 0) = some (.slice az b2 av) ∧
 ∃ (af a2 ab ap a3 : Int), cellsAt a7 (blk bf.heap.size) [.int .i64 af, .int .u64 a2, .int .i64 ab, .int .i64 ap, .int .i64 a3] 0 ∧
 thenW (a7.alloc (.cells #[.int .i64 af, .int .u64 a2, .int .i64 ab, .int .i64 ap, .int .i64 a3] 112)) fun b8 =>
 ∃ (aw : Option Addr) (b1 ay : Nat) (aq : World), (Builtin.append_ #[66, 66] 66 #[.slice az b2 av, .slice (some (blk a7.heap.size)) 1 1]).run Tryz.prog b8 = .ok (.slice aw b1 ay) aq ∧
 Q0e aq (((blk a6.heap.size).add 0).add 0) ∧
 thenW (aq.setCell (((blk a6.heap.size).add 0).add 0) (.slice aw b1 ay)) fun b0 =>
 ∃ (an : Option Addr) (ah ao : Nat) (a4 : Int), cellsAt b0 (blk a6.heap.size) [.slice an ah ao, .int .i64 a4] 0 ∧
 putsK b0 (blk b7.heap.size) [.slice an ah ao, .int .i64 a4] 0 fun b3 =>
 ∃ (a8 : Option Addr) (aa a9 : Nat) (a1 : Int), cellsAt b3 (blk b7.heap.size) [.slice a8 aa a9, .int .i64 a1] 0 ∧
 R (.agg #[.slice a8 aa a9, .int .i64 a1]) b3) else (
 ∃ (al : Option Addr) (ai ak : Nat) (a5 : Int), cellsAt a7 (blk a6.heap.size) [.slice al ai ak, .int .i64 a5] 0 ∧
 putsK a7 (blk b7.heap.size) [.slice al ai ak, .int .i64 a5] 0 fun ax =>
 ∃ (ac : Option Addr) (ae ad : Nat) (a0 : Int), cellsAt ax (blk b7.heap.size) [.slice ac ae ad, .int .i64 a0] 0 ∧
 R (.agg #[.slice ac ae ad, .int .i64 a0]) ax))

theorem Q0g.ok (a7 : Option Addr) (a5 a6 : Nat) (a1 a4 a0 a3 a8 a2 : Int) {R : RW} {w : World} (h : Q0g.M a7 a5 a6 a1 a4 a0 a3 a8 a2 R w) : Calls Tryz.prog 61 #[.agg #[.slice a7 a5 a6, .int .i64 a1], .agg #[.int .i64 a4, .int .u64 a0, .int .i64 a3, .int .i64 a8, .int .i64 a2]] w fun e w' => ∃ v, e = .returned v ∧ R v w' :=
  Q0i follows (H := [(0, [2, 3, 4, 5], [(6, (.one .bool)), (7, (.one (.int .i64)))])]) (args := [.agg #[.slice a7 a5 a6, .int .i64 a1], .agg #[.int .i64 a4, .int .u64 a0, .int .i64 a3, .int .i64 a8, .int .i64 a2]]) (cast (by kernel_rfl) h)

def Q0g.N (bn : Option Addr) (a9 cm : Nat) (b5 a4 ad b4 bu al : Int) (R : RW) (w : World) : Prop :=
 ∀ (bh : World) (bp bv b6 ap : Nat), Ext no w bh → Priv w bh [bp, bv, b6, ap] →
 ∃ (I0 : Nat → List Value → World → Prop) (cl : Nat), I0 cl [.bool false, .int .i64 0, .slice none 0 0, .int .i64 0, .slice none 0 0, .int .i64 b5] bh ∧ ∀ (bd : Nat) (a3 : World) (a5 : Bool) (a1 : Int) (ai : Option Addr) (aj ah : Nat) (a2 : Int) (aa : Option Addr) (ae af : Nat) (a0 : Int), I0 bd [.bool a5, .int .i64 a1, .slice ai aj ah, .int .i64 a2, .slice aa ae af, .int .i64 a0] a3 →
 (a1 < (a9 : Int) →
 (a5 = false →
 ∃ bl : Addr, bn = some bl ∧
 0 ≤ (a1 : Int) ∧ (a1 : Int) < (a9 : Int) ∧
 ∃ (ax : Int), a3.cell? ((bl.add (Int.toNat a1 * 5)).add 0) = some (.int .i64 ax) ∧
 (ax ≥ a4 →
 ∀ (ar : World) (cb : Nat), Ext no a3 ar → Blk ar cb 112 [.int .i64 a4, .int .u64 ad, .int .i64 b4, .int .i64 bu, .int .i64 al] → a3.heap.size ≤ cb → cb < ar.heap.size →
 ∃ (bf : Option Addr) (bi bc : Nat) (bj : World), (Builtin.append_ #[66, 66] 66 #[.slice aa ae af, .slice (some (blk cb)) 1 1]).run Tryz.prog ar = .ok (.slice bf bi bc) bj ∧
 Keep [bp, bv, b6, ap] ar bj ∧
 0 ≤ (a1 : Int) ∧ (a1 : Int) < (a9 : Int) ∧
 ∀ (ao : World), Ext (fun b => b = ap) bj ao →
 ∃ (aw : Int), ao.cell? ((bl.add (Int.toNat a1 * 5)).add 0) = some (.int .i64 aw) ∧
 (aw ≠ a4 →
 0 ≤ (a1 : Int) ∧ (a1 : Int) < (a9 : Int) ∧
 ∃ (az a7 an b9 ag : Int), cellsAt ao (bl.add (Int.toNat a1 * 5)) [.int .i64 az, .int .u64 a7, .int .i64 an, .int .i64 b9, .int .i64 ag] 0 ∧
 ∀ (b3 : World) (c9 : Nat), Ext no ao b3 → Blk b3 c9 112 [.int .i64 az, .int .u64 a7, .int .i64 an, .int .i64 b9, .int .i64 ag] → ao.heap.size ≤ c9 → c9 < b3.heap.size →
 ∃ (c0 : Option Addr) (c7 c2 : Nat) (bk : World), (Builtin.append_ #[66, 66] 66 #[.slice bf bi bc, .slice (some (blk c9)) 1 1]).run Tryz.prog b3 = .ok (.slice c0 c7 c2) bk ∧
 Keep [bp, bv, b6, ap] b3 bk ∧
 (-9223372036854775808 : Int) ≤ (a1 + 1) ∧ (a1 + 1) < 9223372036854775808 ∧
 ∀ (br : World), Ext (fun b => b = ap) bk br →
 ∃ ch, ch < bd ∧ I0 ch [.bool true, .int .i64 (a1 + 1), .slice ai aj ah, .int .i64 a2, .slice c0 c7 c2, .int .i64 a0] br) ∧
 (aw = a4 →
 (-9223372036854775808 : Int) ≤ (a1 + 1) ∧ (a1 + 1) < 9223372036854775808 ∧
 ∃ ci, ci < bd ∧ I0 ci [.bool true, .int .i64 (a1 + 1), .slice ai aj ah, .int .i64 a2, .slice bf bi bc, .int .i64 a0] ao)) ∧
 (ax < a4 →
 0 ≤ (a1 : Int) ∧ (a1 : Int) < (a9 : Int) ∧
 ∃ (aq : Int), a3.cell? ((bl.add (Int.toNat a1 * 5)).add 0) = some (.int .i64 aq) ∧
 (aq ≠ a4 →
 0 ≤ (a1 : Int) ∧ (a1 : Int) < (a9 : Int) ∧
 ∃ (av a8 ak b8 ab : Int), cellsAt a3 (bl.add (Int.toNat a1 * 5)) [.int .i64 av, .int .u64 a8, .int .i64 ak, .int .i64 b8, .int .i64 ab] 0 ∧
 ∀ (b2 : World) (cd : Nat), Ext no a3 b2 → Blk b2 cd 112 [.int .i64 av, .int .u64 a8, .int .i64 ak, .int .i64 b8, .int .i64 ab] → a3.heap.size ≤ cd → cd < b2.heap.size →
 ∃ (bz : Option Addr) (bq c1 : Nat) (be : World), (Builtin.append_ #[66, 66] 66 #[.slice aa ae af, .slice (some (blk cd)) 1 1]).run Tryz.prog b2 = .ok (.slice bz bq c1) be ∧
 Keep [bp, bv, b6, ap] b2 be ∧
 (-9223372036854775808 : Int) ≤ (a1 + 1) ∧ (a1 + 1) < 9223372036854775808 ∧
 ∀ (c3 : World), Ext (fun b => b = ap) be c3 →
 ∃ cf, cf < bd ∧ I0 cf [.bool a5, .int .i64 (a1 + 1), .slice ai aj ah, .int .i64 a2, .slice bz bq c1, .int .i64 a0] c3) ∧
 (aq = a4 →
 (-9223372036854775808 : Int) ≤ (a1 + 1) ∧ (a1 + 1) < 9223372036854775808 ∧
 ∀ (c5 : World), Ext no a3 c5 →
 ∃ ck, ck < bd ∧ I0 ck [.bool a5, .int .i64 (a1 + 1), .slice ai aj ah, .int .i64 a2, .slice aa ae af, .int .i64 a0] c5))) ∧
 (a5 = true →
 ∃ ce : Addr, bn = some ce ∧
 0 ≤ (a1 : Int) ∧ (a1 : Int) < (a9 : Int) ∧
 ∃ (au : Int), a3.cell? ((ce.add (Int.toNat a1 * 5)).add 0) = some (.int .i64 au) ∧
 (au ≠ a4 →
 0 ≤ (a1 : Int) ∧ (a1 : Int) < (a9 : Int) ∧
 ∃ (b1 a6 am ba ac : Int), cellsAt a3 (ce.add (Int.toNat a1 * 5)) [.int .i64 b1, .int .u64 a6, .int .i64 am, .int .i64 ba, .int .i64 ac] 0 ∧
 ∀ (ay : World) (cc : Nat), Ext no a3 ay → Blk ay cc 112 [.int .i64 b1, .int .u64 a6, .int .i64 am, .int .i64 ba, .int .i64 ac] → a3.heap.size ≤ cc → cc < ay.heap.size →
 ∃ (bw : Option Addr) (c6 bs : Nat) (bg : World), (Builtin.append_ #[66, 66] 66 #[.slice aa ae af, .slice (some (blk cc)) 1 1]).run Tryz.prog ay = .ok (.slice bw c6 bs) bg ∧
 Keep [bp, bv, b6, ap] ay bg ∧
 (-9223372036854775808 : Int) ≤ (a1 + 1) ∧ (a1 + 1) < 9223372036854775808 ∧
 ∀ (bm : World), Ext (fun b => b = ap) bg bm →
 ∃ cj, cj < bd ∧ I0 cj [.bool a5, .int .i64 (a1 + 1), .slice ai aj ah, .int .i64 a2, .slice bw c6 bs, .int .i64 a0] bm) ∧
 (au = a4 →
 (-9223372036854775808 : Int) ≤ (a1 + 1) ∧ (a1 + 1) < 9223372036854775808 ∧
 ∀ (c8 : World), Ext no a3 c8 →
 ∃ cg, cg < bd ∧ I0 cg [.bool a5, .int .i64 (a1 + 1), .slice ai aj ah, .int .i64 a2, .slice aa ae af, .int .i64 a0] c8))) ∧
 ((a9 : Int) ≤ a1 →
 (a5 = false →
 ∀ (b0 : World) (ca : Nat), Ext no a3 b0 → Blk b0 ca 112 [.int .i64 a4, .int .u64 ad, .int .i64 b4, .int .i64 bu, .int .i64 al] → a3.heap.size ≤ ca → ca < b0.heap.size →
 ∃ (c4 : Option Addr) (bo bt : Nat) (bb : World), (Builtin.append_ #[66, 66] 66 #[.slice aa ae af, .slice (some (blk ca)) 1 1]).run Tryz.prog b0 = .ok (.slice c4 bo bt) bb ∧
 Keep [b6, ap] b0 bb ∧
 ∀ (bx : World), Ext (fun b => b = b6 ∨ b = ap) bb bx →
 R (.agg #[.slice c4 bo bt, .int .i64 a0]) bx) ∧
 (a5 = true →
 ∀ (b7 : World), Ext (fun b => b = b6) a3 b7 →
 R (.agg #[.slice aa ae af, .int .i64 a0]) b7))

theorem Q0g.up (ae : Option Addr) (af ag : Nat) (a8 aa a7 ah b1 a9 : Int) {R : RW} {w : World} (h : Q0g.N ae af ag a8 aa a7 ah b1 a9 R w) : Q0g.M ae af ag a8 aa a7 ah b1 a9 R w := by
  unfold Q0g.M
  unfold Q0g.N at h
  refine Q01 fun ef e8 => ?_
  have a3 := Blk.of_new e8
  have ex := ((Ext.refl no w)).size
  have ei := (Ext.refl no w).x_alloc e8
  refine Q01 fun bv e9 => ?_
  have a2 := Blk.of_new e9
  have en := (ei).size
  have eg := Nat.ne_of_lt a3.lt
  have a3 := a3.x_alloc e9
  have ek := ei.x_alloc e9
  refine Q01 fun a5 cz => ?_
  have a4 := Blk.of_new cz
  have el := (ek).size
  have ee := Nat.ne_of_lt a3.lt
  have a3 := a3.x_alloc cz
  have eh := Nat.ne_of_lt a2.lt
  have a2 := a2.x_alloc cz
  have cb := ek.x_alloc cz
  refine ⟨a8, a3.celli 1 rfl rfl, ?_⟩
  refine Q01 fun es cd => ?_
  have a1 := Blk.of_new cd
  have ej := (cb).size
  have an := Nat.ne_of_lt a3.lt
  have a3 := a3.x_alloc cd
  have ao := Nat.ne_of_lt a2.lt
  have a2 := a2.x_alloc cd
  have al := Nat.ne_of_lt a4.lt
  have a4 := a4.x_alloc cd
  have d7 := cb.x_alloc cd
  refine Q0s (k := 0) (j := 0) a1 (Nat.le_of_ble_eq_true rfl) fun co cy ep => ?_
  have dr := d7.x_puts cy (.inr ej)
  have a3 := a3.x_puts cy an
  have a2 := a2.x_puts cy ao
  have a4 := a4.x_puts cy al
  have a1 : Blk co a5.heap.size 68 [.slice none 0 0, .int .i64 a8] := ep
  have h := h co (w.heap.size) (ef.heap.size) (bv.heap.size) (a5.heap.size) dr (Priv.cons ex a3.lt (Priv.cons en a2.lt (Priv.cons el a4.lt (Priv.cons ej a1.lt Priv.nil))))
  obtain ⟨I0, eq, h0, h⟩ := h
  refine ⟨fun k vs ww => ∃ (aj : Option Addr) (ak ai : Nat) (a6 : Int) (ab : Option Addr) (ac ad : Nat) (a0 : Int), Blk ww w.heap.size 68 [.slice ae af ag, .int .i64 a8] ∧ Blk ww ef.heap.size 112 [.int .i64 aa, .int .u64 a7, .int .i64 ah, .int .i64 b1, .int .i64 a9] ∧ Blk ww bv.heap.size 68 [.slice aj ak ai, .int .i64 a6] ∧ Blk ww a5.heap.size 68 [.slice ab ac ad, .int .i64 a0] ∧ I0 k (vs ++ [.slice aj ak ai, .int .i64 a6, .slice ab ac ad, .int .i64 a0]) ww, eq, ⟨none, 0, 0, 0, none, 0, 0, a8, a3, a2, a4, a1, h0⟩, fun em am c1 ez hI => ?_⟩
  obtain ⟨aj, ak, ai, a6, ab, ac, ad, a0, a3, a2, a4, a1, hI⟩ := hI
  have h := h em am c1 ez aj ak ai a6 ab ac ad a0 hI
  refine ⟨ae, af, ag, a3.celli 0 rfl rfl, ?_⟩
  refine bif_fo (fun d6 => ?_) (fun d6 => ?_)
  ·have h := h.2 (Int.not_lt.1 (of_decide_eq_false d6))
   refine bif_fo (fun du => ?_) (fun du => ?_)
   ·have h := h.2 (not_f du)
    refine ⟨ab, ac, ad, a0, ⟨a1.celli 0 rfl rfl, a1.celli 1 rfl rfl, trivial⟩, ?_⟩
    have cg : Ext (fun b => b = bv.heap.size) am am := ((Ext.refl no am)).none
    refine Q0s (k := 0) (j := 0) a4 (Nat.le_of_ble_eq_true rfl) fun bf dy dt => ?_
    have cx := cg.x_puts dy (.inl rfl)
    have a4 : Blk bf bv.heap.size 68 [.slice ab ac ad, .int .i64 a0] := dt
    refine ⟨ab, ac, ad, a0, ⟨a4.celli 0 rfl rfl, a4.celli 1 rfl rfl, trivial⟩, ?_⟩
    have h := h bf cx
    exact h
   have h := h.1 (not_t du)
   refine ⟨ab, ac, ad, a1.celli 0 rfl rfl, ?_⟩
   refine ⟨aa, a7, ah, b1, a9, ⟨a2.celli 0 rfl rfl, a2.celli 1 rfl rfl, a2.celli 2 rfl rfl, a2.celli 3 rfl rfl, a2.celli 4 rfl rfl, trivial⟩, ?_⟩
   refine Q01 fun e0 bw => ?_
   have a4 := a4.x_alloc bw
   have a1 := a1.x_alloc bw
   have h := h e0 am.heap.size ((Ext.refl no am).x_alloc bw) (Blk.of_new bw) ((Ext.refl no am)).size (Q0A bw)
   obtain ⟨be, b7, b8, aw, hr, hk, h⟩ := h
   refine ⟨be, b7, b8, aw, hr, ?_⟩
   have a4 := hk.blk a4 (by simp)
   have a1 := hk.blk a1 (by simp)
   have d8 : Ext (fun b => b = a5.heap.size) aw aw := ((Ext.refl no aw)).none
   refine ⟨a1.cani 0 rfl rfl, Q01 fun e1 dh => ?_⟩
   have d2 := d8.x_set (q := a5.heap.size) (i := 0) rfl (.inl rfl) dh
   have a4 := a4.oth (q := a5.heap.size) (i := 0) rfl al dh
   have a1 := a1.seti 0 rfl dh
   refine ⟨be, b7, b8, a0, ⟨a1.celli 0 rfl rfl, a1.celli 1 rfl rfl, trivial⟩, ?_⟩
   have dw : Ext (fun b => b = bv.heap.size ∨ b = a5.heap.size) aw e1 := (d2).mono fun _ h _ => .inr h
   refine Q0s (k := 0) (j := 0) a4 (Nat.le_of_ble_eq_true rfl) fun ci eo eu => ?_
   have d1 := dw.x_puts eo (.inl (.inl rfl))
   have a4 : Blk ci bv.heap.size 68 [.slice be b7 b8, .int .i64 a0] := eu
   refine ⟨be, b7, b8, a0, ⟨a4.celli 0 rfl rfl, a4.celli 1 rfl rfl, trivial⟩, ?_⟩
   have h := h ci d1
   exact h
  have h := h.1 (of_decide_eq_true d6)
  unfold Q0g.J5
  refine Q01 fun d3 ck => ?_
  have b4 := (Ext.refl no am).x_drew ck
  have a3 := a3.x_drew ck
  have a2 := a2.x_drew ck
  have a4 := a4.x_drew ck
  have a1 := a1.x_drew ck
  refine bif_fo (fun dv => ?_) (fun dv => ?_)
  ·have h := h.2 (not_f dv)
   first | unfold Q0g.J3 | unfold Q0g.J4
   first | unfold Q0g.J1 | unfold Q0g.J2
   refine Q01 fun eb cq => ?_
   have bl := b4.x_drew cq
   have a3 := a3.x_drew cq
   have a2 := a2.x_drew cq
   have a4 := a4.x_drew cq
   have a1 := a1.x_drew cq
   refine ⟨ae, af, ag, a3.celli 0 rfl rfl, ?_⟩
   obtain ⟨f3, c8, h⟩ := h
   refine Q05 c8 ?_
   obtain ⟨aq, ar, h⟩ := h
   refine ⟨aq, ar, ?_⟩
   obtain ⟨c7, db, h⟩ := h
   refine ⟨c7, (bl).cell db id, ?_⟩
   refine ⟨aa, a2.celli 0 rfl rfl, ?_⟩
   refine bif_fo (fun ds => ?_) (fun ds => ?_)
   ·have h := h.2 (bne_f ds)
    obtain ⟨ay, b3, h⟩ := h
    try rw [w64 ay b3]
    have h := h eb bl
    obtain ⟨et, hk, h⟩ := h
    exact ⟨et, hk, aj, ak, ai, a6, ab, ac, ad, a0, a3, a2, a4, a1, h⟩
   have h := h.1 (bne_t ds)
   refine Q01 fun e4 cc => ?_
   have bg := bl.x_drew cc
   have a3 := a3.x_drew cc
   have a2 := a2.x_drew cc
   have a4 := a4.x_drew cc
   have a1 := a1.x_drew cc
   refine ⟨ab, ac, ad, a1.celli 0 rfl rfl, ?_⟩
   refine ⟨ae, af, ag, a3.celli 0 rfl rfl, ?_⟩
   refine Q05 c8 ?_
   obtain ⟨aq, ar, h⟩ := h
   refine ⟨aq, ar, ?_⟩
   obtain ⟨br, ap, ba, cu, b0, e2, h⟩ := h
   refine ⟨br, ap, ba, cu, b0, Q1X (bg) e2, ?_⟩
   refine Q01 fun dx bs => ?_
   have a3 := a3.x_alloc bs
   have a2 := a2.x_alloc bs
   have a4 := a4.x_alloc bs
   have a1 := a1.x_alloc bs
   have h := h dx e4.heap.size (bg.x_alloc bs) (Blk.of_new bs) (bg).size (Q0A bs)
   refine ⟨a1.celli 0 rfl rfl, ?_⟩
   obtain ⟨c9, cv, c6, b9, hr, hk, h⟩ := h
   refine ⟨c9, cv, c6, b9, hr, ?_⟩
   have a3 := hk.blk a3 (by simp)
   have a2 := hk.blk a2 (by simp)
   have a4 := hk.blk a4 (by simp)
   have a1 := hk.blk a1 (by simp)
   have dz : Ext (fun b => b = a5.heap.size) b9 b9 := ((Ext.refl no b9)).none
   refine ⟨a1.cani 0 rfl rfl, Q01 fun d0 bz => ?_⟩
   have d9 := dz.x_set (q := a5.heap.size) (i := 0) rfl (.inl rfl) bz
   have a3 := a3.oth (q := a5.heap.size) (i := 0) rfl an bz
   have a2 := a2.oth (q := a5.heap.size) (i := 0) rfl ao bz
   have a4 := a4.oth (q := a5.heap.size) (i := 0) rfl al bz
   have a1 := a1.seti 0 rfl bz
   obtain ⟨ay, b3, h⟩ := h
   try rw [w64 ay b3]
   have h := h d0 d9
   obtain ⟨ey, hk, h⟩ := h
   exact ⟨ey, hk, aj, ak, ai, a6, c9, cv, c6, a0, a3, a2, a4, a1, h⟩
  have h := h.1 (not_t dv)
  refine ⟨ae, af, ag, a3.celli 0 rfl rfl, ?_⟩
  obtain ⟨f2, ax, h⟩ := h
  refine Q05 ax ?_
  obtain ⟨aq, ar, h⟩ := h
  refine ⟨aq, ar, ?_⟩
  obtain ⟨cm, ed, h⟩ := h
  refine ⟨cm, (b4).cell ed id, ?_⟩
  refine ⟨aa, a2.celli 0 rfl rfl, ?_⟩
  first | unfold Q0g.J3 | unfold Q0g.J4
  refine bif_fo (fun dg => ?_) (fun dg => ?_)
  ·have h := h.2 (Int.not_le.1 (of_decide_eq_false dg))
   first | unfold Q0g.J1 | unfold Q0g.J2
   refine Q01 fun e7 c0 => ?_
   have bo := b4.x_drew c0
   have a3 := a3.x_drew c0
   have a2 := a2.x_drew c0
   have a4 := a4.x_drew c0
   have a1 := a1.x_drew c0
   refine ⟨ae, af, ag, a3.celli 0 rfl rfl, ?_⟩
   refine Q05 ax ?_
   obtain ⟨aq, ar, h⟩ := h
   refine ⟨aq, ar, ?_⟩
   obtain ⟨c2, dm, h⟩ := h
   refine ⟨c2, (bo).cell dm id, ?_⟩
   refine ⟨aa, a2.celli 0 rfl rfl, ?_⟩
   refine bif_fo (fun ea => ?_) (fun ea => ?_)
   ·have h := h.2 (bne_f ea)
    obtain ⟨ay, b3, h⟩ := h
    try rw [w64 ay b3]
    have h := h e7 bo
    obtain ⟨f0, hk, h⟩ := h
    exact ⟨f0, hk, aj, ak, ai, a6, ab, ac, ad, a0, a3, a2, a4, a1, h⟩
   have h := h.1 (bne_t ea)
   refine Q01 fun dq bx => ?_
   have bq := bo.x_drew bx
   have a3 := a3.x_drew bx
   have a2 := a2.x_drew bx
   have a4 := a4.x_drew bx
   have a1 := a1.x_drew bx
   refine ⟨ab, ac, ad, a1.celli 0 rfl rfl, ?_⟩
   refine ⟨ae, af, ag, a3.celli 0 rfl rfl, ?_⟩
   refine Q05 ax ?_
   obtain ⟨aq, ar, h⟩ := h
   refine ⟨aq, ar, ?_⟩
   obtain ⟨bk, av, b5, cl, az, dj, h⟩ := h
   refine ⟨bk, av, b5, cl, az, Q1X (bq) dj, ?_⟩
   refine Q01 fun e3 bu => ?_
   have a3 := a3.x_alloc bu
   have a2 := a2.x_alloc bu
   have a4 := a4.x_alloc bu
   have a1 := a1.x_alloc bu
   have h := h e3 dq.heap.size (bq.x_alloc bu) (Blk.of_new bu) (bq).size (Q0A bu)
   refine ⟨a1.celli 0 rfl rfl, ?_⟩
   obtain ⟨cn, c4, cs, b6, hr, hk, h⟩ := h
   refine ⟨cn, c4, cs, b6, hr, ?_⟩
   have a3 := hk.blk a3 (by simp)
   have a2 := hk.blk a2 (by simp)
   have a4 := hk.blk a4 (by simp)
   have a1 := hk.blk a1 (by simp)
   have d4 : Ext (fun b => b = a5.heap.size) b6 b6 := ((Ext.refl no b6)).none
   refine ⟨a1.cani 0 rfl rfl, Q01 fun e6 c3 => ?_⟩
   have di := d4.x_set (q := a5.heap.size) (i := 0) rfl (.inl rfl) c3
   have a3 := a3.oth (q := a5.heap.size) (i := 0) rfl an c3
   have a2 := a2.oth (q := a5.heap.size) (i := 0) rfl ao c3
   have a4 := a4.oth (q := a5.heap.size) (i := 0) rfl al c3
   have a1 := a1.seti 0 rfl c3
   obtain ⟨ay, b3, h⟩ := h
   try rw [w64 ay b3]
   have h := h e6 di
   obtain ⟨er, hk, h⟩ := h
   exact ⟨er, hk, aj, ak, ai, a6, cn, c4, cs, a0, a3, a2, a4, a1, h⟩
  have h := h.1 (of_decide_eq_true dg)
  refine ⟨ab, ac, ad, a1.celli 0 rfl rfl, ?_⟩
  refine ⟨aa, a7, ah, b1, a9, ⟨a2.celli 0 rfl rfl, a2.celli 1 rfl rfl, a2.celli 2 rfl rfl, a2.celli 3 rfl rfl, a2.celli 4 rfl rfl, trivial⟩, ?_⟩
  refine Q01 fun da bn => ?_
  have a3 := a3.x_alloc bn
  have a2 := a2.x_alloc bn
  have a4 := a4.x_alloc bn
  have a1 := a1.x_alloc bn
  have h := h da d3.heap.size (b4.x_alloc bn) (Blk.of_new bn) (b4).size (Q0A bn)
  obtain ⟨bj, bm, bh, bc, hr, hk, h⟩ := h
  refine ⟨bj, bm, bh, bc, hr, ?_⟩
  have a3 := hk.blk a3 (by simp)
  have a2 := hk.blk a2 (by simp)
  have a4 := hk.blk a4 (by simp)
  have a1 := hk.blk a1 (by simp)
  have dn : Ext (fun b => b = a5.heap.size) bc bc := ((Ext.refl no bc)).none
  refine ⟨a1.cani 0 rfl rfl, Q01 fun f1 ce => ?_⟩
  have dk := dn.x_set (q := a5.heap.size) (i := 0) rfl (.inl rfl) ce
  have a3 := a3.oth (q := a5.heap.size) (i := 0) rfl an ce
  have a2 := a2.oth (q := a5.heap.size) (i := 0) rfl ao ce
  have a4 := a4.oth (q := a5.heap.size) (i := 0) rfl al ce
  have a1 := a1.seti 0 rfl ce
  first | unfold Q0g.J1 | unfold Q0g.J2
  refine Q01 fun cf ca => ?_
  have dc := dk.x_drew ca
  have a3 := a3.x_drew ca
  have a2 := a2.x_drew ca
  have a4 := a4.x_drew ca
  have a1 := a1.x_drew ca
  refine ⟨ae, af, ag, a3.celli 0 rfl rfl, ?_⟩
  refine Q05 ax ?_
  obtain ⟨aq, ar, h⟩ := h
  refine ⟨aq, ar, ?_⟩
  have h := h cf dc
  obtain ⟨cj, dd, h⟩ := h
  refine ⟨cj, dd, ?_⟩
  refine ⟨aa, a2.celli 0 rfl rfl, ?_⟩
  refine bif_fo (fun ec => ?_) (fun ec => ?_)
  ·have h := h.2 (bne_f ec)
   obtain ⟨ay, b3, h⟩ := h
   try rw [w64 ay b3]
   obtain ⟨ew, hk, h⟩ := h
   exact ⟨ew, hk, aj, ak, ai, a6, bj, bm, bh, a0, a3, a2, a4, a1, h⟩
  have h := h.1 (bne_t ec)
  refine Q01 fun dp c5 => ?_
  have bi := (Ext.refl no cf).x_drew c5
  have a3 := a3.x_drew c5
  have a2 := a2.x_drew c5
  have a4 := a4.x_drew c5
  have a1 := a1.x_drew c5
  refine ⟨bj, bm, bh, a1.celli 0 rfl rfl, ?_⟩
  refine ⟨ae, af, ag, a3.celli 0 rfl rfl, ?_⟩
  refine Q05 ax ?_
  obtain ⟨aq, ar, h⟩ := h
  refine ⟨aq, ar, ?_⟩
  obtain ⟨bp, au, bb, cp, b2, d5, h⟩ := h
  refine ⟨bp, au, bb, cp, b2, Q1X (bi) d5, ?_⟩
  refine Q01 fun e5 bt => ?_
  have a3 := a3.x_alloc bt
  have a2 := a2.x_alloc bt
  have a4 := a4.x_alloc bt
  have a1 := a1.x_alloc bt
  have h := h e5 dp.heap.size (bi.x_alloc bt) (Blk.of_new bt) (bi).size (Q0A bt)
  refine ⟨a1.celli 0 rfl rfl, ?_⟩
  obtain ⟨cr, cw, ct, bd, hr, hk, h⟩ := h
  refine ⟨cr, cw, ct, bd, hr, ?_⟩
  have a3 := hk.blk a3 (by simp)
  have a2 := hk.blk a2 (by simp)
  have a4 := hk.blk a4 (by simp)
  have a1 := hk.blk a1 (by simp)
  have df : Ext (fun b => b = a5.heap.size) bd bd := ((Ext.refl no bd)).none
  refine ⟨a1.cani 0 rfl rfl, Q01 fun de ch => ?_⟩
  have dl := df.x_set (q := a5.heap.size) (i := 0) rfl (.inl rfl) ch
  have a3 := a3.oth (q := a5.heap.size) (i := 0) rfl an ch
  have a2 := a2.oth (q := a5.heap.size) (i := 0) rfl ao ch
  have a4 := a4.oth (q := a5.heap.size) (i := 0) rfl al ch
  have a1 := a1.seti 0 rfl ch
  obtain ⟨ay, b3, h⟩ := h
  try rw [w64 ay b3]
  have h := h de dl
  obtain ⟨ev, hk, h⟩ := h
  exact ⟨ev, hk, aj, ak, ai, a6, cr, cw, ct, a0, a3, a2, a4, a1, h⟩

theorem Q0g.go (a7 : Option Addr) (a5 a6 : Nat) (a1 a4 a0 a3 a8 a2 : Int) {R : RW} {w : World} (h : Q0g.N a7 a5 a6 a1 a4 a0 a3 a8 a2 R w) : Calls Tryz.prog 61 #[.agg #[.slice a7 a5 a6, .int .i64 a1], .agg #[.int .i64 a4, .int .u64 a0, .int .i64 a3, .int .i64 a8, .int .i64 a2]] w fun e w' => ∃ v, e = .returned v ∧ R v w' := Q0g.ok a7 a5 a6 a1 a4 a0 a3 a8 a2 (Q0g.up a7 a5 a6 a1 a4 a0 a3 a8 a2 h)
abbrev Q09.J1 (ah ai al : Addr) (R : RW) (a4 : World) : Prop :=
 ∃ (a9 : Option Addr) (aa ab : Nat) (a1 : Int), cellsAt a4 al [.slice a9 aa ab, .int .i64 a1] 0 ∧
 ∃ (ac : Int), a4.cell? (ai.add 1) = some (.int .i64 ac) ∧
 ∃ (a2 : Int), a4.cell? (ai.add 2) = some (.int .u64 a2) ∧
 ∃ (a6 : Int), a4.cell? (al.add 1) = some (.int .i64 a6) ∧
 Calls Tryz.prog 61 #[.agg #[.slice a9 aa ab, .int .i64 a1], .agg #[.int .i64 ac, .int .u64 a2, .int .i64 (IntKind.i64.wrap (a6 + 1)), .int .i64 (-1), .int .i64 0]] a4 fun aj ak => ∃ (ae : Option Addr) (ag af : Nat) (a8 : Int), aj = .returned (.agg #[.slice ae ag af, .int .i64 a8]) ∧
 putsK ak ah [.slice ae ag af, .int .i64 a8] 0 fun ad =>
 ∃ (a3 : Option Addr) (a5 a7 : Nat) (a0 : Int), cellsAt ad ah [.slice a3 a5 a7, .int .i64 a0] 0 ∧
 R (.tuple #[.agg #[.slice a3 a5 a7, .int .i64 a0], .int .i64 0]) ad

abbrev Q09.J2 (al am ap aq : Addr) (R : RW) (ac : World) : Prop :=
 ∃ (a5 : Int), ac.cell? (ap.add 3) = some (.int .i64 a5) ∧
 Q0e ac ((al.add 4).add 0) ∧
 thenW (ac.setCell ((al.add 4).add 0) (.int .i64 a5)) fun ag =>
 ∃ (ab : Option Addr) (ad af : Nat) (a3 : Int), cellsAt ag aq [.slice ab ad af, .int .i64 a3] 0 ∧
 ∃ (aa a1 a7 ae a2 : Int), cellsAt ag al [.int .i64 aa, .int .u64 a1, .int .i64 a7, .int .i64 ae, .int .i64 a2] 0 ∧
 Calls Tryz.prog 61 #[.agg #[.slice ab ad af, .int .i64 a3], .agg #[.int .i64 aa, .int .u64 a1, .int .i64 a7, .int .i64 ae, .int .i64 a2]] ag fun ao an => ∃ (aj : Option Addr) (ak ai : Nat) (a6 : Int), ao = .returned (.agg #[.slice aj ak ai, .int .i64 a6]) ∧
 putsK an am [.slice aj ak ai, .int .i64 a6] 0 fun ah =>
 ∃ (a4 : Option Addr) (a8 a9 : Nat) (a0 : Int), cellsAt ah am [.slice a4 a8 a9, .int .i64 a0] 0 ∧
 R (.tuple #[.agg #[.slice a4 a8 a9, .int .i64 a0], .int .i64 0]) ah

abbrev Q09.J3 (a1 a6 a8 a5 : Addr) (R : RW) (a3 : World) : Prop :=
 ∃ (a0 : Int), a3.cell? (a5.add 1) = some (.int .i64 a0) ∧
 Q0e a3 ((a1.add 3).add 0) ∧
 thenW (a3.setCell ((a1.add 3).add 0) (.int .i64 a0)) fun a2 =>
 ∃ (a4 : Int), a2.cell? (a1.add 3) = some (.int .i64 a4) ∧
 bif decide (a4 < 0) then (
 Q0e a2 ((a1.add 3).add 0) ∧
 thenW (a2.setCell ((a1.add 3).add 0) (.int .i64 (-2))) fun a7 =>
 Q09.J2 a1 a6 a8 a5 R a7) else (
 Q09.J2 a1 a6 a8 a5 R a2)

abbrev Q09.J4 (a8 a7 a9 aa : Addr) (R : RW) (a4 : World) : Prop :=
 ∃ (a6 : Int), a4.cell? (a8.add 3) = some (.int .i64 a6) ∧
 bif a6 != (-1) then (
 putsK a4 a7 [.slice none 0 0, .int .i64 0] 0 fun a5 =>
 ∃ (a2 : Option Addr) (a3 a1 : Nat) (a0 : Int), cellsAt a5 a7 [.slice a2 a3 a1, .int .i64 a0] 0 ∧
 R (.tuple #[.agg #[.slice a2 a3 a1, .int .i64 a0], .int .i64 10]) a5) else (
 Q09.J3 a8 a7 a9 aa R a4)

abbrev Q09.J5 (ay : Option Addr) (ao : Nat) (ah ax ap : Addr) (R : RW) (an : World) : Prop :=
 ∃ (I1 : Nat → List Value → World → Prop) (au : Nat), I1 au [.int .i64 0] an ∧ ∀ (ar : Nat) (a9 : World) (a4 : Int), I1 ar [.int .i64 a4] a9 →
 bif decide (a4 < (ao : Int)) then (
 thenW (a9.drew) fun a5 =>
 ay.elim False fun aw =>
 0 ≤ (a4 : Int) ∧ (a4 : Int) < (ao : Int) ∧
 ∃ (af : Int), a5.cell? ((aw.add (Int.toNat a4 * 5)).add 0) = some (.int .i64 af) ∧
 ∃ (a2 : Option Addr) (a3 ae : Nat), a5.cell? (ax.add 4) = some (.slice a2 a3 ae) ∧
 a2.elim False fun av =>
 0 ≤ (a4 : Int) ∧ (a4 : Int) < (a3 : Int) ∧
 ∃ (ag : Int), a5.cell? ((av.add (Int.toNat a4 * 2)).add 0) = some (.int .i64 ag) ∧
 bif af != ag then (
 putsK a5 ah [.slice none 0 0, .int .i64 0] 0 fun am =>
 ∃ (a7 : Option Addr) (a8 ad : Nat) (a0 : Int), cellsAt am ah [.slice a7 a8 ad, .int .i64 a0] 0 ∧
 R (.tuple #[.agg #[.slice a7 a8 ad, .int .i64 a0], .int .i64 10]) am) else (
 ∃ aq, aq < ar ∧ I1 aq [.int .i64 (IntKind.i64.wrap (a4 + 1))] a5)) else (
 ∃ (ai : Option Addr) (al ak : Nat), a9.cell? (ap.add 0) = some (.slice ai al ak) ∧
 ∃ (aa : Int), a9.cell? (ap.add 1) = some (.int .i64 aa) ∧
 putsK a9 ah [.slice ai al ak, .int .i64 (IntKind.i64.wrap (aa + 1))] 0 fun aj =>
 ∃ (a6 : Option Addr) (ab ac : Nat) (a1 : Int), cellsAt aj ah [.slice a6 ab ac, .int .i64 a1] 0 ∧
 R (.tuple #[.agg #[.slice a6 ab ac, .int .i64 a1], .int .i64 0]) aj)

abbrev Q09.J6 (ah au ar : Addr) (R : RW) (aq : World) : Prop :=
 ∃ (ai : Option Addr) (aj ak : Nat) (a3 : Int), cellsAt aq ar [.slice ai aj ak, .int .i64 a3] 0 ∧
 Calls Tryz.prog 51 #[.agg #[.slice ai aj ak, .int .i64 a3]] aq fun av a2 => ∃ (ad : Option Addr) (a5 am : Nat), av = .returned (.slice ad a5 am) ∧
 ∃ (af : Option Addr) (a4 ag : Nat), a2.cell? (au.add 4) = some (.slice af a4 ag) ∧
 bif (a5 : Int) != (a4 : Int) then (
 putsK a2 ah [.slice none 0 0, .int .i64 0] 0 fun ao =>
 ∃ (a8 : Option Addr) (a9 ab : Nat) (a0 : Int), cellsAt ao ah [.slice a8 a9 ab, .int .i64 a0] 0 ∧
 R (.tuple #[.agg #[.slice a8 a9 ab, .int .i64 a0], .int .i64 10]) ao) else (
 ∃ (an : Option Addr) (ae al : Nat), a2.cell? (au.add 5) = some (.slice an ae al) ∧
 ∃ (a7 : Int), a2.cell? (ar.add 1) = some (.int .i64 a7) ∧
 bif !(((ae : Int) == 0) == (a7 == (-1))) then (
 putsK a2 ah [.slice none 0 0, .int .i64 0] 0 fun ap =>
 ∃ (aa : Option Addr) (a6 ac : Nat) (a1 : Int), cellsAt ap ah [.slice aa a6 ac, .int .i64 a1] 0 ∧
 R (.tuple #[.agg #[.slice aa a6 ac, .int .i64 a1], .int .i64 10]) ap) else (
 Q09.J5 ad a5 ah au ar R a2))

abbrev Q09.J7 (a7 a9 a8 : Addr) (R : RW) (a5 : World) : Prop :=
 ∃ (a4 : Int), a5.cell? (a8.add 1) = some (.int .i64 a4) ∧
 bif decide (a4 ≥ 19) then (
 putsK a5 a7 [.slice none 0 0, .int .i64 0] 0 fun a6 =>
 ∃ (a1 : Option Addr) (a2 a3 : Nat) (a0 : Int), cellsAt a6 a7 [.slice a1 a2 a3, .int .i64 a0] 0 ∧
 R (.tuple #[.agg #[.slice a1 a2 a3, .int .i64 a0], .int .i64 2]) a6) else (
 Q09.J6 a7 a9 a8 R a5)

abbrev Q09.J8 (am ao ar : Addr) (R : RW) (an : World) : Prop :=
 ∃ (af : Option Addr) (ai ag : Nat) (a6 : Int), cellsAt an ar [.slice af ai ag, .int .i64 a6] 0 ∧
 ∃ (ah : Int), an.cell? (ao.add 1) = some (.int .i64 ah) ∧
 Calls Tryz.prog 60 #[.agg #[.slice af ai ag, .int .i64 a6], .int .i64 ah] an fun au al => ∃ (aj a2 ae ap ab : Int) (a7 : Bool), au = .returned (.tuple #[.agg #[.int .i64 aj, .int .u64 a2, .int .i64 ae, .int .i64 ap, .int .i64 ab], .bool a7]) ∧
 thenW (al.alloc (.cells #[.int .i64 0, .int .u64 0, .int .i64 0, .int .i64 0, .int .i64 0] 112)) fun av =>
 putsK av (blk al.heap.size) [.int .i64 aj, .int .u64 a2, .int .i64 ae, .int .i64 ap, .int .i64 ab] 0 fun ad =>
 ∃ (a8 : Int), ad.cell? (ao.add 0) = some (.int .i64 a8) ∧
 bif a8 == 1 then (
 bif a7 then (
 putsK ad am [.slice none 0 0, .int .i64 0] 0 fun aq =>
 ∃ (aa : Option Addr) (ac a9 : Nat) (a1 : Int), cellsAt aq am [.slice aa ac a9, .int .i64 a1] 0 ∧
 R (.tuple #[.agg #[.slice aa ac a9, .int .i64 a1], .int .i64 13]) aq) else (
 Q09.J1 am ao ar R ad)) else (
 bif a8 == 2 then (
 bif !a7 then (
 putsK ad am [.slice none 0 0, .int .i64 0] 0 fun ak =>
 ∃ (a5 : Option Addr) (a4 a3 : Nat) (a0 : Int), cellsAt ak am [.slice a5 a4 a3, .int .i64 a0] 0 ∧
 R (.tuple #[.agg #[.slice a5 a4 a3, .int .i64 a0], .int .i64 20]) ak) else (
 Q09.J4 (blk al.heap.size) am ao ar R ad)) else (
 Q09.J7 am ao ar R ad))

def Q09.M (ay : Option Addr) (aw b0 : Nat) (al ao av af ak : Int) (ai : Option Addr) (ah ag : Nat) (ap : Option Addr) (an am : Nat) (R : RW) (w : World) : Prop :=
 thenW (w.alloc (.cells #[.slice ay aw b0, .int .i64 al] 68)) fun az =>
 thenW (az.alloc (.cells #[.int .i64 ao, .int .i64 av, .int .u64 af, .int .i64 ak, .slice ai ah ag, .slice ap an am] 77)) fun aj =>
 thenW (aj.alloc (.cells #[.slice none 0 0, .int .i64 0] 68)) fun au =>
 ∃ (ab ae a1 a5 : Int) (a4 : Option Addr) (a2 a3 : Nat) (ac : Option Addr) (a9 aa : Nat), cellsAt au (blk az.heap.size) [.int .i64 ab, .int .i64 ae, .int .u64 a1, .int .i64 a5, .slice a4 a2 a3, .slice ac a9 aa] 0 ∧
 Calls Tryz.prog 59 #[.agg #[.int .i64 ab, .int .i64 ae, .int .u64 a1, .int .i64 a5, .slice a4 a2 a3, .slice ac a9 aa]] au fun ax aq => ∃ (a8 : Bool), ax = .returned (.bool a8) ∧
 bif !a8 then (
 putsK aq (blk aj.heap.size) [.slice none 0 0, .int .i64 0] 0 fun ar =>
 ∃ (a6 : Option Addr) (a7 ad : Nat) (a0 : Int), cellsAt ar (blk aj.heap.size) [.slice a6 a7 ad, .int .i64 a0] 0 ∧
 R (.tuple #[.agg #[.slice a6 a7 ad, .int .i64 a0], .int .i64 1]) ar) else (
 Q09.J8 (blk aj.heap.size) (blk az.heap.size) (blk w.heap.size) R aq)

theorem Q09.ok (ad : Option Addr) (ab ac : Nat) (a4 a8 aa a2 a5 : Int) (a3 : Option Addr) (a0 a1 : Nat) (a9 : Option Addr) (a7 a6 : Nat) {R : RW} {w : World} (h : Q09.M ad ab ac a4 a8 aa a2 a5 a3 a0 a1 a9 a7 a6 R w) : Calls Tryz.prog 24 #[.agg #[.slice ad ab ac, .int .i64 a4], .agg #[.int .i64 a8, .int .i64 aa, .int .u64 a2, .int .i64 a5, .slice a3 a0 a1, .slice a9 a7 a6]] w fun e w' => ∃ v, e = .returned v ∧ R v w' :=
  Q0i follows (H := [(1, [2, 3, 4, 8], [(9, (.one (.int .i64)))])]) (args := [.agg #[.slice ad ab ac, .int .i64 a4], .agg #[.int .i64 a8, .int .i64 aa, .int .u64 a2, .int .i64 a5, .slice a3 a0 a1, .slice a9 a7 a6]]) (cast (by kernel_rfl) h)

def Q09.N (aj : Option Addr) (ak am : Nat) (a0 a4 av aa a8 : Int) (ab : Option Addr) (a1 aq : Nat) (b4 : Option Addr) (ad b0 : Nat) (R : RW) (w : World) : Prop :=
 ∀ (ay : World) (c0 bz a7 : Nat), Ext no w ay → Priv w ay [c0, bz, a7] →
 Calls Tryz.prog 59 #[.agg #[.int .i64 a4, .int .i64 av, .int .u64 aa, .int .i64 a8, .slice ab a1 aq, .slice b4 ad b0]] ay fun c5 aw => ∃ (a9 : Bool), c5 = .returned (.bool a9) ∧
 Keep [c0, bz, a7] ay aw ∧
 (a9 = false →
 ∀ (bo : World), Ext (fun b => b = a7) aw bo →
 R (.tuple #[.agg #[.slice none 0 0, .int .i64 0], .int .i64 1]) bo) ∧
 (a9 = true →
 Calls Tryz.prog 60 #[.agg #[.slice aj ak am, .int .i64 a0], .int .i64 av] aw fun c2 a6 => ∃ (ar a5 ae b2 az : Int) (a3 : Bool), c2 = .returned (.tuple #[.agg #[.int .i64 ar, .int .u64 a5, .int .i64 ae, .int .i64 b2, .int .i64 az], .bool a3]) ∧
 Keep [c0, bz, a7] aw a6 ∧
 (a4 = 1 →
 (a3 = true →
 ∀ (b8 : World), Ext (fun b => b = a7) a6 b8 →
 R (.tuple #[.agg #[.slice none 0 0, .int .i64 0], .int .i64 13]) b8) ∧
 (a3 = false →
 (-9223372036854775808 : Int) ≤ (a0 + 1) ∧ (a0 + 1) < 9223372036854775808 ∧
 ∀ (ac : World), Ext no a6 ac →
 Calls Tryz.prog 61 #[.agg #[.slice aj ak am, .int .i64 a0], .agg #[.int .i64 av, .int .u64 aa, .int .i64 (a0 + 1), .int .i64 (-1), .int .i64 0]] ac fun c3 bi => ∃ (bn : Option Addr) (bj b7 : Nat) (ai : Int), c3 = .returned (.agg #[.slice bn bj b7, .int .i64 ai]) ∧
 Keep [a7] ac bi ∧
 ∀ (bu : World), Ext (fun b => b = a7) bi bu →
 R (.tuple #[.agg #[.slice bn bj b7, .int .i64 ai], .int .i64 0]) bu)) ∧
 (a4 ≠ 1 →
 (a4 = 2 →
 (a3 = false →
 ∀ (bh : World), Ext (fun b => b = a7) a6 bh →
 R (.tuple #[.agg #[.slice none 0 0, .int .i64 0], .int .i64 20]) bh) ∧
 (a3 = true →
 (b2 ≠ (-1) →
 ∀ (bp : World), Ext (fun b => b = a7) a6 bp →
 R (.tuple #[.agg #[.slice none 0 0, .int .i64 0], .int .i64 10]) bp) ∧
 (b2 = (-1) →
 (a0 < 0 →
 ∀ (b3 : World), Ext no a6 b3 →
 Calls Tryz.prog 61 #[.agg #[.slice aj ak am, .int .i64 a0], .agg #[.int .i64 ar, .int .u64 a5, .int .i64 ae, .int .i64 (-2), .int .i64 a8]] b3 fun c4 bl => ∃ (b9 : Option Addr) (bd bc : Nat) (ah : Int), c4 = .returned (.agg #[.slice b9 bd bc, .int .i64 ah]) ∧
 Keep [a7] b3 bl ∧
 ∀ (bw : World), Ext (fun b => b = a7) bl bw →
 R (.tuple #[.agg #[.slice b9 bd bc, .int .i64 ah], .int .i64 0]) bw) ∧
 ((0 : Int) ≤ a0 →
 ∀ (b1 : World), Ext no a6 b1 →
 Calls Tryz.prog 61 #[.agg #[.slice aj ak am, .int .i64 a0], .agg #[.int .i64 ar, .int .u64 a5, .int .i64 ae, .int .i64 a0, .int .i64 a8]] b1 fun c6 bg => ∃ (bq : Option Addr) (bb bv : Nat) (af : Int), c6 = .returned (.agg #[.slice bq bb bv, .int .i64 af]) ∧
 Keep [a7] b1 bg ∧
 ∀ (be : World), Ext (fun b => b = a7) bg be →
 R (.tuple #[.agg #[.slice bq bb bv, .int .i64 af], .int .i64 0]) be)))) ∧
 (a4 ≠ 2 →
 (a0 ≥ 19 →
 ∀ (bk : World), Ext (fun b => b = a7) a6 bk →
 R (.tuple #[.agg #[.slice none 0 0, .int .i64 0], .int .i64 2]) bk) ∧
 (a0 < 19 →
 ∀ (ac : World), Ext no a6 ac →
 Calls Tryz.prog 51 #[.agg #[.slice aj ak am, .int .i64 a0]] ac fun c1 ax => ∃ (ao : Option Addr) (a2 b5 : Nat), c1 = .returned (.slice ao a2 b5) ∧
 Keep [c0, bz, a7] ac ax ∧
 ((a2 : Int) ≠ (a1 : Int) →
 ∀ (bm : World), Ext (fun b => b = a7) ax bm →
 R (.tuple #[.agg #[.slice none 0 0, .int .i64 0], .int .i64 10]) bm) ∧
 ((a2 : Int) = (a1 : Int) →
 (((ad : Int) == 0) ≠ (a0 == (-1)) →
 ∀ (bx : World), Ext (fun b => b = a7) ax bx →
 R (.tuple #[.agg #[.slice none 0 0, .int .i64 0], .int .i64 10]) bx) ∧
 (((ad : Int) == 0) = (a0 == (-1)) →
 ∃ (I1 : Nat → List Value → World → Prop) (cb : Nat), I1 cb [.int .i64 0, .slice none 0 0, .int .i64 0] ax ∧ ∀ (c8 : Nat) (al : World) (an : Int) (bs : Option Addr) (bt bf : Nat) (ag : Int), I1 c8 [.int .i64 an, .slice bs bt bf, .int .i64 ag] al →
 (an < (a2 : Int) →
 ∃ ca : Addr, ao = some ca ∧
 0 ≤ (an : Int) ∧ (an : Int) < (a2 : Int) ∧
 ∃ (ap : Int), al.cell? ((ca.add (Int.toNat an * 5)).add 0) = some (.int .i64 ap) ∧
 ∃ c7 : Addr, ab = some c7 ∧
 0 ≤ (an : Int) ∧ (an : Int) < (a1 : Int) ∧
 ∃ (au : Int), al.cell? ((c7.add (Int.toNat an * 2)).add 0) = some (.int .i64 au) ∧
 (ap ≠ au →
 ∀ (b6 : World), Ext (fun b => b = a7) al b6 →
 R (.tuple #[.agg #[.slice none 0 0, .int .i64 0], .int .i64 10]) b6) ∧
 (ap = au →
 (-9223372036854775808 : Int) ≤ (an + 1) ∧ (an + 1) < 9223372036854775808 ∧
 ∀ (br : World), Ext no al br →
 ∃ c9, c9 < c8 ∧ I1 c9 [.int .i64 (an + 1), .slice bs bt bf, .int .i64 ag] br)) ∧
 ((a2 : Int) ≤ an →
 (-9223372036854775808 : Int) ≤ (a0 + 1) ∧ (a0 + 1) < 9223372036854775808 ∧
 ∀ (ba : World), Ext (fun b => b = a7) al ba →
 R (.tuple #[.agg #[.slice aj ak am, .int .i64 (a0 + 1)], .int .i64 0]) ba)))))))

theorem Q09.up (ai : Option Addr) (aj an : Nat) (a0 al ao ab a2 : Int) (a8 : Option Addr) (a9 a7 : Nat) (am : Option Addr) (ak ah : Nat) {R : RW} {w : World} (h : Q09.N ai aj an a0 al ao ab a2 a8 a9 a7 am ak ah R w) : Q09.M ai aj an a0 al ao ab a2 a8 a9 a7 am ak ah R w := by
  unfold Q09.M
  unfold Q09.N at h
  refine Q01 fun e3 e9 => ?_
  have a6 := Blk.of_new e9
  have f2 := ((Ext.refl no w)).size
  have e2 := (Ext.refl no w).x_alloc e9
  refine Q01 fun a3 dh => ?_
  have aa := Blk.of_new dh
  have ec := (e2).size
  have e0 := Nat.ne_of_lt a6.lt
  have a6 := a6.x_alloc dh
  have bx := e2.x_alloc dh
  refine Q01 fun de ce => ?_
  have a1 := Blk.of_new ce
  have e8 := (bx).size
  have dz := Nat.ne_of_lt a6.lt
  have a6 := a6.x_alloc ce
  have e1 := Nat.ne_of_lt aa.lt
  have aa := aa.x_alloc ce
  have cn := bx.x_alloc ce
  refine ⟨al, ao, ab, a2, a8, a9, a7, am, ak, ah, ⟨aa.celli 0 rfl rfl, aa.celli 1 rfl rfl, aa.celli 2 rfl rfl, aa.celli 3 rfl rfl, aa.celli 4 rfl rfl, aa.celli 5 rfl rfl, trivial⟩, ?_⟩
  have h := h de (w.heap.size) (e3.heap.size) (a3.heap.size) cn (Priv.cons f2 a6.lt (Priv.cons ec aa.lt (Priv.cons e8 a1.lt Priv.nil)))
  refine h.mono fun f1 b8 h => ?_
  obtain ⟨b5, he, hk, h⟩ := h
  refine ⟨b5, he, ?_⟩
  have a6 := hk.blk a6 (by simp)
  have aa := hk.blk aa (by simp)
  have a1 := hk.blk a1 (by simp)
  refine bif_of (fun dm => ?_) (fun dm => ?_)
  ·have h := h.1 (not_t dm)
   have cr : Ext (fun b => b = a3.heap.size) b8 b8 := ((Ext.refl no b8)).none
   refine Q0s (k := 0) (j := 0) a1 (Nat.le_of_ble_eq_true rfl) fun c5 ea f6 => ?_
   have d1 := cr.x_puts ea (.inl rfl)
   have a1 : Blk c5 a3.heap.size 68 [.slice none 0 0, .int .i64 0] := f6
   refine ⟨none, 0, 0, 0, ⟨a1.celli 0 rfl rfl, a1.celli 1 rfl rfl, trivial⟩, ?_⟩
   have h := h c5 d1
   exact h
  have h := h.2 (not_f dm)
  unfold Q09.J8
  refine ⟨ai, aj, an, a0, ⟨a6.celli 0 rfl rfl, a6.celli 1 rfl rfl, trivial⟩, ?_⟩
  refine ⟨ao, aa.celli 1 rfl rfl, ?_⟩
  refine h.mono fun eq a5 h => ?_
  obtain ⟨af, a4, ac, bh, ag, b9, he, hk, h⟩ := h
  refine ⟨af, a4, ac, bh, ag, b9, he, ?_⟩
  have a6 := hk.blk a6 (by simp)
  have aa := hk.blk aa (by simp)
  have a1 := hk.blk a1 (by simp)
  refine Q01 fun ef bw => ?_
  have ae := Blk.of_new bw
  have c2 := ((Ext.refl no a5)).size
  have av := Nat.ne_of_lt a6.lt
  have a6 := a6.x_alloc bw
  have b0 := Nat.ne_of_lt aa.lt
  have aa := aa.x_alloc bw
  have au := Nat.ne_of_lt a1.lt
  have a1 := a1.x_alloc bw
  have ds := (Ext.refl no a5).x_alloc bw
  refine Q0s (k := 0) (j := 0) ae (Nat.le_of_ble_eq_true rfl) fun ax cg er => ?_
  have aw := ds.x_puts cg (.inr c2)
  have a6 := a6.x_puts cg av
  have aa := aa.x_puts cg b0
  have a1 := a1.x_puts cg au
  have ae : Blk ax a5.heap.size 112 [.int .i64 af, .int .u64 a4, .int .i64 ac, .int .i64 bh, .int .i64 ag] := er
  refine ⟨al, aa.celli 0 rfl rfl, ?_⟩
  refine bif_of (fun cu => ?_) (fun cu => ?_)
  ·have h := h.1 (beq_t cu)
   refine bif_of (fun ct => ?_) (fun ct => ?_)
   ·have h := h.1 ct
    have dq : Ext (fun b => b = a3.heap.size) a5 ax := (aw).none
    refine Q0s (k := 0) (j := 0) a1 (Nat.le_of_ble_eq_true rfl) fun br ee eo => ?_
    have cq := dq.x_puts ee (.inl rfl)
    have a1 : Blk br a3.heap.size 68 [.slice none 0 0, .int .i64 0] := eo
    refine ⟨none, 0, 0, 0, ⟨a1.celli 0 rfl rfl, a1.celli 1 rfl rfl, trivial⟩, ?_⟩
    have h := h br cq
    exact h
   have h := h.2 ct
   unfold Q09.J1
   refine ⟨ai, aj, an, a0, ⟨a6.celli 0 rfl rfl, a6.celli 1 rfl rfl, trivial⟩, ?_⟩
   refine ⟨ao, aa.celli 1 rfl rfl, ?_⟩
   refine ⟨ab, aa.celli 2 rfl rfl, ?_⟩
   refine ⟨a0, a6.celli 1 rfl rfl, ?_⟩
   obtain ⟨bs, c8, h⟩ := h
   try rw [w64 bs c8]
   have h := h ax aw
   refine h.mono fun ew bg h => ?_
   obtain ⟨bk, bi, b6, ar, he, hk, h⟩ := h
   refine ⟨bk, bi, b6, ar, he, ?_⟩
   have a1 := hk.blk a1 (by simp)
   have dg : Ext (fun b => b = a3.heap.size) bg bg := ((Ext.refl no bg)).none
   refine Q0s (k := 0) (j := 0) a1 (Nat.le_of_ble_eq_true rfl) fun ca eb eu => ?_
   have df := dg.x_puts eb (.inl rfl)
   have a1 : Blk ca a3.heap.size 68 [.slice bk bi b6, .int .i64 ar] := eu
   refine ⟨bk, bi, b6, ar, ⟨a1.celli 0 rfl rfl, a1.celli 1 rfl rfl, trivial⟩, ?_⟩
   have h := h ca df
   exact h
  have h := h.2 (beq_f cu)
  refine bif_of (fun dd => ?_) (fun dd => ?_)
  ·have h := h.1 (beq_t dd)
   refine bif_of (fun dx => ?_) (fun dx => ?_)
   ·have h := h.1 (not_t dx)
    have ck : Ext (fun b => b = a3.heap.size) a5 ax := (aw).none
    refine Q0s (k := 0) (j := 0) a1 (Nat.le_of_ble_eq_true rfl) fun bz em eh => ?_
    have cm := ck.x_puts em (.inl rfl)
    have a1 : Blk bz a3.heap.size 68 [.slice none 0 0, .int .i64 0] := eh
    refine ⟨none, 0, 0, 0, ⟨a1.celli 0 rfl rfl, a1.celli 1 rfl rfl, trivial⟩, ?_⟩
    have h := h bz cm
    exact h
   have h := h.2 (not_f dx)
   unfold Q09.J4
   refine ⟨bh, ae.celli 3 rfl rfl, ?_⟩
   refine bif_of (fun cx => ?_) (fun cx => ?_)
   ·have h := h.1 (bne_t cx)
    have dn : Ext (fun b => b = a3.heap.size) a5 ax := (aw).none
    refine Q0s (k := 0) (j := 0) a1 (Nat.le_of_ble_eq_true rfl) fun c6 ed ey => ?_
    have dy := dn.x_puts ed (.inl rfl)
    have a1 : Blk c6 a3.heap.size 68 [.slice none 0 0, .int .i64 0] := ey
    refine ⟨none, 0, 0, 0, ⟨a1.celli 0 rfl rfl, a1.celli 1 rfl rfl, trivial⟩, ?_⟩
    have h := h c6 dy
    exact h
   have h := h.2 (bne_f cx)
   unfold Q09.J3
   refine ⟨a0, a6.celli 1 rfl rfl, ?_⟩
   refine ⟨ae.cani 3 rfl rfl, Q01 fun dr bq => ?_⟩
   have cc := aw.x_set (q := a5.heap.size) (i := 3) rfl (.inr c2) bq
   have a6 := a6.oth (q := a5.heap.size) (i := 3) rfl av bq
   have aa := aa.oth (q := a5.heap.size) (i := 3) rfl b0 bq
   have a1 := a1.oth (q := a5.heap.size) (i := 3) rfl au bq
   have ae : Blk dr a5.heap.size 112 [.int .i64 af, .int .u64 a4, .int .i64 ac, .int .i64 a0, .int .i64 ag] := ae.seti 3 rfl bq
   refine ⟨a0, ae.celli 3 rfl rfl, ?_⟩
   refine bif_fo (fun dv => ?_) (fun dv => ?_)
   ·have h := h.2 (Int.not_lt.1 (of_decide_eq_false dv))
    unfold Q09.J2
    refine ⟨a2, aa.celli 3 rfl rfl, ?_⟩
    refine ⟨ae.cani 4 rfl rfl, Q01 fun bp cf => ?_⟩
    have d4 := cc.x_set (q := a5.heap.size) (i := 4) rfl (.inr c2) cf
    have a6 := a6.oth (q := a5.heap.size) (i := 4) rfl av cf
    have a1 := a1.oth (q := a5.heap.size) (i := 4) rfl au cf
    have ae : Blk bp a5.heap.size 112 [.int .i64 af, .int .u64 a4, .int .i64 ac, .int .i64 a0, .int .i64 a2] := ae.seti 4 rfl cf
    refine ⟨ai, aj, an, a0, ⟨a6.celli 0 rfl rfl, a6.celli 1 rfl rfl, trivial⟩, ?_⟩
    refine ⟨af, a4, ac, a0, a2, ⟨ae.celli 0 rfl rfl, ae.celli 1 rfl rfl, ae.celli 2 rfl rfl, ae.celli 3 rfl rfl, ae.celli 4 rfl rfl, trivial⟩, ?_⟩
    have h := h bp d4
    refine h.mono fun f7 bf h => ?_
    obtain ⟨bl, bc, bn, ap, he, hk, h⟩ := h
    refine ⟨bl, bc, bn, ap, he, ?_⟩
    have a1 := hk.blk a1 (by simp)
    have da : Ext (fun b => b = a3.heap.size) bf bf := ((Ext.refl no bf)).none
    refine Q0s (k := 0) (j := 0) a1 (Nat.le_of_ble_eq_true rfl) fun bv en f5 => ?_
    have cv := da.x_puts en (.inl rfl)
    have a1 : Blk bv a3.heap.size 68 [.slice bl bc bn, .int .i64 ap] := f5
    refine ⟨bl, bc, bn, ap, ⟨a1.celli 0 rfl rfl, a1.celli 1 rfl rfl, trivial⟩, ?_⟩
    have h := h bv cv
    exact h
   have h := h.1 (of_decide_eq_true dv)
   refine ⟨ae.cani 3 rfl rfl, Q01 fun dt c9 => ?_⟩
   have db := cc.x_set (q := a5.heap.size) (i := 3) rfl (.inr c2) c9
   have a6 := a6.oth (q := a5.heap.size) (i := 3) rfl av c9
   have aa := aa.oth (q := a5.heap.size) (i := 3) rfl b0 c9
   have a1 := a1.oth (q := a5.heap.size) (i := 3) rfl au c9
   have ae : Blk dt a5.heap.size 112 [.int .i64 af, .int .u64 a4, .int .i64 ac, .int .i64 (-2), .int .i64 ag] := ae.seti 3 rfl c9
   unfold Q09.J2
   refine ⟨a2, aa.celli 3 rfl rfl, ?_⟩
   refine ⟨ae.cani 4 rfl rfl, Q01 fun c4 ch => ?_⟩
   have cy := db.x_set (q := a5.heap.size) (i := 4) rfl (.inr c2) ch
   have a6 := a6.oth (q := a5.heap.size) (i := 4) rfl av ch
   have a1 := a1.oth (q := a5.heap.size) (i := 4) rfl au ch
   have ae : Blk c4 a5.heap.size 112 [.int .i64 af, .int .u64 a4, .int .i64 ac, .int .i64 (-2), .int .i64 a2] := ae.seti 4 rfl ch
   refine ⟨ai, aj, an, a0, ⟨a6.celli 0 rfl rfl, a6.celli 1 rfl rfl, trivial⟩, ?_⟩
   refine ⟨af, a4, ac, (-2), a2, ⟨ae.celli 0 rfl rfl, ae.celli 1 rfl rfl, ae.celli 2 rfl rfl, ae.celli 3 rfl rfl, ae.celli 4 rfl rfl, trivial⟩, ?_⟩
   have h := h c4 cy
   refine h.mono fun ex bj h => ?_
   obtain ⟨bb, be, bd, aq, he, hk, h⟩ := h
   refine ⟨bb, be, bd, aq, he, ?_⟩
   have a1 := hk.blk a1 (by simp)
   have dw : Ext (fun b => b = a3.heap.size) bj bj := ((Ext.refl no bj)).none
   refine Q0s (k := 0) (j := 0) a1 (Nat.le_of_ble_eq_true rfl) fun cb et ej => ?_
   have di := dw.x_puts et (.inl rfl)
   have a1 : Blk cb a3.heap.size 68 [.slice bb be bd, .int .i64 aq] := ej
   refine ⟨bb, be, bd, aq, ⟨a1.celli 0 rfl rfl, a1.celli 1 rfl rfl, trivial⟩, ?_⟩
   have h := h cb di
   exact h
  have h := h.2 (beq_f dd)
  unfold Q09.J7
  refine ⟨a0, a6.celli 1 rfl rfl, ?_⟩
  refine bif_of (fun d0 => ?_) (fun d0 => ?_)
  ·have h := h.1 (of_decide_eq_true d0)
   have cz : Ext (fun b => b = a3.heap.size) a5 ax := (aw).none
   refine Q0s (k := 0) (j := 0) a1 (Nat.le_of_ble_eq_true rfl) fun c0 eg e7 => ?_
   have cw := cz.x_puts eg (.inl rfl)
   have a1 : Blk c0 a3.heap.size 68 [.slice none 0 0, .int .i64 0] := e7
   refine ⟨none, 0, 0, 0, ⟨a1.celli 0 rfl rfl, a1.celli 1 rfl rfl, trivial⟩, ?_⟩
   have h := h c0 cw
   exact h
  have h := h.2 (Int.not_le.1 (of_decide_eq_false d0))
  unfold Q09.J6
  refine ⟨ai, aj, an, a0, ⟨a6.celli 0 rfl rfl, a6.celli 1 rfl rfl, trivial⟩, ?_⟩
  have h := h ax aw
  refine h.mono fun e5 ay h => ?_
  obtain ⟨b7, ba, bm, he, hk, h⟩ := h
  refine ⟨b7, ba, bm, he, ?_⟩
  have a6 := hk.blk a6 (by simp)
  have aa := hk.blk aa (by simp)
  have a1 := hk.blk a1 (by simp)
  refine ⟨a8, a9, a7, aa.celli 4 rfl rfl, ?_⟩
  refine bif_of (fun d7 => ?_) (fun d7 => ?_)
  ·have h := h.1 (bne_t d7)
   have du : Ext (fun b => b = a3.heap.size) ay ay := ((Ext.refl no ay)).none
   refine Q0s (k := 0) (j := 0) a1 (Nat.le_of_ble_eq_true rfl) fun c1 ev ei => ?_
   have cl := du.x_puts ev (.inl rfl)
   have a1 : Blk c1 a3.heap.size 68 [.slice none 0 0, .int .i64 0] := ei
   refine ⟨none, 0, 0, 0, ⟨a1.celli 0 rfl rfl, a1.celli 1 rfl rfl, trivial⟩, ?_⟩
   have h := h c1 cl
   exact h
  have h := h.2 (bne_f d7)
  refine ⟨am, ak, ah, aa.celli 5 rfl rfl, ?_⟩
  refine ⟨a0, a6.celli 1 rfl rfl, ?_⟩
  refine bif_of (fun d6 => ?_) (fun d6 => ?_)
  ·have h := h.1 (bbeq_f (not_t d6))
   have d9 : Ext (fun b => b = a3.heap.size) ay ay := ((Ext.refl no ay)).none
   refine Q0s (k := 0) (j := 0) a1 (Nat.le_of_ble_eq_true rfl) fun cd es ez => ?_
   have dc := d9.x_puts es (.inl rfl)
   have a1 : Blk cd a3.heap.size 68 [.slice none 0 0, .int .i64 0] := ez
   refine ⟨none, 0, 0, 0, ⟨a1.celli 0 rfl rfl, a1.celli 1 rfl rfl, trivial⟩, ?_⟩
   have h := h cd dc
   exact h
  have h := h.2 (bbeq_t (not_f d6))
  unfold Q09.J5
  obtain ⟨I1, e4, h0, h⟩ := h
  refine ⟨fun k vs ww => ∃ (b2 : Option Addr) (b3 b1 : Nat) (ad : Int), Blk ww w.heap.size 68 [.slice ai aj an, .int .i64 a0] ∧ Blk ww e3.heap.size 77 [.int .i64 al, .int .i64 ao, .int .u64 ab, .int .i64 a2, .slice a8 a9 a7, .slice am ak ah] ∧ Blk ww a3.heap.size 68 [.slice b2 b3 b1, .int .i64 ad] ∧ I1 k (vs ++ [.slice b2 b3 b1, .int .i64 ad]) ww, e4, ⟨none, 0, 0, 0, a6, aa, a1, h0⟩, fun el az e6 hI => ?_⟩
  obtain ⟨b2, b3, b1, ad, a6, aa, a1, hI⟩ := hI
  have h := h el az e6 b2 b3 b1 ad hI
  refine bif_fo (fun cs => ?_) (fun cs => ?_)
  ·have h := h.2 (Int.not_lt.1 (of_decide_eq_false cs))
   refine ⟨ai, aj, an, a6.celli 0 rfl rfl, ?_⟩
   refine ⟨a0, a6.celli 1 rfl rfl, ?_⟩
   obtain ⟨bs, c8, h⟩ := h
   try rw [w64 bs c8]
   have dp : Ext (fun b => b = a3.heap.size) az az := ((Ext.refl no az)).none
   refine Q0s (k := 0) (j := 0) a1 (Nat.le_of_ble_eq_true rfl) fun bt f3 ek => ?_
   have d2 := dp.x_puts f3 (.inl rfl)
   have a1 : Blk bt a3.heap.size 68 [.slice ai aj an, .int .i64 (a0 + 1)] := ek
   refine ⟨ai, aj, an, (a0 + 1), ⟨a1.celli 0 rfl rfl, a1.celli 1 rfl rfl, trivial⟩, ?_⟩
   have h := h bt d2
   exact h
  have h := h.1 (of_decide_eq_true cs)
  refine Q01 fun c7 ci => ?_
  have b4 := (Ext.refl no az).x_drew ci
  have a6 := a6.x_drew ci
  have aa := aa.x_drew ci
  have a1 := a1.x_drew ci
  obtain ⟨f9, dl, h⟩ := h
  refine Q05 dl ?_
  obtain ⟨co, d3, h⟩ := h
  refine ⟨co, d3, ?_⟩
  obtain ⟨bu, cj, h⟩ := h
  refine ⟨bu, (b4).cell cj id, ?_⟩
  refine ⟨a8, a9, a7, aa.celli 4 rfl rfl, ?_⟩
  obtain ⟨f8, dj, h⟩ := h
  refine Q05 dj ?_
  obtain ⟨co, d3, h⟩ := h
  refine ⟨co, d3, ?_⟩
  obtain ⟨c3, d8, h⟩ := h
  refine ⟨c3, (b4).cell d8 id, ?_⟩
  refine bif_fo (fun d5 => ?_) (fun d5 => ?_)
  ·have h := h.2 (bne_f d5)
   obtain ⟨bs, c8, h⟩ := h
   try rw [w64 bs c8]
   have h := h c7 b4
   obtain ⟨f4, hk, h⟩ := h
   exact ⟨f4, hk, b2, b3, b1, ad, a6, aa, a1, h⟩
  have h := h.1 (bne_t d5)
  have dk : Ext (fun b => b = a3.heap.size) az c7 := (b4).none
  refine Q0s (k := 0) (j := 0) a1 (Nat.le_of_ble_eq_true rfl) fun bo ep f0 => ?_
  have cp := dk.x_puts ep (.inl rfl)
  have a1 : Blk bo a3.heap.size 68 [.slice none 0 0, .int .i64 0] := f0
  refine ⟨none, 0, 0, 0, ⟨a1.celli 0 rfl rfl, a1.celli 1 rfl rfl, trivial⟩, ?_⟩
  have h := h bo cp
  exact h

theorem Q09.go (ad : Option Addr) (ab ac : Nat) (a4 a8 aa a2 a5 : Int) (a3 : Option Addr) (a0 a1 : Nat) (a9 : Option Addr) (a7 a6 : Nat) {R : RW} {w : World} (h : Q09.N ad ab ac a4 a8 aa a2 a5 a3 a0 a1 a9 a7 a6 R w) : Calls Tryz.prog 24 #[.agg #[.slice ad ab ac, .int .i64 a4], .agg #[.int .i64 a8, .int .i64 aa, .int .u64 a2, .int .i64 a5, .slice a3 a0 a1, .slice a9 a7 a6]] w fun e w' => ∃ v, e = .returned v ∧ R v w' := Q09.ok ad ab ac a4 a8 aa a2 a5 a3 a0 a1 a9 a7 a6 (Q09.up ad ab ac a4 a8 aa a2 a5 a3 a0 a1 a9 a7 a6 h)
open W (OwnB)
abbrev RRw (N : Nat) (w : World) (o : Own) (a : Option Addr) (c : Nat) (ml : List Mem) : Prop := LRow 112 5 N w o a ml.length c (ml.flatMap Mem.C)
section
variable {w w' w1 : World} {o o' o1 : Own} {a b : Option Addr} {c d N : Nat} {s t : MS} {m : Mem} {cg : Chg} {ml : List Mem}
theorem RRw.push (h : RRw N w o a c ml) (ok : Tags w o) (hl : ml.length < 1000000) (m : Mem) {q : Nat} (hb : Blk w q 112 m.C) (hq : N ≤ q) (hq' : q < w.heap.size) :
    ∃ a' n' c' w' o', (Builtin.append_ #[66, 66] 66 #[.slice a ml.length c, .slice (some (blk q)) 1 1]).run Tryz.prog w = .ok (.slice a' n' c') w' ∧ n' = (ml ++ [m]).length ∧ Step (fun j => N ≤ j) w o w' o' ∧ RRw N w' o' a' c' (ml ++ [m]) := by
  obtain ⟨i, hi, hz, hsz, hby⟩ := info_of inf112
  obtain ⟨a', c', w', o', hrun, s2, hrow, _⟩ := LRow.push (ty := 66) Tryz.underlying66 hi hz hsz hby rfl (by decide) h ok hq hq' (xa := some (blk q)) (m := 1) (xc := 1) (news := m.C) rfl (RowAt.of_blk hb) m.one (by omega) (by omega)
  exact ⟨a', _, c', w', o', hrun, by simp, s2, by unfold RRw; rw [List.length_append, List.flatMap_append]; simpa using hrow⟩
end
set_option maxHeartbeats 4000000
open W (OwnB)
def putGo (m : Mem) : List Mem → Bool → List Mem
  | [], inb => if inb then [] else [m]
  | x :: r, inb => (if inb = false ∧ m.who ≤ x.who then [m] else []) ++ (if x.who = m.who then [] else [x]) ++ putGo m r (inb || decide (m.who ≤ x.who))
def mputR (l : List Mem) (m : Mem) : List Mem := putGo m l false
section
variable {w w' w1 : World} {o o' o1 : Own} {a b : Option Addr} {c d N : Nat} {s t : MS} {m : Mem} {cg : Chg} {ml : List Mem} {l : List Wr} {wa oa : Option Addr} {wc oc : Nat}
theorem Q49 (m : Mem) : ∀ l : List Mem, putGo m l true = l.filter fun x => decide (x.who ≠ m.who)
  | [] => rfl
  | x :: r => by
    simp only [putGo, Bool.true_or, Q49 m r, List.filter_cons]
    by_cases h : x.who = m.who <;> simp [h]
theorem Q2A (m : Mem) : ∀ l : List Mem, putGo m l false = l.take (findI l m.who) ++ m :: (l.drop (findI l m.who)).filter fun x => decide (x.who ≠ m.who)
  | [] => rfl
  | x :: r => by
    by_cases h : x.who < m.who
    · have e : findI (x :: r) m.who = findI r m.who + 1 := by unfold findI; rw [List.takeWhile_cons, if_pos (by simpa using h)]; rfl
      have h1 : ¬ m.who ≤ x.who := by omega
      have h2 : x.who ≠ m.who := by omega
      rw [e]
      simp [putGo, h1, h2, Q2A m r]
    · have e : findI (x :: r) m.who = 0 := by unfold findI; rw [List.takeWhile_cons, if_neg (by simpa using h)]; rfl
      have h1 : m.who ≤ x.who := by omega
      rw [e]
      simp only [putGo, h1, and_self, if_true, List.take_zero, List.nil_append, List.drop_zero, decide_true, Bool.or_true, Q49, List.filter_cons, List.singleton_append]
      by_cases h2 : x.who = m.who <;> simp [h2]
theorem Q6G (hs : Sorted ml) (h : isAt ml m.who = false) : mputR ml m = ml.take (findI ml m.who) ++ m :: ml.drop (findI ml m.who) := by
  unfold mputR
  rw [Q2A, List.filter_eq_self.2]
  intro x hx
  obtain ⟨j, hj⟩ := List.getElem?_of_mem hx
  rw [List.getElem?_drop] at hj
  have hlt : findI ml m.who < ml.length := by have := (List.getElem?_eq_some_iff.1 hj).1; omega
  have hg : ml[findI ml m.who]? = some ml[findI ml m.who] := List.getElem?_eq_getElem hlt
  have h1 := Q5H hg
  have h2 : m.who ≠ (ml[findI ml m.who]).who := fun e => by
    unfold isAt at h; rw [hg] at h; exact of_decide_eq_false h e.symm
  rcases Nat.eq_zero_or_pos j with rfl | hp
  · rw [Nat.add_zero, hg] at hj; cases hj; simp; omega
  · have := hs.get hg hj (by omega); simp; omega
theorem Q5G (hs : Sorted ml) {x : Mem} (hx : ml[findI ml m.who]? = some x) (hw : x.who = m.who) : mputR ml m = ml.set (findI ml m.who) m := by
  have hlt := (List.getElem?_eq_some_iff.1 hx).1
  unfold mputR
  rw [Q2A, List.set_eq_take_append_cons_drop, if_pos hlt]
  congr 2
  rw [List.drop_eq_getElem_cons hlt]
  have e : ml[findI ml m.who] = x := (List.getElem?_eq_some_iff.1 hx).2
  rw [e, List.filter_cons, if_neg (by simpa using hw), List.filter_eq_self.2]
  intro y hy
  obtain ⟨j, hj⟩ := List.getElem?_of_mem hy
  rw [List.getElem?_drop] at hj
  have := hs.get hx hj (by omega)
  simp; omega
theorem who_F (x : Int) : Q0c.F x = decide (0 ≤ x ∧ x < 8) := by
  unfold Q0c.F
  by_cases h : x ≥ 0
  · rw [if_pos h]
    by_cases h2 : x < 8 <;> simp [h2] <;> omega
  · rw [if_neg h]
    rw [eq_comm, decide_eq_false_iff_not]; omega
theorem Q6n (ok : Tags w o) (p : Int) : Calls Tryz.prog 20 #[.int .u64 p] w (fun x w' => ∃ o' a' c', x = .returned (.agg #[.slice a' (newM p).ml.length c', .int .i64 (newM p).ep]) ∧ Step no w o w' o' ∧ Row w' o' a' ((newM p).ml.flatMap Mem.C) ∧ (newM p).ml.length ≤ c') := by
  refine (Q18.go p (R := fun v w' => ∃ o' a' c', v = (.agg #[.slice a' (newM p).ml.length c', .int .i64 (newM p).ep]) ∧ Step no w o w' o' ∧ Row w' o' a' ((newM p).ml.flatMap Mem.C) ∧ (newM p).ml.length ≤ c') ?_).mono fun x w' ⟨v, he, o', a', c', hv, hw⟩ => ⟨o', a', c', by rw [he, hv], hw⟩
  unfold Q18.N
  intro w3 q4 p5 X3 hb hq hq' hp w7 X7
  have s3 := (Step.of_no X3 ok).tag (p := p5) (j := p5) (hp p5 (by simp)).1 (by have := (hp p5 (by simp)).2; omega)
  have h5 := hp p5 (by simp)
  have M3 : Mine [p5] w3 (tag (grow w o) p5 p5) := fun p hp' => by rw [show p = p5 by simpa using hp']; exact ⟨by omega, Q1E⟩
  have s7 := Step.stores X7 s3.ok M3 (by simp)
  have r3 : Row w3 (tag (grow w o) p5 p5) (some (blk q4)) ((newM p).ml.flatMap Mem.C) := ⟨RowAt.of_blk hb, fun _ ad ha => by cases ha; rw [tag_ne (by show q4 ≠ p5; omega)]; exact grow_ge hq⟩
  exact ⟨_, some (blk q4), 1, rfl, s3.trans' s7 fun i hi => .inr (by simp at hi; omega), r3.step s7, Nat.le_refl _⟩
theorem Q5J (hr : Row w o a (ml.flatMap Mem.C)) (ok : Tags w o) (hs : Sorted ml) (hl : ml.length < 1000000) (ep x : Int) :
    Calls Tryz.prog 60 #[.agg #[.slice a ml.length c, .int .i64 ep], .int .i64 x] w (Ret (.tuple #[(findM ml x).1.V, .bool (findM ml x).2]) fun w' => ∃ o', Step no w o w' o') := by
  refine Q0R.run a ml.length c ep x ?_
  unfold Q0R.N
  intro w5 p7 X5 hp
  obtain ⟨s5, M5⟩ := Step.priv X5 hp ok
  have g : w.heap.size ≤ p7 := (hp p7 (by simp)).1
  refine ⟨fun m vs w1 => ∃ (t : Nat), vs = [.int .i64 t, .int .i64 0, .int .u64 0, .int .i64 0, .int .i64 0, .int .i64 0] ∧ m + t = ml.length ∧ w1 = w5 ∧ ∀ y ∈ ml.take t, y.who ≠ x, ml.length, ⟨0, rfl, rfl, rfl, by simp⟩, ?_⟩
  rintro m w1 i0 k1 k2 k3 k4 k5 ⟨t, hi, hm, rfl, hno⟩
  simp only [List.cons.injEq, Value.int.injEq, true_and, and_true] at hi
  obtain ⟨rfl, rfl, rfl, rfl, rfl, rfl⟩ := hi
  refine ⟨fun ht => ?_, fun ht w38 X38 => ?_⟩
  · have htl : t < ml.length := by omega
    have hg : ml[t]? = some ml[t] := List.getElem?_eq_getElem htl
    have hym := List.getElem_mem htl
    have htk : ml.take (t + 1) = ml.take t ++ [ml[t]] := by rw [List.take_add_one, hg]; rfl
    generalize ml[t] = y at *
    have hr5 := hr.step s5
    obtain ⟨ad, rfl⟩ := hr.1.faddr Mem.len (by decide) htl
    refine ⟨ad, rfl, by omega, by omega, y.who, by rw [Int.toNat_natCast]; exact hr5.1.fcell Mem.len hg 0 rfl, fun he => ⟨by omega, by omega, y.who, y.pub, y.fr, y.to_, y.lim, by rw [Int.toNat_natCast]; exact hr5.1.floads Mem.len hg, fun w32 X32 => ?_⟩, fun hne => ⟨by omega, by omega, m - 1, by omega, t + 1, rfl, by omega, rfl, fun z hz => ?_⟩⟩
    · have s32 := Step.stores X32 s5.ok M5 (by simp)
      have hF : findM ml x = (y, true) := by rw [← he]; exact Q5W hs hym
      rw [hF]
      exact ⟨rfl, _, s5.trans' s32 fun i hi => .inr (by simp at hi; omega)⟩
    · rw [htk] at hz
      rcases List.mem_append.1 hz with hz | hz
      · exact hno z hz
      · simp at hz; subst hz; exact hne
  · have s38 := Step.stores X38 s5.ok M5 (by simp)
    have : t = ml.length := by omega
    subst this
    rw [List.take_length] at hno
    have hF : findM ml x = (Mem.z, false) := by
      unfold findM
      rw [if_neg]
      intro h
      obtain ⟨y, hy, hw⟩ := Q3I h
      exact hno y (List.mem_of_getElem? hy) hw
    rw [hF]
    exact ⟨rfl, _, s5.trans' s38 fun i hi => .inr (by simp at hi; omega)⟩
theorem Q4Q (hr : Row w o a (ml.flatMap Mem.C)) (ok : Tags w o) (hl : ml.length < 1000) (ep : Int) :
    Calls Tryz.prog 51 #[.agg #[.slice a ml.length c, .int .i64 ep]] w (fun x w' => ∃ o' a' c', x = .returned (.slice a' (nowM ml).length c') ∧ Step no w o w' o' ∧ Row w' o' a' ((nowM ml).flatMap Mem.C) ∧ (nowM ml).length ≤ c') := by
  refine (Q0Y.go a ml.length c ep (R := fun v w' => ∃ o' a' c', v = (.slice a' (nowM ml).length c') ∧ Step no w o w' o' ∧ Row w' o' a' ((nowM ml).flatMap Mem.C) ∧ (nowM ml).length ≤ c') ?_).mono fun x w' ⟨v, he, o', a', c', hv, hw⟩ => ⟨o', a', c', by rw [he, hv], hw⟩
  unfold Q0Y.N
  intro w3 p4 X3 hp
  obtain ⟨s3, M3⟩ := Step.priv X3 hp ok
  have g4 := hp p4 (by simp)
  refine ⟨fun m vs w1 => ∃ (t : Nat) (a1 : Option Addr) (c1 : Nat) (o1 : Own), vs = [.slice a1 (nowM (ml.take t)).length c1, .int .i64 t] ∧ m + t = ml.length ∧ Step no w o w1 o1 ∧ Mine [p4] w1 o1 ∧ w3.heap.size ≤ w1.heap.size ∧ RRw w3.heap.size w1 o1 a1 c1 (nowM (ml.take t)), ml.length, ⟨0, none, 0, _, rfl, rfl, s3, M3, Nat.le_refl _, LRow.nil _ _ _ _ _⟩, ?_⟩
  rintro m w1 ra rn rc i ⟨t, a1, c1, o1, hi, hm, s1, M1, hsz, r1⟩
  simp only [List.cons.injEq, Value.slice.injEq, Value.int.injEq, true_and, and_true] at hi
  obtain ⟨⟨rfl, rfl, rfl⟩, rfl⟩ := hi
  refine ⟨fun ht => ?_, fun ht => ?_⟩
  · have htl : t < ml.length := by omega
    have hg : ml[t]? = some ml[t] := List.getElem?_eq_getElem htl
    have htk : ml.take (t + 1) = ml.take t ++ [ml[t]] := by rw [List.take_add_one, hg]; rfl
    generalize ml[t] = x at *
    obtain ⟨ad, rfl⟩ := hr.1.faddr Mem.len (by decide) htl
    refine ⟨ad, rfl, by omega, by omega, x.to_, by rw [Int.toNat_natCast]; exact (hr.step s1).1.fcell Mem.len hg 3 rfl, fun hto => ⟨by omega, by omega, x.who, x.pub, x.fr, x.to_, x.lim, by rw [Int.toNat_natCast]; exact (hr.step s1).1.floads Mem.len hg, fun w25 q26 X25 hb hq hq' => ?_⟩, fun hto => ⟨by omega, by omega, ?_⟩⟩
    · have s25 := Step.of_no X25 s1.ok
      have r25 : RRw w3.heap.size w25 _ ra rc (nowM (ml.take t)) := LRow.step r1 s25 fun k h => h.elim
      have hln : (nowM (ml.take t)).length < 1000000 := by
        have h1 : (nowM (ml.take t)).length ≤ (ml.take t).length := List.length_filter_le _ _
        rw [List.length_take] at h1; omega
      obtain ⟨a', n', c', w', o', hrun, hn', s2, hrow⟩ := r25.push s25.ok hln x hb (by omega) hq'
      have hnw : nowM (ml.take (t + 1)) = nowM (ml.take t) ++ [x] := by rw [htk]; unfold nowM; rw [List.filter_append]; simp [hto]
      have hs3 := s3.size
      refine ⟨a', n', c', w', hrun, (M1.step s25).keep s2 (fun p hp' => by simp at hp'; omega), by omega, by omega, m - 1, by omega, t + 1, a', c', o', by rw [hn', hnw]; rfl, by omega, (s1.trans s25).trans' s2 fun i hi => .inr (by omega), (M1.step s25).step s2, Nat.le_trans hsz (Nat.le_trans X25.size s2.size), by rw [hnw]; exact hrow⟩
    · have hnw : nowM (ml.take (t + 1)) = nowM (ml.take t) := by rw [htk]; unfold nowM; rw [List.filter_append]; simp [hto]
      exact ⟨m - 1, by omega, t + 1, ra, rc, _, by rw [hnw]; simp, by omega, s1, M1, hsz, by rw [hnw]; exact r1⟩
  · have : t = ml.length := by omega
    subst this
    rw [List.take_length] at r1 ⊢
    exact ⟨_, ra, rc, rfl, noStep (K := no) s1, r1.give s1 s3.size, r1.le⟩
theorem Q6z (hr : Row w o a (ml.flatMap Mem.C)) (ok : Tags w o) (hl : ml.length < 1000) (ep : Int) (m : Mem) :
    Calls Tryz.prog 61 #[.agg #[.slice a ml.length c, .int .i64 ep], m.V] w (fun x w' => ∃ o' a' c', x = .returned (.agg #[.slice a' (mputR ml m).length c', .int .i64 ep]) ∧ Step no w o w' o' ∧ Row w' o' a' ((mputR ml m).flatMap Mem.C) ∧ (mputR ml m).length ≤ c') := by
  refine (Q0g.go a ml.length c ep m.who m.pub m.fr m.to_ m.lim (R := fun v w' => ∃ o' a' c', v = (.agg #[.slice a' (mputR ml m).length c', .int .i64 ep]) ∧ Step no w o w' o' ∧ Row w' o' a' ((mputR ml m).flatMap Mem.C) ∧ (mputR ml m).length ≤ c') ?_).mono fun x w' ⟨v, he, o', a', c', hv, hw⟩ => ⟨o', a', c', by rw [he, hv], hw⟩
  unfold Q0g.N
  intro w13 p14 p15 p16 p17 X13 hp
  obtain ⟨s13, M13⟩ := Step.priv X13 hp ok
  have g : ∀ p ∈ [p14, p15, p16, p17], w.heap.size ≤ p := fun p h => (hp p h).1
  have hM : ∀ p ∈ [p14, p15, p16, p17], p < w13.heap.size := fun p h => M13.lt h
  have hs13 := s13.size
  refine ⟨fun k vs w1 => ∃ (inb : Bool) (t : Nat) (a1 : Option Addr) (c1 : Nat) (out : List Mem) (o1 : Own), vs = [.bool inb, .int .i64 t, .slice none 0 0, .int .i64 0, .slice a1 out.length c1, .int .i64 ep] ∧ k + t = ml.length ∧ Step no w o w1 o1 ∧ Mine [p14, p15, p16, p17] w1 o1 ∧ w13.heap.size ≤ w1.heap.size ∧ RRw w13.heap.size w1 o1 a1 c1 out ∧ out ++ putGo m (ml.drop t) inb = mputR ml m ∧ out.length ≤ 2 * t, ml.length, ⟨false, 0, none, 0, [], _, rfl, rfl, s13, M13, Nat.le_refl _, LRow.nil _ _ _ _ _, rfl, Nat.le_refl _⟩, ?_⟩
  intro k w26 inb0 i0 k5a k5n k5c k6 k11a k11n k11c k12 hI
  obtain ⟨inb, t, a1, c1, out, o1, hi, hk, s1, M1, hsz, r1, hout, hol⟩ := hI
  simp only [List.cons.injEq, Value.slice.injEq, Value.int.injEq, Value.bool.injEq, true_and, and_true] at hi
  obtain ⟨rfl, rfl, ⟨rfl, rfl, rfl⟩, rfl, ⟨rfl, rfl, rfl⟩, rfl⟩ := hi
  -- one more
  have psh : ∀ {wz : World} {oz : Own} {az : Option Addr} {cz : Nat} {outz : List Mem} (x : Mem) {wy : World} {q : Nat}, Step no w o wz oz → Mine [p14, p15, p16, p17] wz oz → w13.heap.size ≤ wz.heap.size → RRw w13.heap.size wz oz az cz outz → outz.length < 1000000 → Ext no wz wy → Blk wy q 112 x.C → wz.heap.size ≤ q → q < wy.heap.size →
      ∃ a' n' c' w' o', (Builtin.append_ #[66, 66] 66 #[.slice az outz.length cz, .slice (some (blk q)) 1 1]).run Tryz.prog wy = .ok (.slice a' n' c') w' ∧ n' = (outz ++ [x]).length ∧ (∀ L, (∀ p ∈ L, p ∈ [p14, p15, p16, p17]) → Keep L wy w') ∧ Step no w o w' o' ∧ Mine [p14, p15, p16, p17] w' o' ∧ w13.heap.size ≤ w'.heap.size ∧ RRw w13.heap.size w' o' a' c' (outz ++ [x]) := by
    intro wz oz az cz outz x wy q sz Mz hz rz hoz X hb hq hq'
    have sy := Step.of_no X sz.ok
    have ry : RRw w13.heap.size wy _ az cz outz := LRow.step rz sy fun k h => h.elim
    obtain ⟨a', n', c', w', o', hrun, hn', s2, hrow⟩ := ry.push sy.ok hoz x hb (by omega) hq'
    refine ⟨a', n', c', w', o', hrun, hn', fun L hL => ((Mz.step sy).sub hL).keep s2 (fun p hp' => by have := hM p (hL p hp'); omega), (sz.trans sy).trans' s2 fun i hi => .inr (by omega), (Mz.step sy).step s2, Nat.le_trans hz (Nat.le_trans X.size s2.size), hrow⟩
  -- a store into a block of one's own
  have sto : ∀ {wz wy : World} {oz : Own} {az : Option Addr} {cz : Nat} {outz : List Mem} {mm : Nat → Prop}, (∀ b, mm b → b ∈ [p14, p15, p16, p17]) → Step no w o wz oz → Mine [p14, p15, p16, p17] wz oz → w13.heap.size ≤ wz.heap.size → RRw w13.heap.size wz oz az cz outz → Ext mm wz wy → ∃ oy, Step no w o wy oy ∧ Mine [p14, p15, p16, p17] wy oy ∧ w13.heap.size ≤ wy.heap.size ∧ RRw w13.heap.size wy oy az cz outz := by
    intro wz wy oz az cz outz mm hmm sz Mz hz rz X
    have s2 := Step.stores X sz.ok Mz hmm
    exact ⟨_, sz.trans' s2 fun i hi => .inr (g i hi), Mz.step s2, Nat.le_trans hz s2.size, LRow.step rz s2 fun k hk => .inl (hM k hk)⟩
  refine ⟨fun ht => ?_, fun ht => ?_⟩
  · have htl : t < ml.length := by omega
    have hg : ml[t]? = some ml[t] := List.getElem?_eq_getElem htl
    have hdrop := List.drop_eq_getElem_cons htl
    rw [hdrop] at hout
    generalize ml[t] = x at *
    obtain ⟨ad, rfl⟩ := hr.1.faddr Mem.len (by decide) htl
    have c0 : ∀ {wz : World} {oz : Own}, Step no w o wz oz → wz.cell? ((ad.add (Int.toNat (t : Int) * 5)).add 0) = some (.int .i64 x.who) := fun sz => by rw [Int.toNat_natCast]; exact (hr.step sz).1.fcell Mem.len hg 0 rfl
    have ld : ∀ {wz : World} {oz : Own}, Step no w o wz oz → cellsAt wz (ad.add (Int.toNat (t : Int) * 5)) [.int .i64 x.who, .int .u64 x.pub, .int .i64 x.fr, .int .i64 x.to_, .int .i64 x.lim] 0 := fun sz => by rw [Int.toNat_natCast]; exact (hr.step sz).1.floads Mem.len hg
    refine ⟨fun hin => ⟨ad, rfl, by omega, by omega, x.who, c0 s1, fun hge w34 q35 X34 hb hq hq' => ?_, fun hlt => ⟨by omega, by omega, x.who, c0 s1, fun hne => ⟨by omega, by omega, x.who, x.pub, x.fr, x.to_, x.lim, ld s1, fun w34 q35 X34 hb hq hq' => ?_⟩, fun h => by omega⟩⟩, fun hin => ⟨ad, rfl, by omega, by omega, x.who, c0 s1, fun hne => ⟨by omega, by omega, x.who, x.pub, x.fr, x.to_, x.lim, ld s1, fun w34 q35 X34 hb hq hq' => ?_⟩, fun he => ⟨by omega, by omega, fun w75 X75 => ?_⟩⟩⟩
    · obtain ⟨a', n', c', w37, o37, hrun, hn', hkp, s37, M37, z37, r37⟩ := psh m s1 M1 hsz r1 (by omega) X34 hb hq hq'
      refine ⟨a', n', c', w37, hrun, hkp _ (fun p h => h), by omega, by omega, fun w39 X39 => ?_⟩
      obtain ⟨o39, s39, M39, z39, r39⟩ := sto (by simp) s37 M37 z37 r37 X39
      have hstep : out ++ [m] ++ (if x.who = m.who then [] else [x]) ++ putGo m (ml.drop (t + 1)) true = mputR ml m := by
        rw [← hout, hin]; simp only [putGo, show m.who ≤ x.who by omega, and_self, if_true, decide_true, Bool.or_true, List.append_assoc]
      refine ⟨x.who, c0 s39, fun hne => ⟨by omega, by omega, x.who, x.pub, x.fr, x.to_, x.lim, ld s39, fun w50 q51 X50 hb2 hq2 hq2' => ?_⟩, fun he => ⟨by omega, by omega, k - 1, by omega, true, t + 1, a', c', out ++ [m], o39, by rw [hn']; rfl, by omega, s39, M39, z39, r39, ?_, by simp; omega⟩⟩
      · rw [hn']
        obtain ⟨a2, n2, c2, w53, o53, hrun2, hn2, hkp2, s53, M53, z53, r53⟩ := psh x s39 M39 z39 r39 (by simp; omega) X50 hb2 hq2 hq2'
        refine ⟨a2, n2, c2, w53, hrun2, hkp2 _ (fun p h => h), by omega, by omega, fun w54 X54 => ?_⟩
        obtain ⟨o54, s54, M54, z54, r54⟩ := sto (by simp) s53 M53 z53 r53 X54
        rw [if_neg hne] at hstep
        exact ⟨k - 1, by omega, true, t + 1, a2, c2, out ++ [m] ++ [x], o54, by rw [hn2]; rfl, by omega, s54, M54, z54, r54, hstep, by simp; omega⟩
      · rw [if_pos he, List.append_nil] at hstep; exact hstep
    · obtain ⟨a', n', c', w37, o37, hrun, hn', hkp, s37, M37, z37, r37⟩ := psh x s1 M1 hsz r1 (by omega) X34 hb hq hq'
      refine ⟨a', n', c', w37, hrun, hkp _ (fun p h => h), by omega, by omega, fun w39 X39 => ?_⟩
      obtain ⟨o39, s39, M39, z39, r39⟩ := sto (by simp) s37 M37 z37 r37 X39
      refine ⟨k - 1, by omega, inb0, t + 1, a', c', out ++ [x], o39, by rw [hn']; rfl, by omega, s39, M39, z39, r39, ?_, by simp; omega⟩
      rw [← hout, hin]
      have h1 : ¬ m.who ≤ x.who := by omega
      simp [putGo, h1, hne]
    · obtain ⟨a', n', c', w37, o37, hrun, hn', hkp, s37, M37, z37, r37⟩ := psh x s1 M1 hsz r1 (by omega) X34 hb hq hq'
      refine ⟨a', n', c', w37, hrun, hkp _ (fun p h => h), by omega, by omega, fun w39 X39 => ?_⟩
      obtain ⟨o39, s39, M39, z39, r39⟩ := sto (by simp) s37 M37 z37 r37 X39
      refine ⟨k - 1, by omega, inb0, t + 1, a', c', out ++ [x], o39, by rw [hn']; rfl, by omega, s39, M39, z39, r39, ?_, by simp; omega⟩
      rw [← hout, hin]
      simp [putGo, hne]
    · obtain ⟨o75, s75, M75, z75, r75⟩ := sto (mm := no) (fun _ h => h.elim) s1 M1 hsz r1 X75
      refine ⟨k - 1, by omega, inb0, t + 1, _, _, out, o75, rfl, by omega, s75, M75, z75, r75, ?_, by omega⟩
      rw [← hout, hin]
      simp [putGo, he]
  · have : t = ml.length := by omega
    subst this
    rw [List.drop_length] at hout
    refine ⟨fun hin w95 q96 X95 hb hq hq' => ?_, fun hin w103 X103 => ?_⟩
    · obtain ⟨a', n', c', w37, o37, hrun, hn', hkp, s37, M37, z37, r37⟩ := psh m s1 M1 hsz r1 (by omega) X95 hb hq hq'
      refine ⟨a', n', c', w37, hrun, hkp _ (fun p h => by simp at h ⊢; omega), fun w101 X101 => ?_⟩
      obtain ⟨o39, s39, M39, z39, r39⟩ := sto (by simp [or_comm]) s37 M37 z37 r37 X101
      have : out ++ [m] = mputR ml m := by rw [← hout, hin]; rfl
      rw [this] at r39 hn'
      exact ⟨_, a', c', by rw [hn'], noStep (K := no) s39, r39.give s39 hs13, r39.le⟩
    · obtain ⟨o39, s39, M39, z39, r39⟩ := sto (by simp) s1 M1 hsz r1 X103
      have : out = mputR ml m := by rw [← hout, hin]; simp [putGo]
      rw [this] at r39 ⊢
      exact ⟨_, _, _, rfl, noStep (K := no) s39, r39.give s39 hs13, r39.le⟩
end
open W (OwnB)
section
variable {w w' w1 : World} {o o' o1 : Own} {a b : Option Addr} {c d N : Nat} {s t : MS} {m : Mem} {cg : Chg} {ml : List Mem} {l : List Wr} {wa oa : Option Addr} {wc oc : Nat}
theorem Q3Y : boxesP [] = false := rfl
theorem Q5i (h : cg.kd = 1) : rightM cg = decide ((0 ≤ cg.who ∧ cg.who < 8) ∧ cg.pub ≠ 0 ∧ cg.lim = 0 ∧ cg.ws = [] ∧ cg.old = []) := by
  unfold rightM
  by_cases h1 : 0 ≤ cg.who ∧ cg.who < 8
  · rw [if_pos h1, show (cg.kd == 3) = false by rw [h]; rfl]
    by_cases h2 : cg.ws = [] ∧ cg.old = []
    · rw [h2.1, h2.2, if_pos Q3Y.symm, if_neg (by simp), if_pos h]
      simp [h1]
    · have : decide ((0 ≤ cg.who ∧ cg.who < 8) ∧ cg.pub ≠ 0 ∧ cg.lim = 0 ∧ cg.ws = [] ∧ cg.old = []) = false := decide_eq_false fun h => h2 ⟨h.2.2.2.1, h.2.2.2.2⟩
      rw [this]
      split
      · rw [if_pos ⟨by rw [h]; decide, h2⟩]
      · rfl
  · rw [if_neg h1, eq_comm, decide_eq_false_iff_not]; exact fun h => h1 h.1
theorem Q5k (h : cg.kd = 2) : rightM cg = decide ((0 ≤ cg.who ∧ cg.who < 8) ∧ cg.who ≠ 0 ∧ cg.pub = 0 ∧ 0 ≤ cg.lim ∧ cg.lim ≤ 200 ∧ cg.ws = [] ∧ cg.old = []) := by
  unfold rightM
  by_cases h1 : 0 ≤ cg.who ∧ cg.who < 8
  · rw [if_pos h1, show (cg.kd == 3) = false by rw [h]; rfl]
    by_cases h2 : cg.ws = [] ∧ cg.old = []
    · rw [h2.1, h2.2, if_pos Q3Y.symm, if_neg (by simp), if_neg (by rw [h]; decide), if_pos h]
      simp [h1]
    · have : decide ((0 ≤ cg.who ∧ cg.who < 8) ∧ cg.who ≠ 0 ∧ cg.pub = 0 ∧ 0 ≤ cg.lim ∧ cg.lim ≤ 200 ∧ cg.ws = [] ∧ cg.old = []) = false := decide_eq_false fun h => h2 ⟨h.2.2.2.2.2.1, h.2.2.2.2.2.2⟩
      rw [this]
      split
      · rw [if_pos ⟨by rw [h]; decide, h2⟩]
      · rfl
  · rw [if_neg h1, eq_comm, decide_eq_false_iff_not]; exact fun h => h1 h.1
theorem Q3b (h : cg.kd = 3) : rightM cg = (boxesP cg.ws && decide (cg.who = 0 ∧ cg.pub = 0 ∧ cg.lim = 0 ∧ (cg.old.length = 0 ∨ cg.old.length = 24))) := by
  unfold rightM
  by_cases h1 : 0 ≤ cg.who ∧ cg.who < 8
  · rw [if_pos h1, show (cg.kd == 3) = true by rw [h]; rfl]
    cases hb : boxesP cg.ws
    · rw [if_neg (by decide)]; rfl
    · rw [if_pos rfl, if_neg (fun h' => h'.1 h), if_neg (by rw [h]; decide), if_neg (by rw [h]; decide), if_pos h]; rfl
  · rw [if_neg h1]
    have : decide (cg.who = 0 ∧ cg.pub = 0 ∧ cg.lim = 0 ∧ (cg.old.length = 0 ∨ cg.old.length = 24)) = false := decide_eq_false fun h => h1 (by rw [h.1]; decide)
    rw [this, Bool.and_false]
theorem Q72 (h1 : cg.kd ≠ 1) (h2 : cg.kd ≠ 2) (h3 : cg.kd ≠ 3) : rightM cg = false := by
  unfold rightM
  split
  · split
    · split
      · rfl
      · simp only [if_neg h1, if_neg h2, if_neg h3]
    · rfl
  · rfl
theorem Q3D (hr : RowAt w wa (l.flatMap Wr.C)) (hl : l.map Wr.p = cg.ws) (hn : l.length < 1000000) (ho : cg.old.length < 1000000) :
    Calls Tryz.prog 59 #[chgV cg wa wc oa oc] w (Ret (.bool (rightM cg)) fun w' => Ext no w w') := by
  refine Q0y.run cg.kd cg.who cg.pub cg.lim wa cg.ws.length wc oa cg.old.length oc ?_
  unfold Q0y.N
  simp only [who_F]
  have hlen : cg.ws.length = l.length := by rw [← hl]; simp
  have hz : cg.ws = [] ↔ cg.ws.length = 0 := List.length_eq_zero_iff.symm
  have hz2 : cg.old = [] ↔ cg.old.length = 0 := List.length_eq_zero_iff.symm
  have key : ∀ {w1 : World} {b : Bool}, Ext no w w1 → b = rightM cg → Value.bool b = .bool (rightM cg) ∧ Ext no w w1 := fun X h => ⟨by rw [h], X⟩
  have f1 : cg.kd = 1 → ¬ ((0 ≤ cg.who ∧ cg.who < 8) ∧ cg.pub ≠ 0 ∧ cg.lim = 0 ∧ cg.ws = [] ∧ cg.old = []) → false = rightM cg := fun h h2 => by rw [Q5i h, decide_eq_false h2]
  have f2 : cg.kd = 2 → ¬ ((0 ≤ cg.who ∧ cg.who < 8) ∧ cg.who ≠ 0 ∧ cg.pub = 0 ∧ 0 ≤ cg.lim ∧ cg.lim ≤ 200 ∧ cg.ws = [] ∧ cg.old = []) → false = rightM cg := fun h h2 => by rw [Q5k h, decide_eq_false h2]
  have f3 : cg.kd = 3 → ¬ (cg.who = 0 ∧ cg.pub = 0 ∧ cg.lim = 0 ∧ (cg.old.length = 0 ∨ cg.old.length = 24)) → false = rightM cg := fun h h2 => by rw [Q3b h, decide_eq_false h2, Bool.and_false]
  have f4 : cg.kd = 3 → boxesP cg.ws = false → false = rightM cg := fun h h2 => by rw [Q3b h, h2, Bool.false_and]
  have f5 : cg.kd ≠ 1 → cg.kd ≠ 2 → cg.kd ≠ 3 → false = rightM cg := fun a b c => (Q72 a b c).symm
  refine ⟨fun ho0 => ⟨fun h3 w7 X => key X ?_, fun h3 => ⟨fun h24 w7 X => key X (f3 h3 (by omega)), fun h24 => ?_⟩⟩, fun ho0 => ?_⟩
  · by_cases h1 : cg.kd = 1
    · exact f1 h1 (by rw [hz2]; omega)
    · by_cases h2 : cg.kd = 2
      · exact f2 h2 (by rw [hz2]; omega)
      · exact f5 h1 h2 h3
  all_goals have hoo : cg.old.length = 0 ∨ cg.old.length = 24 := by omega
  all_goals refine ⟨fun h1 => ?_, fun h1 => ⟨fun h2 => ?_, fun h2 => ⟨fun h3 w7 X7 => ?_, fun h3 w7 X7 => key X7 (f5 h1 h2 h3)⟩⟩⟩
  all_goals try (exfalso; omega)
  rotate_left
  · refine ⟨fun hw => ⟨fun hp => ⟨fun hl1 w14 X => key X ?_, fun hl1 w14 X => key X (f1 h1 fun h => hl1 h.2.2.1)⟩, fun hp w14 X => key X (f1 h1 fun h => h.2.1 hp)⟩, fun hw w14 X => key X (f1 h1 fun h => of_decide_eq_false hw h.1)⟩
    rw [Q5i h1, Bool.eq_iff_iff, beq_iff_eq, decide_eq_true_iff]
    exact ⟨fun h => ⟨of_decide_eq_true hw, hp, hl1, hz.2 (by omega), hz2.2 (by omega)⟩, fun h => by rw [h.2.2.2.1]; rfl⟩
  · refine ⟨fun hw => ⟨fun hw0 => ⟨fun hp => ⟨fun hl0 => ⟨fun hl1 w14 X => key X ?_, fun hl1 w14 X => key X (f2 h2 fun h => by omega)⟩, fun hl0 w14 X => key X (f2 h2 fun h => by omega)⟩, fun hp w14 X => key X (f2 h2 fun h => hp h.2.2.1)⟩, fun hw0 w14 X => key X (f2 h2 fun h => h.2.1 hw0)⟩, fun hw w14 X => key X (f2 h2 fun h => of_decide_eq_false hw h.1)⟩
    rw [Q5k h2, Bool.eq_iff_iff, beq_iff_eq, decide_eq_true_iff]
    exact ⟨fun h => ⟨of_decide_eq_true hw, hw0, hp, hl0, hl1, hz.2 (by omega), hz2.2 (by omega)⟩, fun h => by rw [h.2.2.2.2.2.1]; rfl⟩
  all_goals
    refine ⟨fun m vs w1 => ∃ (t : Nat) (last : Int), vs = [.int .i64 t] ∧ m + t = l.length ∧ Ext no w w1 ∧ boxesGo (-1) cg.ws = boxesGo last (cg.ws.drop t) ∧ (t = 0 → last = -1) ∧ (∀ x, 0 < t → cg.ws[t - 1]? = some x → last = x.1), l.length, ⟨0, -1, rfl, rfl, X7, rfl, fun _ => rfl, fun x h => absurd h (by omega)⟩, ?_⟩
    rintro m w1 i ⟨t, last, hi, hm, X1, hbx, hz0, hzp⟩
    simp only [List.cons.injEq, Value.int.injEq, true_and, and_true] at hi
    subst hi
    refine ⟨fun ht => ?_, fun ht => ?_⟩
    · have htl : t < l.length := by omega
      have htw : t < cg.ws.length := by omega
      have hg : l[t]? = some l[t] := List.getElem?_eq_getElem htl
      have hgw : cg.ws[t]? = some l[t].p := by rw [← hl, List.getElem?_map, hg]; rfl
      have hgw' : cg.ws[t] = l[t].p := (List.getElem?_eq_some_iff.1 hgw).2
      rw [Q31 htw, hgw'] at hbx
      have hprev : ∀ (_ : 0 < t), ∃ y, l[t - 1]? = some y ∧ last = y.who := fun h0 => by
        have h1 : t - 1 < l.length := by omega
        exact ⟨l[t - 1], List.getElem?_eq_getElem h1, hzp (l[t - 1]).p h0 (by rw [← hl, List.getElem?_map, List.getElem?_eq_getElem h1]; rfl)⟩
      generalize l[t] = x at *
      have hr1 := hr.no X1
      obtain ⟨ad, rfl⟩ := hr.faddr Wr.len (by decide) htl
      refine ⟨ad, rfl, by omega, by omega, x.who, by rw [Int.toNat_natCast]; exact hr1.fcell Wr.len hg 0 rfl, fun hw w46 X46 => key (X1.trans X46) (f4 h3 ?_), fun hw => ⟨by omega, by omega, x.a, x.b.length, x.c, by rw [Int.toNat_natCast]; exact hr1.fcell Wr.len hg 1 rfl, fun hb w46 X46 => key (X1.trans X46) (f4 h3 ?_), fun hb => ⟨fun hi => ?_, fun hi => ⟨by omega, by omega, fun w46 X46 => ⟨m - 1, by omega, t + 1, x.who, rfl, by omega, X1.trans X46, ?_, fun h => by omega, fun y _ hy => ?_⟩⟩⟩⟩⟩
      · unfold boxesP; rw [hbx, show decide (0 ≤ x.p.1 ∧ x.p.1 < 8) = false from hw]; rfl
      · unfold boxesP; rw [hbx, show decide (x.p.2.length = 16) = false from decide_eq_false fun h => hb (by rw [show x.b.length = 16 from h]; rfl)]; simp
      · obtain ⟨y, hy, hyl⟩ := hprev (by omega)
        refine ⟨by omega, by omega, by omega, by omega, y.who, by rw [show ((t : Int) - 1).toNat = t - 1 by omega]; exact hr1.fcell Wr.len hy 0 rfl, by omega, by omega, x.who, by rw [Int.toNat_natCast]; exact hr1.fcell Wr.len hg 0 rfl, fun hge w46 X46 => key (X1.trans X46) (f4 h3 ?_), fun hlt => ⟨by omega, by omega, fun w46 X46 => ⟨m - 1, by omega, t + 1, x.who, rfl, by omega, X1.trans X46, ?_, fun h => by omega, fun y _ hy => ?_⟩⟩⟩
        · unfold boxesP; rw [hbx, show decide (last < x.p.1) = false from decide_eq_false fun h => by have : last < x.who := h; omega]; simp
        · rw [hbx, show decide (0 ≤ x.p.1 ∧ x.p.1 < 8) = true from hw, decide_eq_true (show last < x.p.1 by show last < x.who; omega), decide_eq_true (show x.p.2.length = 16 by show x.b.length = 16; omega)]; rfl
        · rw [Nat.add_sub_cancel, hgw] at hy; cases hy; rfl
      · have h0 := hz0 (by omega)
        have hw' : 0 ≤ x.who ∧ x.who < 8 := of_decide_eq_true hw
        rw [hbx, show decide (0 ≤ x.p.1 ∧ x.p.1 < 8) = true from hw, decide_eq_true (show last < x.p.1 by show last < x.who; omega), decide_eq_true (show x.p.2.length = 16 by show x.b.length = 16; omega)]; rfl
      · rw [Nat.add_sub_cancel, hgw] at hy; cases hy; rfl
    · have htt : cg.ws.drop t = [] := List.drop_eq_nil_of_le (by omega)
      rw [htt] at hbx
      have hbP : boxesP cg.ws = decide ((cg.ws.length : Int) > 0) := by
        unfold boxesP; rw [hbx]
        show (true && decide (cg.ws ≠ [])) = _
        rw [Bool.true_and, decide_eq_decide, Ne, hz]; omega
      refine ⟨fun hw => ⟨fun hp => ⟨fun hl1 => key X1 ?_, fun hl1 => key X1 (f3 h3 fun h => hl1 h.2.2.1)⟩, fun hp => key X1 (f3 h3 fun h => hp h.2.1)⟩, fun hw => key X1 (f3 h3 fun h => hw h.1)⟩
      rw [Q3b h3, ← hbP, decide_eq_true (show cg.who = 0 ∧ cg.pub = 0 ∧ cg.lim = 0 ∧ (cg.old.length = 0 ∨ cg.old.length = 24) from ⟨hw, hp, hl1, hoo⟩), Bool.and_true]
theorem findM_2 (ml : List Mem) (x : Int) : (findM ml x).2 = isAt ml x := by
  unfold findM; cases h : isAt ml x <;> simp [h]
theorem Q6T {x : Int} (h : isAt ml x = true) : ∃ m, ml[findI ml x]? = some m ∧ m.who = x ∧ findM ml x = (m, true) := by
  obtain ⟨m, hm, hw⟩ := Q3I h
  exact ⟨m, hm, hw, by unfold findM; rw [if_pos h, hm]; rfl⟩
theorem Q55 (hr : Row w o a (s.ml.flatMap Mem.C)) (ok : Tags w o) (hs : s.ok) (hc : s.ml.length ≤ c) (hw : Row w o wa (l.flatMap Wr.C)) (hl : l.map Wr.p = cg.ws) (hn : l.length < 1000000) (ho : cg.old.length < 1000000) :
    Calls Tryz.prog 24 #[.agg #[.slice a s.ml.length c, .int .i64 s.ep], chgV cg wa wc oa oc] w (MsG w o (applyM s cg)) := by
  have hle := hs.le
  have h0 := hs.ep0
  have h1 := hs.ep1
  have hlen : cg.ws.length = l.length := by rw [← hl]; simp
  refine (Q09.go a s.ml.length c s.ep cg.kd cg.who cg.pub cg.lim wa cg.ws.length wc oa cg.old.length oc (R := MsR w o (applyM s cg)) ?_).mono fun x w' ⟨v, he, h⟩ => h.of he
  unfold Q09.N
  intro w11 p12 p13 p14 X11 hp
  obtain ⟨s11, M11⟩ := Step.priv X11 hp ok
  have g : ∀ p ∈ [p12, p13, p14], w.heap.size ≤ p := fun p h => (hp p h).1
  refine (Q3D (hw.step s11).1 hl hn ho).mono fun e w17 ⟨he, X17⟩ => ⟨_, he, X17.kept, fun hf w20 X20 => ?_, fun hf => ?_⟩
  all_goals have s17' := Step.of_no X17 s11.ok
  all_goals have s17 := s11.trans s17'
  all_goals have M17 := M11.step s17'
  · have s20 := Step.stores X20 s17'.ok (M17.sub (M := [p14]) (by simp)) (by simp)
    unfold applyM; rw [if_neg (by rw [hf]; decide)]
    exact MsR.zero (s17.trans' s20 fun i hi => .inr (g i (by simp at hi ⊢; omega))) 1
  refine (Q5J (hr.step s17) s17.ok hs.sorted (by omega) s.ep cg.who).mono fun e w28 ⟨he, o28, s28'⟩ => ⟨_, _, _, _, _, _, he, M17.keep s28' fun _ _ => id, ?_⟩
  have s28 := s17.trans s28'
  have M28 := M17.step s28'
  have hA : applyM s cg = if cg.kd = 1 then inviteM s cg else if cg.kd = 2 then revokeM s cg else beginM s cg := by unfold applyM; rw [if_pos hf]
  have zero : ∀ {w20 : World} (k : Int), applyM s cg = (MS.z, k) → Ext (fun b => b = p14) w28 w20 → MsR w o (applyM s cg) (.tuple #[.agg #[.slice none 0 0, .int .i64 0], .int .i64 k]) w20 := fun k hk X => by
    rw [hk]
    have s20 := Step.stores X s28.ok (M28.sub (M := [p14]) (by simp)) (by simp)
    exact MsR.zero (s28.trans' s20 fun i hi => .inr (g i (by simp at hi ⊢; omega))) k
  have put : ∀ {w34 : World} (m : Mem), applyM s cg = (⟨mputR s.ml m, s.ep⟩, 0) → Ext no w28 w34 →
      Calls Tryz.prog 61 #[.agg #[.slice a s.ml.length c, .int .i64 s.ep], m.V] w34 fun ee43 ww44 => ∃ (L41a : Option Addr) (L41n L41c : Nat) (Epoch42 : Int), ee43 = .returned (.agg #[.slice L41a L41n L41c, .int .i64 Epoch42]) ∧ Keep [p14] w34 ww44 ∧
        ∀ (ww46 : World), Ext (fun b => b = p14) ww44 ww46 → MsR w o (applyM s cg) (.tuple #[.agg #[.slice L41a L41n L41c, .int .i64 Epoch42], .int .i64 0]) ww46 := fun m hk X => by
    rw [hk]
    have s34' := Step.of_no X s28.ok
    have s34 := s28.trans s34'
    refine (Q6z (hr.step s34) s34.ok (by omega) s.ep m).mono fun x w44 ⟨o44, a', c', he, s44, r44, hc'⟩ => ⟨_, _, _, _, he, ((M28.step s34').sub (M := [p14]) (by simp)).keep s44 fun _ _ => id, fun w46 X46 => ?_⟩
    have s46 := Step.stores X46 s44.ok ((((M28.step s34').step s44)).sub (M := [p14]) (by simp)) (by simp)
    exact ⟨_, a', c', rfl, (s34.trans s44).trans' s46 fun i hi => .inr (g i (by simp at hi ⊢; omega)), r44.step s46, hc'⟩
  have hF2 := findM_2 s.ml cg.who
  refine ⟨fun hk => ?_, fun hk1 => ⟨fun hk => ?_, fun hk2 => ?_⟩⟩
  · rw [if_pos hk] at hA
    refine ⟨fun hi w38 X => zero 13 ?_ X, fun hi => ⟨by omega, by omega, fun w34 X => put ⟨cg.who, cg.pub, s.ep + 1, -1, 0⟩ ?_ X⟩⟩
    · rw [hA]; unfold inviteM; rw [if_pos (by rw [← hF2]; exact hi)]
    · rw [hF2] at hi
      rw [hA]; unfold inviteM; rw [if_neg (by rw [hi]; decide), Q6G hs.sorted hi]
  · rw [if_neg (by omega), if_pos hk] at hA
    refine ⟨fun hi w38 X => zero 20 ?_ X, fun hi => ?_⟩
    · rw [hA]; unfold revokeM; rw [if_neg (by rw [← hF2, hi]; decide)]
    · rw [hF2] at hi
      obtain ⟨m, hm, hmw, hF⟩ := Q6T hi
      rw [hF]
      have hR : revokeM s cg = if m.to_ = -1 then (⟨s.ml.set (findI s.ml cg.who) { m with to_ := if s.ep < 0 then -2 else s.ep, lim := cg.lim }, s.ep⟩, 0) else (MS.z, 10) := by unfold revokeM; rw [if_pos hi, hm]
      refine ⟨fun hto w38 X => zero 10 ?_ X, fun hto => ⟨fun he w59 X => put ⟨m.who, m.pub, m.fr, -2, cg.lim⟩ ?_ X, fun he w59 X => put ⟨m.who, m.pub, m.fr, s.ep, cg.lim⟩ ?_ X⟩⟩
      · rw [hA, hR, if_neg hto]
      · rw [hA, hR, if_pos hto, if_pos he, Q5G (m := ⟨m.who, m.pub, m.fr, -2, cg.lim⟩) hs.sorted (x := m) (by show s.ml[findI s.ml m.who]? = _; rw [hmw]; exact hm) rfl]
        show _ = (MS.mk (s.ml.set (findI s.ml m.who) _) _, _)
        rw [hmw]
      · rw [hA, hR, if_pos hto, if_neg (by omega), Q5G (m := ⟨m.who, m.pub, m.fr, s.ep, cg.lim⟩) hs.sorted (x := m) (by show s.ml[findI s.ml m.who]? = _; rw [hmw]; exact hm) rfl]
        show _ = (MS.mk (s.ml.set (findI s.ml m.who) _) _, _)
        rw [hmw]
  · rw [if_neg hk1, if_neg hk2] at hA
    refine ⟨fun he w38 X => zero 2 ?_ X, fun he w34 X34 => ?_⟩
    · rw [hA]; unfold beginM; rw [if_pos (by omega)]
    have hB : applyM s cg = if ((cg.old.length : Int) == 0) = decide (s.ep < 0) then (if (nowM s.ml).map Mem.who = cg.ws.map Prod.fst then (⟨s.ml, s.ep + 1⟩, 0) else (MS.z, 10)) else (MS.z, 10) := by rw [hA]; unfold beginM; rw [if_neg (by omega)]
    have s34' := Step.of_no X34 s28.ok
    have s34 := s28.trans s34'
    have M34 := M28.step s34'
    refine (Q4Q (hr.step s34) s34.ok (by omega) s.ep).mono fun x w82 ⟨o82, na, nc, hx, s82', r82, _⟩ => ⟨_, _, _, hx, M34.keep s82' fun _ _ => id, ?_⟩
    have s82 := s34.trans s82'
    have M82 := M34.step s82'
    have ten : ∀ {w1 w20 : World} {o1 : Own}, applyM s cg = (MS.z, 10) → Step no w o w1 o1 → Mine [p12, p13, p14] w1 o1 → Ext (fun b => b = p14) w1 w20 → MsR w o (applyM s cg) (.tuple #[.agg #[.slice none 0 0, .int .i64 0], .int .i64 10]) w20 := fun hk s1 M1 X => by
      rw [hk]
      have s20 := Step.stores X s1.ok (M1.sub (M := [p14]) (by simp)) (by simp)
      exact MsR.zero (s1.trans' s20 fun i hi => .inr (g i (by simp at hi ⊢; omega))) 10
    have hnl : (nowM s.ml).length ≤ s.ml.length := List.length_filter_le _ _
    refine ⟨fun hne w85 X85 => ten ?_ s82 M82 X85, fun heq => ⟨fun hne w85 X85 => ten ?_ s82 M82 X85, fun heo => ?_⟩⟩
    · rw [hB, if_neg (c := (nowM s.ml).map Mem.who = cg.ws.map Prod.fst) (fun h => hne (by have := congrArg List.length h; simp at this; omega)), ite_self]
    · rw [hB, if_neg]
      intro h
      apply hne
      rw [h, Bool.eq_iff_iff, decide_eq_true_iff, beq_iff_eq]; omega
    have hB2 : applyM s cg = if (nowM s.ml).map Mem.who = cg.ws.map Prod.fst then (⟨s.ml, s.ep + 1⟩, 0) else (MS.z, 10) := by
      rw [hB, if_pos]
      rw [heo, Bool.eq_iff_iff, decide_eq_true_iff, beq_iff_eq]; omega
    refine ⟨fun m vs w1 => ∃ (t : Nat) (o1 : Own), vs = [.int .i64 t, .slice none 0 0, .int .i64 0] ∧ m + t = (nowM s.ml).length ∧ Step no w82 o82 w1 o1 ∧ ((nowM s.ml).map Mem.who).take t = (cg.ws.map Prod.fst).take t, (nowM s.ml).length, ⟨0, o82, rfl, rfl, Step.refl _ s82.ok, rfl⟩, ?_⟩
    rintro m w94 i0 xa xn xc xe ⟨t, o94, hi, hm, s94, htk⟩
    simp only [List.cons.injEq, Value.slice.injEq, Value.int.injEq, true_and, and_true] at hi
    obtain ⟨rfl, ⟨rfl, rfl, rfl⟩, rfl⟩ := hi
    refine ⟨fun ht => ?_, fun ht => ⟨by omega, by omega, fun w108 X108 => ?_⟩⟩
    · have htl : t < (nowM s.ml).length := by omega
      have htw : t < l.length := by omega
      have hg : (nowM s.ml)[t]? = some (nowM s.ml)[t] := List.getElem?_eq_getElem htl
      have hgw : l[t]? = some l[t] := List.getElem?_eq_getElem htw
      have e1 : ((nowM s.ml).map Mem.who)[t]? = some (nowM s.ml)[t].who := by rw [List.getElem?_map, hg]; rfl
      have e2 : (cg.ws.map Prod.fst)[t]? = some l[t].who := by rw [← hl, List.getElem?_map, List.getElem?_map, hgw]; rfl
      generalize (nowM s.ml)[t] = x at *
      generalize l[t] = y at *
      obtain ⟨ad, rfl⟩ := r82.1.faddr Mem.len (by decide) htl
      obtain ⟨bd, rfl⟩ := hw.1.faddr Wr.len (by decide) htw
      refine ⟨ad, rfl, by omega, by omega, x.who, by rw [Int.toNat_natCast]; exact (r82.step s94).1.fcell Mem.len hg 0 rfl, bd, rfl, by omega, by omega, y.who, by rw [Int.toNat_natCast]; exact ((hw.step s82).step s94).1.fcell Wr.len hgw 0 rfl, fun hne w105 X105 => ten ?_ (s82.trans s94) (M82.step s94) X105, fun heq => ⟨by omega, by omega, fun w96 X96 => ⟨m - 1, by omega, t + 1, _, rfl, by omega, s94.trans (Step.of_no X96 s94.ok), ?_⟩⟩⟩
      · rw [hB2, if_neg]
        intro h
        rw [h, e2] at e1
        exact hne (Option.some.inj e1).symm
      · rw [List.take_add_one, List.take_add_one, htk, e1, e2, heq]
    · have hall : (nowM s.ml).map Mem.who = cg.ws.map Prod.fst := by
        rwa [List.take_of_length_le (by simp; omega), List.take_of_length_le (by simp; omega)] at htk
      rw [hB2, if_pos hall]
      have s94w := s82.trans s94
      have s108 := Step.stores X108 s94.ok ((M82.step s94).sub (M := [p14]) (by simp)) (by simp)
      have sF := s94w.trans' s108 fun i hi => .inr (g i (by simp at hi ⊢; omega))
      exact ⟨_, a, c, rfl, sF, hr.step sF, hc⟩
end
def clone64.M (a3 : Option Addr) (a5 a7 : Nat) (R : RW) (w : World) : Prop :=
 bif Option.isNone a3 then (
 R (.slice none 0 0) w) else (
 thenW (w.alloc (.cells #[] 26)) fun a6 =>
 ∃ (a0 : Option Addr) (a2 a1 : Nat) (a4 : World), (Builtin.append_ #[22, 22] 22 #[.slice (some (blk w.heap.size)) 0 0, .slice a3 a5 a7]).run Tryz.prog a6 = .ok (.slice a0 a2 a1) a4 ∧
 R (.slice a0 a2 a1) a4)

theorem clone64.ok (a2 : Option Addr) (a0 a1 : Nat) {R : RW} {w : World} (h : clone64.M a2 a0 a1 R w) : Calls Tryz.prog 42 #[.slice a2 a0 a1] w fun e w' => ∃ v, e = .returned v ∧ R v w' :=
  Q0i follows (H := []) (args := [.slice a2 a0 a1]) (cast (by kernel_rfl) h)

def cloneB.M (a3 : Option Addr) (a5 a7 : Nat) (R : RW) (w : World) : Prop :=
 bif Option.isNone a3 then (
 R (.slice none 0 0) w) else (
 thenW (w.alloc (.cells #[] 5)) fun a6 =>
 ∃ (a0 : Option Addr) (a2 a1 : Nat) (a4 : World), (Builtin.append_ #[25, 25] 25 #[.slice (some (blk w.heap.size)) 0 0, .slice a3 a5 a7]).run Tryz.prog a6 = .ok (.slice a0 a2 a1) a4 ∧
 R (.slice a0 a2 a1) a4)

theorem cloneB.ok (a2 : Option Addr) (a0 a1 : Nat) {R : RW} {w : World} (h : cloneB.M a2 a0 a1 R w) : Calls Tryz.prog 65 #[.slice a2 a0 a1] w fun e w' => ∃ v, e = .returned v ∧ R v w' :=
  Q0i follows (H := []) (args := [.slice a2 a0 a1]) (cast (by kernel_rfl) h)

def oNew.M (a3 : Option Addr) (a4 a5 : Nat) (R : RW) (w : World) : Prop :=
 Calls Tryz.prog 42 #[.slice a3 a4 a5] w fun ah af => ∃ (a1 : Option Addr) (a2 a0 : Nat), ah = .returned (.slice a1 a2 a0) ∧
 thenW (af.alloc (.map #[] 0)) fun ab =>
 thenW (ab.alloc (.map #[] 0)) fun ae =>
 thenW (ae.alloc (.map #[] 0)) fun ac =>
 thenW (ac.alloc (.map #[] 0)) fun ag =>
 thenW (ag.alloc (.map #[] 0)) fun ad =>
 thenW (ad.alloc (.map #[] 0)) fun a6 =>
 thenW (a6.alloc (.map #[] 0)) fun a8 =>
 thenW (a8.alloc (.map #[] 0)) fun a7 =>
 thenW (a7.alloc (.map #[] 0)) fun a9 =>
 thenW (a9.alloc (.cells #[.slice a1 a2 a0, .map (some af.heap.size), .int .u64 1, .map (some ab.heap.size), .map (some ae.heap.size), .map (some ac.heap.size), .map (some ag.heap.size), .map (some ad.heap.size), .map (some a6.heap.size), .map (some a8.heap.size), .map (some a7.heap.size)] 103)) fun aa =>
 R (.pointer (some (blk a9.heap.size))) aa

theorem oNew.ok (a0 : Option Addr) (a2 a1 : Nat) {R : RW} {w : World} (h : oNew.M a0 a2 a1 R w) : Calls Tryz.prog 15 #[.slice a0 a2 a1] w fun e w' => ∃ v, e = .returned v ∧ R v w' :=
  Q0i follows (H := []) (args := [.slice a0 a2 a1]) (cast (by kernel_rfl) h)

def oTake.M (o1 : Option Addr) (h2 : Int) (R : RW) (w : World) : Prop :=
 bif h2 == 0 then (
 R (.bool false) w) else (
 o1.elim False fun a3 =>
 ∃ (a0 : Option Nat), w.cell? (a3.add 1) = some (.map a0) ∧
 ∃ (v5 : Bool), (Instr.lookup 95 (.map a0) (.int .u64 h2) false).run Tryz.prog w = .ok (.bool v5) w ∧
 bif v5 then (
 R (.bool false) w) else (
 o1.elim False fun a6 =>
 ∃ (a1 : Option Nat), w.cell? (a6.add 1) = some (.map a1) ∧
 ∃ a2 : World, (Instr.mapUpdate 95 (.map a1) (.int .u64 h2) (.bool true)).run Tryz.prog w = .ok () a2 ∧
 R (.bool true) a2))

theorem oTake.ok (o1 : Option Addr) (h2 : Int) {R : RW} {w : World} (h : oTake.M o1 h2 R w) : Calls Tryz.prog 83 #[.pointer o1, .int .u64 h2] w fun e w' => ∃ v, e = .returned v ∧ R v w' :=
  Q0i follows (H := []) (args := [.pointer o1, .int .u64 h2]) (cast (by kernel_rfl) h)

def oFresh.M (o1 : Option Addr) (R : RW) (w : World) : Prop :=
 ∃ (I0 : Nat → List Value → World → Prop) (m2 : Nat), I0 m2 [] w ∧ ∀ (m3 : Nat) (ai : World), I0 m3 [] ai →
 o1.elim False fun a5 =>
 ∃ (ag : Option Addr) (a6 ah : Nat), ai.cell? (a5.add 0) = some (.slice ag a6 ah) ∧
 bif decide ((a6 : Int) > 0) then (
 o1.elim False fun a7 =>
 ∃ (a3 : Option Addr) (a4 af : Nat), ai.cell? (a7.add 0) = some (.slice a3 a4 af) ∧
 a3.elim False fun a9 =>
 0 ≤ (0 : Int) ∧ (0 : Int) < (a4 : Int) ∧
 ∃ (an : Int), ai.cell? (a9.add (Int.toNat 0 * 1)) = some (.int .u64 an) ∧
 o1.elim False fun b1 =>
 ∃ (a2 : Option Addr) (a1 a0 : Nat), ai.cell? (b1.add 0) = some (.slice a2 a1 a0) ∧
 (0 : Int) ≤ (1 : Int) ∧ (1 : Int) ≤ (a1 : Int) ∧
 o1.elim False fun ar =>
 Q0e ai ((ar.add 0).add 0) ∧
 thenW (ai.setCell ((ar.add 0).add 0) (.slice (if a0 = Int.toNat 1 then a2 else Option.map (fun z : Addr => z.add ((Int.toNat 1) * 1)) a2) (a1 - (Int.toNat 1)) (a0 - (Int.toNat 1)))) fun ap =>
 Calls Tryz.prog 83 #[.pointer o1, .int .u64 an] ap fun al ak => ∃ (ad : Bool), al = .returned (.bool ad) ∧
 bif ad then (
 R (.int .u64 an) ak) else (
 ∃ au, au < m3 ∧ I0 au [] ak)) else (
 ∃ (I2 : Nat → List Value → World → Prop) (b0 : Nat), I2 b0 [] ai ∧ ∀ (av : Nat) (aj : World), I2 av [] aj →
 o1.elim False fun az =>
 ∃ (ab : Int), aj.cell? (az.add 2) = some (.int .u64 ab) ∧
 Calls Tryz.prog 83 #[.pointer o1, .int .u64 ab] aj fun am ae => ∃ (a8 : Bool), am = .returned (.bool a8) ∧
 bif !a8 then (
 o1.elim False fun ay =>
 ∃ (ac : Int), ae.cell? (ay.add 2) = some (.int .u64 ac) ∧
 o1.elim False fun aq =>
 Q0e ae ((aq.add 2).add 0) ∧
 thenW (ae.setCell ((aq.add 2).add 0) (.int .u64 (IntKind.u64.wrap (ac + 1)))) fun ao =>
 ∃ aw, aw < av ∧ I2 aw [] ao) else (
 o1.elim False fun ax =>
 ∃ (aa : Int), ae.cell? (ax.add 2) = some (.int .u64 aa) ∧
 R (.int .u64 aa) ae))

theorem oFresh.ok (o1 : Option Addr) {R : RW} {w : World} (h : oFresh.M o1 R w) : Calls Tryz.prog 43 #[.pointer o1] w fun e w' => ∃ v, e = .returned v ∧ R v w' :=
  Q0i follows (H := [(0, [0, 3], []), (2, [0, 3], [])]) (args := [.pointer o1]) (cast (by kernel_rfl) h)

def oKey.M (o1 : Option Addr) (R : RW) (w : World) : Prop :=
 bif Option.isNone o1 then (
 R (.int .u64 0) w) else (
 Calls Tryz.prog 43 #[.pointer o1] w fun a4 a3 => ∃ (a0 : Int), a4 = .returned (.int .u64 a0) ∧
 o1.elim False fun a5 =>
 ∃ (a1 : Option Nat), a3.cell? (a5.add 4) = some (.map a1) ∧
 ∃ a2 : World, (Instr.mapUpdate 95 (.map a1) (.int .u64 a0) (.bool true)).run Tryz.prog a3 = .ok () a2 ∧
 R (.int .u64 a0) a2)

theorem oKey.ok (o1 : Option Addr) {R : RW} {w : World} (h : oKey.M o1 R w) : Calls Tryz.prog 45 #[.pointer o1] w fun e w' => ∃ v, e = .returned v ∧ R v w' :=
  Q0i follows (H := []) (args := [.pointer o1]) (cast (by kernel_rfl) h)

def oPair.M (o1 : Option Addr) (R : RW) (w : World) : Prop :=
 bif Option.isNone o1 then (
 R (.tuple #[.int .u64 0, .int .u64 0]) w) else (
 Calls Tryz.prog 43 #[.pointer o1] w fun a9 a8 => ∃ (a1 : Int), a9 = .returned (.int .u64 a1) ∧
 o1.elim False fun a5 =>
 ∃ (a2 : Option Nat), a8.cell? (a5.add 5) = some (.map a2) ∧
 ∃ a7 : World, (Instr.mapUpdate 95 (.map a2) (.int .u64 a1) (.bool true)).run Tryz.prog a8 = .ok () a7 ∧
 Calls Tryz.prog 43 #[.pointer o1] a7 fun aa a4 => ∃ (a3 : Int), aa = .returned (.int .u64 a3) ∧
 o1.elim False fun ab =>
 ∃ (a0 : Option Nat), a4.cell? (ab.add 6) = some (.map a0) ∧
 ∃ a6 : World, (Instr.mapUpdate 97 (.map a0) (.int .u64 a3) (.int .u64 a1)).run Tryz.prog a4 = .ok () a6 ∧
 R (.tuple #[.int .u64 a1, .int .u64 a3]) a6)

theorem oPair.ok (o1 : Option Addr) {R : RW} {w : World} (h : oPair.M o1 R w) : Calls Tryz.prog 16 #[.pointer o1] w fun e w' => ∃ v, e = .returned v ∧ R v w' :=
  Q0i follows (H := []) (args := [.pointer o1]) (cast (by kernel_rfl) h)

def oSeal.M (o1 : Option Addr) (ao : Int) (ag : Option Addr) (ai ah : Nat) (af : Option Addr) (aa aj : Nat) (R : RW) (w : World) : Prop :=
 Calls Tryz.prog 70 #[.int .i64 (aa : Int)] w fun b3 al => ∃ (a1 : Int), b3 = .returned (.int .i64 a1) ∧
 bif Option.isNone o1 then (
 R (.tuple #[.slice none 0 0, .int .i64 23]) al) else (
 o1.elim False fun a8 =>
 ∃ (ak : Option Nat), al.cell? (a8.add 4) = some (.map ak) ∧
 ∃ (b2 : Bool), (Instr.lookup 95 (.map ak) (.int .u64 ao) false).run Tryz.prog al = .ok (.bool b2) al ∧
 bif !b2 then (
 R (.tuple #[.slice none 0 0, .int .i64 11]) al) else (
 bif decide (a1 < 0) then (
 R (.tuple #[.slice none 0 0, .int .i64 3]) al) else (
 Calls Tryz.prog 43 #[.pointer o1] al fun aw ay => ∃ (a2 : Int), aw = .returned (.int .u64 a2) ∧
 thenW (ay.drew) fun ap =>
 o1.elim False fun az =>
 ∃ (a0 : Option Nat), ap.cell? (az.add 9) = some (.map a0) ∧
 Calls Tryz.prog 65 #[.slice ag ai ah] ap fun b1 aq => ∃ (a5 : Option Addr) (a4 a6 : Nat), b1 = .returned (.slice a5 a4 a6) ∧
 aq.cell? (az.add 9) = some (.map a0) ∧
 Calls Tryz.prog 65 #[.slice af aa aj] aq fun ar am => ∃ (a3 : Option Addr) (a9 a7 : Nat), ar = .returned (.slice a3 a9 a7) ∧
 am.cell? (az.add 9) = some (.map a0) ∧
 ∃ an : World, (Instr.mapUpdate 100 (.map a0) (.int .u64 a2) (.agg #[.int .u64 ao, .slice a5 a4 a6, .slice a3 a9 a7])).run Tryz.prog am = .ok () an ∧
 Calls Tryz.prog 38 #[.int .i64 a1] an fun ax b0 => ∃ (ac : Int), ax = .returned (.int .i64 ac) ∧
 Calls Tryz.prog 71 #[.int .u64 a2, .int .i64 ac] b0 fun av au => ∃ (ab : Option Addr) (ad ae : Nat), av = .returned (.slice ab ad ae) ∧
 R (.tuple #[.slice ab ad ae, .int .i64 0]) au)))

theorem oSeal.ok (o1 : Option Addr) (a6 : Int) (a3 : Option Addr) (a4 a1 : Nat) (a2 : Option Addr) (a0 a5 : Nat) {R : RW} {w : World} (h : oSeal.M o1 a6 a3 a4 a1 a2 a0 a5 R w) : Calls Tryz.prog 29 #[.pointer o1, .int .u64 a6, .slice a3 a4 a1, .slice a2 a0 a5] w fun e w' => ∃ v, e = .returned v ∧ R v w' :=
  Q0i follows (H := []) (args := [.pointer o1, .int .u64 a6, .slice a3 a4 a1, .slice a2 a0 a5]) (cast (by kernel_rfl) h)

def oOpen.M (o1 : Option Addr) (bz : Int) (b8 : Option Addr) (b7 b6 : Nat) (ch : Option Addr) (c0 cg : Nat) (R : RW) (w : World) : Prop :=
 bif Option.isNone o1 then (
 R (.tuple #[.slice none 0 0, .int .i64 23]) w) else (
 thenW (w.drew) fun ba =>
 o1.elim False fun a6 =>
 ∃ (a0 : Option Nat), ba.cell? (a6.add 9) = some (.map a0) ∧
 (Calls Tryz.prog 77 #[.slice ch c0 cg] ba fun ci a1 => ∃ (a9 : Int), ci = .returned (.int .u64 a9) ∧
 a1.cell? (a6.add 9) = some (.map a0) ∧
 ∃ (bc : Int) (a2 : Option Addr) (a5 a8 : Nat) (a7 : Option Addr) (a4 a3 : Nat) (c2 : Bool), (Instr.lookup 100 (.map a0) (.int .u64 a9) true).run Tryz.prog a1 = .ok (.tuple #[.agg #[.int .u64 bc, .slice a2 a5 a8, .slice a7 a4 a3], .bool c2]) a1 ∧
 thenW (a1.alloc (.cells #[.int .u64 0, .slice none 0 0, .slice none 0 0] 132)) fun bh =>
 (Instr.lookup 100 (.map a0) (.int .u64 a9) true).run Tryz.prog bh = .ok (.tuple #[.agg #[.int .u64 bc, .slice a2 a5 a8, .slice a7 a4 a3], .bool c2]) bh ∧
 bh.cell? (a6.add 9) = some (.map a0) ∧
 Q0e bh ((blk a1.heap.size).add 0) ∧
 thenW (bh.setCell ((blk a1.heap.size).add 0) (.int .u64 bc)) fun bx =>
 Q0e bx ((blk a1.heap.size).add 1) ∧
 thenW (bx.setCell ((blk a1.heap.size).add 1) (.slice a2 a5 a8)) fun bu =>
 Q0e bu ((blk a1.heap.size).add 2) ∧
 thenW (bu.setCell ((blk a1.heap.size).add 2) (.slice a7 a4 a3)) fun br =>
 bif !c2 then (
 R (.tuple #[.slice none 0 0, .int .i64 4]) br) else (
 ∃ (bl : Option Addr) (av bg : Nat), br.cell? ((blk a1.heap.size).add 2) = some (.slice bl av bg) ∧
 Calls Tryz.prog 70 #[.int .i64 (av : Int)] br fun c4 c8 => ∃ (ac : Int), c4 = .returned (.int .i64 ac) ∧
 Calls Tryz.prog 38 #[.int .i64 ac] c8 fun c1 bb => ∃ (bd : Int), c1 = .returned (.int .i64 bd) ∧
 bif (c0 : Int) != (IntKind.i64.wrap ((8 : Int) + bd)) then (
 R (.tuple #[.slice none 0 0, .int .i64 4]) bb) else (
 ∃ (bm : Int), bb.cell? ((blk a1.heap.size).add 0) = some (.int .u64 bm) ∧
 bif bm != bz then (
 R (.tuple #[.slice none 0 0, .int .i64 11]) bb) else (
 ∃ (b4 : Option Addr) (aw af : Nat), bb.cell? ((blk a1.heap.size).add 1) = some (.slice b4 aw af) ∧
 Calls Tryz.prog 78 #[.slice b4 aw af, .slice b8 b7 b6] bb fun c3 bq => ∃ (b9 : Bool), c3 = .returned (.bool b9) ∧
 bif !b9 then (
 R (.tuple #[.slice none 0 0, .int .i64 5]) bq) else (
 ∃ (b1 : Option Addr) (ae al : Nat), bq.cell? ((blk a1.heap.size).add 2) = some (.slice b1 ae al) ∧
 Calls Tryz.prog 65 #[.slice b1 ae al] bq fun c7 cc => ∃ (ad : Option Addr) (ao ax : Nat), c7 = .returned (.slice ad ao ax) ∧
 R (.tuple #[.slice ad ao ax, .int .i64 0]) cc))))) ∧
 (thenW (ba.alloc (.cells #[.int .u64 0, .slice none 0 0, .slice none 0 0] 132)) fun bw =>
 bw.cell? (a6.add 9) = some (.map a0) ∧
 Calls Tryz.prog 77 #[.slice ch c0 cg] bw fun c9 bf => ∃ (ay : Int), c9 = .returned (.int .u64 ay) ∧
 bf.cell? (a6.add 9) = some (.map a0) ∧
 ∃ (bn : Int) (aj : Option Addr) (b3 am : Nat) (az : Option Addr) (an ab : Nat) (cf : Bool), (Instr.lookup 100 (.map a0) (.int .u64 ay) true).run Tryz.prog bf = .ok (.tuple #[.agg #[.int .u64 bn, .slice aj b3 am, .slice az an ab], .bool cf]) bf ∧
 Q0e bf ((blk ba.heap.size).add 0) ∧
 thenW (bf.setCell ((blk ba.heap.size).add 0) (.int .u64 bn)) fun bt =>
 Q0e bt ((blk ba.heap.size).add 1) ∧
 thenW (bt.setCell ((blk ba.heap.size).add 1) (.slice aj b3 am)) fun bv =>
 Q0e bv ((blk ba.heap.size).add 2) ∧
 thenW (bv.setCell ((blk ba.heap.size).add 2) (.slice az an ab)) fun bs =>
 bif !cf then (
 R (.tuple #[.slice none 0 0, .int .i64 4]) bs) else (
 ∃ (bj : Option Addr) (ah bi : Nat), bs.cell? ((blk ba.heap.size).add 2) = some (.slice bj ah bi) ∧
 Calls Tryz.prog 70 #[.int .i64 (ah : Int)] bs fun ce cb => ∃ (au : Int), ce = .returned (.int .i64 au) ∧
 Calls Tryz.prog 38 #[.int .i64 au] cb fun c6 bk => ∃ (be : Int), c6 = .returned (.int .i64 be) ∧
 bif (c0 : Int) != (IntKind.i64.wrap ((8 : Int) + be)) then (
 R (.tuple #[.slice none 0 0, .int .i64 4]) bk) else (
 ∃ (bo : Int), bk.cell? ((blk ba.heap.size).add 0) = some (.int .u64 bo) ∧
 bif bo != bz then (
 R (.tuple #[.slice none 0 0, .int .i64 11]) bk) else (
 ∃ (ar : Option Addr) (ai ak : Nat), bk.cell? ((blk ba.heap.size).add 1) = some (.slice ar ai ak) ∧
 Calls Tryz.prog 78 #[.slice ar ai ak, .slice b8 b7 b6] bk fun c5 bp => ∃ (b5 : Bool), c5 = .returned (.bool b5) ∧
 bif !b5 then (
 R (.tuple #[.slice none 0 0, .int .i64 5]) bp) else (
 ∃ (aq : Option Addr) (ap ag : Nat), bp.cell? ((blk ba.heap.size).add 2) = some (.slice aq ap ag) ∧
 Calls Tryz.prog 65 #[.slice aq ap ag] bp fun cd ca => ∃ (b2 : Option Addr) (aa b0 : Nat), cd = .returned (.slice b2 aa b0) ∧
 R (.tuple #[.slice b2 aa b0, .int .i64 0]) ca))))))

theorem oOpen.ok (o1 : Option Addr) (a3 : Int) (a1 : Option Addr) (a2 a0 : Nat) (a6 : Option Addr) (a5 a4 : Nat) {R : RW} {w : World} (h : oOpen.M o1 a3 a1 a2 a0 a6 a5 a4 R w) : Calls Tryz.prog 34 #[.pointer o1, .int .u64 a3, .slice a1 a2 a0, .slice a6 a5 a4] w fun e w' => ∃ v, e = .returned v ∧ R v w' :=
  Q0i follows (H := []) (args := [.pointer o1, .int .u64 a3, .slice a1 a2 a0, .slice a6 a5 a4]) (cast (by kernel_rfl) h)

def oWrap.M (o1 : Option Addr) (a3 aa : Int) (R : RW) (w : World) : Prop :=
 bif Option.isNone o1 then (
 R (.tuple #[.slice none 0 0, .int .i64 23]) w) else (
 o1.elim False fun a4 =>
 ∃ (a2 : Option Nat), w.cell? (a4.add 6) = some (.map a2) ∧
 ∃ (v6 : Int) (v7 : Bool), (Instr.lookup 97 (.map a2) (.int .u64 a3) true).run Tryz.prog w = .ok (.tuple #[.int .u64 v6, .bool v7]) w ∧
 bif !v7 then (
 R (.tuple #[.slice none 0 0, .int .i64 20]) w) else (
 o1.elim False fun a8 =>
 ∃ (a9 : Option Nat), w.cell? (a8.add 4) = some (.map a9) ∧
 ∃ (ag : Bool), (Instr.lookup 95 (.map a9) (.int .u64 aa) false).run Tryz.prog w = .ok (.bool ag) w ∧
 bif !ag then (
 R (.tuple #[.slice none 0 0, .int .i64 11]) w) else (
 Calls Tryz.prog 43 #[.pointer o1] w fun ad ac => ∃ (a1 : Int), ad = .returned (.int .u64 a1) ∧
 o1.elim False fun ah =>
 ∃ (a0 : Option Nat), ac.cell? (ah.add 10) = some (.map a0) ∧
 ∃ ab : World, (Instr.mapUpdate 101 (.map a0) (.int .u64 a1) (.agg #[.int .u64 a3, .int .u64 aa])).run Tryz.prog ac = .ok () ab ∧
 Calls Tryz.prog 71 #[.int .u64 a1, .int .i64 8] ab fun af ae => ∃ (a5 : Option Addr) (a7 a6 : Nat), af = .returned (.slice a5 a7 a6) ∧
 R (.tuple #[.slice a5 a7 a6, .int .i64 0]) ae)))

theorem oWrap.ok (o1 : Option Addr) (a0 a1 : Int) {R : RW} {w : World} (h : oWrap.M o1 a0 a1 R w) : Calls Tryz.prog 47 #[.pointer o1, .int .u64 a0, .int .u64 a1] w fun e w' => ∃ v, e = .returned v ∧ R v w' :=
  Q0i follows (H := []) (args := [.pointer o1, .int .u64 a0, .int .u64 a1]) (cast (by kernel_rfl) h)

def oUnwrap.M (o1 : Option Addr) (ac : Int) (ax : Option Addr) (aq aw : Nat) (R : RW) (w : World) : Prop :=
 bif Option.isNone o1 then (
 R (.tuple #[.int .u64 0, .int .i64 23]) w) else (
 thenW (w.drew) fun ah =>
 o1.elim False fun a5 =>
 ∃ (a0 : Option Nat), ah.cell? (a5.add 10) = some (.map a0) ∧
 (Calls Tryz.prog 77 #[.slice ax aq aw] ah fun b1 ag => ∃ (a8 : Int), b1 = .returned (.int .u64 a8) ∧
 ag.cell? (a5.add 10) = some (.map a0) ∧
 ∃ (a1 ad : Int) (ar : Bool), (Instr.lookup 101 (.map a0) (.int .u64 a8) true).run Tryz.prog ag = .ok (.tuple #[.agg #[.int .u64 a1, .int .u64 ad], .bool ar]) ag ∧
 thenW (ag.alloc (.cells #[.int .u64 0, .int .u64 0] 147)) fun af =>
 (Instr.lookup 101 (.map a0) (.int .u64 a8) true).run Tryz.prog af = .ok (.tuple #[.agg #[.int .u64 a1, .int .u64 ad], .bool ar]) af ∧
 af.cell? (a5.add 10) = some (.map a0) ∧
 Q0e af ((blk ag.heap.size).add 0) ∧
 thenW (af.setCell ((blk ag.heap.size).add 0) (.int .u64 a1)) fun ap =>
 Q0e ap ((blk ag.heap.size).add 1) ∧
 thenW (ap.setCell ((blk ag.heap.size).add 1) (.int .u64 ad)) fun al =>
 bif !ar then (
 R (.tuple #[.int .u64 0, .int .i64 4]) al) else (
 bif (aq : Int) != 16 then (
 R (.tuple #[.int .u64 0, .int .i64 4]) al) else (
 thenW (al.drew) fun ab =>
 o1.elim False fun b2 =>
 ∃ (a3 : Option Nat), ab.cell? (b2.add 6) = some (.map a3) ∧
 ∃ (a6 : Int), ab.cell? ((blk ag.heap.size).add 0) = some (.int .u64 a6) ∧
 ∃ (ay : Int), (Instr.lookup 97 (.map a3) (.int .u64 a6) false).run Tryz.prog ab = .ok (.int .u64 ay) ab ∧
 bif ay != ac then (
 R (.tuple #[.int .u64 0, .int .i64 11]) ab) else (
 ∃ (ai : Int), ab.cell? ((blk ag.heap.size).add 1) = some (.int .u64 ai) ∧
 R (.tuple #[.int .u64 ai, .int .i64 0]) ab)))) ∧
 (thenW (ah.alloc (.cells #[.int .u64 0, .int .u64 0] 147)) fun ao =>
 ao.cell? (a5.add 10) = some (.map a0) ∧
 Calls Tryz.prog 77 #[.slice ax aq aw] ao fun au ae => ∃ (a9 : Int), au = .returned (.int .u64 a9) ∧
 ae.cell? (a5.add 10) = some (.map a0) ∧
 ∃ (a2 aj : Int) (az : Bool), (Instr.lookup 101 (.map a0) (.int .u64 a9) true).run Tryz.prog ae = .ok (.tuple #[.agg #[.int .u64 a2, .int .u64 aj], .bool az]) ae ∧
 Q0e ae ((blk ah.heap.size).add 0) ∧
 thenW (ae.setCell ((blk ah.heap.size).add 0) (.int .u64 a2)) fun an =>
 Q0e an ((blk ah.heap.size).add 1) ∧
 thenW (an.setCell ((blk ah.heap.size).add 1) (.int .u64 aj)) fun am =>
 bif !az then (
 R (.tuple #[.int .u64 0, .int .i64 4]) am) else (
 bif (aq : Int) != 16 then (
 R (.tuple #[.int .u64 0, .int .i64 4]) am) else (
 thenW (am.drew) fun aa =>
 o1.elim False fun b0 =>
 ∃ (a7 : Option Nat), aa.cell? (b0.add 6) = some (.map a7) ∧
 ∃ (a4 : Int), aa.cell? ((blk ah.heap.size).add 0) = some (.int .u64 a4) ∧
 ∃ (av : Int), (Instr.lookup 97 (.map a7) (.int .u64 a4) false).run Tryz.prog aa = .ok (.int .u64 av) aa ∧
 bif av != ac then (
 R (.tuple #[.int .u64 0, .int .i64 11]) aa) else (
 ∃ (ak : Int), aa.cell? ((blk ah.heap.size).add 1) = some (.int .u64 ak) ∧
 R (.tuple #[.int .u64 ak, .int .i64 0]) aa)))))

theorem oUnwrap.ok (o1 : Option Addr) (a0 : Int) (a3 : Option Addr) (a2 a1 : Nat) {R : RW} {w : World} (h : oUnwrap.M o1 a0 a3 a2 a1 R w) : Calls Tryz.prog 64 #[.pointer o1, .int .u64 a0, .slice a3 a2 a1] w fun e w' => ∃ v, e = .returned v ∧ R v w' :=
  Q0i follows (H := []) (args := [.pointer o1, .int .u64 a0, .slice a3 a2 a1]) (cast (by kernel_rfl) h)

def oBox.M (h1 a0 : Int) (R : RW) (w : World) : Prop :=
 ∃ (a2 : Option Addr) (a4 a6 : Nat) (a7 : World), (Instr.makeSlice 25 (.int .i64 (IntKind.i64.wrap ((8 : Int) + a0))) (.int .i64 (IntKind.i64.wrap ((8 : Int) + a0)))).run Tryz.prog w = .ok (.slice a2 a4 a6) a7 ∧
 ∃ (I0 : Nat → List Value → World → Prop) (m6 : Nat), I0 m6 [.int .i64 0] a7 ∧ ∀ (m7 : Nat) (a1 : World) (t5 : Int), I0 m7 [.int .i64 t5] a1 →
 bif decide (t5 < 8) then (
 0 ≤ ((IntKind.i64.wrap ((56 : Int) - (IntKind.i64.wrap ((8 : Int) * t5)))) : Int) ∧
 a2.elim False fun a9 =>
 0 ≤ (t5 : Int) ∧ (t5 : Int) < (a4 : Int) ∧
 Q0e a1 ((a9.add (Int.toNat t5 * 1)).add 0) ∧
 thenW (a1.setCell ((a9.add (Int.toNat t5 * 1)).add 0) (.int .u8 (IntKind.u8.wrap (Int.fdiv h1 (2 ^ (min (Int.toNat (IntKind.i64.wrap ((56 : Int) - (IntKind.i64.wrap ((8 : Int) * t5))))) (IntKind.bits .u64))))))) fun a3 =>
 ∃ a5, a5 < m7 ∧ I0 a5 [.int .i64 (IntKind.i64.wrap (t5 + 1))] a3) else (
 R (.slice a2 a4 a6) a1)

theorem oBox.ok (h1 a0 : Int) {R : RW} {w : World} (h : oBox.M h1 a0 R w) : Calls Tryz.prog 71 #[.int .u64 h1, .int .i64 a0] w fun e w' => ∃ v, e = .returned v ∧ R v w' :=
  Q0i follows (H := [(0, [0, 5], [(10, (.one (.int .i64)))])]) (args := [.int .u64 h1, .int .i64 a0]) (cast (by kernel_rfl) h)

def oHandle.M (a2 : Option Addr) (a4 a1 : Nat) (R : RW) (w : World) : Prop :=
 bif decide ((a4 : Int) < 8) then (
 R (.int .u64 0) w) else (
 (0 : Int) ≤ (8 : Int) ∧ (8 : Int) ≤ (a4 : Int) ∧
 Calls Tryz.prog 96 #[.slice (if a1 = Int.toNat 8 then a2 else Option.map (fun z : Addr => z.add ((Int.toNat 8) * 1)) a2) (a4 - (Int.toNat 8)) (a1 - (Int.toNat 8)), .func (.func 97) #[] #[]] w fun a8 a7 => ∃ (a0 : Bool), a8 = .returned (.bool a0) ∧
 bif a0 then (
 R (.int .u64 0) a7) else (
 (0 : Int) ≤ (8 : Int) ∧ (8 : Int) ≤ (a1 : Int) ∧
 ∃ (I0 : Nat → List Value → World → Prop) (m7 : Nat), I0 m7 [.int .u64 0, .int .i64 0] a7 ∧ ∀ (m8 : Nat) (a3 : World) (n5 t6 : Int), I0 m8 [.int .u64 n5, .int .i64 t6] a3 →
 bif decide (t6 < (((Int.toNat 8) - 0 : Nat) : Int)) then (
 (if a1 = 0 then a2 else Option.map (fun z : Addr => z.add (0 * 1)) a2).elim False fun a9 =>
 0 ≤ (t6 : Int) ∧ (t6 : Int) < (((Int.toNat 8) - 0 : Nat) : Int) ∧
 ∃ (a5 : Int), a3.cell? (a9.add (Int.toNat t6 * 1)) = some (.int .u8 a5) ∧
 0 ≤ (8 : Int) ∧
 ∃ a6, a6 < m8 ∧ I0 a6 [.int .u64 (IntKind.u64.wrap ((BitVec.ofInt (IntKind.bits .u64) (IntKind.u64.wrap (n5 * 2 ^ (min (Int.toNat 8) (IntKind.bits .u64)))) ||| BitVec.ofInt (IntKind.bits .u64) (IntKind.u64.wrap a5)).toNat)), .int .i64 (IntKind.i64.wrap (t6 + 1))] a3) else (
 R (.int .u64 n5) a3)))

theorem oHandle.ok (a2 : Option Addr) (a1 a0 : Nat) {R : RW} {w : World} (h : oHandle.M a2 a1 a0 R w) : Calls Tryz.prog 77 #[.slice a2 a1 a0] w fun e w' => ∃ v, e = .returned v ∧ R v w' :=
  Q0i follows (H := [(0, [15, 16], [(3, (.one (.int .u64))), (17, (.one (.int .i64)))])]) (args := [.slice a2 a1 a0]) (cast (by kernel_rfl) h)

def hNz.M (c1 : Int) (R : RW) (w : World) : Prop :=
 R (.bool (c1 != 0)) w

theorem hNz.ok (c1 : Int) {R : RW} {w : World} (h : hNz.M c1 R w) : Calls Tryz.prog 97 #[.int .u8 c1] w fun e w' => ∃ v, e = .returned v ∧ R v w' :=
  Q0i follows (H := []) (args := [.int .u8 c1]) (cast (by kernel_rfl) h)

def bClass.M (n1 : Int) (R : RW) (w : World) : Prop :=
 ∃ (I0 : Nat → List Value → World → Prop) (m3 : Nat), I0 m3 [.int .i64 0] w ∧ ∀ (m4 : Nat) (a1 : World) (t2 : Int), I0 m4 [.int .i64 t2] a1 →
 bif decide (t2 < 7) then (
 bif decide (n1 ≥ 0) then (
 Calls Tryz.prog 82 #[.int .i64 t2] a1 fun a4 a3 => ∃ (a0 : Int), a4 = .returned (.int .i64 a0) ∧
 bif decide (n1 ≤ a0) then (
 R (.int .i64 t2) a3) else (
 ∃ m9, m9 < m4 ∧ I0 m9 [.int .i64 (IntKind.i64.wrap (t2 + 1))] a3)) else (
 ∃ a2, a2 < m4 ∧ I0 a2 [.int .i64 (IntKind.i64.wrap (t2 + 1))] a1)) else (
 R (.int .i64 (-1)) a1)

theorem bClass.ok (n1 : Int) {R : RW} {w : World} (h : bClass.M n1 R w) : Calls Tryz.prog 70 #[.int .i64 n1] w fun e w' => ∃ v, e = .returned v ∧ R v w' :=
  Q0i follows (H := [(0, [0], [(4, (.one (.int .i64)))])]) (args := [.int .i64 n1]) (cast (by kernel_rfl) h)

def bSize.M (c1 : Int) (R : RW) (w : World) : Prop :=
 Calls Tryz.prog 81 #[.int .i64 c1] w fun a2 a1 => ∃ (a0 : Int), a2 = .returned (.int .i64 a0) ∧
 R (.int .i64 a0) a1

theorem bSize.ok (c1 : Int) {R : RW} {w : World} (h : bSize.M c1 R w) : Calls Tryz.prog 38 #[.int .i64 c1] w fun e w' => ∃ v, e = .returned v ∧ R v w' :=
  Q0i follows (H := []) (args := [.int .i64 c1]) (cast (by kernel_rfl) h)

def bsize.M (c1 : Int) (R : RW) (w : World) : Prop :=
 bif decide (c1 < 0) then (
 R (.int .i64 0) w) else (
 bif decide (c1 ≥ 7) then (
 R (.int .i64 0) w) else (
 0 ≤ (c1 : Int) ∧
 R (.int .i64 (IntKind.i64.wrap (16 * 2 ^ (min (Int.toNat c1) (IntKind.bits .i64))))) w))

theorem bsize.ok (c1 : Int) {R : RW} {w : World} (h : bsize.M c1 R w) : Calls Tryz.prog 81 #[.int .i64 c1] w fun e w' => ∃ v, e = .returned v ∧ R v w' :=
  Q0i follows (H := []) (args := [.int .i64 c1]) (cast (by kernel_rfl) h)

def broom.M (c1 : Int) (R : RW) (w : World) : Prop :=
 Calls Tryz.prog 81 #[.int .i64 c1] w fun a2 a1 => ∃ (a0 : Int), a2 = .returned (.int .i64 a0) ∧
 bif decide ((IntKind.i64.wrap (a0 - 1)) ≥ 128) then (
 R (.int .i64 (IntKind.i64.wrap ((IntKind.i64.wrap (a0 - 1)) - 1))) a1) else (
 R (.int .i64 (IntKind.i64.wrap (a0 - 1))) a1)

theorem broom.ok (c1 : Int) {R : RW} {w : World} (h : broom.M c1 R w) : Calls Tryz.prog 82 #[.int .i64 c1] w fun e w' => ∃ v, e = .returned v ∧ R v w' :=
  Q0i follows (H := []) (args := [.int .i64 c1]) (cast (by kernel_rfl) h)

def bEqual.M (a1 : Option Addr) (a2 a5 : Nat) (a3 : Option Addr) (a4 a0 : Nat) (R : RW) (w : World) : Prop :=
 ∃ (s3 : ByteArray), (convert 25 9 (.slice a1 a2 a5)).run Tryz.prog w = .ok (.string s3) w ∧
 ∃ (s4 : ByteArray), (convert 25 9 (.slice a3 a4 a0)).run Tryz.prog w = .ok (.string s4) w ∧
 R (.bool (s3.toList == s4.toList)) w

theorem bEqual.ok (a1 : Option Addr) (a2 a5 : Nat) (a3 : Option Addr) (a4 a0 : Nat) {R : RW} {w : World} (h : bEqual.M a1 a2 a5 a3 a4 a0 R w) : Calls Tryz.prog 78 #[.slice a1 a2 a5, .slice a3 a4 a0] w fun e w' => ∃ v, e = .returned v ∧ R v w' :=
  Q0i follows (H := []) (args := [.slice a1 a2 a5, .slice a3 a4 a0]) (cast (by kernel_rfl) h)

def bCF.M (a6 : Option Addr) (a3 a4 a8 : Nat) (a2 a1 : Array Value) (R : RW) (w : World) : Prop :=
 Calls Tryz.prog 103 #[.slice a6 a3 a4, .func (.func a8) a2 a1] w fun a7 a5 => ∃ (a0 : Int), a7 = .returned (.int .i64 a0) ∧
 R (.bool (decide (a0 ≥ 0))) a5

theorem bCF.ok (a4 : Option Addr) (a2 a5 a3 : Nat) (a1 a0 : Array Value) {R : RW} {w : World} (h : bCF.M a4 a2 a5 a3 a1 a0 R w) : Calls Tryz.prog 96 #[.slice a4 a2 a5, .func (.func a3) a1 a0] w fun e w' => ∃ v, e = .returned v ∧ R v w' :=
  Q0i follows (H := []) (args := [.slice a4 a2 a5, .func (.func a3) a1 a0]) (cast (by kernel_rfl) h)

def bIF.M (ab : Option Addr) (aa ac a3 : Nat) (a9 a5 : Array Value) (R : RW) (w : World) : Prop :=
 ∃ (I0 : Nat → List Value → World → Prop) (m4 : Nat), I0 m4 [.int .i64 0] w ∧ ∀ (m5 : Nat) (a2 : World) (t3 : Int), I0 m5 [.int .i64 t3] a2 →
 bif decide (t3 < (aa : Int)) then (
 ab.elim False fun a7 =>
 0 ≤ (t3 : Int) ∧ (t3 : Int) < (aa : Int) ∧
 ∃ (x8 : Int), a2.cell? (a7.add (Int.toNat t3 * 1)) = some (.int .u8 x8) ∧
 bif enters Tryz.prog a3 then Calls Tryz.prog a3 (a9.toList ++ ([.int .u8 x8] : List Value) ++ a5.toList).toArray a2 (fun a4 a1 => ∃ (r9 : Bool), a4 = .returned (.bool r9) ∧
 bif r9 then (
 R (.int .i64 t3) a1) else (
 ∃ a8, a8 < m5 ∧ I0 a8 [.int .i64 (IntKind.i64.wrap (t3 + 1))] a1)) else (∃ (r9 : Bool) (a0 : World), (Q1t a3 (a9.toList ++ ([.int .u8 x8] : List Value) ++ a5.toList).toArray).run Tryz.prog a2 = .ok (.bool r9) a0 ∧
 bif r9 then (
 R (.int .i64 t3) a0) else (
 ∃ a6, a6 < m5 ∧ I0 a6 [.int .i64 (IntKind.i64.wrap (t3 + 1))] a0))) else (
 R (.int .i64 (-1)) a2)

theorem bIF.ok (a4 : Option Addr) (a2 a5 a3 : Nat) (a1 a0 : Array Value) {R : RW} {w : World} (h : bIF.M a4 a2 a5 a3 a1 a0 R w) : Calls Tryz.prog 103 #[.slice a4 a2 a5, .func (.func a3) a1 a0] w fun e w' => ∃ v, e = .returned v ∧ R v w' :=
  Q0i follows (H := [(0, [0, 1, 7], [(8, (.one (.int .i64)))])]) (args := [.slice a4 a2 a5, .func (.func a3) a1 a0]) (cast (by kernel_rfl) h)

theorem inf26 : (Tryz.prog.info? 26).map (fun i => (i.zero, i.size, i.bytes)) = some (some (.int .u64 0), 1, 8) := by kernel_rfl
theorem inf4 : (Tryz.prog.info? 4).map (fun i => (i.zero, i.size, i.bytes)) = some (some (.bool false), 1, 1) := by kernel_rfl
set_option linter.unusedSectionVars false

structure Sealed where
  key : Int
  bound : List UInt8
  plain : List UInt8
structure OS where
  draws : List Int
  used : List Int
  next : Int
  hashes : List (List UInt8 × Int)
  keys : List Int
  secrets : List Int
  publics : List (Int × Int)
  signs : List ((Int × List UInt8) × Int)
  signed : List (Int × (Int × List UInt8))
  sealed : List (Int × Sealed)
  wrapped : List (Int × (Int × Int))

structure OG where
  p : Nat
  used : Nat
  hashes : Nat
  keys : Nat
  secrets : Nat
  publics : Nat
  signs : Nat
  signed : Nat
  sealed : Nat
  wrapped : Nat
  x : Nat → Prop
def OG.list (g : OG) : List Nat := [g.p, g.used, g.hashes, g.keys, g.secrets, g.publics, g.signs, g.signed, g.sealed, g.wrapped]
def OG.m (g : OG) : Nat → Prop := fun b => b ∈ g.list
def OG.M (g : OG) : Nat → Prop := fun b => g.m b ∨ g.x b

def u64V (n : Int) : Value := .int .u64 n
def signedV (x : Int × List UInt8) : Value := .agg #[.int .u64 x.1, strV x.2]
def bset (l : List Int) : List (Int × Value) := l.map fun n => (n, .bool true)
def SealedV (w : World) (m : Nat → Prop) (s : Sealed) (v : Value) : Prop :=
  ∃ ba bc pa pc, v = .agg #[.int .u64 s.key, .slice ba s.bound.length bc, .slice pa s.plain.length pc] ∧ RowAt w ba (bytesV s.bound) ∧ (bytesV s.bound ≠ [] → Out m ba) ∧ RowAt w pa (bytesV s.plain) ∧ (bytesV s.plain ≠ [] → Out m pa)
def SealedL (w : World) (m : Nat → Prop) : List (Int × Sealed) → List (Int × Value) → Prop
  | [], [] => True
  | p :: r, q :: s => p.1 = q.1 ∧ SealedV w m p.2 q.2 ∧ SealedL w m r s
  | _, _ => False

def OrcP (w : World) (g : OG) (draws : List Int) (next : Int) : Prop :=
  ∃ da dc, Blk w g.p 103 [.slice da draws.length dc, .map (some g.used), .int .u64 next, .map (some g.hashes), .map (some g.keys), .map (some g.secrets), .map (some g.publics), .map (some g.signs), .map (some g.signed), .map (some g.sealed), .map (some g.wrapped)] ∧
    draws.length ≤ dc ∧ RowAt w da (draws.map u64V) ∧ (draws.map u64V ≠ [] → Out g.M da)

structure Orc (w : World) (g : OG) (S : OS) : Prop where
  nd : g.list.Nodup
  st : OrcP w g S.draws S.next
  used : MapIs w g.used u64V (bset S.used)
  hashes : MapIs w g.hashes strV (S.hashes.map fun p => (p.1, u64V p.2))
  keys : MapIs w g.keys u64V (bset S.keys)
  secrets : MapIs w g.secrets u64V (bset S.secrets)
  publics : MapIs w g.publics u64V (S.publics.map fun p => (p.1, u64V p.2))
  signs : MapIs w g.signs signedV (S.signs.map fun p => (p.1, u64V p.2))
  signed : MapIs w g.signed u64V (S.signed.map fun p => (p.1, signedV p.2))
  sealed : ∃ lv, MapIs w g.sealed u64V lv ∧ SealedL w g.M S.sealed lv
  wrapped : MapIs w g.wrapped u64V (S.wrapped.map fun p => (p.1, .agg #[.int .u64 p.2.1, .int .u64 p.2.2]))
  xm : ∀ b, g.m b → ¬ g.x b
  xlt : ∀ b, g.x b → b < w.heap.size

theorem SealedL.ext {w w' : World} {m n : Nat → Prop} (k : Ext n w w') (hn : ∀ b, n b → m b) : ∀ {l : List (Int × Sealed)} {lv : List (Int × Value)}, SealedL w m l lv → SealedL w' m l lv
  | [], [], _ => trivial
  | p :: r, q :: s, h => by
    obtain ⟨h1, ⟨ba, bc, pa, pc, hv, h2, h3, h4, h5⟩, h6⟩ := h
    exact ⟨h1, ⟨ba, bc, pa, pc, hv, h2.ext' k (fun h0 ad ha hb => h3 h0 ad ha (hn _ hb)), h3, h4.ext' k (fun h0 ad ha hb => h5 h0 ad ha (hn _ hb)), h5⟩, SealedL.ext k hn h6⟩
  | [], _ :: _, h => h.elim
  | _ :: _, [], h => h.elim
theorem OrcP.ext {w w' : World} {g : OG} {d : List Int} {x : Int} {n : Nat → Prop} (h : OrcP w g d x) (k : Ext n w w') (hn : ∀ b, n b → g.M b) (hp : ¬ n g.p) : OrcP w' g d x := by
  obtain ⟨da, dc, h1, h2, h3, h4⟩ := h
  exact ⟨da, dc, h1.ext k hp, h2, h3.ext' k (fun h0 ad ha hb => h4 h0 ad ha (hn _ hb)), h4⟩

section
variable {w w' : World} {g : OG} {S : OS}
theorem m_list {g : OG} : g.m g.p ∧ g.m g.used ∧ g.m g.hashes ∧ g.m g.keys ∧ g.m g.secrets ∧ g.m g.publics ∧ g.m g.signs ∧ g.m g.signed ∧ g.m g.sealed ∧ g.m g.wrapped := by simp [OG.m, OG.list]
theorem Orc.ext {m : Nat → Prop} (h : Orc w g S) (k : Ext m w w') (hd : ∀ b, b < w.heap.size → m b → g.x b) : Orc w' g S := by
  have k' : Ext g.x w w' := k.mono fun b hb hlt => hd b hlt hb
  obtain ⟨lv, h1, h2⟩ := h.sealed
  obtain ⟨q1, q2, q3, q4, q5, q6, q7, q8, q9, q10⟩ := m_list (g := g)
  exact ⟨h.nd, h.st.ext k' (fun b hb => .inr hb) (h.xm _ q1), h.used.ext k' (h.xm _ q2), h.hashes.ext k' (h.xm _ q3), h.keys.ext k' (h.xm _ q4), h.secrets.ext k' (h.xm _ q5), h.publics.ext k' (h.xm _ q6), h.signs.ext k' (h.xm _ q7), h.signed.ext k' (h.xm _ q8), ⟨lv, h1.ext k' (h.xm _ q9), h2.ext k' fun b hb => .inr hb⟩, h.wrapped.ext k' (h.xm _ q10), h.xm, fun b hb => Nat.lt_of_lt_of_le (h.xlt b hb) k.size⟩
theorem Orc.none (h : Orc w g S) (k : Ext no w w') : Orc w' g S := h.ext k fun b _ hb => hb.elim
theorem Orc.mlt (h : Orc w g S) : ∀ b, g.m b → b < w.heap.size := fun b hb => by
  obtain ⟨da, dc, hp, _⟩ := h.st
  obtain ⟨lv, hse, _⟩ := h.sealed
  simp only [OG.m, OG.list, List.mem_cons, List.not_mem_nil, or_false] at hb
  rcases hb with rfl | rfl | rfl | rfl | rfl | rfl | rfl | rfl | rfl | rfl
  · exact hp.lt
  · exact h.used.lt
  · exact h.hashes.lt
  · exact h.keys.lt
  · exact h.secrets.lt
  · exact h.publics.lt
  · exact h.signs.lt
  · exact h.signed.lt
  · exact hse.lt
  · exact h.wrapped.lt
def OG.more (g : OG) (w w' : World) : OG := { g with x := fun b => g.x b ∨ (w.heap.size ≤ b ∧ b < w'.heap.size) }
theorem SealedL.wide {w : World} {m n : Nat → Prop} (hn : ∀ b, n b → m b ∨ w.heap.size ≤ b) : ∀ {l : List (Int × Sealed)} {lv : List (Int × Value)}, SealedL w m l lv → SealedL w n l lv
  | [], [], _ => trivial
  | p :: r, q :: s, h => by
    obtain ⟨h1, ⟨ba, bc, pa, pc, hv, h2, h3, h4, h5⟩, h6⟩ := h
    refine ⟨h1, ⟨ba, bc, pa, pc, hv, h2, fun h0 ad ha hb => ?_, h4, fun h0 ad ha hb => ?_⟩, SealedL.wide hn h6⟩
    · rcases hn _ hb with h | h
      · exact h3 h0 ad ha h
      · have := h2.lt h0 ha; omega
    · rcases hn _ hb with h | h
      · exact h5 h0 ad ha h
      · have := h4.lt h0 ha; omega
  | [], _ :: _, h => h.elim
  | _ :: _, [], h => h.elim
theorem Orc.foreign {n : Nat → Prop} (h : Orc w g S) (k : Ext n w w') (hd : ∀ b, b < w.heap.size → n b → g.x b) : Orc w' (g.more w w') S := by
  have hw := h.ext k hd
  have k' : Ext g.x w w' := k.mono fun b hb hlt => hd b hlt hb
  have hM : ∀ b, (g.more w w').M b → g.M b ∨ w.heap.size ≤ b := fun b hb => by
    rcases hb with hb | hb | hb
    · exact .inl (.inl hb)
    · exact .inl (.inr hb)
    · exact .inr hb.1
  obtain ⟨lv, h1, h2⟩ := h.sealed
  obtain ⟨lv', h1', h2'⟩ := hw.sealed
  obtain ⟨da, dc, hp, h3, h4, h5⟩ := h.st
  refine ⟨hw.nd, ⟨da, dc, hp.ext k' (h.xm _ m_list.1), h3, h4.ext' k' (fun h0 ad ha hb => h5 h0 ad ha (.inr hb)), fun h0 ad ha hb => ?_⟩, hw.used, hw.hashes, hw.keys, hw.secrets, hw.publics, hw.signs, hw.signed,
    ⟨lv, h1.ext k' (h.xm _ m_list.2.2.2.2.2.2.2.2.1), (h2.wide hM).ext k' fun b hb => .inr (.inl hb)⟩, hw.wrapped, fun b hb hx => ?_, fun b hb => ?_⟩
  · rcases hM _ hb with h | h
    · exact h5 h0 ad ha h
    · have := h4.lt h0 ha; omega
  · rcases hx with hx | hx
    · exact h.xm b hb hx
    · have := h.mlt b hb; omega
  · rcases hb with hb | hb
    · exact Nat.lt_of_lt_of_le (h.xlt b hb) k.size
    · exact hb.2
theorem nd_ne (h : Orc w g S) : g.p ≠ g.used ∧ g.p ≠ g.hashes ∧ g.p ≠ g.keys ∧ g.p ≠ g.secrets ∧ g.p ≠ g.publics ∧ g.p ≠ g.signs ∧ g.p ≠ g.signed ∧ g.p ≠ g.sealed ∧ g.p ≠ g.wrapped ∧
    g.used ≠ g.hashes ∧ g.used ≠ g.keys ∧ g.used ≠ g.secrets ∧ g.used ≠ g.publics ∧ g.used ≠ g.signs ∧ g.used ≠ g.signed ∧ g.used ≠ g.sealed ∧ g.used ≠ g.wrapped ∧
    g.hashes ≠ g.keys ∧ g.hashes ≠ g.secrets ∧ g.hashes ≠ g.publics ∧ g.hashes ≠ g.signs ∧ g.hashes ≠ g.signed ∧ g.hashes ≠ g.sealed ∧ g.hashes ≠ g.wrapped ∧
    g.keys ≠ g.secrets ∧ g.keys ≠ g.publics ∧ g.keys ≠ g.signs ∧ g.keys ≠ g.signed ∧ g.keys ≠ g.sealed ∧ g.keys ≠ g.wrapped ∧
    g.secrets ≠ g.publics ∧ g.secrets ≠ g.signs ∧ g.secrets ≠ g.signed ∧ g.secrets ≠ g.sealed ∧ g.secrets ≠ g.wrapped ∧
    g.publics ≠ g.signs ∧ g.publics ≠ g.signed ∧ g.publics ≠ g.sealed ∧ g.publics ≠ g.wrapped ∧
    g.signs ≠ g.signed ∧ g.signs ≠ g.sealed ∧ g.signs ≠ g.wrapped ∧ g.signed ≠ g.sealed ∧ g.signed ≠ g.wrapped ∧ g.sealed ≠ g.wrapped := by
  have := h.nd
  simp only [OG.list, List.nodup_cons, List.mem_cons, not_or, List.not_mem_nil, not_false_eq_true, List.nodup_nil, and_true] at this
  simp only [this, ne_eq, not_false_eq_true, and_self]

theorem one_sub {g : OG} {b : Nat} (hb : b ∈ g.list) : ∀ c, (fun x => x = b) c → g.M c := fun c hc => by subst hc; exact .inl hb

theorem Orc.set_used (h : Orc w g S) (k : Ext (fun b => b = g.used) w w') {l : List Int} (hl : MapIs w' g.used u64V (bset l)) : Orc w' g { S with used := l } := by
  have hn := nd_ne h
  have hs := one_sub (g := g) (b := g.used) (by simp [OG.list])
  obtain ⟨lv, h1, h2⟩ := h.sealed
  exact ⟨h.nd, h.st.ext k hs (by simp_all), hl, h.hashes.ext k (by simp_all [eq_comm]), h.keys.ext k (by simp_all [eq_comm]), h.secrets.ext k (by simp_all [eq_comm]), h.publics.ext k (by simp_all [eq_comm]), h.signs.ext k (by simp_all [eq_comm]), h.signed.ext k (by simp_all [eq_comm]), ⟨lv, h1.ext k (by simp_all [eq_comm]), h2.ext k hs⟩, h.wrapped.ext k (by simp_all [eq_comm]), h.xm, fun b hb => Nat.lt_of_lt_of_le (h.xlt b hb) k.size⟩
theorem Orc.set_keys (h : Orc w g S) (k : Ext (fun b => b = g.keys) w w') {l : List Int} (hl : MapIs w' g.keys u64V (bset l)) : Orc w' g { S with keys := l } := by
  have hn := nd_ne h
  have hs := one_sub (g := g) (b := g.keys) (by simp [OG.list])
  obtain ⟨lv, h1, h2⟩ := h.sealed
  exact ⟨h.nd, h.st.ext k hs (by simp_all), h.used.ext k (by simp_all [eq_comm]), h.hashes.ext k (by simp_all [eq_comm]), hl, h.secrets.ext k (by simp_all [eq_comm]), h.publics.ext k (by simp_all [eq_comm]), h.signs.ext k (by simp_all [eq_comm]), h.signed.ext k (by simp_all [eq_comm]), ⟨lv, h1.ext k (by simp_all [eq_comm]), h2.ext k hs⟩, h.wrapped.ext k (by simp_all [eq_comm]), h.xm, fun b hb => Nat.lt_of_lt_of_le (h.xlt b hb) k.size⟩
theorem Orc.set_secrets (h : Orc w g S) (k : Ext (fun b => b = g.secrets) w w') {l : List Int} (hl : MapIs w' g.secrets u64V (bset l)) : Orc w' g { S with secrets := l } := by
  have hn := nd_ne h
  have hs := one_sub (g := g) (b := g.secrets) (by simp [OG.list])
  obtain ⟨lv, h1, h2⟩ := h.sealed
  exact ⟨h.nd, h.st.ext k hs (by simp_all), h.used.ext k (by simp_all [eq_comm]), h.hashes.ext k (by simp_all [eq_comm]), h.keys.ext k (by simp_all [eq_comm]), hl, h.publics.ext k (by simp_all [eq_comm]), h.signs.ext k (by simp_all [eq_comm]), h.signed.ext k (by simp_all [eq_comm]), ⟨lv, h1.ext k (by simp_all [eq_comm]), h2.ext k hs⟩, h.wrapped.ext k (by simp_all [eq_comm]), h.xm, fun b hb => Nat.lt_of_lt_of_le (h.xlt b hb) k.size⟩
theorem Orc.set_publics (h : Orc w g S) (k : Ext (fun b => b = g.publics) w w') {l : List (Int × Int)} (hl : MapIs w' g.publics u64V (l.map fun p => (p.1, u64V p.2))) : Orc w' g { S with publics := l } := by
  have hn := nd_ne h
  have hs := one_sub (g := g) (b := g.publics) (by simp [OG.list])
  obtain ⟨lv, h1, h2⟩ := h.sealed
  exact ⟨h.nd, h.st.ext k hs (by simp_all), h.used.ext k (by simp_all [eq_comm]), h.hashes.ext k (by simp_all [eq_comm]), h.keys.ext k (by simp_all [eq_comm]), h.secrets.ext k (by simp_all [eq_comm]), hl, h.signs.ext k (by simp_all [eq_comm]), h.signed.ext k (by simp_all [eq_comm]), ⟨lv, h1.ext k (by simp_all [eq_comm]), h2.ext k hs⟩, h.wrapped.ext k (by simp_all [eq_comm]), h.xm, fun b hb => Nat.lt_of_lt_of_le (h.xlt b hb) k.size⟩
theorem Orc.set_wrapped (h : Orc w g S) (k : Ext (fun b => b = g.wrapped) w w') {l : List (Int × (Int × Int))} (hl : MapIs w' g.wrapped u64V (l.map fun p => (p.1, .agg #[.int .u64 p.2.1, .int .u64 p.2.2]))) : Orc w' g { S with wrapped := l } := by
  have hn := nd_ne h
  have hs := one_sub (g := g) (b := g.wrapped) (by simp [OG.list])
  obtain ⟨lv, h1, h2⟩ := h.sealed
  exact ⟨h.nd, h.st.ext k hs (by simp_all), h.used.ext k (by simp_all [eq_comm]), h.hashes.ext k (by simp_all [eq_comm]), h.keys.ext k (by simp_all [eq_comm]), h.secrets.ext k (by simp_all [eq_comm]), h.publics.ext k (by simp_all [eq_comm]), h.signs.ext k (by simp_all [eq_comm]), h.signed.ext k (by simp_all [eq_comm]), ⟨lv, h1.ext k (by simp_all [eq_comm]), h2.ext k hs⟩, hl, h.xm, fun b hb => Nat.lt_of_lt_of_le (h.xlt b hb) k.size⟩
theorem Orc.set_sealed (h : Orc w g S) (k : Ext (fun b => b = g.sealed) w w') {l : List (Int × Sealed)} {lv : List (Int × Value)} (hl : MapIs w' g.sealed u64V lv) (hv : SealedL w' g.M l lv) : Orc w' g { S with sealed := l } := by
  have hn := nd_ne h
  have hs := one_sub (g := g) (b := g.sealed) (by simp [OG.list])
  exact ⟨h.nd, h.st.ext k hs (by simp_all), h.used.ext k (by simp_all [eq_comm]), h.hashes.ext k (by simp_all [eq_comm]), h.keys.ext k (by simp_all [eq_comm]), h.secrets.ext k (by simp_all [eq_comm]), h.publics.ext k (by simp_all [eq_comm]), h.signs.ext k (by simp_all [eq_comm]), h.signed.ext k (by simp_all [eq_comm]), ⟨lv, hl, hv⟩, h.wrapped.ext k (by simp_all [eq_comm]), h.xm, fun b hb => Nat.lt_of_lt_of_le (h.xlt b hb) k.size⟩
theorem Orc.set_p (h : Orc w g S) (k : Ext (fun b => b = g.p) w w') {d : List Int} {x : Int} (hl : OrcP w' g d x) : Orc w' g { S with draws := d, next := x } := by
  have hn := nd_ne h
  have hs := one_sub (g := g) (b := g.p) (by simp [OG.list])
  obtain ⟨lv, h1, h2⟩ := h.sealed
  exact ⟨h.nd, hl, h.used.ext k (by simp_all [eq_comm]), h.hashes.ext k (by simp_all [eq_comm]), h.keys.ext k (by simp_all [eq_comm]), h.secrets.ext k (by simp_all [eq_comm]), h.publics.ext k (by simp_all [eq_comm]), h.signs.ext k (by simp_all [eq_comm]), h.signed.ext k (by simp_all [eq_comm]), ⟨lv, h1.ext k (by simp_all [eq_comm]), h2.ext k hs⟩, h.wrapped.ext k (by simp_all [eq_comm]), h.xm, fun b hb => Nat.lt_of_lt_of_le (h.xlt b hb) k.size⟩
end

theorem Q2T {l : List Int} {h : Int} : mlook (bset l) h = if h ∈ l then some (.bool true) else none := by
  induction l with
  | nil => rfl
  | cons a r ih =>
    simp only [bset, List.map_cons, mlook] at ih ⊢
    by_cases ha : a = h
    · simp [ha]
    · simp only [ha, if_false, List.mem_cons, Ne.symm ha, false_or]; exact ih
theorem Q4Z {l : List Int} {h : Int} (hn : h ∉ l) : mput (bset l) h (.bool true) = bset (l ++ [h]) := by
  induction l with
  | nil => rfl
  | cons a r ih =>
    simp only [List.mem_cons, not_or] at hn
    simp only [bset, List.map_cons, List.cons_append, mput, Ne.symm hn.1, if_false] at ih ⊢
    rw [ih hn.2]
theorem Q50 {l : List Int} {h : Int} (hn : h ∈ l) : mput (bset l) h (.bool true) = bset l := by
  induction l with
  | nil => cases hn
  | cons a r ih =>
    simp only [bset, List.map_cons, mput] at ih ⊢
    by_cases ha : a = h
    · simp [ha]
    · simp only [ha, if_false]
      rw [ih (by rcases List.mem_cons.1 hn with h | h; exact absurd h.symm ha; exact h)]

/-! ### lists of pairs -/
section
variable {κ β : Type} [DecidableEq κ]
def alook : List (κ × β) → κ → Option β
  | [], _ => none
  | p :: r, x => if p.1 = x then some p.2 else alook r x
def aput : List (κ × β) → κ → β → List (κ × β)
  | [], x, v => [(x, v)]
  | p :: r, x, v => if p.1 = x then (x, v) :: r else p :: aput r x v
theorem Q2P (f : β → Value) : ∀ (l : List (κ × β)) (x : κ), mlook (l.map fun p => (p.1, f p.2)) x = (alook l x).map f
  | [], x => rfl
  | p :: r, x => by
    simp only [List.map_cons, mlook, alook]
    by_cases h : p.1 = x
    · simp [h]
    · simp only [h, if_false]; exact Q2P f r x
theorem Q4y (f : β → Value) : ∀ (l : List (κ × β)) (x : κ) (v : β), mput (l.map fun p => (p.1, f p.2)) x (f v) = (aput l x v).map fun p => (p.1, f p.2)
  | [], x, v => rfl
  | p :: r, x, v => by
    simp only [List.map_cons, mput, aput]
    by_cases h : p.1 = x
    · simp [h]
    · simp only [h, if_false, List.map_cons]; rw [Q4y f r x v]
theorem Q1u : ∀ (l : List (κ × β)) (x y : κ) (v : β), alook (aput l x v) y = if x = y then some v else alook l y
  | [], x, y, v => rfl
  | p :: r, x, y, v => by
    simp only [aput]
    by_cases h : p.1 = x
    · subst h; simp only [if_true, alook]; split <;> rfl
    · simp only [h, if_false, alook, Q1u r x y v]
      by_cases h2 : p.1 = y
      · subst h2; simp [Ne.symm h]
      · simp [h2]
end

/-! ### a fresh handle -/
def pickD : List Int → List Int → Option (Int × List Int)
  | [], _ => none
  | h :: r, used => if h = 0 ∨ h ∈ used then pickD r used else some (h, r)
def pickN (used : List Int) : Nat → Int → Int
  | 0, n => n
  | k + 1, n => if n = 0 ∨ n ∈ used then pickN used k (n + 1) else n
def freshOf (S : OS) : Int × OS :=
  match pickD S.draws S.used with
  | some (h, r) => (h, { S with draws := r, used := S.used ++ [h] })
  | none => let h := pickN S.used (S.used.length + 1) S.next; (h, { S with draws := [], next := h, used := S.used ++ [h] })
def OS.ok (S : OS) : Prop := 1 ≤ S.next ∧ (∀ n, 1 ≤ n → n < S.next → n ∈ S.used) ∧ S.next ≤ S.used.length + 1 ∧ ∀ d ∈ S.draws, 0 ≤ d ∧ d < 18446744073709551616

theorem Q1z (used : List Int) : ∀ (k : Nat) (n : Int), 1 ≤ n → (∃ m, n ≤ m ∧ m < n + k ∧ m ∉ used) →
    n ≤ pickN used k n ∧ pickN used k n < n + k ∧ pickN used k n ∉ used ∧ pickN used k n ≠ 0 ∧ ∀ m, n ≤ m → m < pickN used k n → m ∈ used
  | 0, n, h1, ⟨m, h2, h3, _⟩ => by omega
  | k + 1, n, h1, ⟨m, h2, h3, h4⟩ => by
    simp only [pickN]
    by_cases hn : n = 0 ∨ n ∈ used
    · rw [if_pos hn]
      have hn' : n ∈ used := hn.resolve_left (by omega)
      have hm : m ≠ n := fun e => h4 (e ▸ hn')
      obtain ⟨a, b, c, d, e⟩ := Q1z used k (n + 1) (by omega) ⟨m, by omega, by omega, h4⟩
      refine ⟨by omega, by omega, c, d, fun q hq1 hq2 => ?_⟩
      by_cases hqn : q = n
      · subst hqn; exact hn'
      · exact e q (by omega) hq2
    · rw [if_neg hn]
      rw [not_or] at hn
      exact ⟨by omega, by omega, hn.2, hn.1, fun q h1 h2 => by omega⟩

theorem gap (used : List Int) : ∀ (k : Nat) (n : Int), used.length < k → ∃ m, n ≤ m ∧ m < n + k ∧ m ∉ used := by
  induction used with
  | nil => intro k n hk; exact ⟨n, by omega, by simp at hk; omega, by simp⟩
  | cons a r ih =>
    intro k n hk
    simp only [List.length_cons] at hk
    -- numbers below and above a
    by_cases ha : n ≤ a ∧ a < n + k
    · by_cases hr : (r.length : Int) < a - n
      · obtain ⟨m, h1, h2, h3⟩ := ih (a - n).toNat n (by omega)
        exact ⟨m, h1, by omega, by simp only [List.mem_cons, not_or]; exact ⟨by omega, h3⟩⟩
      · -- count below and above together: move the numbers above a down by one
        obtain ⟨m, h1, h2, h3⟩ : ∃ m, n ≤ m ∧ m < n + (k - 1 : Nat) ∧ m ∉ r.map (fun x => if a < x then x - 1 else x) := by
          have hl : (r.map (fun x => if a < x then x - 1 else x)).length < k - 1 := by simp; omega
          have : ∀ (l : List Int) (k : Nat), l.length < k → ∃ m, n ≤ m ∧ m < n + k ∧ m ∉ l := by
            intro l
            induction hq : l.length generalizing l with
            | zero =>
              intro k hk
              have : l = [] := List.eq_nil_of_length_eq_zero hq
              subst this; exact ⟨n, by omega, by omega, by simp⟩
            | succ q ihq =>
              intro k hk
              by_cases hall : ∃ m, n ≤ m ∧ m < n + k ∧ m ∉ l
              · exact hall
              · exfalso
                -- the last number is in l: strike it
                have hlast : (n + k - 1) ∈ l := by
                  by_cases h : (n + k - 1) ∈ l
                  · exact h
                  · exact absurd ⟨n + k - 1, by omega, by omega, h⟩ hall
                have hlen : (l.erase (n + k - 1)).length = q := by rw [List.length_erase_of_mem hlast, hq]; rfl
                obtain ⟨m, h1, h2, h3⟩ := ihq (l.erase (n + k - 1)) hlen (k - 1) (by omega)
                refine hall ⟨m, h1, by omega, fun hm => h3 ?_⟩
                exact (List.mem_erase_of_ne (by omega)).2 hm
          exact this _ _ hl
        by_cases hma : m < a
        · refine ⟨m, h1, by omega, ?_⟩
          simp only [List.mem_cons, not_or]
          refine ⟨by omega, fun hm => h3 ?_⟩
          exact List.mem_map.2 ⟨m, hm, by rw [if_neg (by omega)]⟩
        · refine ⟨m + 1, by omega, by omega, ?_⟩
          simp only [List.mem_cons, not_or]
          refine ⟨by omega, fun hm => h3 ?_⟩
          exact List.mem_map.2 ⟨m + 1, hm, by rw [if_pos (by omega)]; omega⟩
    · obtain ⟨m, h1, h2, h3⟩ := ih k n (by omega)
      exact ⟨m, h1, h2, by simp only [List.mem_cons, not_or]; exact ⟨by omega, h3⟩⟩

theorem Q2r {d used : List Int} {h : Int} {r : List Int} (hp : pickD d used = some (h, r)) : h ≠ 0 ∧ h ∉ used ∧ h ∈ d := by
  induction d with
  | nil => simp [pickD] at hp
  | cons a d ih =>
    simp only [pickD] at hp
    by_cases ha : a = 0 ∨ a ∈ used
    · rw [if_pos ha] at hp
      obtain ⟨h1, h2, h3⟩ := ih hp
      exact ⟨h1, h2, List.mem_cons_of_mem _ h3⟩
    · rw [if_neg ha] at hp
      simp only [Option.some.injEq, Prod.mk.injEq] at hp
      rw [not_or] at ha
      exact ⟨hp.1 ▸ ha.1, hp.1 ▸ ha.2, hp.1 ▸ List.mem_cons_self⟩

theorem Q4e {d used : List Int} {h : Int} {r : List Int} (hp : pickD d used = some (h, r)) : ∀ x ∈ r, x ∈ d := by
  induction d with
  | nil => simp [pickD] at hp
  | cons a d ih =>
    simp only [pickD] at hp
    by_cases ha : a = 0 ∨ a ∈ used
    · rw [if_pos ha] at hp
      exact fun x hx => List.mem_cons_of_mem _ (ih hp x hx)
    · rw [if_neg ha] at hp
      simp only [Option.some.injEq, Prod.mk.injEq] at hp
      rw [← hp.2]
      exact fun x hx => List.mem_cons_of_mem _ hx
theorem Q3t {S : OS} (h : S.ok) (hl : S.used.length < 1000000) : 0 < (freshOf S).1 ∧ (freshOf S).1 < 18446744073709551616 := by
  obtain ⟨h1, h2, h3, h4⟩ := h
  unfold freshOf
  cases hp : pickD S.draws S.used with
  | some q =>
    obtain ⟨x, r⟩ := q
    obtain ⟨a, b, c⟩ := Q2r hp
    have := h4 x c
    exact ⟨by show 0 < x; omega, this.2⟩
  | none =>
    obtain ⟨a, b, c, d, e⟩ := Q1z S.used (S.used.length + 1) S.next h1 (gap S.used _ _ (by omega))
    exact ⟨by show 0 < pickN _ _ _; omega, by show pickN _ _ _ < _; omega⟩
theorem Q1p {S : OS} (h : S.ok) : (freshOf S).1 ≠ 0 ∧ (freshOf S).1 ∉ S.used ∧ (freshOf S).2.used = S.used ++ [(freshOf S).1] ∧ (freshOf S).2.ok := by
  obtain ⟨h1, h2, h3, h4⟩ := h
  unfold freshOf
  cases hp : pickD S.draws S.used with
  | some q =>
    obtain ⟨x, r⟩ := q
    obtain ⟨a, b, _⟩ := Q2r hp
    exact ⟨a, b, rfl, h1, fun n hn1 hn2 => List.mem_append_left _ (h2 n hn1 hn2), by simp; omega, fun d hd => h4 d (Q4e hp d hd)⟩
  | none =>
    obtain ⟨a, b, c, d, e⟩ := Q1z S.used (S.used.length + 1) S.next h1 (gap S.used _ _ (by omega))
    refine ⟨d, c, rfl, by show 1 ≤ pickN _ _ _; omega, fun n hn1 hn2 => ?_, ?_, fun d hd => by cases hd⟩
    · refine List.mem_append_left _ ?_
      by_cases hlt : n < S.next
      · exact h2 n hn1 hlt
      · exact e n (by omega) hn2
    · -- all numbers from 1 on below it are used, and they are apart
      show pickN S.used (S.used.length + 1) S.next ≤ ((S.used ++ [_]).length : Int) + 1
      have hall : ∀ m, 1 ≤ m → m < pickN S.used (S.used.length + 1) S.next → m ∈ S.used := fun m h1' h2' => by
        by_cases hlt : m < S.next
        · exact h2 m h1' hlt
        · exact e m (by omega) h2'
      by_cases hle : pickN S.used (S.used.length + 1) S.next ≤ (S.used.length : Int) + 2
      · simp; omega
      · obtain ⟨m, q1, q2, q3⟩ := gap S.used (S.used.length + 1) 1 (by omega)
        exact absurd (hall m q1 (by omega)) q3

theorem Q0W (S : OS) : (freshOf S).2.hashes = S.hashes ∧ (freshOf S).2.keys = S.keys ∧ (freshOf S).2.secrets = S.secrets ∧ (freshOf S).2.publics = S.publics ∧
    (freshOf S).2.signs = S.signs ∧ (freshOf S).2.signed = S.signed ∧ (freshOf S).2.sealed = S.sealed ∧ (freshOf S).2.wrapped = S.wrapped := by
  unfold freshOf
  cases pickD S.draws S.used with
  | some q => exact ⟨rfl, rfl, rfl, rfl, rfl, rfl, rfl, rfl⟩
  | none => exact ⟨rfl, rfl, rfl, rfl, rfl, rfl, rfl, rfl⟩

def OS.init (l : List Int) : OS := ⟨l, [], 1, [], [], [], [], [], [], [], []⟩
theorem OS.init_ok (l : List Int) (hl : ∀ d ∈ l, 0 ≤ d ∧ d < 18446744073709551616) : (OS.init l).ok := ⟨Int.le_refl _, fun n h1 h2 => by simp only [OS.init] at h2; omega, by simp [OS.init], hl⟩
def badd (l : List Int) (x : Int) : List Int := if x ∈ l then l else l ++ [x]
theorem Q4Y (l : List Int) (x : Int) : mput (bset l) x (.bool true) = bset (badd l x) := by
  unfold badd
  split
  · exact Q50 ‹_›
  · exact Q4Z ‹_›
def keyOf (S : OS) : Int × OS := ((freshOf S).1, { (freshOf S).2 with keys := badd S.keys (freshOf S).1 })
theorem Q4q {S : OS} (h : S.ok) : (keyOf S).2.ok ∧ (keyOf S).2.used.length ≤ S.used.length + 1 := by
  obtain ⟨_, _, h3, h4⟩ := Q1p h
  exact ⟨h4, by show (freshOf S).2.used.length ≤ _; rw [h3]; simp⟩

def pairOf (S : OS) : (Int × Int) × OS :=
  let S1 := { (freshOf S).2 with secrets := badd S.secrets (freshOf S).1 }
  (((freshOf S).1, (freshOf S1).1), { (freshOf S1).2 with publics := aput S.publics (freshOf S1).1 (freshOf S).1 })
theorem Q2M {S : OS} (h : S.ok) : (pairOf S).2.ok ∧ (pairOf S).2.used.length ≤ S.used.length + 2 := by
  obtain ⟨_, _, h3, h4⟩ := Q1p h
  have h5 : OS.ok { (freshOf S).2 with secrets := badd S.secrets (freshOf S).1 } := h4
  obtain ⟨_, _, h6, h7⟩ := Q1p h5
  exact ⟨h7, by show (freshOf _).2.used.length ≤ _; rw [h6]; show ((freshOf S).2.used ++ _).length ≤ _; rw [h3]; simp⟩
theorem Q54 {S : OS} (h : S.ok) : (pairOf S).1.1 ≠ 0 ∧ (pairOf S).1.2 ≠ 0 ∧ (pairOf S).1.1 ∉ S.used ∧ (pairOf S).1.2 ∉ S.used ∧ (pairOf S).1.1 ≠ (pairOf S).1.2 ∧ (pairOf S).2.used = S.used ++ [(pairOf S).1.1] ++ [(pairOf S).1.2] ∧
    (pairOf S).2.secrets = badd S.secrets (pairOf S).1.1 ∧ (pairOf S).2.publics = aput S.publics (pairOf S).1.2 (pairOf S).1.1 ∧
    (pairOf S).2.hashes = S.hashes ∧ (pairOf S).2.keys = S.keys ∧ (pairOf S).2.signs = S.signs ∧ (pairOf S).2.signed = S.signed ∧ (pairOf S).2.sealed = S.sealed ∧ (pairOf S).2.wrapped = S.wrapped := by
  obtain ⟨a1, a2, a3, a4⟩ := Q1p h
  have h5 : OS.ok { (freshOf S).2 with secrets := badd S.secrets (freshOf S).1 } := a4
  obtain ⟨b1, b2, b3, b4⟩ := Q1p h5
  obtain ⟨c1, c2, c3, c4, c5, c6, c7, c8⟩ := Q0W S
  obtain ⟨d1, d2, d3, d4, d5, d6, d7, d8⟩ := Q0W { (freshOf S).2 with secrets := badd S.secrets (freshOf S).1 }
  have hu : ({ (freshOf S).2 with secrets := badd S.secrets (freshOf S).1 } : OS).used = S.used ++ [(freshOf S).1] := a3
  rw [hu] at b2 b3
  simp only [List.mem_append, List.mem_singleton, not_or] at b2
  exact ⟨a1, b1, a2, b2.1, fun e => b2.2 e.symm, b3, d3, rfl, d1.trans c1, d2.trans c2, d5.trans c5, d6.trans c6, d7.trans c7, d8.trans c8⟩

theorem SealedL.look {w : World} {m : Nat → Prop} : ∀ {l : List (Int × Sealed)} {lv : List (Int × Value)}, SealedL w m l lv → ∀ x, (alook l x = none ∧ mlook lv x = none) ∨ ∃ s v, alook l x = some s ∧ mlook lv x = some v ∧ SealedV w m s v
  | [], [], _, x => .inl ⟨rfl, rfl⟩
  | p :: r, q :: s, h, x => by
    obtain ⟨h1, h2, h3⟩ := h
    simp only [alook, mlook, ← h1]
    by_cases hp : p.1 = x
    · rw [if_pos hp, if_pos hp]; exact .inr ⟨_, _, rfl, rfl, h2⟩
    · rw [if_neg hp, if_neg hp]; exact SealedL.look h3 x
  | [], _ :: _, h, _ => h.elim
  | _ :: _, [], h, _ => h.elim
theorem SealedL.put {w : World} {m : Nat → Prop} {x : Int} {t : Sealed} {v : Value} (hv : SealedV w m t v) : ∀ {l : List (Int × Sealed)} {lv : List (Int × Value)}, SealedL w m l lv → SealedL w m (aput l x t) (mput lv x v)
  | [], [], _ => ⟨rfl, hv, trivial⟩
  | p :: r, q :: s, h => by
    obtain ⟨h1, h2, h3⟩ := h
    simp only [aput, mput, ← h1]
    by_cases hp : p.1 = x
    · rw [if_pos hp, if_pos hp]; exact ⟨rfl, hv, h3⟩
    · rw [if_neg hp, if_neg hp]; exact ⟨h1, h2, SealedL.put hv h3⟩
  | [], _ :: _, h => h.elim
  | _ :: _, [], h => h.elim
theorem Orc.ltM {w : World} {g : OG} {S : OS} (h : Orc w g S) : ∀ b, g.M b → b < w.heap.size := fun b hb => hb.elim (h.mlt b) (h.xlt b)

theorem keysU : Keys Tryz.prog 26 u64V := Q6M Tryz.underlying26
def Gives (v : Value) (Q : World → Prop) (e : Ending) (w' : World) : Prop := e = .returned v ∧ Q w'

section
variable {w w' : World} {g : OG} {S : OS}
theorem Orc.pCell (h : Orc w g S) {i : Nat} {v : Value} (hv : ∀ da dc, ([.slice da S.draws.length dc, .map (some g.used), .int .u64 S.next, .map (some g.hashes), .map (some g.keys), .map (some g.secrets), .map (some g.publics), .map (some g.signs), .map (some g.signed), .map (some g.sealed), .map (some g.wrapped)] : List Value)[i]? = some v) :
    w.cell? ((blk g.p).add i) = some v := by
  obtain ⟨da, dc, hb, _⟩ := h.st
  exact hb.cella (hv da dc)

theorem m_used : g.m g.used := by simp [OG.m, OG.list]
theorem m_p : g.m g.p := by simp [OG.m, OG.list]
theorem m_keys : g.m g.keys := by simp [OG.m, OG.list]
theorem Q6w : g.m g.secrets := by simp [OG.m, OG.list]
theorem Q6t : g.m g.publics := by simp [OG.m, OG.list]

theorem take_no (h : Orc w g S) {x : Int} (hx : x = 0 ∨ x ∈ S.used) :
    Calls Tryz.prog 83 #[.pointer (some (blk g.p)), .int .u64 x] w (Gives (.bool false) fun w' => w' = w) := by
  refine (oTake.ok _ _ (R := fun v w' => v = .bool false ∧ w' = w) ?_).mono fun e w' ⟨v, he, hv, hw⟩ => ⟨by rw [he, hv], hw⟩
  unfold oTake.M
  by_cases h0 : x = 0
  · subst h0; exact ⟨rfl, rfl⟩
  · have hx' : x ∈ S.used := hx.resolve_left h0
    have : (x == 0) = false := by simpa using h0
    rw [this]
    obtain ⟨i, hi, hz, _⟩ := info_of inf4
    have hl := h.used.lookup keysU Tryz.underlying95 hi hz x false
    rw [Q2T, if_pos hx'] at hl
    exact ⟨some g.used, h.pCell fun _ _ => rfl, true, hl, rfl, rfl⟩
theorem Q5z (h : Orc w g S) {x : Int} (h0 : x ≠ 0) (hx : x ∉ S.used) :
    Calls Tryz.prog 83 #[.pointer (some (blk g.p)), .int .u64 x] w (Gives (.bool true) fun w' => Orc w' g { S with used := S.used ++ [x] } ∧ Ext g.m w w') := by
  refine (oTake.ok _ _ (R := fun v w' => v = .bool true ∧ Orc w' g { S with used := S.used ++ [x] } ∧ Ext g.m w w') ?_).mono fun e w' ⟨v, he, hv, hw⟩ => ⟨by rw [he, hv], hw⟩
  unfold oTake.M
  have : (x == 0) = false := by simpa using h0
  rw [this]
  obtain ⟨i, hi, hz, _⟩ := info_of inf4
  have hl := h.used.lookup keysU Tryz.underlying95 hi hz x false
  rw [Q2T, if_neg hx] at hl
  obtain ⟨w1, hr, hm, hext⟩ := h.used.update keysU Tryz.underlying95 x (.bool true)
  rw [Q4Z hx] at hm
  exact ⟨some g.used, h.pCell fun _ _ => rfl, false, hl, some g.used, h.pCell fun _ _ => rfl, w1, hr, rfl, h.set_used (hext _ rfl) hm, hext _ m_used⟩

theorem Q1Z (h : Orc w g S) (hok : S.ok) (hlen : S.used.length < 1000000) :
    Calls Tryz.prog 43 #[.pointer (some (blk g.p))] w (Gives (u64V (freshOf S).1) fun w' => Orc w' g (freshOf S).2 ∧ Ext g.m w w') := by
  refine (oFresh.ok _ (R := fun v w' => v = u64V (freshOf S).1 ∧ Orc w' g (freshOf S).2 ∧ Ext g.m w w') ?_).mono fun e w' ⟨v, he, hv, hw⟩ => ⟨by rw [he, hv], hw⟩
  unfold oFresh.M
  refine ⟨fun k vs w1 => ∃ d, k = d.length ∧ Orc w1 g { S with draws := d } ∧ pickD d S.used = pickD S.draws S.used ∧ Ext g.m w w1, S.draws.length, ⟨S.draws, rfl, h, rfl, Ext.refl _ _⟩, ?_⟩
  rintro k w1 ⟨d, rfl, h1, hp, hx⟩
  obtain ⟨da, dc, hb, hle, hrow, hout⟩ := h1.st
  refine ⟨da, d.length, dc, hb.cella rfl, ?_⟩
  cases d with
  | nil =>
    -- the counter
    simp only [List.length_nil, Int.natCast_zero, gt_iff_lt, Int.lt_irrefl, decide_false, cond_false]
    have hf : freshOf S = (pickN S.used (S.used.length + 1) S.next, { S with draws := [], next := pickN S.used (S.used.length + 1) S.next, used := S.used ++ [pickN S.used (S.used.length + 1) S.next] }) := by
      simp [freshOf, ← hp, pickD]
    obtain ⟨q1, q2, q3, q4⟩ := hok
    obtain ⟨a1, a2, a3, a4, a5⟩ := Q1z S.used (S.used.length + 1) S.next q1 (gap S.used _ _ (by omega))
    rw [hf]
    generalize hN : pickN S.used (S.used.length + 1) S.next = N at *
    refine ⟨fun k vs w1 => ∃ n, S.next ≤ n ∧ n ≤ N ∧ k = (N - n).toNat ∧ Orc w1 g { S with draws := [], next := n } ∧ Ext g.m w w1, (N - S.next).toNat, ⟨S.next, Int.le_refl _, a1, rfl, h1, hx⟩, ?_⟩
    rintro k w2 ⟨n, hn1, hn2, rfl, h2, hx2⟩
    refine ⟨n, h2.pCell fun _ _ => rfl, ?_⟩
    by_cases hn : n = N
    · subst hn
      refine (Q5z h2 a4 a3).mono fun e w3 ⟨he, h3, hx3⟩ => ⟨true, he, ?_⟩
      exact ⟨n, h3.pCell fun _ _ => rfl, rfl, h3, hx2.trans hx3⟩
    · refine (take_no h2 (.inr (a5 n hn1 (by omega)))).mono fun e w3 ⟨he, hw3⟩ => ⟨false, he, ?_⟩
      subst hw3
      obtain ⟨da2, dc2, hb2, hle2, hrow2, hout2⟩ := h2.st
      have hwr : IntKind.u64.wrap (n + 1) = n + 1 := by
        simp only [IntKind.wrap, IntKind.bits, IntKind.signed]
        simp
        omega
      refine ⟨n, h2.pCell fun _ _ => rfl, hb2.cana (i := 2) rfl, Q01 fun w4 hw4 => ?_⟩
      rw [hwr] at hw4
      have hext : Ext (fun b => b = g.p) w3 w4 := by
        subst hw4; exact (Ext.refl _ _).setCell (.inl (by rw [add_zero, add_blk])) _
      have hb4 := hb2.seta 2 (.int .u64 (n + 1))
      refine ⟨(N - (n + 1)).toNat, by omega, n + 1, by omega, by omega, rfl, ?_, hx2.trans (hext.mono fun b hb _ => by subst hb; exact m_p)⟩
      refine h2.set_p hext ⟨da2, dc2, ?_, hle2, RowAt.nil _ _, hout2⟩
      subst hw4
      exact hb4
  | cons x r =>
    have hpos : decide (((x :: r).length : Int) > 0) = true := by simp
    rw [hpos]
    have hcell : w1.cell? (((blk g.p).add 0)) = some (.slice da (x :: r).length dc) := hb.cella rfl
    obtain ⟨ad, rfl⟩ := hrow.addr (by simp)
    have hx0 : w1.cell? (ad.add (Int.toNat 0 * 1)) = some (.int .u64 x) := hrow.at_ (i := 0) rfl
    refine ⟨_, _, dc, hcell, Int.le_refl _, by show (0 : Int) < ((x :: r).length : Int); rw [List.length_cons]; omega, x, hx0, _, _, dc, hcell, by omega, by show (1 : Int) ≤ ((x :: r).length : Int); rw [List.length_cons]; omega, hb.cana (i := 0) rfl, Q01 fun w2 hw2 => ?_⟩
    have hext : Ext (fun b => b = g.p) w1 w2 := by
      subst hw2; exact (Ext.refl _ _).setCell (.inl (by rw [add_zero, add_blk])) _
    have hb2 := hb.seta 0 (.slice (if dc = Int.toNat 1 then some ad else Option.map (fun z : Addr => z.add ((Int.toNat 1) * 1)) (some ad)) ((x :: r).length - (Int.toNat 1)) (dc - (Int.toNat 1)))
    have hxm : Ext g.m w w2 := hx.trans (hext.mono fun b hb _ => by subst hb; exact m_p)
    have hrow2 : RowAt w1 (if dc = 1 then some ad else Option.map (·.add 1) (some ad)) (r.map u64V) := by
      have := hrow.drop 1 dc (fun e => by simp only [List.length_cons, List.length_map] at hle ⊢; omega)
      simpa using this
    have hout2 : r.map u64V ≠ [] → Out g.M (if dc = 1 then some ad else Option.map (·.add 1) (some ad)) := fun _ q hq => by
      split at hq
      · exact hout (by simp) q hq
      · simp only [Option.map_some, Option.some.injEq] at hq
        subst hq; rw [Q1g]; exact hout (by simp) ad rfl
    have h2 : Orc w2 g { S with draws := r } := by
      refine h1.set_p (x := S.next) hext ⟨_, dc - 1, ?_, by simp at hle ⊢; omega, hrow2.ext' hext (fun h0 q hq hb => hout2 h0 q hq (.inl (by rw [hb]; exact m_p))), hout2⟩
      subst hw2
      exact hb2
    by_cases hxu : x = 0 ∨ x ∈ S.used
    · refine (take_no h2 hxu).mono fun e w3 ⟨he, hw3⟩ => ⟨false, he, ?_⟩
      subst hw3
      exact ⟨r.length, by simp, r, rfl, h2, by rw [← hp]; simp [pickD, hxu], hxm⟩
    · rw [not_or] at hxu
      refine (Q5z h2 hxu.1 hxu.2).mono fun e w3 ⟨he, h3, hx3⟩ => ⟨true, he, ?_⟩
      have hf : freshOf S = (x, { S with draws := r, used := S.used ++ [x] }) := by
        simp [freshOf, ← hp, pickD, hxu]
      rw [hf]
      exact ⟨rfl, h3, hxm.trans hx3⟩

theorem u64_one (l : List Int) : ∀ u ∈ l.map u64V, u.oneCell' = true := fun u hu => by
  obtain ⟨b, _, rfl⟩ := List.mem_map.1 hu; rfl
theorem Q4N {a : Option Addr} {c : Nat} {l : List Int} (h : RowAt w a (l.map u64V)) (hl : l.length ≤ 1000000) :
    Calls Tryz.prog 42 #[.slice a l.length c] w (fun e w' => ∃ a' c', e = .returned (.slice a' l.length c') ∧ l.length ≤ c' ∧ RowAt w' a' (l.map u64V) ∧ Ext no w w' ∧ Fresh w w' a') := by
  refine (clone64.ok a l.length c (R := fun v w' => ∃ a' c', v = (.slice a' l.length c') ∧ l.length ≤ c' ∧ RowAt w' a' (l.map u64V) ∧ Ext no w w' ∧ Fresh w w' a') ?_).mono fun e w' ⟨v, he, a', c', hv, hw⟩ => ⟨a', c', by rw [he, hv], hw⟩
  unfold clone64.M
  cases a with
  | none =>
    have : l = [] := by simpa using h.none_nil
    subst this
    exact ⟨none, 0, rfl, Nat.le_refl _, RowAt.nil _ _, Ext.refl _ _, fun ad ha => by cases ha⟩
  | some ad =>
    rw [Option.isNone_some, cond_false]
    refine Q01 fun w2 hw2 => ?_
    subst hw2
    obtain ⟨i, hi, hz, hs, hb⟩ := info_of inf26
    obtain ⟨a', c', w', hr, h1, h2, h3, h4⟩ := Q4J (c := c) (m := l.length) (ty := 22) Tryz.underlying22 hi hz hs hb rfl (by simp) h (u64_one l) (by omega) (by omega)
    exact ⟨a', l.length, c', w', hr, a', c', rfl, h1, h2, h3, h4⟩
theorem Q1M {a : Option Addr} {c : Nat} {l : List UInt8} (h : RowAt w a (bytesV l)) (hl : l.length ≤ 1000000) :
    Calls Tryz.prog 65 #[.slice a l.length c] w (fun e w' => ∃ a' c', e = .returned (.slice a' l.length c') ∧ l.length ≤ c' ∧ RowAt w' a' (bytesV l) ∧ Ext no w w' ∧ Fresh w w' a') := by
  refine (cloneB.ok a l.length c (R := fun v w' => ∃ a' c', v = (.slice a' l.length c') ∧ l.length ≤ c' ∧ RowAt w' a' (bytesV l) ∧ Ext no w w' ∧ Fresh w w' a') ?_).mono fun e w' ⟨v, he, a', c', hv, hw⟩ => ⟨a', c', by rw [he, hv], hw⟩
  unfold cloneB.M
  cases a with
  | none =>
    have : l = [] := by simpa [bytesV] using h.none_nil
    subst this
    exact ⟨none, 0, rfl, Nat.le_refl _, RowAt.nil _ _, Ext.refl _ _, fun ad ha => by cases ha⟩
  | some ad =>
    rw [Option.isNone_some, cond_false]
    refine Q01 fun w2 hw2 => ?_
    subst hw2
    obtain ⟨i, hi, hz, hs, hb⟩ := info_of inf5
    obtain ⟨a', c', w', hr, h1, h2, h3, h4⟩ := Q4J (c := c) (m := l.length) (ty := 25) Tryz.underlying25 hi hz hs hb rfl (Q1v l) h (Q2R l) (by omega) (by omega)
    exact ⟨a', l.length, c', w', hr, a', c', rfl, h1, h2, h3, h4⟩

theorem new_map {κ : Type} [DecidableEq κ] (enc : κ → Value) {w1 w2 : World} (h : w2 = w1.alloc (.map #[] 0)) : MapIs w2 w1.heap.size enc [] ∧ Ext no w1 w2 ∧ w2.heap.size = w1.heap.size + 1 := by
  subst h; exact ⟨MapIs.new _ _, (Ext.refl _ _).alloc _, by simp⟩
theorem Q6q (x0 : Nat → Prop) (hx0 : ∀ b, x0 b → b < w.heap.size) {a : Option Addr} {c : Nat} {l : List Int} (h : RowAt w a (l.map u64V)) (hl : l.length ≤ 1000000) :
    Calls Tryz.prog 15 #[.slice a l.length c] w (fun e w' => ∃ g : OG, e = .returned (.pointer (some (blk g.p))) ∧ Orc w' g (OS.init l) ∧ Ext no w w' ∧ (∀ b, g.m b → w.heap.size ≤ b ∧ b < w'.heap.size) ∧ g.x = x0) := by
  refine (oNew.ok a l.length c (R := fun v w' => ∃ g : OG, v = (.pointer (some (blk g.p))) ∧ Orc w' g (OS.init l) ∧ Ext no w w' ∧ (∀ b, g.m b → w.heap.size ≤ b ∧ b < w'.heap.size) ∧ g.x = x0) ?_).mono fun e w' ⟨v, he, g, hv, hw⟩ => ⟨g, by rw [he, hv], hw⟩
  unfold oNew.M
  refine (Q4N h hl).mono fun e w4 ⟨a', c', he, hle, hrow, hx, hf⟩ => ⟨a', l.length, c', he, ?_⟩
  refine Q01 fun w5 h5 => Q01 fun w6 h6 => Q01 fun w7 h7 => Q01 fun w8 h8 => Q01 fun w9 h9 => Q01 fun w10 h10 => Q01 fun w11 h11 => Q01 fun w12 h12 => Q01 fun w13 h13 => Q01 fun w14 h14 => ?_
  obtain ⟨m5, e5, s5⟩ := new_map u64V h5
  obtain ⟨m6, e6, s6⟩ := new_map strV h6
  obtain ⟨m7, e7, s7⟩ := new_map u64V h7
  obtain ⟨m8, e8, s8⟩ := new_map u64V h8
  obtain ⟨m9, e9, s9⟩ := new_map u64V h9
  obtain ⟨m10, e10, s10⟩ := new_map signedV h10
  obtain ⟨m11, e11, s11⟩ := new_map u64V h11
  obtain ⟨m12, e12, s12⟩ := new_map u64V h12
  obtain ⟨m13, e13, s13⟩ := new_map u64V h13
  have e14 : Ext no w13 w14 := by rw [h14]; exact (Ext.refl _ _).alloc _
  have s14 : w14.heap.size = w13.heap.size + 1 := by rw [h14]; simp
  have x13 := e14
  have x12 := e13.trans x13
  have x11 := e12.trans x12
  have x10 := e11.trans x11
  have x9 := e10.trans x10
  have x8 := e9.trans x9
  have x7 := e8.trans x8
  have x6 := e7.trans x7
  have x5 := e6.trans x6
  have x4 := e5.trans x5
  have hsz := hx.size
  have hm : ∀ b, (OG.mk w13.heap.size w4.heap.size w5.heap.size w6.heap.size w7.heap.size w8.heap.size w9.heap.size w10.heap.size w11.heap.size w12.heap.size x0).m b → w4.heap.size ≤ b ∧ b < w14.heap.size := fun b hb => by
    simp only [OG.m, OG.list, List.mem_cons, List.not_mem_nil, or_false] at hb
    omega
  refine ⟨⟨w13.heap.size, w4.heap.size, w5.heap.size, w6.heap.size, w7.heap.size, w8.heap.size, w9.heap.size, w10.heap.size, w11.heap.size, w12.heap.size, x0⟩, rfl, ⟨?_, ?_, m5.ext x5 id, m6.ext x6 id, m7.ext x7 id, m8.ext x8 id, m9.ext x9 id, m10.ext x10 id, m11.ext x11 id, ⟨[], m12.ext x12 id, trivial⟩, m13.ext x13 id, fun b hb hxx => ?_, fun b hb => ?_⟩, hx.trans x4, fun b hb => ⟨?_, (hm b hb).2⟩, rfl⟩
  · simp only [OG.list, List.nodup_cons, List.mem_cons, not_or, List.not_mem_nil, not_false_eq_true, List.nodup_nil, and_true]
    omega
  · refine ⟨a', c', ?_, hle, hrow.ext x4 (fun _ _ h => h), fun _ => hf.out fun b hb => hb.elim (fun hb => .inr (hm b hb).1) (fun hb => .inl (hx0 b hb))⟩
    rw [h14]
    exact Blk.new _ _ _
  · have h1 := (hm b hb).1
    have h2 := hx0 b hxx
    omega
  · exact Nat.lt_of_lt_of_le (hx0 b hb) (hx.trans x4).size
  · exact Nat.le_trans hsz (hm b hb).1

theorem Q70 (h : Orc w g S) (hok : S.ok) (hlen : S.used.length < 1000000) :
    Calls Tryz.prog 45 #[.pointer (some (blk g.p))] w (Gives (u64V (keyOf S).1) fun w' => Orc w' g (keyOf S).2 ∧ Ext g.m w w') := by
  refine (oKey.ok _ (R := fun v w' => v = u64V (keyOf S).1 ∧ Orc w' g (keyOf S).2 ∧ Ext g.m w w') ?_).mono fun e w' ⟨v, he, hv, hw⟩ => ⟨by rw [he, hv], hw⟩
  unfold oKey.M
  refine (Q1Z h hok hlen).mono fun e w4 ⟨he, hO, hx⟩ => ⟨(freshOf S).1, he, ?_⟩
  obtain ⟨w7, hu, hm, hext⟩ := hO.keys.update keysU Tryz.underlying95 (freshOf S).1 (.bool true)
  rw [(Q0W S).2.1, Q4Y] at hm
  exact ⟨some g.keys, hO.pCell fun _ _ => rfl, w7, hu, rfl, hO.set_keys (hext _ rfl) hm, hx.trans (hext _ m_keys)⟩

end
section
variable {w w' : World} {g : OG} {S : OS}
theorem Q6Z : g.m g.sealed := by simp [OG.m, OG.list]
theorem Q6a : g.m g.wrapped := by simp [OG.m, OG.list]

theorem Q6i (h : Orc w g S) (hok : S.ok) (hlen : S.used.length + 1 < 1000000) :
    Calls Tryz.prog 16 #[.pointer (some (blk g.p))] w (Gives (.tuple #[u64V (pairOf S).1.1, u64V (pairOf S).1.2]) fun w' => Orc w' g (pairOf S).2 ∧ Ext g.m w w') := by
  refine (oPair.ok _ (R := fun v w' => v = .tuple #[u64V (pairOf S).1.1, u64V (pairOf S).1.2] ∧ Orc w' g (pairOf S).2 ∧ Ext g.m w w') ?_).mono fun e w' ⟨v, he, hv, hw⟩ => ⟨by rw [he, hv], hw⟩
  unfold oPair.M
  refine (Q1Z h hok (by omega)).mono fun e w4 ⟨he, hO, hx⟩ => ⟨(freshOf S).1, he, ?_⟩
  obtain ⟨w7, hu, hm, hext⟩ := hO.secrets.update keysU Tryz.underlying95 (freshOf S).1 (.bool true)
  rw [(Q0W S).2.2.1, Q4Y] at hm
  have hO7 := hO.set_secrets (hext _ rfl) hm
  obtain ⟨_, _, h3, h4⟩ := Q1p hok
  refine ⟨some g.secrets, hO.pCell fun _ _ => rfl, w7, hu, ?_⟩
  refine (Q1Z hO7 h4 (by show (freshOf S).2.used.length < _; rw [h3]; simp; omega)).mono fun e w10 ⟨he, hO10, hx10⟩ => ⟨_, he, ?_⟩
  obtain ⟨w13, hu13, hm13, hext13⟩ := hO10.publics.update keysU Tryz.underlying97 (pairOf S).1.2 (u64V (freshOf S).1)
  rw [Q4y, (Q0W _).2.2.2.1] at hm13
  rw [show ({ (freshOf S).2 with secrets := badd S.secrets (freshOf S).1 } : OS).publics = S.publics from (Q0W S).2.2.2.1] at hm13
  exact ⟨some g.publics, hO10.pCell fun _ _ => rfl, w13, hu13, rfl, hO10.set_publics (hext13 _ rfl) hm13, ((hx.trans (hext _ Q6w)).trans hx10).trans (hext13 _ Q6t)⟩

theorem Q5l (h : Orc w g S) (k : Int) : (Instr.lookup 95 (.map (some g.keys)) (.int .u64 k) false).run Tryz.prog w = .ok (.bool (decide (k ∈ S.keys))) w := by
  obtain ⟨i, hi, hz, _⟩ := info_of inf4
  have hl := h.keys.lookup keysU Tryz.underlying95 hi hz k false
  rw [Q2T] at hl
  refine hl.trans ?_
  by_cases hk : k ∈ S.keys
  · simp [hk]
  · simp [hk]
theorem Q5e (h : Orc w g S) (k : Int) : (Instr.lookup 97 (.map (some g.publics)) (.int .u64 k) true).run Tryz.prog w = .ok (.tuple #[.int .u64 ((alook S.publics k).getD 0), .bool (alook S.publics k).isSome]) w := by
  obtain ⟨i, hi, hz, _⟩ := info_of inf26
  have hl := h.publics.lookup keysU Tryz.underlying97 hi hz k true
  rw [Q2P] at hl
  refine hl.trans ?_
  cases alook S.publics k <;> rfl

end
def POrc (w : World) (o : Own) (k : Nat) (S : OS) : Prop := ∃ g : OG, g.p = k ∧ Orc w g S ∧ (∀ b, g.m b → o b = some k) ∧ (∀ b, b < w.heap.size → ∀ j, o b = some j → j ≠ k → g.x b)
def Gs (K : Nat → Prop) (w : World) (o : Own) (v : Value) (Q : World → Own → Prop) (e : Ending) (w' : World) : Prop := ∃ o', e = .returned v ∧ Step K w o w' o' ∧ Q w' o'
section
variable {w w' : World} {o o' : Own} {k : Nat} {S : OS} {K : Nat → Prop}
theorem POrc.lt (h : POrc w o k S) : k < w.heap.size := by obtain ⟨g, rfl, h1, _⟩ := h; exact h1.mlt _ m_p
theorem POrc.step (h : POrc w o k S) (s : Step K w o w' o') (hk : ¬ K k) : POrc w' o' k S := by
  obtain ⟨g, h0, h1, h2, h3⟩ := h
  refine ⟨g.more w w', h0, h1.foreign s.ext fun b hb ⟨j, hj, hK⟩ => h3 b hb j hj fun e => hk (e ▸ hK), fun b hb => ?_, fun b hb j hj hne => ?_⟩
  · rw [s.same b (h1.mlt b hb)]; exact h2 b hb
  · by_cases hl : b < w.heap.size
    · rw [s.same b hl] at hj; exact .inl (h3 b hl j hj hne)
    · exact .inr ⟨by omega, hb⟩
theorem own_out {g : OG} {a : Option Addr} {cs : List Value} (h2 : ∀ b, g.m b → o b = some k) (hr : Row w o a cs) : cs ≠ [] → Out g.m a := fun h0 ad ha hm => by
  have := h2 _ hm
  rw [hr.2 h0 ad ha] at this; cases this
theorem POrc.turn {g : OG} {S' : OS} (h2 : ∀ b, g.m b → o b = some g.p) (h3 : ∀ b, b < w.heap.size → ∀ j, o b = some j → j ≠ g.p → g.x b) (hl : ∀ b, g.m b → b < w.heap.size) (ok : Tags w o) (h : Orc w' g S') (X : Ext g.m w w') :
    Step (fun j => j = g.p) w o w' (grow w o) ∧ POrc w' (grow w o) g.p S' := by
  refine ⟨Step.of_ext X ok fun b hb _ => h2 b hb, g, rfl, h, fun b hb => ?_, fun b hb j hj hne => ?_⟩
  · rw [grow_lt (hl b hb)]; exact h2 b hb
  · by_cases hlt : b < w.heap.size
    · rw [grow_lt hlt] at hj; exact h3 b hlt j hj hne
    · rw [grow_ge (by omega)] at hj; cases hj
open Classical in
theorem NewO (ok : Tags w o) {a : Option Addr} {c : Nat} {l : List Int} (h : RowAt w a (l.map u64V)) (hl : l.length ≤ 1000000) :
    Calls Tryz.prog 15 #[.slice a l.length c] w (fun e w' => ∃ k o', e = .returned (.pointer (some (blk k))) ∧ w.heap.size ≤ k ∧ Step no w o w' o' ∧ POrc w' o' k (OS.init l)) := by
  refine (Q6q (fun b => b < w.heap.size ∧ o b ≠ none) (fun b hb => hb.1) h hl).mono fun e w' ⟨g, he, hO, hx, hg, hgx⟩ => ?_
  have hp := hg _ m_p
  refine ⟨g.p, fun b => if b < w.heap.size then o b else if g.m b then some g.p else none, he, hp.1, ⟨hx.mono fun _ h _ => h.elim, fun b hb => if_pos hb, ok, fun b j hb hj => ?_⟩, g, rfl, hO, fun b hb => ?_, fun b hb j hj hne => ?_⟩
  · by_cases hlt : b < w.heap.size
    · simp only [if_pos hlt] at hj; exact Nat.lt_of_lt_of_le (ok b j hlt hj) hx.size
    · simp only [if_neg hlt] at hj
      split at hj
      · cases hj; exact hp.2
      · cases hj
  · have := (hg b hb).1
    simp only [if_neg (by omega : ¬ b < w.heap.size), if_pos hb]
  · by_cases hlt : b < w.heap.size
    · simp only [if_pos hlt] at hj
      rw [hgx]
      exact ⟨hlt, by rw [hj]; simp⟩
    · simp only [if_neg hlt] at hj
      split at hj
      · cases hj; exact absurd rfl hne
      · cases hj
theorem PairO (h : POrc w o k S) (ok : Tags w o) (hok : S.ok) (hlen : S.used.length + 1 < 1000000) :
    Calls Tryz.prog 16 #[.pointer (some (blk k))] w (Gs (fun j => j = k) w o (.tuple #[u64V (pairOf S).1.1, u64V (pairOf S).1.2]) fun w' o' => POrc w' o' k (pairOf S).2) := by
  obtain ⟨g, rfl, h1, h2, h3⟩ := h
  refine (Q6i h1 hok hlen).mono fun e w' ⟨he, hO, hx⟩ => ?_
  obtain ⟨s, p⟩ := POrc.turn h2 h3 h1.mlt ok hO hx
  exact ⟨_, he, s, p⟩
end
end Go.Proofs.YtgeakpldocfccaaGreat