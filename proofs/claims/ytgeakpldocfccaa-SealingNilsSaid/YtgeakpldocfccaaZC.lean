/- Members' laws: predicates. -/
import Derived.Test.YtgeakpldocfccaaZB
import Derived.Test.YtgeakpldocfccaaZA
import Derived.KernelRfl
set_option linter.unusedVariables false
set_option linter.unusedSimpArgs false
set_option maxRecDepth 20000
set_option maxHeartbeats 2000000
namespace Go.Proofs.Ytgeakpldocfccaa
open Go Go.Mx Go.Proofs
theorem inf111 : (Try.prog.info? 111).map (fun i => (i.zero, i.size, i.bytes)) = some (some (.agg #[.int .i64 0, .int .u64 0, .int .i64 0, .int .i64 0, .int .i64 0]), 5, 40) := by kernel_rfl
def Q0Z.M (a1 : Int) (R : RW) (w : World) : Prop :=
 thenW (w.alloc (.cells #[.slice none 0 0, .int .i64 0] 68)) fun a5 =>
 thenW (a5.alloc (.cells #[.int .i64 0, .int .u64 a1, .int .i64 0, .int .i64 (-1), .int .i64 0] 111)) fun a7 =>
 putsK a7 (blk w.heap.size) [.slice (some (blk a5.heap.size)) 1 1, .int .i64 (-1)] 0 fun a6 =>
 ∃ (a4 : Option Addr) (a2 a3 : Nat) (a0 : Int), cellsAt a6 (blk w.heap.size) [.slice a4 a2 a3, .int .i64 a0] 0 ∧
 R (.agg #[.slice a4 a2 a3, .int .i64 a0]) a6

theorem Q0Z.ok (a0 : Int) {R : RW} {w : World} (h : Q0Z.M a0 R w) : Calls Try.prog 20 #[.int .u64 a0] w fun e w' => ∃ v, e = .returned v ∧ R v w' :=
  Q0i follows (H := []) (args := [.int .u64 a0]) (cast (by kernel_rfl) h)

def Q0Z.N (a0 : Int) (R : RW) (w : World) : Prop :=
 ∀ (a1 : World) (q4 p5 : Nat), Ext no w a1 → Blk a1 q4 111 [.int .i64 0, .int .u64 a0, .int .i64 0, .int .i64 (-1), .int .i64 0] → w.heap.size ≤ q4 → q4 < a1.heap.size → Privq w q4 [p5] →
 ∀ (a2 : World), Ext (fun b => b = p5) a1 a2 →
 R (.agg #[.slice (some (blk q4)) 1 1, .int .i64 (-1)]) a2

theorem Q0Z.up (a0 : Int) {R : RW} {w : World} (h : Q0Z.N a0 R w) : Q0Z.M a0 R w := by
  unfold Q0Z.M
  unfold Q0Z.N at h
  refine Q01 fun a3 e2 => ?_
  have a1 := Blk.of_new e2
  have a7 := ((Ext.refl no w)).size
  have a5 := (Ext.refl no w).x_alloc e2
  refine Q01 fun a2 e3 => ?_
  have a6 := a1.lt
  have a1 := a1.x_alloc e3
  have h := h a2 a3.heap.size (w.heap.size) (a5.x_alloc e3) (Blk.of_new e3) (a5).size (Q0x e3) (Privq.cons a7 a6 Privq.nil)
  have a8 : Ext (fun b => b = w.heap.size) a2 a2 := ((Ext.refl no a2)).none
  refine Q0p (k := 0) (j := 0) a1 (Nat.le_of_ble_eq_true rfl) fun a4 X6 b6 => ?_
  have a9 := a8.x_puts X6 (.inl rfl)
  have a1 : Blk a4 w.heap.size 68 [.slice (some (blk a3.heap.size)) 1 1, .int .i64 (-1)] := b6
  refine ⟨(some (blk a3.heap.size)), 1, 1, (-1), ⟨a1.celli 0 rfl rfl, a1.celli 1 rfl rfl, trivial⟩, ?_⟩
  have h := h a4 a9
  exact h

theorem Q0Z.go (a0 : Int) {R : RW} {w : World} (h : Q0Z.N a0 R w) : Calls Try.prog 20 #[.int .u64 a0] w fun e w' => ∃ v, e = .returned v ∧ R v w' := Q0Z.ok a0 (Q0Z.up a0 h)
def Q0c.M (n1 : Int) (R : RW) (w : World) : Prop :=
 bif decide (n1 ≥ 0) then (
 R (.bool (decide (n1 < 8))) w) else (
 R (.bool false) w)

theorem Q0c.ok (n1 : Int) {R : RW} {w : World} (h : Q0c.M n1 R w) : Calls Try.prog 86 #[.int .i64 n1] w fun e w' => ∃ v, e = .returned v ∧ R v w' :=
  Q0i follows (H := []) (args := [.int .i64 n1]) (cast (by kernel_rfl) h)

def Q0c.N (n1 : Int) (R : RW) (w : World) : Prop :=
 (n1 ≥ 0 →
 R (.bool (decide (n1 < 8))) w) ∧
 (n1 < 0 →
 R (.bool false) w)

theorem Q0c.up (n1 : Int) {R : RW} {w : World} (h : Q0c.N n1 R w) : Q0c.M n1 R w := by
  unfold Q0c.M
  unfold Q0c.N at h
  refine bif_of (fun c2 => ?_) (fun c2 => ?_)
  ·have h := h.1 (of_decide_eq_true c2)
   exact h
  have h := h.2 (Int.not_le.1 (of_decide_eq_false c2))
  exact h

theorem Q0c.go (n1 : Int) {R : RW} {w : World} (h : Q0c.N n1 R w) : Calls Try.prog 86 #[.int .i64 n1] w fun e w' => ∃ v, e = .returned v ∧ R v w' := Q0c.ok n1 (Q0c.up n1 h)
theorem Q0c.run (n1 : Int) {V : Value} {Q : World → Prop} {w : World} (h : Q0c.N n1 (fun v w' => v = V ∧ Q w') w) : Calls Try.prog 86 #[.int .i64 n1] w (Ret V Q) := (Q0c.go n1 h).mono fun e w' ⟨v, he, hv, hq⟩ => ⟨by rw [he, hv], hq⟩

def Q0c.F (n1 : Int) : Bool :=
  if n1 ≥ 0 then
    (decide (n1 < 8))
  else
    false
theorem Q0c.pure (n1 : Int) {w : World} : Calls Try.prog 86 #[.int .i64 n1] w (Ret (.bool (Q0c.F n1)) fun w' => Ext no w w') := by
  refine Q0c.run n1 ?_
  unfold Q0c.N
  refine ⟨fun c0 => ?_, fun c0 => ?_⟩
  ·exact ⟨by unfold Q0c.F; rw [if_pos c0], Ext.refl _ _⟩
  ·exact ⟨by unfold Q0c.F; rw [if_neg (show ¬ (n1 ≥ 0) from by omega)], Ext.refl _ _⟩

abbrev Q0w.J1 (a3 : Addr) (R : RW) (al : World) : Prop :=
 ∃ (a4 : Int), al.cell? (a3.add 0) = some (.int .i64 a4) ∧
 bif a4 == 1 then (
 ∃ (b7 : Int), al.cell? (a3.add 1) = some (.int .i64 b7) ∧
 Calls Try.prog 86 #[.int .i64 b7] al fun bl am => ∃ (b8 : Bool), bl = .returned (.bool b8) ∧
 bif b8 then (
 ∃ (ai : Int), am.cell? (a3.add 2) = some (.int .u64 ai) ∧
 bif ai != 0 then (
 ∃ (an : Int), am.cell? (a3.add 3) = some (.int .i64 an) ∧
 bif an == 0 then (
 ∃ (ar : Option Addr) (ak ax : Nat), am.cell? (a3.add 4) = some (.slice ar ak ax) ∧
 R (.bool ((ak : Int) == 0)) am) else (
 R (.bool false) am)) else (
 R (.bool false) am)) else (
 R (.bool false) am)) else (
 bif a4 == 2 then (
 ∃ (ba : Int), al.cell? (a3.add 1) = some (.int .i64 ba) ∧
 Calls Try.prog 86 #[.int .i64 ba] al fun bi a1 => ∃ (bd : Bool), bi = .returned (.bool bd) ∧
 bif bd then (
 ∃ (b5 : Int), a1.cell? (a3.add 1) = some (.int .i64 b5) ∧
 bif b5 != 0 then (
 ∃ (af : Int), a1.cell? (a3.add 2) = some (.int .u64 af) ∧
 bif af == 0 then (
 ∃ (ap : Int), a1.cell? (a3.add 3) = some (.int .i64 ap) ∧
 bif decide (ap ≥ 0) then (
 ∃ (aq : Int), a1.cell? (a3.add 3) = some (.int .i64 aq) ∧
 bif decide (aq ≤ 200) then (
 ∃ (b2 : Option Addr) (ac av : Nat), a1.cell? (a3.add 4) = some (.slice b2 ac av) ∧
 R (.bool ((ac : Int) == 0)) a1) else (
 R (.bool false) a1)) else (
 R (.bool false) a1)) else (
 R (.bool false) a1)) else (
 R (.bool false) a1)) else (
 R (.bool false) a1)) else (
 bif a4 == 3 then (
 ∃ (I1 : Nat → List Value → World → Prop) (bs : Nat), I1 bs [.int .i64 0] al ∧ ∀ (bh : Nat) (a0 : World) (aa : Int), I1 bh [.int .i64 aa] a0 →
 ∃ (aw : Option Addr) (ad ay : Nat), a0.cell? (a3.add 4) = some (.slice aw ad ay) ∧
 bif decide (aa < (ad : Int)) then (
 thenW (a0.drew) fun bf =>
 ∃ (ah : Option Addr) (ae b4 : Nat), bf.cell? (a3.add 4) = some (.slice ah ae b4) ∧
 ah.elim False fun br =>
 0 ≤ (aa : Int) ∧ (aa : Int) < (ae : Int) ∧
 ∃ (b6 : Int), bf.cell? ((br.add (Int.toNat aa * 2)).add 0) = some (.int .i64 b6) ∧
 Calls Try.prog 86 #[.int .i64 b6] bf fun bm a2 => ∃ (be : Bool), bm = .returned (.bool be) ∧
 bif !be then (
 R (.bool false) a2) else (
 ∃ (a6 : Option Addr) (a9 b1 : Nat), a2.cell? (a3.add 4) = some (.slice a6 a9 b1) ∧
 a6.elim False fun bt =>
 0 ≤ (aa : Int) ∧ (aa : Int) < (a9 : Int) ∧
 ∃ (bk : Option Addr) (bg bj : Nat), a2.cell? ((bt.add (Int.toNat aa * 2)).add 1) = some (.slice bk bg bj) ∧
 bif (bg : Int) != 16 then (
 R (.bool false) a2) else (
 bif decide (aa > 0) then (
 ∃ (a5 : Option Addr) (a8 au : Nat), a2.cell? (a3.add 4) = some (.slice a5 a8 au) ∧
 a5.elim False fun bp =>
 0 ≤ ((IntKind.i64.wrap (aa - 1)) : Int) ∧ ((IntKind.i64.wrap (aa - 1)) : Int) < (a8 : Int) ∧
 ∃ (bc : Int), a2.cell? ((bp.add (Int.toNat (IntKind.i64.wrap (aa - 1)) * 2)).add 0) = some (.int .i64 bc) ∧
 ∃ (a7 : Option Addr) (ab b0 : Nat), a2.cell? (a3.add 4) = some (.slice a7 ab b0) ∧
 a7.elim False fun bq =>
 0 ≤ (aa : Int) ∧ (aa : Int) < (ab : Int) ∧
 ∃ (b9 : Int), a2.cell? ((bq.add (Int.toNat aa * 2)).add 0) = some (.int .i64 b9) ∧
 bif decide (bc ≥ b9) then (
 R (.bool false) a2) else (
 ∃ bn, bn < bh ∧ I1 bn [.int .i64 (IntKind.i64.wrap (aa + 1))] a2)) else (
 ∃ bo, bo < bh ∧ I1 bo [.int .i64 (IntKind.i64.wrap (aa + 1))] a2)))) else (
 ∃ (bb : Int), a0.cell? (a3.add 1) = some (.int .i64 bb) ∧
 bif bb == 0 then (
 ∃ (aj : Int), a0.cell? (a3.add 2) = some (.int .u64 aj) ∧
 bif aj == 0 then (
 ∃ (ao : Int), a0.cell? (a3.add 3) = some (.int .i64 ao) ∧
 bif ao == 0 then (
 ∃ (b3 : Option Addr) (ag az : Nat), a0.cell? (a3.add 4) = some (.slice b3 ag az) ∧
 R (.bool (decide ((ag : Int) > 0))) a0) else (
 R (.bool false) a0)) else (
 R (.bool false) a0)) else (
 R (.bool false) a0))) else (
 R (.bool false) al)))

def Q0w.M (ac ah a0 a5 : Int) (a1 : Option Addr) (a2 a3 : Nat) (a8 : Option Addr) (a9 ab : Nat) (R : RW) (w : World) : Prop :=
 thenW (w.alloc (.cells #[.int .i64 ac, .int .i64 ah, .int .u64 a0, .int .i64 a5, .slice a1 a2 a3, .slice a8 a9 ab] 77)) fun aa =>
 ∃ (af : Option Addr) (a6 ag : Nat), aa.cell? ((blk w.heap.size).add 5) = some (.slice af a6 ag) ∧
 bif (a6 : Int) != 0 then (
 ∃ (a7 : Int), aa.cell? ((blk w.heap.size).add 0) = some (.int .i64 a7) ∧
 bif a7 != 3 then (
 R (.bool false) aa) else (
 ∃ (ad : Option Addr) (a4 ae : Nat), aa.cell? ((blk w.heap.size).add 5) = some (.slice ad a4 ae) ∧
 bif (a4 : Int) != 24 then (
 R (.bool false) aa) else (
 Q0w.J1 (blk w.heap.size) R aa))) else (
 Q0w.J1 (blk w.heap.size) R aa)

theorem Q0w.ok (a7 a9 a0 a4 : Int) (a1 : Option Addr) (a2 a3 : Nat) (a5 : Option Addr) (a8 a6 : Nat) {R : RW} {w : World} (h : Q0w.M a7 a9 a0 a4 a1 a2 a3 a5 a8 a6 R w) : Calls Try.prog 54 #[.agg #[.int .i64 a7, .int .i64 a9, .int .u64 a0, .int .i64 a4, .slice a1 a2 a3, .slice a5 a8 a6]] w fun e w' => ∃ v, e = .returned v ∧ R v w' :=
  Q0i follows (H := [(1, [1], [(3, (.one (.int .i64)))])]) (args := [.agg #[.int .i64 a7, .int .i64 a9, .int .u64 a0, .int .i64 a4, .slice a1 a2 a3, .slice a5 a8 a6]]) (cast (by kernel_rfl) h)

def Q0w.N (a3 a4 a2 a1 : Int) (ah : Option Addr) (a0 aw : Nat) (b0 : Option Addr) (af b1 : Nat) (R : RW) (w : World) : Prop :=
 ((af : Int) ≠ 0 →
 (a3 ≠ 3 →
 ∀ (ag : World), Ext no w ag →
 R (.bool false) ag) ∧
 (a3 = 3 →
 ((af : Int) ≠ 24 →
 ∀ (ag : World), Ext no w ag →
 R (.bool false) ag) ∧
 ((af : Int) = 24 →
 (a3 = 1 →
 ((Q0c.F a4) = true →
 (a2 ≠ 0 →
 (a1 = 0 →
 ∀ (ae : World), Ext no w ae →
 R (.bool ((a0 : Int) == 0)) ae) ∧
 (a1 ≠ 0 →
 ∀ (ae : World), Ext no w ae →
 R (.bool false) ae)) ∧
 (a2 = 0 →
 ∀ (ae : World), Ext no w ae →
 R (.bool false) ae)) ∧
 ((Q0c.F a4) = false →
 ∀ (ae : World), Ext no w ae →
 R (.bool false) ae)) ∧
 (a3 ≠ 1 →
 (a3 = 2 →
 ((Q0c.F a4) = true →
 (a4 ≠ 0 →
 (a2 = 0 →
 (a1 ≥ 0 →
 (a1 ≤ 200 →
 ∀ (a6 : World), Ext no w a6 →
 R (.bool ((a0 : Int) == 0)) a6) ∧
 ((200 : Int) < a1 →
 ∀ (a6 : World), Ext no w a6 →
 R (.bool false) a6)) ∧
 (a1 < 0 →
 ∀ (a6 : World), Ext no w a6 →
 R (.bool false) a6)) ∧
 (a2 ≠ 0 →
 ∀ (a6 : World), Ext no w a6 →
 R (.bool false) a6)) ∧
 (a4 = 0 →
 ∀ (a6 : World), Ext no w a6 →
 R (.bool false) a6)) ∧
 ((Q0c.F a4) = false →
 ∀ (a6 : World), Ext no w a6 →
 R (.bool false) a6)) ∧
 (a3 ≠ 2 →
 (a3 = 3 →
 ∀ (ag : World), Ext no w ag →
 ∃ (I1 : Nat → List Value → World → Prop) (b7 : Nat), I1 b7 [.int .i64 0] ag ∧ ∀ (b2 : Nat) (a9 : World) (ab : Int), I1 b2 [.int .i64 ab] a9 →
 (ab < (a0 : Int) →
 ∃ av : Addr, ah = some av ∧
 0 ≤ (ab : Int) ∧ (ab : Int) < (a0 : Int) ∧
 ∃ (al : Int), a9.cell? ((av.add (Int.toNat ab * 2)).add 0) = some (.int .i64 al) ∧
 ((Q0c.F al) = false →
 ∀ (aa : World), Ext no a9 aa →
 R (.bool false) aa) ∧
 ((Q0c.F al) = true →
 0 ≤ (ab : Int) ∧ (ab : Int) < (a0 : Int) ∧
 ∃ (az : Option Addr) (ao ay : Nat), a9.cell? ((av.add (Int.toNat ab * 2)).add 1) = some (.slice az ao ay) ∧
 ((ao : Int) ≠ 16 →
 ∀ (aa : World), Ext no a9 aa →
 R (.bool false) aa) ∧
 ((ao : Int) = 16 →
 (ab > 0 →
 (-9223372036854775808 : Int) ≤ (ab - 1) ∧ (ab - 1) < 9223372036854775808 ∧
 0 ≤ ((ab - 1) : Int) ∧ ((ab - 1) : Int) < (a0 : Int) ∧
 ∃ (am : Int), a9.cell? ((av.add (Int.toNat (ab - 1) * 2)).add 0) = some (.int .i64 am) ∧
 0 ≤ (ab : Int) ∧ (ab : Int) < (a0 : Int) ∧
 ∃ (an : Int), a9.cell? ((av.add (Int.toNat ab * 2)).add 0) = some (.int .i64 an) ∧
 (am ≥ an →
 ∀ (aa : World), Ext no a9 aa →
 R (.bool false) aa) ∧
 (am < an →
 (-9223372036854775808 : Int) ≤ (ab + 1) ∧ (ab + 1) < 9223372036854775808 ∧
 ∀ (aa : World), Ext no a9 aa →
 ∃ b6, b6 < b2 ∧ I1 b6 [.int .i64 (ab + 1)] aa)) ∧
 (ab ≤ 0 →
 (-9223372036854775808 : Int) ≤ (ab + 1) ∧ (ab + 1) < 9223372036854775808 ∧
 ∀ (aa : World), Ext no a9 aa →
 ∃ b5, b5 < b2 ∧ I1 b5 [.int .i64 (ab + 1)] aa)))) ∧
 ((a0 : Int) ≤ ab →
 (a4 = 0 →
 (a2 = 0 →
 (a1 = 0 →
 R (.bool (decide ((a0 : Int) > 0))) a9) ∧
 (a1 ≠ 0 →
 R (.bool false) a9)) ∧
 (a2 ≠ 0 →
 R (.bool false) a9)) ∧
 (a4 ≠ 0 →
 R (.bool false) a9))) ∧
 (a3 ≠ 3 →
 ∀ (ag : World), Ext no w ag →
 R (.bool false) ag)))))) ∧
 ((af : Int) = 0 →
 (a3 = 1 →
 ((Q0c.F a4) = true →
 (a2 ≠ 0 →
 (a1 = 0 →
 ∀ (ad : World), Ext no w ad →
 R (.bool ((a0 : Int) == 0)) ad) ∧
 (a1 ≠ 0 →
 ∀ (ad : World), Ext no w ad →
 R (.bool false) ad)) ∧
 (a2 = 0 →
 ∀ (ad : World), Ext no w ad →
 R (.bool false) ad)) ∧
 ((Q0c.F a4) = false →
 ∀ (ad : World), Ext no w ad →
 R (.bool false) ad)) ∧
 (a3 ≠ 1 →
 (a3 = 2 →
 ((Q0c.F a4) = true →
 (a4 ≠ 0 →
 (a2 = 0 →
 (a1 ≥ 0 →
 (a1 ≤ 200 →
 ∀ (a5 : World), Ext no w a5 →
 R (.bool ((a0 : Int) == 0)) a5) ∧
 ((200 : Int) < a1 →
 ∀ (a5 : World), Ext no w a5 →
 R (.bool false) a5)) ∧
 (a1 < 0 →
 ∀ (a5 : World), Ext no w a5 →
 R (.bool false) a5)) ∧
 (a2 ≠ 0 →
 ∀ (a5 : World), Ext no w a5 →
 R (.bool false) a5)) ∧
 (a4 = 0 →
 ∀ (a5 : World), Ext no w a5 →
 R (.bool false) a5)) ∧
 ((Q0c.F a4) = false →
 ∀ (a5 : World), Ext no w a5 →
 R (.bool false) a5)) ∧
 (a3 ≠ 2 →
 (a3 = 3 →
 ∀ (ag : World), Ext no w ag →
 ∃ (I1 : Nat → List Value → World → Prop) (b8 : Nat), I1 b8 [.int .i64 0] ag ∧ ∀ (ax : Nat) (a8 : World) (ac : Int), I1 ax [.int .i64 ac] a8 →
 (ac < (a0 : Int) →
 ∃ au : Addr, ah = some au ∧
 0 ≤ (ac : Int) ∧ (ac : Int) < (a0 : Int) ∧
 ∃ (ak : Int), a8.cell? ((au.add (Int.toNat ac * 2)).add 0) = some (.int .i64 ak) ∧
 ((Q0c.F ak) = false →
 ∀ (a7 : World), Ext no a8 a7 →
 R (.bool false) a7) ∧
 ((Q0c.F ak) = true →
 0 ≤ (ac : Int) ∧ (ac : Int) < (a0 : Int) ∧
 ∃ (b4 : Option Addr) (ap b3 : Nat), a8.cell? ((au.add (Int.toNat ac * 2)).add 1) = some (.slice b4 ap b3) ∧
 ((ap : Int) ≠ 16 →
 ∀ (a7 : World), Ext no a8 a7 →
 R (.bool false) a7) ∧
 ((ap : Int) = 16 →
 (ac > 0 →
 (-9223372036854775808 : Int) ≤ (ac - 1) ∧ (ac - 1) < 9223372036854775808 ∧
 0 ≤ ((ac - 1) : Int) ∧ ((ac - 1) : Int) < (a0 : Int) ∧
 ∃ (aj : Int), a8.cell? ((au.add (Int.toNat (ac - 1) * 2)).add 0) = some (.int .i64 aj) ∧
 0 ≤ (ac : Int) ∧ (ac : Int) < (a0 : Int) ∧
 ∃ (ai : Int), a8.cell? ((au.add (Int.toNat ac * 2)).add 0) = some (.int .i64 ai) ∧
 (aj ≥ ai →
 ∀ (a7 : World), Ext no a8 a7 →
 R (.bool false) a7) ∧
 (aj < ai →
 (-9223372036854775808 : Int) ≤ (ac + 1) ∧ (ac + 1) < 9223372036854775808 ∧
 ∀ (a7 : World), Ext no a8 a7 →
 ∃ ar, ar < ax ∧ I1 ar [.int .i64 (ac + 1)] a7)) ∧
 (ac ≤ 0 →
 (-9223372036854775808 : Int) ≤ (ac + 1) ∧ (ac + 1) < 9223372036854775808 ∧
 ∀ (a7 : World), Ext no a8 a7 →
 ∃ aq, aq < ax ∧ I1 aq [.int .i64 (ac + 1)] a7)))) ∧
 ((a0 : Int) ≤ ac →
 (a4 = 0 →
 (a2 = 0 →
 (a1 = 0 →
 R (.bool (decide ((a0 : Int) > 0))) a8) ∧
 (a1 ≠ 0 →
 R (.bool false) a8)) ∧
 (a2 ≠ 0 →
 R (.bool false) a8)) ∧
 (a4 ≠ 0 →
 R (.bool false) a8))) ∧
 (a3 ≠ 3 →
 ∀ (ag : World), Ext no w ag →
 R (.bool false) ag))))

theorem Q0w.up (a8 a5 a3 a4 : Int) (a1 : Option Addr) (a0 a2 : Nat) (a9 : Option Addr) (a7 aa : Nat) {R : RW} {w : World} (h : Q0w.N a8 a5 a3 a4 a1 a0 a2 a9 a7 aa R w) : Q0w.M a8 a5 a3 a4 a1 a0 a2 a9 a7 aa R w := by
  unfold Q0w.M
  unfold Q0w.N at h
  refine Q01 fun ap e7 => ?_
  have a6 := Blk.of_new e7
  have bq := ((Ext.refl no w)).size
  have ai := (Ext.refl no w).x_alloc e7
  refine ⟨a9, a7, aa, a6.celli 5 rfl rfl, ?_⟩
  refine bif_of (fun c8 => ?_) (fun c8 => ?_)
  have h := h.1 (bne_t c8)
  refine ⟨a8, a6.celli 0 rfl rfl, ?_⟩
  refine bif_of (fun c9 => ?_) (fun c9 => ?_)
  ·have h := h.1 (bne_t c9)
   have h := h ap ai
   exact h
  have h := h.2 (bne_f c9)
  refine ⟨a9, a7, aa, a6.celli 5 rfl rfl, ?_⟩
  refine bif_of (fun bf => ?_) (fun bf => ?_)
  ·have h := h.1 (bne_t bf)
   have h := h ap ai
   exact h
  have h := h.2 (bne_f bf)
  rotate_left
  have h := h.2 (bne_f c8)
  rotate_left
  all_goals
   unfold Q0w.J1
   refine ⟨a8, a6.celli 0 rfl rfl, ?_⟩
   refine bif_of (fun b8 => ?_) (fun b8 => ?_)
   ·have h := h.1 (beq_t b8)
    refine ⟨a5, a6.celli 1 rfl rfl, ?_⟩
    refine (Q0c.pure a5).mono fun ee ww14 ⟨he, hxx⟩ => ⟨(Q0c.F a5), he, ?_⟩
    have ae := ai.trans hxx
    have a6 := a6.ext hxx id
    refine bif_fo (fun be => ?_) (fun be => ?_)
    ·have h := h.2 be
     have h := h ww14 ae
     exact h
    have h := h.1 be
    refine ⟨a3, a6.celli 2 rfl rfl, ?_⟩
    refine bif_fo (fun ba => ?_) (fun ba => ?_)
    ·have h := h.2 (bne_f ba)
     have h := h ww14 ae
     exact h
    have h := h.1 (bne_t ba)
    refine ⟨a4, a6.celli 3 rfl rfl, ?_⟩
    refine bif_fo (fun aw => ?_) (fun aw => ?_)
    ·have h := h.2 (beq_f aw)
     have h := h ww14 ae
     exact h
    have h := h.1 (beq_t aw)
    refine ⟨a1, a0, a2, a6.celli 4 rfl rfl, ?_⟩
    have h := h ww14 ae
    exact h
   have h := h.2 (beq_f b8)
   refine bif_of (fun bg => ?_) (fun bg => ?_)
   ·have h := h.1 (beq_t bg)
    refine ⟨a5, a6.celli 1 rfl rfl, ?_⟩
    refine (Q0c.pure a5).mono fun ee ww23 ⟨he, hxx⟩ => ⟨(Q0c.F a5), he, ?_⟩
    have ac := ai.trans hxx
    have a6 := a6.ext hxx id
    refine bif_fo (fun av => ?_) (fun av => ?_)
    ·have h := h.2 av
     have h := h ww23 ac
     exact h
    have h := h.1 av
    refine ⟨a5, a6.celli 1 rfl rfl, ?_⟩
    refine bif_fo (fun bi => ?_) (fun bi => ?_)
    ·have h := h.2 (bne_f bi)
     have h := h ww23 ac
     exact h
    have h := h.1 (bne_t bi)
    refine ⟨a3, a6.celli 2 rfl rfl, ?_⟩
    refine bif_fo (fun bd => ?_) (fun bd => ?_)
    ·have h := h.2 (beq_f bd)
     have h := h ww23 ac
     exact h
    have h := h.1 (beq_t bd)
    refine ⟨a4, a6.celli 3 rfl rfl, ?_⟩
    refine bif_fo (fun bc => ?_) (fun bc => ?_)
    ·have h := h.2 (Int.not_le.1 (of_decide_eq_false bc))
     have h := h ww23 ac
     exact h
    have h := h.1 (of_decide_eq_true bc)
    refine ⟨a4, a6.celli 3 rfl rfl, ?_⟩
    refine bif_fo (fun b2 => ?_) (fun b2 => ?_)
    ·have h := h.2 (Int.not_le.1 (of_decide_eq_false b2))
     have h := h ww23 ac
     exact h
    have h := h.1 (of_decide_eq_true b2)
    refine ⟨a1, a0, a2, a6.celli 4 rfl rfl, ?_⟩
    have h := h ww23 ac
    exact h
   have h := h.2 (beq_f bg)
   refine bif_fo (fun b4 => ?_) (fun b4 => ?_)
   ·have h := h.2 (beq_f b4)
    have h := h ap ai
    exact h
   have h := h.1 (beq_t b4)
   have h := h ap ai
   obtain ⟨I1, bm, h0, h⟩ := h
   refine ⟨fun k vs ww => Blk ww w.heap.size 77 [.int .i64 a8, .int .i64 a5, .int .u64 a3, .int .i64 a4, .slice a1 a0 a2, .slice a9 a7 aa] ∧ I1 k vs ww, bm, ⟨a6, h0⟩, fun bo am bk hI => ?_⟩
   obtain ⟨a6, hI⟩ := hI
   have h := h bo am bk hI
   refine ⟨a1, a0, a2, a6.celli 4 rfl rfl, ?_⟩
   refine bif_fo (fun ax => ?_) (fun ax => ?_)
   ·have h := h.2 (Int.not_lt.1 (of_decide_eq_false ax))
    refine ⟨a5, a6.celli 1 rfl rfl, ?_⟩
    refine bif_fo (fun b5 => ?_) (fun b5 => ?_)
    ·have h := h.2 (beq_f b5)
     exact h
    have h := h.1 (beq_t b5)
    refine ⟨a3, a6.celli 2 rfl rfl, ?_⟩
    refine bif_fo (fun b0 => ?_) (fun b0 => ?_)
    ·have h := h.2 (beq_f b0)
     exact h
    have h := h.1 (beq_t b0)
    refine ⟨a4, a6.celli 3 rfl rfl, ?_⟩
    refine bif_fo (fun au => ?_) (fun au => ?_)
    ·have h := h.2 (beq_f au)
     exact h
    have h := h.1 (beq_t au)
    refine ⟨a1, a0, a2, a6.celli 4 rfl rfl, ?_⟩
    exact h
   have h := h.1 (of_decide_eq_true ax)
   refine Q01 fun bl bj => ?_
   have aj := (Ext.refl no am).x_drew bj
   have a6 := a6.x_drew bj
   refine ⟨a1, a0, a2, a6.celli 4 rfl rfl, ?_⟩
   obtain ⟨br, af, h⟩ := h
   refine Q05 af ?_
   obtain ⟨ah, ag, h⟩ := h
   refine ⟨ah, ag, ?_⟩
   obtain ⟨ad, az, h⟩ := h
   refine ⟨ad, (aj).cell az id, ?_⟩
   refine (Q0c.pure ad).mono fun ee ww46 ⟨he, hxx⟩ => ⟨(Q0c.F ad), he, ?_⟩
   have ab := aj.trans hxx
   have a6 := a6.ext hxx id
   refine bif_of (fun b1 => ?_) (fun b1 => ?_)
   ·have h := h.1 (not_t b1)
    have h := h ww46 ab
    exact h
   have h := h.2 (not_f b1)
   refine ⟨a1, a0, a2, a6.celli 4 rfl rfl, ?_⟩
   refine Q05 af ?_
   obtain ⟨ah, ag, h⟩ := h
   refine ⟨ah, ag, ?_⟩
   obtain ⟨b7, ay, b6, bb, h⟩ := h
   refine ⟨b7, ay, b6, (ab).cell bb id, ?_⟩
   refine bif_of (fun ar => ?_) (fun ar => ?_)
   ·have h := h.1 (bne_t ar)
    have h := h ww46 ab
    exact h
   have h := h.2 (bne_f ar)
   refine bif_fo (fun bh => ?_) (fun bh => ?_)
   ·have h := h.2 (Int.not_lt.1 (of_decide_eq_false bh))
    obtain ⟨an, al, h⟩ := h
    try rw [w64 an al]
    have h := h ww46 ab
    obtain ⟨bn, hk, h⟩ := h
    exact ⟨bn, hk, a6, h⟩
   have h := h.1 (of_decide_eq_true bh)
   refine ⟨a1, a0, a2, a6.celli 4 rfl rfl, ?_⟩
   obtain ⟨an, al, h⟩ := h
   try rw [w64 an al]
   refine Q05 af ?_
   obtain ⟨ah, ag, h⟩ := h
   refine ⟨ah, ag, ?_⟩
   obtain ⟨ak, b9, h⟩ := h
   refine ⟨ak, (ab).cell b9 id, ?_⟩
   refine ⟨a1, a0, a2, a6.celli 4 rfl rfl, ?_⟩
   refine Q05 af ?_
   obtain ⟨ah, ag, h⟩ := h
   refine ⟨ah, ag, ?_⟩
   obtain ⟨ao, aq, h⟩ := h
   refine ⟨ao, (ab).cell aq id, ?_⟩
   refine bif_of (fun b3 => ?_) (fun b3 => ?_)
   ·have h := h.1 (of_decide_eq_true b3)
    have h := h ww46 ab
    exact h
   have h := h.2 (Int.not_le.1 (of_decide_eq_false b3))
   obtain ⟨an, al, h⟩ := h
   try rw [w64 an al]
   have h := h ww46 ab
   obtain ⟨bp, hk, h⟩ := h
   exact ⟨bp, hk, a6, h⟩

theorem Q0w.go (a7 a9 a0 a4 : Int) (a1 : Option Addr) (a2 a3 : Nat) (a5 : Option Addr) (a8 a6 : Nat) {R : RW} {w : World} (h : Q0w.N a7 a9 a0 a4 a1 a2 a3 a5 a8 a6 R w) : Calls Try.prog 54 #[.agg #[.int .i64 a7, .int .i64 a9, .int .u64 a0, .int .i64 a4, .slice a1 a2 a3, .slice a5 a8 a6]] w fun e w' => ∃ v, e = .returned v ∧ R v w' := Q0w.ok a7 a9 a0 a4 a1 a2 a3 a5 a8 a6 (Q0w.up a7 a9 a0 a4 a1 a2 a3 a5 a8 a6 h)
theorem Q0w.run (a7 a9 a0 a4 : Int) (a1 : Option Addr) (a2 a3 : Nat) (a5 : Option Addr) (a8 a6 : Nat) {V : Value} {Q : World → Prop} {w : World} (h : Q0w.N a7 a9 a0 a4 a1 a2 a3 a5 a8 a6 (fun v w' => v = V ∧ Q w') w) : Calls Try.prog 54 #[.agg #[.int .i64 a7, .int .i64 a9, .int .u64 a0, .int .i64 a4, .slice a1 a2 a3, .slice a5 a8 a6]] w (Ret V Q) := (Q0w.go a7 a9 a0 a4 a1 a2 a3 a5 a8 a6 h).mono fun e w' ⟨v, he, hv, hq⟩ => ⟨by rw [he, hv], hq⟩

def Q0Q.M (az : Option Addr) (ax ay : Nat) (ae av : Int) (R : RW) (w : World) : Prop :=
 thenW (w.alloc (.cells #[.slice az ax ay, .int .i64 ae] 68)) fun ai =>
 thenW (ai.alloc (.cells #[.int .i64 0, .int .u64 0, .int .i64 0, .int .i64 0, .int .i64 0] 111)) fun b3 =>
 ∃ (I0 : Nat → List Value → World → Prop) (m7 : Nat), I0 m7 [.int .i64 0] b3 ∧ ∀ (m8 : Nat) (af : World) (i6 : Int), I0 m8 [.int .i64 i6] af →
 ∃ (au : Option Addr) (al aq : Nat), af.cell? ((blk w.heap.size).add 0) = some (.slice au al aq) ∧
 bif decide (i6 < (al : Int)) then (
 ∃ (ao : Option Addr) (am aw : Nat), af.cell? ((blk w.heap.size).add 0) = some (.slice ao am aw) ∧
 ao.elim False fun b2 =>
 0 ≤ (i6 : Int) ∧ (i6 : Int) < (am : Int) ∧
 ∃ (ag : Int), af.cell? ((b2.add (Int.toNat i6 * 5)).add 0) = some (.int .i64 ag) ∧
 bif ag == av then (
 ∃ (ap : Option Addr) (ak ar : Nat), af.cell? ((blk w.heap.size).add 0) = some (.slice ap ak ar) ∧
 ap.elim False fun b1 =>
 0 ≤ (i6 : Int) ∧ (i6 : Int) < (ak : Int) ∧
 ∃ (ad a5 ac ah a9 : Int), cellsAt af (b1.add (Int.toNat i6 * 5)) [.int .i64 ad, .int .u64 a5, .int .i64 ac, .int .i64 ah, .int .i64 a9] 0 ∧
 putsK af (blk ai.heap.size) [.int .i64 ad, .int .u64 a5, .int .i64 ac, .int .i64 ah, .int .i64 a9] 0 fun aj =>
 ∃ (a8 a1 a6 aa a2 : Int), cellsAt aj (blk ai.heap.size) [.int .i64 a8, .int .u64 a1, .int .i64 a6, .int .i64 aa, .int .i64 a2] 0 ∧
 R (.tuple #[.agg #[.int .i64 a8, .int .u64 a1, .int .i64 a6, .int .i64 aa, .int .i64 a2], .bool true]) aj) else (
 ∃ b0, b0 < m8 ∧ I0 b0 [.int .i64 (IntKind.i64.wrap (i6 + 1))] af)) else (
 putsK af (blk ai.heap.size) [.int .i64 0, .int .u64 0, .int .i64 0, .int .i64 0, .int .i64 0] 0 fun an =>
 ∃ (a7 a0 a4 ab a3 : Int), cellsAt an (blk ai.heap.size) [.int .i64 a7, .int .u64 a0, .int .i64 a4, .int .i64 ab, .int .i64 a3] 0 ∧
 R (.tuple #[.agg #[.int .i64 a7, .int .u64 a0, .int .i64 a4, .int .i64 ab, .int .i64 a3], .bool false]) an)

theorem Q0Q.ok (a4 : Option Addr) (a1 a3 : Nat) (a0 a2 : Int) {R : RW} {w : World} (h : Q0Q.M a4 a1 a3 a0 a2 R w) : Calls Try.prog 55 #[.agg #[.slice a4 a1 a3, .int .i64 a0], .int .i64 a2] w fun e w' => ∃ v, e = .returned v ∧ R v w' :=
  Q0i follows (H := [(0, [1, 2, 4], [(6, (.one (.int .i64)))])]) (args := [.agg #[.slice a4 a1 a3, .int .i64 a0], .int .i64 a2]) (cast (by kernel_rfl) h)

def Q0Q.N (aj : Option Addr) (a9 am : Nat) (ag ac : Int) (R : RW) (w : World) : Prop :=
 ∀ (ai : World) (p7 : Nat), Ext no w ai → Priv w ai [p7] →
 ∃ (I0 : Nat → List Value → World → Prop) (an : Nat), I0 an [.int .i64 0, .int .i64 0, .int .u64 0, .int .i64 0, .int .i64 0, .int .i64 0] ai ∧ ∀ (al : Nat) (a5 : World) (i8 ab a1 a7 ae a4 : Int), I0 al [.int .i64 i8, .int .i64 ab, .int .u64 a1, .int .i64 a7, .int .i64 ae, .int .i64 a4] a5 →
 (i8 < (a9 : Int) →
 ∃ ah : Addr, aj = some ah ∧
 0 ≤ (i8 : Int) ∧ (i8 : Int) < (a9 : Int) ∧
 ∃ (a6 : Int), a5.cell? ((ah.add (Int.toNat i8 * 5)).add 0) = some (.int .i64 a6) ∧
 (a6 = ac →
 0 ≤ (i8 : Int) ∧ (i8 : Int) < (a9 : Int) ∧
 ∃ (a8 a0 a3 aa a2 : Int), cellsAt a5 (ah.add (Int.toNat i8 * 5)) [.int .i64 a8, .int .u64 a0, .int .i64 a3, .int .i64 aa, .int .i64 a2] 0 ∧
 ∀ (ad : World), Ext (fun b => b = p7) a5 ad →
 R (.tuple #[.agg #[.int .i64 a8, .int .u64 a0, .int .i64 a3, .int .i64 aa, .int .i64 a2], .bool true]) ad) ∧
 (a6 ≠ ac →
 (-9223372036854775808 : Int) ≤ (i8 + 1) ∧ (i8 + 1) < 9223372036854775808 ∧
 ∃ ak, ak < al ∧ I0 ak [.int .i64 (i8 + 1), .int .i64 ab, .int .u64 a1, .int .i64 a7, .int .i64 ae, .int .i64 a4] a5)) ∧
 ((a9 : Int) ≤ i8 →
 ∀ (af : World), Ext (fun b => b = p7) a5 af →
 R (.tuple #[.agg #[.int .i64 0, .int .u64 0, .int .i64 0, .int .i64 0, .int .i64 0], .bool false]) af)

theorem Q0Q.up (ac : Option Addr) (aa ab : Nat) (a5 ak : Int) {R : RW} {w : World} (h : Q0Q.N ac aa ab a5 ak R w) : Q0Q.M ac aa ab a5 ak R w := by
  unfold Q0Q.M
  unfold Q0Q.N at h
  refine Q01 fun ah e4 => ?_
  have ag := Blk.of_new e4
  have bd := ((Ext.refl no w)).size
  have az := (Ext.refl no w).x_alloc e4
  refine Q01 fun bc e5 => ?_
  have a7 := Blk.of_new e5
  have bb := (az).size
  have b0 := Nat.ne_of_lt ag.lt
  have ag := ag.x_alloc e5
  have b7 := az.x_alloc e5
  have h := h bc (ah.heap.size) b7 (Priv.cons bb a7.lt Priv.nil)
  obtain ⟨I0, ba, h0, h⟩ := h
  refine ⟨fun k vs ww => ∃ (ad a0 a4 af a1 : Int), Blk ww w.heap.size 68 [.slice ac aa ab, .int .i64 a5] ∧ Blk ww ah.heap.size 111 [.int .i64 ad, .int .u64 a0, .int .i64 a4, .int .i64 af, .int .i64 a1] ∧ I0 k (vs ++ [.int .i64 ad, .int .u64 a0, .int .i64 a4, .int .i64 af, .int .i64 a1]) ww, ba, ⟨0, 0, 0, 0, 0, ag, a7, h0⟩, fun b9 a8 i8 hI => ?_⟩
  obtain ⟨ad, a0, a4, af, a1, ag, a7, hI⟩ := hI
  have h := h b9 a8 i8 ad a0 a4 af a1 hI
  refine ⟨ac, aa, ab, ag.celli 0 rfl rfl, ?_⟩
  refine bif_fo (fun ao => ?_) (fun ao => ?_)
  ·have h := h.2 (Int.not_lt.1 (of_decide_eq_false ao))
   have aq : Ext (fun b => b = ah.heap.size) a8 a8 := ((Ext.refl no a8)).none
   refine Q0p (k := 0) (j := 0) a7 (Nat.le_of_ble_eq_true rfl) fun am b1 b8 => ?_
   have ax := aq.x_puts b1 (.inl rfl)
   have a7 : Blk am ah.heap.size 111 [.int .i64 0, .int .u64 0, .int .i64 0, .int .i64 0, .int .i64 0] := b8
   refine ⟨0, 0, 0, 0, 0, ⟨a7.celli 0 rfl rfl, a7.celli 1 rfl rfl, a7.celli 2 rfl rfl, a7.celli 3 rfl rfl, a7.celli 4 rfl rfl, trivial⟩, ?_⟩
   have h := h am ax
   exact h
  have h := h.1 (of_decide_eq_true ao)
  refine ⟨ac, aa, ab, ag.celli 0 rfl rfl, ?_⟩
  obtain ⟨be, aj, h⟩ := h
  refine Q05 aj ?_
  obtain ⟨ar, au, h⟩ := h
  refine ⟨ar, au, ?_⟩
  obtain ⟨ai, ay, h⟩ := h
  refine ⟨ai, ay, ?_⟩
  refine bif_fo (fun av => ?_) (fun av => ?_)
  ·have h := h.2 (beq_f av)
   obtain ⟨b6, b4, h⟩ := h
   try rw [w64 b6 b4]
   obtain ⟨b5, hk, h⟩ := h
   exact ⟨b5, hk, ad, a0, a4, af, a1, ag, a7, h⟩
  have h := h.1 (beq_t av)
  refine ⟨ac, aa, ab, ag.celli 0 rfl rfl, ?_⟩
  refine Q05 aj ?_
  obtain ⟨ar, au, h⟩ := h
  refine ⟨ar, au, ?_⟩
  obtain ⟨a9, a2, a6, ae, a3, aw, h⟩ := h
  refine ⟨a9, a2, a6, ae, a3, aw, ?_⟩
  have ap : Ext (fun b => b = ah.heap.size) a8 a8 := ((Ext.refl no a8)).none
  refine Q0p (k := 0) (j := 0) a7 (Nat.le_of_ble_eq_true rfl) fun al b3 b2 => ?_
  have an := ap.x_puts b3 (.inl rfl)
  have a7 : Blk al ah.heap.size 111 [.int .i64 a9, .int .u64 a2, .int .i64 a6, .int .i64 ae, .int .i64 a3] := b2
  refine ⟨a9, a2, a6, ae, a3, ⟨a7.celli 0 rfl rfl, a7.celli 1 rfl rfl, a7.celli 2 rfl rfl, a7.celli 3 rfl rfl, a7.celli 4 rfl rfl, trivial⟩, ?_⟩
  have h := h al an
  exact h

theorem Q0Q.go (a4 : Option Addr) (a1 a3 : Nat) (a0 a2 : Int) {R : RW} {w : World} (h : Q0Q.N a4 a1 a3 a0 a2 R w) : Calls Try.prog 55 #[.agg #[.slice a4 a1 a3, .int .i64 a0], .int .i64 a2] w fun e w' => ∃ v, e = .returned v ∧ R v w' := Q0Q.ok a4 a1 a3 a0 a2 (Q0Q.up a4 a1 a3 a0 a2 h)
theorem Q0Q.run (a4 : Option Addr) (a1 a3 : Nat) (a0 a2 : Int) {V : Value} {Q : World → Prop} {w : World} (h : Q0Q.N a4 a1 a3 a0 a2 (fun v w' => v = V ∧ Q w') w) : Calls Try.prog 55 #[.agg #[.slice a4 a1 a3, .int .i64 a0], .int .i64 a2] w (Ret V Q) := (Q0Q.go a4 a1 a3 a0 a2 h).mono fun e w' ⟨v, he, hv, hq⟩ => ⟨by rw [he, hv], hq⟩

abbrev Q0S.J1 (am : Option Addr) (al an : Nat) (a5 : Int) (I0 : Nat → List Value → World → Prop) (m7 : Nat) (w : World) (R : RW) (a2 : World) : Prop :=
 ∃ (ab : Option Addr) (a8 ag : Nat), a2.cell? ((blk w.heap.size).add 0) = some (.slice ab a8 ag) ∧
 ab.elim False fun ao =>
 0 ≤ (a5 : Int) ∧ (a5 : Int) < (a8 : Int) ∧
 ∃ (ad : Int), a2.cell? ((ao.add (Int.toNat a5 * 5)).add 3) = some (.int .i64 ad) ∧
 bif ad == (-1) then (
 ∃ (af : Option Addr) (ae ah : Nat), a2.cell? ((blk w.heap.size).add 0) = some (.slice af ae ah) ∧
 af.elim False fun ap =>
 0 ≤ (a5 : Int) ∧ (a5 : Int) < (ae : Int) ∧
 ∃ (a4 a0 a3 a6 a1 : Int), cellsAt a2 (ap.add (Int.toNat a5 * 5)) [.int .i64 a4, .int .u64 a0, .int .i64 a3, .int .i64 a6, .int .i64 a1] 0 ∧
 thenW (a2.alloc (.cells #[.int .i64 a4, .int .u64 a0, .int .i64 a3, .int .i64 a6, .int .i64 a1] 111)) fun ai =>
 ∃ (aa : Option Addr) (a7 a9 : Nat) (ac : World), (Builtin.append_ #[66, 66] 66 #[.slice am al an, .slice (some (blk a2.heap.size)) 1 1]).run Try.prog ai = .ok (.slice aa a7 a9) ac ∧
 ∃ aj, aj < m7 ∧ I0 aj [.slice aa a7 a9, .int .i64 (IntKind.i64.wrap (a5 + 1))] ac) else (
 ∃ ak, ak < m7 ∧ I0 ak [.slice am al an, .int .i64 (IntKind.i64.wrap (a5 + 1))] a2)

def Q0S.M (a7 : Option Addr) (a5 a6 : Nat) (a3 : Int) (R : RW) (w : World) : Prop :=
 thenW (w.alloc (.cells #[.slice a7 a5 a6, .int .i64 a3] 68)) fun ab =>
 ∃ (I0 : Nat → List Value → World → Prop) (m6 : Nat), I0 m6 [.slice none 0 0, .int .i64 0] ab ∧ ∀ (m7 : Nat) (a4 : World) (a2 : Option Addr) (a1 a0 : Nat) (i5 : Int), I0 m7 [.slice a2 a1 a0, .int .i64 i5] a4 →
 ∃ (aa : Option Addr) (a8 a9 : Nat), a4.cell? ((blk w.heap.size).add 0) = some (.slice aa a8 a9) ∧
 bif decide (i5 < (a8 : Int)) then (
 Q0S.J1 a2 a1 a0 i5 I0 m7 w R a4) else (
 R (.slice a2 a1 a0) a4)

theorem Q0S.ok (a3 : Option Addr) (a1 a2 : Nat) (a0 : Int) {R : RW} {w : World} (h : Q0S.M a3 a1 a2 a0 R w) : Calls Try.prog 45 #[.agg #[.slice a3 a1 a2, .int .i64 a0]] w fun e w' => ∃ v, e = .returned v ∧ R v w' :=
  Q0i follows (H := [(0, [1], [(3, (.one .slice)), (4, (.one (.int .i64)))])]) (args := [.agg #[.slice a3 a1 a2, .int .i64 a0]]) (cast (by kernel_rfl) h)

def Q0S.N (ak : Option Addr) (a8 an : Nat) (ag : Int) (R : RW) (w : World) : Prop :=
 ∀ (aj : World) (p4 : Nat), Ext no w aj → Priv w aj [p4] →
 ∃ (I0 : Nat → List Value → World → Prop) (m7 : Nat), I0 m7 [.slice none 0 0, .int .i64 0] aj ∧ ∀ (m8 : Nat) (ab : World) (a3 : Option Addr) (a2 a1 : Nat) (i6 : Int), I0 m8 [.slice a3 a2 a1, .int .i64 i6] ab →
 (i6 < (a8 : Int) →
 ∃ ai : Addr, ak = some ai ∧
 0 ≤ (i6 : Int) ∧ (i6 : Int) < (a8 : Int) ∧
 ∃ (aa : Int), ab.cell? ((ai.add (Int.toNat i6 * 5)).add 3) = some (.int .i64 aa) ∧
 (aa = (-1) →
 0 ≤ (i6 : Int) ∧ (i6 : Int) < (a8 : Int) ∧
 ∃ (a7 a0 a5 a9 a4 : Int), cellsAt ab (ai.add (Int.toNat i6 * 5)) [.int .i64 a7, .int .u64 a0, .int .i64 a5, .int .i64 a9, .int .i64 a4] 0 ∧
 ∀ (a6 : World) (ah : Nat), Ext no ab a6 → Blk a6 ah 111 [.int .i64 a7, .int .u64 a0, .int .i64 a5, .int .i64 a9, .int .i64 a4] → ab.heap.size ≤ ah → ah < a6.heap.size →
 ∃ (ae : Option Addr) (ad af : Nat) (ac : World), (Builtin.append_ #[66, 66] 66 #[.slice a3 a2 a1, .slice (some (blk ah)) 1 1]).run Try.prog a6 = .ok (.slice ae ad af) ac ∧
 Keep [p4] a6 ac ∧
 (-9223372036854775808 : Int) ≤ (i6 + 1) ∧ (i6 + 1) < 9223372036854775808 ∧
 ∃ al, al < m8 ∧ I0 al [.slice ae ad af, .int .i64 (i6 + 1)] ac) ∧
 (aa ≠ (-1) →
 (-9223372036854775808 : Int) ≤ (i6 + 1) ∧ (i6 + 1) < 9223372036854775808 ∧
 ∃ am, am < m8 ∧ I0 am [.slice a3 a2 a1, .int .i64 (i6 + 1)] ab)) ∧
 ((a8 : Int) ≤ i6 →
 R (.slice a3 a2 a1) ab)

theorem Q0S.up (a1 : Option Addr) (a3 a4 : Nat) (a0 : Int) {R : RW} {w : World} (h : Q0S.N a1 a3 a4 a0 R w) : Q0S.M a1 a3 a4 a0 R w := by
  unfold Q0S.M
  unfold Q0S.N at h
  refine Q01 fun b0 e3 => ?_
  have a5 := Blk.of_new e3
  have aw := ((Ext.refl no w)).size
  have ay := (Ext.refl no w).x_alloc e3
  have h := h b0 (w.heap.size) ay (Priv.cons aw a5.lt Priv.nil)
  obtain ⟨I0, m7, h0, h⟩ := h
  refine ⟨fun k vs ww => Blk ww w.heap.size 68 [.slice a1 a3 a4, .int .i64 a0] ∧ I0 k vs ww, m7, ⟨a5, h0⟩, fun m8 af aa a9 a8 i6 hI => ?_⟩
  obtain ⟨a5, hI⟩ := hI
  have h := h m8 af aa a9 a8 i6 hI
  refine ⟨a1, a3, a4, a5.celli 0 rfl rfl, ?_⟩
  refine bif_fo (fun ak => ?_) (fun ak => ?_)
  ·have h := h.2 (Int.not_lt.1 (of_decide_eq_false ak))
   exact h
  have h := h.1 (of_decide_eq_true ak)
  unfold Q0S.J1
  refine ⟨a1, a3, a4, a5.celli 0 rfl rfl, ?_⟩
  obtain ⟨b1, ac, h⟩ := h
  refine Q05 ac ?_
  obtain ⟨aq, al, h⟩ := h
  refine ⟨aq, al, ?_⟩
  obtain ⟨aj, ai, h⟩ := h
  refine ⟨aj, ai, ?_⟩
  refine bif_fo (fun ao => ?_) (fun ao => ?_)
  ·have h := h.2 (beq_f ao)
   obtain ⟨ap, an, h⟩ := h
   try rw [w64 ap an]
   obtain ⟨az, hk, h⟩ := h
   exact ⟨az, hk, a5, h⟩
  have h := h.1 (beq_t ao)
  refine ⟨a1, a3, a4, a5.celli 0 rfl rfl, ?_⟩
  refine Q05 ac ?_
  obtain ⟨aq, al, h⟩ := h
  refine ⟨aq, al, ?_⟩
  obtain ⟨ab, a2, a7, ad, a6, ah, h⟩ := h
  refine ⟨ab, a2, a7, ad, a6, ah, ?_⟩
  refine Q01 fun ar ae => ?_
  have a5 := a5.x_alloc ae
  have h := h ar af.heap.size ((Ext.refl no af).x_alloc ae) (Blk.of_new ae) ((Ext.refl no af)).size (Q0x ae)
  obtain ⟨am, ag, av, au, hr, hk, h⟩ := h
  refine ⟨am, ag, av, au, hr, ?_⟩
  have a5 := hk.blk a5 (by simp)
  obtain ⟨ap, an, h⟩ := h
  try rw [w64 ap an]
  obtain ⟨ax, hk, h⟩ := h
  exact ⟨ax, hk, a5, h⟩

theorem Q0S.go (a3 : Option Addr) (a1 a2 : Nat) (a0 : Int) {R : RW} {w : World} (h : Q0S.N a3 a1 a2 a0 R w) : Calls Try.prog 45 #[.agg #[.slice a3 a1 a2, .int .i64 a0]] w fun e w' => ∃ v, e = .returned v ∧ R v w' := Q0S.ok a3 a1 a2 a0 (Q0S.up a3 a1 a2 a0 h)
abbrev Q0g.J1 (a2 : Int) (I0 : Nat → List Value → World → Prop) (ax : Nat) (w ae ay : World) (R : RW) (au : World) : Prop :=
 thenW (au.drew) fun a3 =>
 ∃ (af : Option Addr) (ah an : Nat), a3.cell? ((blk w.heap.size).add 0) = some (.slice af ah an) ∧
 af.elim False fun aw =>
 0 ≤ (a2 : Int) ∧ (a2 : Int) < (ah : Int) ∧
 ∃ (ac : Int), a3.cell? ((aw.add (Int.toNat a2 * 5)).add 0) = some (.int .i64 ac) ∧
 ∃ (a7 : Int), a3.cell? ((blk ay.heap.size).add 0) = some (.int .i64 a7) ∧
 bif ac != a7 then (
 thenW (a3.drew) fun a5 =>
 ∃ (ad : Option Addr) (a8 aa : Nat), a5.cell? ((blk ae.heap.size).add 0) = some (.slice ad a8 aa) ∧
 ∃ (ak : Option Addr) (al ao : Nat), a5.cell? ((blk w.heap.size).add 0) = some (.slice ak al ao) ∧
 ak.elim False fun av =>
 0 ≤ (a2 : Int) ∧ (a2 : Int) < (al : Int) ∧
 ∃ (a6 a0 a4 a9 a1 : Int), cellsAt a5 (av.add (Int.toNat a2 * 5)) [.int .i64 a6, .int .u64 a0, .int .i64 a4, .int .i64 a9, .int .i64 a1] 0 ∧
 thenW (a5.alloc (.cells #[.int .i64 a6, .int .u64 a0, .int .i64 a4, .int .i64 a9, .int .i64 a1] 111)) fun ai =>
 ai.cell? ((blk ae.heap.size).add 0) = some (.slice ad a8 aa) ∧
 ∃ (am : Option Addr) (aj ag : Nat) (ab : World), (Builtin.append_ #[66, 66] 66 #[.slice ad a8 aa, .slice (some (blk a5.heap.size)) 1 1]).run Try.prog ai = .ok (.slice am aj ag) ab ∧
 Q0d ab (((blk ae.heap.size).add 0).add 0) ∧
 thenW (ab.setCell (((blk ae.heap.size).add 0).add 0) (.slice am aj ag)) fun ar =>
 ∃ aq, aq < ax ∧ I0 aq [.bool true, .int .i64 (IntKind.i64.wrap (a2 + 1))] ar) else (
 ∃ ap, ap < ax ∧ I0 ap [.bool true, .int .i64 (IntKind.i64.wrap (a2 + 1))] a3)

abbrev Q0g.J2 (au : Bool) (a5 : Int) (I0 : Nat → List Value → World → Prop) (ay : Nat) (w ae az : World) (R : RW) (aq : World) : Prop :=
 thenW (aq.drew) fun a2 =>
 ∃ (ah : Option Addr) (ag av : Nat), a2.cell? ((blk w.heap.size).add 0) = some (.slice ah ag av) ∧
 ah.elim False fun aw =>
 0 ≤ (a5 : Int) ∧ (a5 : Int) < (ag : Int) ∧
 ∃ (ab : Int), a2.cell? ((aw.add (Int.toNat a5 * 5)).add 0) = some (.int .i64 ab) ∧
 ∃ (ac : Int), a2.cell? ((blk az.heap.size).add 0) = some (.int .i64 ac) ∧
 bif ab != ac then (
 thenW (a2.drew) fun a3 =>
 ∃ (aa : Option Addr) (ad a8 : Nat), a3.cell? ((blk ae.heap.size).add 0) = some (.slice aa ad a8) ∧
 ∃ (al : Option Addr) (af ao : Nat), a3.cell? ((blk w.heap.size).add 0) = some (.slice al af ao) ∧
 al.elim False fun ax =>
 0 ≤ (a5 : Int) ∧ (a5 : Int) < (af : Int) ∧
 ∃ (a6 a0 a4 a7 a1 : Int), cellsAt a3 (ax.add (Int.toNat a5 * 5)) [.int .i64 a6, .int .u64 a0, .int .i64 a4, .int .i64 a7, .int .i64 a1] 0 ∧
 thenW (a3.alloc (.cells #[.int .i64 a6, .int .u64 a0, .int .i64 a4, .int .i64 a7, .int .i64 a1] 111)) fun am =>
 am.cell? ((blk ae.heap.size).add 0) = some (.slice aa ad a8) ∧
 ∃ (ai : Option Addr) (aj ak : Nat) (a9 : World), (Builtin.append_ #[66, 66] 66 #[.slice aa ad a8, .slice (some (blk a3.heap.size)) 1 1]).run Try.prog am = .ok (.slice ai aj ak) a9 ∧
 Q0d a9 (((blk ae.heap.size).add 0).add 0) ∧
 thenW (a9.setCell (((blk ae.heap.size).add 0).add 0) (.slice ai aj ak)) fun an =>
 ∃ ap, ap < ay ∧ I0 ap [.bool au, .int .i64 (IntKind.i64.wrap (a5 + 1))] an) else (
 ∃ ar, ar < ay ∧ I0 ar [.bool au, .int .i64 (IntKind.i64.wrap (a5 + 1))] a2)

abbrev Q0g.J3 (ak aj : Bool) (ah : Int) (I0 : Nat → List Value → World → Prop) (ai : Nat) (w a3 af : World) (R : RW) (a5 : World) : Prop :=
 bif ak then (
 ∃ (ab : Option Addr) (ac a8 : Nat), a5.cell? ((blk a3.heap.size).add 0) = some (.slice ab ac a8) ∧
 ∃ (a4 a0 a2 a6 a1 : Int), cellsAt a5 (blk af.heap.size) [.int .i64 a4, .int .u64 a0, .int .i64 a2, .int .i64 a6, .int .i64 a1] 0 ∧
 thenW (a5.alloc (.cells #[.int .i64 a4, .int .u64 a0, .int .i64 a2, .int .i64 a6, .int .i64 a1] 111)) fun ae =>
 ∃ (ad : Option Addr) (aa a9 : Nat) (a7 : World), (Builtin.append_ #[66, 66] 66 #[.slice ab ac a8, .slice (some (blk a5.heap.size)) 1 1]).run Try.prog ae = .ok (.slice ad aa a9) a7 ∧
 Q0d a7 (((blk a3.heap.size).add 0).add 0) ∧
 thenW (a7.setCell (((blk a3.heap.size).add 0).add 0) (.slice ad aa a9)) fun ag =>
 Q0g.J1 ah I0 ai w a3 af R ag) else (
 Q0g.J2 aj ah I0 ai w a3 af R a5)

abbrev Q0g.J4 (a3 : Bool) (a1 : Int) (I0 : Nat → List Value → World → Prop) (a5 : Nat) (w a2 a4 : World) (R : RW) (a0 : World) : Prop :=
 Q0g.J2 a3 a1 I0 a5 w a2 a4 R a0

abbrev Q0g.J5 (a9 : Bool) (a4 : Int) (I0 : Nat → List Value → World → Prop) (ab : Nat) (w a6 a7 : World) (R : RW) (aa : World) : Prop :=
 thenW (aa.drew) fun a0 =>
 bif !a9 then (
 ∃ (a3 : Option Addr) (a5 a8 : Nat), a0.cell? ((blk w.heap.size).add 0) = some (.slice a3 a5 a8) ∧
 a3.elim False fun ac =>
 0 ≤ (a4 : Int) ∧ (a4 : Int) < (a5 : Int) ∧
 ∃ (a2 : Int), a0.cell? ((ac.add (Int.toNat a4 * 5)).add 0) = some (.int .i64 a2) ∧
 ∃ (a1 : Int), a0.cell? ((blk a7.heap.size).add 0) = some (.int .i64 a1) ∧
 Q0g.J3 (decide (a2 ≥ a1)) a9 a4 I0 ab w a6 a7 R a0) else (
 Q0g.J4 a9 a4 I0 ab w a6 a7 R a0)

def Q0g.M (bi : Option Addr) (bg bh : Nat) (ar b6 ak b4 ba au : Int) (R : RW) (w : World) : Prop :=
 thenW (w.alloc (.cells #[.slice bi bg bh, .int .i64 ar] 68)) fun bd =>
 thenW (bd.alloc (.cells #[.int .i64 b6, .int .u64 ak, .int .i64 b4, .int .i64 ba, .int .i64 au] 111)) fun b8 =>
 thenW (b8.alloc (.cells #[.slice none 0 0, .int .i64 0] 68)) fun a6 =>
 ∃ (ag : Int), a6.cell? ((blk w.heap.size).add 1) = some (.int .i64 ag) ∧
 thenW (a6.alloc (.cells #[.slice none 0 0, .int .i64 0] 68)) fun be =>
 putsK be (blk a6.heap.size) [.slice none 0 0, .int .i64 ag] 0 fun b9 =>
 ∃ (I0 : Nat → List Value → World → Prop) (bk : Nat), I0 bk [.bool false, .int .i64 0] b9 ∧ ∀ (bj : Nat) (a7 : World) (aj : Bool) (bf : Int), I0 bj [.bool aj, .int .i64 bf] a7 →
 ∃ (bc : Option Addr) (b7 bb : Nat), a7.cell? ((blk w.heap.size).add 0) = some (.slice bc b7 bb) ∧
 bif decide (bf < (b7 : Int)) then (
 Q0g.J5 aj bf I0 bj w a6 bd R a7) else (
 bif !aj then (
 ∃ (aw : Option Addr) (ay ax : Nat), a7.cell? ((blk a6.heap.size).add 0) = some (.slice aw ay ax) ∧
 ∃ (af a2 ad aq a5 : Int), cellsAt a7 (blk bd.heap.size) [.int .i64 af, .int .u64 a2, .int .i64 ad, .int .i64 aq, .int .i64 a5] 0 ∧
 thenW (a7.alloc (.cells #[.int .i64 af, .int .u64 a2, .int .i64 ad, .int .i64 aq, .int .i64 a5] 111)) fun b5 =>
 ∃ (az : Option Addr) (b3 b2 : Nat) (al : World), (Builtin.append_ #[66, 66] 66 #[.slice aw ay ax, .slice (some (blk a7.heap.size)) 1 1]).run Try.prog b5 = .ok (.slice az b3 b2) al ∧
 Q0d al (((blk a6.heap.size).add 0).add 0) ∧
 thenW (al.setCell (((blk a6.heap.size).add 0).add 0) (.slice az b3 b2)) fun b0 =>
 ∃ (am : Option Addr) (ah ao : Nat) (a4 : Int), cellsAt b0 (blk a6.heap.size) [.slice am ah ao, .int .i64 a4] 0 ∧
 putsK b0 (blk b8.heap.size) [.slice am ah ao, .int .i64 a4] 0 fun av =>
 ∃ (a8 : Option Addr) (ae ab : Nat) (a1 : Int), cellsAt av (blk b8.heap.size) [.slice a8 ae ab, .int .i64 a1] 0 ∧
 R (.agg #[.slice a8 ae ab, .int .i64 a1]) av) else (
 ∃ (ap : Option Addr) (an ai : Nat) (a3 : Int), cellsAt a7 (blk a6.heap.size) [.slice ap an ai, .int .i64 a3] 0 ∧
 putsK a7 (blk b8.heap.size) [.slice ap an ai, .int .i64 a3] 0 fun b1 =>
 ∃ (aa : Option Addr) (a9 ac : Nat) (a0 : Int), cellsAt b1 (blk b8.heap.size) [.slice aa a9 ac, .int .i64 a0] 0 ∧
 R (.agg #[.slice aa a9 ac, .int .i64 a0]) b1))

theorem Q0g.ok (a8 : Option Addr) (a5 a7 : Nat) (a2 a4 a0 a3 a6 a1 : Int) {R : RW} {w : World} (h : Q0g.M a8 a5 a7 a2 a4 a0 a3 a6 a1 R w) : Calls Try.prog 56 #[.agg #[.slice a8 a5 a7, .int .i64 a2], .agg #[.int .i64 a4, .int .u64 a0, .int .i64 a3, .int .i64 a6, .int .i64 a1]] w fun e w' => ∃ v, e = .returned v ∧ R v w' :=
  Q0i follows (H := [(0, [2, 3, 4, 5], [(6, (.one .bool)), (7, (.one (.int .i64)))])]) (args := [.agg #[.slice a8 a5 a7, .int .i64 a2], .agg #[.int .i64 a4, .int .u64 a0, .int .i64 a3, .int .i64 a6, .int .i64 a1]]) (cast (by kernel_rfl) h)

def Q0g.N (bq : Option Addr) (a9 cm : Nat) (b5 a4 ac b0 c3 am : Int) (R : RW) (w : World) : Prop :=
 ∀ (bj : World) (c5 c7 b6 ap : Nat), Ext no w bj → Priv w bj [c5, c7, b6, ap] →
 ∃ (I0 : Nat → List Value → World → Prop) (cl : Nat), I0 cl [.bool false, .int .i64 0, .slice none 0 0, .int .i64 0, .slice none 0 0, .int .i64 b5] bj ∧ ∀ (be : Nat) (a3 : World) (a5 : Bool) (a1 : Int) (aj : Option Addr) (ah ai : Nat) (a2 : Int) (ab : Option Addr) (ae af : Nat) (a0 : Int), I0 be [.bool a5, .int .i64 a1, .slice aj ah ai, .int .i64 a2, .slice ab ae af, .int .i64 a0] a3 →
 (a1 < (a9 : Int) →
 (a5 = false →
 ∃ bl : Addr, bq = some bl ∧
 0 ≤ (a1 : Int) ∧ (a1 : Int) < (a9 : Int) ∧
 ∃ (b1 : Int), a3.cell? ((bl.add (Int.toNat a1 * 5)).add 0) = some (.int .i64 b1) ∧
 (b1 ≥ a4 →
 ∀ (ar : World) (cc : Nat), Ext no a3 ar → Blk ar cc 111 [.int .i64 a4, .int .u64 ac, .int .i64 b0, .int .i64 c3, .int .i64 am] → a3.heap.size ≤ cc → cc < ar.heap.size →
 ∃ (bc : Option Addr) (bg bf : Nat) (bd : World), (Builtin.append_ #[66, 66] 66 #[.slice ab ae af, .slice (some (blk cc)) 1 1]).run Try.prog ar = .ok (.slice bc bg bf) bd ∧
 Keep [c5, c7, b6, ap] ar bd ∧
 0 ≤ (a1 : Int) ∧ (a1 : Int) < (a9 : Int) ∧
 ∀ (ao : World), Ext (fun b => b = ap) bd ao →
 ∃ (ax : Int), ao.cell? ((bl.add (Int.toNat a1 * 5)).add 0) = some (.int .i64 ax) ∧
 (ax ≠ a4 →
 0 ≤ (a1 : Int) ∧ (a1 : Int) < (a9 : Int) ∧
 ∃ (ay a8 an b7 ag : Int), cellsAt ao (bl.add (Int.toNat a1 * 5)) [.int .i64 ay, .int .u64 a8, .int .i64 an, .int .i64 b7, .int .i64 ag] 0 ∧
 ∀ (au : World) (c9 : Nat), Ext no ao au → Blk au c9 111 [.int .i64 ay, .int .u64 a8, .int .i64 an, .int .i64 b7, .int .i64 ag] → ao.heap.size ≤ c9 → c9 < au.heap.size →
 ∃ (c0 : Option Addr) (c2 c4 : Nat) (bb : World), (Builtin.append_ #[66, 66] 66 #[.slice bc bg bf, .slice (some (blk c9)) 1 1]).run Try.prog au = .ok (.slice c0 c2 c4) bb ∧
 Keep [c5, c7, b6, ap] au bb ∧
 (-9223372036854775808 : Int) ≤ (a1 + 1) ∧ (a1 + 1) < 9223372036854775808 ∧
 ∀ (bo : World), Ext (fun b => b = ap) bb bo →
 ∃ ch, ch < be ∧ I0 ch [.bool true, .int .i64 (a1 + 1), .slice aj ah ai, .int .i64 a2, .slice c0 c2 c4, .int .i64 a0] bo) ∧
 (ax = a4 →
 (-9223372036854775808 : Int) ≤ (a1 + 1) ∧ (a1 + 1) < 9223372036854775808 ∧
 ∃ cg, cg < be ∧ I0 cg [.bool true, .int .i64 (a1 + 1), .slice aj ah ai, .int .i64 a2, .slice bc bg bf, .int .i64 a0] ao)) ∧
 (b1 < a4 →
 0 ≤ (a1 : Int) ∧ (a1 : Int) < (a9 : Int) ∧
 ∃ (b3 : Int), a3.cell? ((bl.add (Int.toNat a1 * 5)).add 0) = some (.int .i64 b3) ∧
 (b3 ≠ a4 →
 0 ≤ (a1 : Int) ∧ (a1 : Int) < (a9 : Int) ∧
 ∃ (av a6 al b8 aa : Int), cellsAt a3 (bl.add (Int.toNat a1 * 5)) [.int .i64 av, .int .u64 a6, .int .i64 al, .int .i64 b8, .int .i64 aa] 0 ∧
 ∀ (b2 : World) (cd : Nat), Ext no a3 b2 → Blk b2 cd 111 [.int .i64 av, .int .u64 a6, .int .i64 al, .int .i64 b8, .int .i64 aa] → a3.heap.size ≤ cd → cd < b2.heap.size →
 ∃ (br : Option Addr) (bx bv : Nat) (bh : World), (Builtin.append_ #[66, 66] 66 #[.slice ab ae af, .slice (some (blk cd)) 1 1]).run Try.prog b2 = .ok (.slice br bx bv) bh ∧
 Keep [c5, c7, b6, ap] b2 bh ∧
 (-9223372036854775808 : Int) ≤ (a1 + 1) ∧ (a1 + 1) < 9223372036854775808 ∧
 ∀ (bp : World), Ext (fun b => b = ap) bh bp →
 ∃ cf, cf < be ∧ I0 cf [.bool a5, .int .i64 (a1 + 1), .slice aj ah ai, .int .i64 a2, .slice br bx bv, .int .i64 a0] bp) ∧
 (b3 = a4 →
 (-9223372036854775808 : Int) ≤ (a1 + 1) ∧ (a1 + 1) < 9223372036854775808 ∧
 ∀ (bu : World), Ext no a3 bu →
 ∃ cj, cj < be ∧ I0 cj [.bool a5, .int .i64 (a1 + 1), .slice aj ah ai, .int .i64 a2, .slice ab ae af, .int .i64 a0] bu))) ∧
 (a5 = true →
 ∃ ce : Addr, bq = some ce ∧
 0 ≤ (a1 : Int) ∧ (a1 : Int) < (a9 : Int) ∧
 ∃ (az : Int), a3.cell? ((ce.add (Int.toNat a1 * 5)).add 0) = some (.int .i64 az) ∧
 (az ≠ a4 →
 0 ≤ (a1 : Int) ∧ (a1 : Int) < (a9 : Int) ∧
 ∃ (aq a7 ak ba ad : Int), cellsAt a3 (ce.add (Int.toNat a1 * 5)) [.int .i64 aq, .int .u64 a7, .int .i64 ak, .int .i64 ba, .int .i64 ad] 0 ∧
 ∀ (b4 : World) (cb : Nat), Ext no a3 b4 → Blk b4 cb 111 [.int .i64 aq, .int .u64 a7, .int .i64 ak, .int .i64 ba, .int .i64 ad] → a3.heap.size ≤ cb → cb < b4.heap.size →
 ∃ (c6 : Option Addr) (bm c8 : Nat) (bk : World), (Builtin.append_ #[66, 66] 66 #[.slice ab ae af, .slice (some (blk cb)) 1 1]).run Try.prog b4 = .ok (.slice c6 bm c8) bk ∧
 Keep [c5, c7, b6, ap] b4 bk ∧
 (-9223372036854775808 : Int) ≤ (a1 + 1) ∧ (a1 + 1) < 9223372036854775808 ∧
 ∀ (bs : World), Ext (fun b => b = ap) bk bs →
 ∃ ck, ck < be ∧ I0 ck [.bool a5, .int .i64 (a1 + 1), .slice aj ah ai, .int .i64 a2, .slice c6 bm c8, .int .i64 a0] bs) ∧
 (az = a4 →
 (-9223372036854775808 : Int) ≤ (a1 + 1) ∧ (a1 + 1) < 9223372036854775808 ∧
 ∀ (bw : World), Ext no a3 bw →
 ∃ ci, ci < be ∧ I0 ci [.bool a5, .int .i64 (a1 + 1), .slice aj ah ai, .int .i64 a2, .slice ab ae af, .int .i64 a0] bw))) ∧
 ((a9 : Int) ≤ a1 →
 (a5 = false →
 ∀ (aw : World) (ca : Nat), Ext no a3 aw → Blk aw ca 111 [.int .i64 a4, .int .u64 ac, .int .i64 b0, .int .i64 c3, .int .i64 am] → a3.heap.size ≤ ca → ca < aw.heap.size →
 ∃ (bn : Option Addr) (c1 bz : Nat) (bi : World), (Builtin.append_ #[66, 66] 66 #[.slice ab ae af, .slice (some (blk ca)) 1 1]).run Try.prog aw = .ok (.slice bn c1 bz) bi ∧
 Keep [b6, ap] aw bi ∧
 ∀ (bt : World), Ext (fun b => b = b6 ∨ b = ap) bi bt →
 R (.agg #[.slice bn c1 bz, .int .i64 a0]) bt) ∧
 (a5 = true →
 ∀ (b9 : World), Ext (fun b => b = b6) a3 b9 →
 R (.agg #[.slice ab ae af, .int .i64 a0]) b9))

theorem Q0g.up (af : Option Addr) (ae ah : Nat) (a8 a9 a7 ag b1 aa : Int) {R : RW} {w : World} (h : Q0g.N af ae ah a8 a9 a7 ag b1 aa R w) : Q0g.M af ae ah a8 a9 a7 ag b1 aa R w := by
  unfold Q0g.M
  unfold Q0g.N at h
  refine Q01 fun ee e8 => ?_
  have a3 := Blk.of_new e8
  have eo := ((Ext.refl no w)).size
  have ek := (Ext.refl no w).x_alloc e8
  refine Q01 fun bv e9 => ?_
  have a2 := Blk.of_new e9
  have er := (ek).size
  have ef := Nat.ne_of_lt a3.lt
  have a3 := a3.x_alloc e9
  have ei := ek.x_alloc e9
  refine Q01 fun a5 cz => ?_
  have a4 := Blk.of_new cz
  have ex := (ei).size
  have eh := Nat.ne_of_lt a3.lt
  have a3 := a3.x_alloc cz
  have ej := Nat.ne_of_lt a2.lt
  have a2 := a2.x_alloc cz
  have c6 := ei.x_alloc cz
  refine ⟨a8, a3.celli 1 rfl rfl, ?_⟩
  refine Q01 fun eu cb => ?_
  have a1 := Blk.of_new cb
  have eg := (c6).size
  have am := Nat.ne_of_lt a3.lt
  have a3 := a3.x_alloc cb
  have an := Nat.ne_of_lt a2.lt
  have a2 := a2.x_alloc cb
  have al := Nat.ne_of_lt a4.lt
  have a4 := a4.x_alloc cb
  have dm := c6.x_alloc cb
  refine Q0p (k := 0) (j := 0) a1 (Nat.le_of_ble_eq_true rfl) fun ce cy ey => ?_
  have eb := dm.x_puts cy (.inr eg)
  have a3 := a3.x_puts cy am
  have a2 := a2.x_puts cy an
  have a4 := a4.x_puts cy al
  have a1 : Blk ce a5.heap.size 68 [.slice none 0 0, .int .i64 a8] := ey
  have h := h ce (w.heap.size) (ee.heap.size) (bv.heap.size) (a5.heap.size) eb (Priv.cons eo a3.lt (Priv.cons er a2.lt (Priv.cons ex a4.lt (Priv.cons eg a1.lt Priv.nil))))
  obtain ⟨I0, ew, h0, h⟩ := h
  refine ⟨fun k vs ww => ∃ (ak : Option Addr) (ai aj : Nat) (a6 : Int) (ab : Option Addr) (ac ad : Nat) (a0 : Int), Blk ww w.heap.size 68 [.slice af ae ah, .int .i64 a8] ∧ Blk ww ee.heap.size 111 [.int .i64 a9, .int .u64 a7, .int .i64 ag, .int .i64 b1, .int .i64 aa] ∧ Blk ww bv.heap.size 68 [.slice ak ai aj, .int .i64 a6] ∧ Blk ww a5.heap.size 68 [.slice ab ac ad, .int .i64 a0] ∧ I0 k (vs ++ [.slice ak ai aj, .int .i64 a6, .slice ab ac ad, .int .i64 a0]) ww, ew, ⟨none, 0, 0, 0, none, 0, 0, a8, a3, a2, a4, a1, h0⟩, fun en ao ch f0 hI => ?_⟩
  obtain ⟨ak, ai, aj, a6, ab, ac, ad, a0, a3, a2, a4, a1, hI⟩ := hI
  have h := h en ao ch f0 ak ai aj a6 ab ac ad a0 hI
  refine ⟨af, ae, ah, a3.celli 0 rfl rfl, ?_⟩
  refine bif_fo (fun dx => ?_) (fun dx => ?_)
  ·have h := h.2 (Int.not_lt.1 (of_decide_eq_false dx))
   refine bif_fo (fun e0 => ?_) (fun e0 => ?_)
   ·have h := h.2 (not_f e0)
    refine ⟨ab, ac, ad, a0, ⟨a1.celli 0 rfl rfl, a1.celli 1 rfl rfl, trivial⟩, ?_⟩
    have cl : Ext (fun b => b = bv.heap.size) ao ao := ((Ext.refl no ao)).none
    refine Q0p (k := 0) (j := 0) a4 (Nat.le_of_ble_eq_true rfl) fun bf dt dg => ?_
    have cf := cl.x_puts dt (.inl rfl)
    have a4 : Blk bf bv.heap.size 68 [.slice ab ac ad, .int .i64 a0] := dg
    refine ⟨ab, ac, ad, a0, ⟨a4.celli 0 rfl rfl, a4.celli 1 rfl rfl, trivial⟩, ?_⟩
    have h := h bf cf
    exact h
   have h := h.1 (not_t e0)
   refine ⟨ab, ac, ad, a1.celli 0 rfl rfl, ?_⟩
   refine ⟨a9, a7, ag, b1, aa, ⟨a2.celli 0 rfl rfl, a2.celli 1 rfl rfl, a2.celli 2 rfl rfl, a2.celli 3 rfl rfl, a2.celli 4 rfl rfl, trivial⟩, ?_⟩
   refine Q01 fun dn c7 => ?_
   have a4 := a4.x_alloc c7
   have a1 := a1.x_alloc c7
   have h := h dn ao.heap.size ((Ext.refl no ao).x_alloc c7) (Blk.of_new c7) ((Ext.refl no ao)).size (Q0x c7)
   obtain ⟨b7, bc, bb, ay, hr, hk, h⟩ := h
   refine ⟨b7, bc, bb, ay, hr, ?_⟩
   have a4 := hk.blk a4 (by simp)
   have a1 := hk.blk a1 (by simp)
   have ea : Ext (fun b => b = a5.heap.size) ay ay := ((Ext.refl no ay)).none
   refine ⟨a1.cani 0 rfl rfl, Q01 fun di dr => ?_⟩
   have d1 := ea.x_set (q := a5.heap.size) (i := 0) rfl (.inl rfl) dr
   have a4 := a4.oth (q := a5.heap.size) (i := 0) rfl al dr
   have a1 := a1.seti 0 rfl dr
   refine ⟨b7, bc, bb, a0, ⟨a1.celli 0 rfl rfl, a1.celli 1 rfl rfl, trivial⟩, ?_⟩
   have e2 : Ext (fun b => b = bv.heap.size ∨ b = a5.heap.size) ay di := (d1).mono fun _ h _ => .inr h
   refine Q0p (k := 0) (j := 0) a4 (Nat.le_of_ble_eq_true rfl) fun ca ep eq => ?_
   have d6 := e2.x_puts ep (.inl (.inl rfl))
   have a4 : Blk ca bv.heap.size 68 [.slice b7 bc bb, .int .i64 a0] := eq
   refine ⟨b7, bc, bb, a0, ⟨a4.celli 0 rfl rfl, a4.celli 1 rfl rfl, trivial⟩, ?_⟩
   have h := h ca d6
   exact h
  have h := h.1 (of_decide_eq_true dx)
  unfold Q0g.J5
  refine Q01 fun e5 ci => ?_
  have b2 := (Ext.refl no ao).x_drew ci
  have a3 := a3.x_drew ci
  have a2 := a2.x_drew ci
  have a4 := a4.x_drew ci
  have a1 := a1.x_drew ci
  refine bif_fo (fun d5 => ?_) (fun d5 => ?_)
  ·have h := h.2 (not_f d5)
   first | unfold Q0g.J3 | unfold Q0g.J4
   first | unfold Q0g.J1 | unfold Q0g.J2
   refine Q01 fun dw cu => ?_
   have bp := b2.x_drew cu
   have a3 := a3.x_drew cu
   have a2 := a2.x_drew cu
   have a4 := a4.x_drew cu
   have a1 := a1.x_drew cu
   refine ⟨af, ae, ah, a3.celli 0 rfl rfl, ?_⟩
   obtain ⟨f3, bw, h⟩ := h
   refine Q05 bw ?_
   obtain ⟨au, ap, h⟩ := h
   refine ⟨au, ap, ?_⟩
   obtain ⟨cc, du, h⟩ := h
   refine ⟨cc, (bp).cell du id, ?_⟩
   refine ⟨a9, a2.celli 0 rfl rfl, ?_⟩
   refine bif_fo (fun dj => ?_) (fun dj => ?_)
   ·have h := h.2 (bne_f dj)
    obtain ⟨b0, b3, h⟩ := h
    try rw [w64 b0 b3]
    have h := h dw bp
    obtain ⟨et, hk, h⟩ := h
    exact ⟨et, hk, ak, ai, aj, a6, ab, ac, ad, a0, a3, a2, a4, a1, h⟩
   have h := h.1 (bne_t dj)
   refine Q01 fun d4 c5 => ?_
   have bt := bp.x_drew c5
   have a3 := a3.x_drew c5
   have a2 := a2.x_drew c5
   have a4 := a4.x_drew c5
   have a1 := a1.x_drew c5
   refine ⟨ab, ac, ad, a1.celli 0 rfl rfl, ?_⟩
   refine ⟨af, ae, ah, a3.celli 0 rfl rfl, ?_⟩
   refine Q05 bw ?_
   obtain ⟨au, ap, h⟩ := h
   refine ⟨au, ap, ?_⟩
   obtain ⟨bi, ar, b5, cv, az, e4, h⟩ := h
   refine ⟨bi, ar, b5, cv, az, Q1T (bt) e4, ?_⟩
   refine Q01 fun e3 bq => ?_
   have a3 := a3.x_alloc bq
   have a2 := a2.x_alloc bq
   have a4 := a4.x_alloc bq
   have a1 := a1.x_alloc bq
   have h := h e3 d4.heap.size (bt.x_alloc bq) (Blk.of_new bq) (bt).size (Q0x bq)
   refine ⟨a1.celli 0 rfl rfl, ?_⟩
   obtain ⟨ct, bx, cw, be, hr, hk, h⟩ := h
   refine ⟨ct, bx, cw, be, hr, ?_⟩
   have a3 := hk.blk a3 (by simp)
   have a2 := hk.blk a2 (by simp)
   have a4 := hk.blk a4 (by simp)
   have a1 := hk.blk a1 (by simp)
   have dp : Ext (fun b => b = a5.heap.size) be be := ((Ext.refl no be)).none
   refine ⟨a1.cani 0 rfl rfl, Q01 fun dk bz => ?_⟩
   have e1 := dp.x_set (q := a5.heap.size) (i := 0) rfl (.inl rfl) bz
   have a3 := a3.oth (q := a5.heap.size) (i := 0) rfl am bz
   have a2 := a2.oth (q := a5.heap.size) (i := 0) rfl an bz
   have a4 := a4.oth (q := a5.heap.size) (i := 0) rfl al bz
   have a1 := a1.seti 0 rfl bz
   obtain ⟨b0, b3, h⟩ := h
   try rw [w64 b0 b3]
   have h := h dk e1
   obtain ⟨f1, hk, h⟩ := h
   exact ⟨f1, hk, ak, ai, aj, a6, ct, bx, cw, a0, a3, a2, a4, a1, h⟩
  have h := h.1 (not_t d5)
  refine ⟨af, ae, ah, a3.celli 0 rfl rfl, ?_⟩
  obtain ⟨f2, ax, h⟩ := h
  refine Q05 ax ?_
  obtain ⟨au, ap, h⟩ := h
  refine ⟨au, ap, ?_⟩
  obtain ⟨cg, dq, h⟩ := h
  refine ⟨cg, (b2).cell dq id, ?_⟩
  refine ⟨a9, a2.celli 0 rfl rfl, ?_⟩
  first | unfold Q0g.J3 | unfold Q0g.J4
  refine bif_fo (fun d2 => ?_) (fun d2 => ?_)
  ·have h := h.2 (Int.not_le.1 (of_decide_eq_false d2))
   first | unfold Q0g.J1 | unfold Q0g.J2
   refine Q01 fun dv c8 => ?_
   have bn := b2.x_drew c8
   have a3 := a3.x_drew c8
   have a2 := a2.x_drew c8
   have a4 := a4.x_drew c8
   have a1 := a1.x_drew c8
   refine ⟨af, ae, ah, a3.celli 0 rfl rfl, ?_⟩
   refine Q05 ax ?_
   obtain ⟨au, ap, h⟩ := h
   refine ⟨au, ap, ?_⟩
   obtain ⟨cr, dc, h⟩ := h
   refine ⟨cr, (bn).cell dc id, ?_⟩
   refine ⟨a9, a2.celli 0 rfl rfl, ?_⟩
   refine bif_fo (fun d8 => ?_) (fun d8 => ?_)
   ·have h := h.2 (bne_f d8)
    obtain ⟨b0, b3, h⟩ := h
    try rw [w64 b0 b3]
    have h := h dv bn
    obtain ⟨ez, hk, h⟩ := h
    exact ⟨ez, hk, ak, ai, aj, a6, ab, ac, ad, a0, a3, a2, a4, a1, h⟩
   have h := h.1 (bne_t d8)
   refine Q01 fun ds cq => ?_
   have bu := bn.x_drew cq
   have a3 := a3.x_drew cq
   have a2 := a2.x_drew cq
   have a4 := a4.x_drew cq
   have a1 := a1.x_drew cq
   refine ⟨ab, ac, ad, a1.celli 0 rfl rfl, ?_⟩
   refine ⟨af, ae, ah, a3.celli 0 rfl rfl, ?_⟩
   refine Q05 ax ?_
   obtain ⟨au, ap, h⟩ := h
   refine ⟨au, ap, ?_⟩
   obtain ⟨bm, aq, b8, c2, aw, d0, h⟩ := h
   refine ⟨bm, aq, b8, c2, aw, Q1T (bu) d0, ?_⟩
   refine Q01 fun dy bo => ?_
   have a3 := a3.x_alloc bo
   have a2 := a2.x_alloc bo
   have a4 := a4.x_alloc bo
   have a1 := a1.x_alloc bo
   have h := h dy ds.heap.size (bu.x_alloc bo) (Blk.of_new bo) (bu).size (Q0x bo)
   refine ⟨a1.celli 0 rfl rfl, ?_⟩
   obtain ⟨c4, cm, cd, ba, hr, hk, h⟩ := h
   refine ⟨c4, cm, cd, ba, hr, ?_⟩
   have a3 := hk.blk a3 (by simp)
   have a2 := hk.blk a2 (by simp)
   have a4 := hk.blk a4 (by simp)
   have a1 := hk.blk a1 (by simp)
   have dh : Ext (fun b => b = a5.heap.size) ba ba := ((Ext.refl no ba)).none
   refine ⟨a1.cani 0 rfl rfl, Q01 fun dd c1 => ?_⟩
   have dz := dh.x_set (q := a5.heap.size) (i := 0) rfl (.inl rfl) c1
   have a3 := a3.oth (q := a5.heap.size) (i := 0) rfl am c1
   have a2 := a2.oth (q := a5.heap.size) (i := 0) rfl an c1
   have a4 := a4.oth (q := a5.heap.size) (i := 0) rfl al c1
   have a1 := a1.seti 0 rfl c1
   obtain ⟨b0, b3, h⟩ := h
   try rw [w64 b0 b3]
   have h := h dd dz
   obtain ⟨el, hk, h⟩ := h
   exact ⟨el, hk, ak, ai, aj, a6, c4, cm, cd, a0, a3, a2, a4, a1, h⟩
  have h := h.1 (of_decide_eq_true d2)
  refine ⟨ab, ac, ad, a1.celli 0 rfl rfl, ?_⟩
  refine ⟨a9, a7, ag, b1, aa, ⟨a2.celli 0 rfl rfl, a2.celli 1 rfl rfl, a2.celli 2 rfl rfl, a2.celli 3 rfl rfl, a2.celli 4 rfl rfl, trivial⟩, ?_⟩
  refine Q01 fun db bg => ?_
  have a3 := a3.x_alloc bg
  have a2 := a2.x_alloc bg
  have a4 := a4.x_alloc bg
  have a1 := a1.x_alloc bg
  have h := h db e5.heap.size (b2.x_alloc bg) (Blk.of_new bg) (b2).size (Q0x bg)
  obtain ⟨bj, bl, bk, b9, hr, hk, h⟩ := h
  refine ⟨bj, bl, bk, b9, hr, ?_⟩
  have a3 := hk.blk a3 (by simp)
  have a2 := hk.blk a2 (by simp)
  have a4 := hk.blk a4 (by simp)
  have a1 := hk.blk a1 (by simp)
  have d7 : Ext (fun b => b = a5.heap.size) b9 b9 := ((Ext.refl no b9)).none
  refine ⟨a1.cani 0 rfl rfl, Q01 fun ev cs => ?_⟩
  have e6 := d7.x_set (q := a5.heap.size) (i := 0) rfl (.inl rfl) cs
  have a3 := a3.oth (q := a5.heap.size) (i := 0) rfl am cs
  have a2 := a2.oth (q := a5.heap.size) (i := 0) rfl an cs
  have a4 := a4.oth (q := a5.heap.size) (i := 0) rfl al cs
  have a1 := a1.seti 0 rfl cs
  first | unfold Q0g.J1 | unfold Q0g.J2
  refine Q01 fun c3 ck => ?_
  have de := e6.x_drew ck
  have a3 := a3.x_drew ck
  have a2 := a2.x_drew ck
  have a4 := a4.x_drew ck
  have a1 := a1.x_drew ck
  refine ⟨af, ae, ah, a3.celli 0 rfl rfl, ?_⟩
  refine Q05 ax ?_
  obtain ⟨au, ap, h⟩ := h
  refine ⟨au, ap, ?_⟩
  have h := h c3 de
  obtain ⟨c9, dl, h⟩ := h
  refine ⟨c9, dl, ?_⟩
  refine ⟨a9, a2.celli 0 rfl rfl, ?_⟩
  refine bif_fo (fun d3 => ?_) (fun d3 => ?_)
  ·have h := h.2 (bne_f d3)
   obtain ⟨b0, b3, h⟩ := h
   try rw [w64 b0 b3]
   obtain ⟨em, hk, h⟩ := h
   exact ⟨em, hk, ak, ai, aj, a6, bj, bl, bk, a0, a3, a2, a4, a1, h⟩
  have h := h.1 (bne_t d3)
  refine Q01 fun e7 cj => ?_
  have bh := (Ext.refl no c3).x_drew cj
  have a3 := a3.x_drew cj
  have a2 := a2.x_drew cj
  have a4 := a4.x_drew cj
  have a1 := a1.x_drew cj
  refine ⟨bj, bl, bk, a1.celli 0 rfl rfl, ?_⟩
  refine ⟨af, ae, ah, a3.celli 0 rfl rfl, ?_⟩
  refine Q05 ax ?_
  obtain ⟨au, ap, h⟩ := h
  refine ⟨au, ap, ?_⟩
  obtain ⟨bs, av, bd, c0, b4, d9, h⟩ := h
  refine ⟨bs, av, bd, c0, b4, Q1T (bh) d9, ?_⟩
  refine Q01 fun df br => ?_
  have a3 := a3.x_alloc br
  have a2 := a2.x_alloc br
  have a4 := a4.x_alloc br
  have a1 := a1.x_alloc br
  have h := h df e7.heap.size (bh.x_alloc br) (Blk.of_new br) (bh).size (Q0x br)
  refine ⟨a1.celli 0 rfl rfl, ?_⟩
  obtain ⟨cn, co, cp, b6, hr, hk, h⟩ := h
  refine ⟨cn, co, cp, b6, hr, ?_⟩
  have a3 := hk.blk a3 (by simp)
  have a2 := hk.blk a2 (by simp)
  have a4 := hk.blk a4 (by simp)
  have a1 := hk.blk a1 (by simp)
  have ec : Ext (fun b => b = a5.heap.size) b6 b6 := ((Ext.refl no b6)).none
  refine ⟨a1.cani 0 rfl rfl, Q01 fun da cx => ?_⟩
  have ed := ec.x_set (q := a5.heap.size) (i := 0) rfl (.inl rfl) cx
  have a3 := a3.oth (q := a5.heap.size) (i := 0) rfl am cx
  have a2 := a2.oth (q := a5.heap.size) (i := 0) rfl an cx
  have a4 := a4.oth (q := a5.heap.size) (i := 0) rfl al cx
  have a1 := a1.seti 0 rfl cx
  obtain ⟨b0, b3, h⟩ := h
  try rw [w64 b0 b3]
  have h := h da ed
  obtain ⟨es, hk, h⟩ := h
  exact ⟨es, hk, ak, ai, aj, a6, cn, co, cp, a0, a3, a2, a4, a1, h⟩

theorem Q0g.go (a8 : Option Addr) (a5 a7 : Nat) (a2 a4 a0 a3 a6 a1 : Int) {R : RW} {w : World} (h : Q0g.N a8 a5 a7 a2 a4 a0 a3 a6 a1 R w) : Calls Try.prog 56 #[.agg #[.slice a8 a5 a7, .int .i64 a2], .agg #[.int .i64 a4, .int .u64 a0, .int .i64 a3, .int .i64 a6, .int .i64 a1]] w fun e w' => ∃ v, e = .returned v ∧ R v w' := Q0g.ok a8 a5 a7 a2 a4 a0 a3 a6 a1 (Q0g.up a8 a5 a7 a2 a4 a0 a3 a6 a1 h)
abbrev Q09.J1 (ah al ak : Addr) (R : RW) (a5 : World) : Prop :=
 ∃ (a9 : Option Addr) (aa ac : Nat) (a1 : Int), cellsAt a5 ak [.slice a9 aa ac, .int .i64 a1] 0 ∧
 ∃ (ab : Int), a5.cell? (al.add 1) = some (.int .i64 ab) ∧
 ∃ (a2 : Int), a5.cell? (al.add 2) = some (.int .u64 a2) ∧
 ∃ (a8 : Int), a5.cell? (ak.add 1) = some (.int .i64 a8) ∧
 Calls Try.prog 56 #[.agg #[.slice a9 aa ac, .int .i64 a1], .agg #[.int .i64 ab, .int .u64 a2, .int .i64 (IntKind.i64.wrap (a8 + 1)), .int .i64 (-1), .int .i64 0]] a5 fun ai aj => ∃ (ad : Option Addr) (ag af : Nat) (a6 : Int), ai = .returned (.agg #[.slice ad ag af, .int .i64 a6]) ∧
 putsK aj ah [.slice ad ag af, .int .i64 a6] 0 fun ae =>
 ∃ (a3 : Option Addr) (a7 a4 : Nat) (a0 : Int), cellsAt ae ah [.slice a3 a7 a4, .int .i64 a0] 0 ∧
 R (.tuple #[.agg #[.slice a3 a7 a4, .int .i64 a0], .int .i64 0]) ae

abbrev Q09.J2 (al am ap aq : Addr) (R : RW) (ac : World) : Prop :=
 ∃ (a9 : Int), ac.cell? (ap.add 3) = some (.int .i64 a9) ∧
 Q0d ac ((al.add 4).add 0) ∧
 thenW (ac.setCell ((al.add 4).add 0) (.int .i64 a9)) fun ag =>
 ∃ (ab : Option Addr) (af ad : Nat) (a3 : Int), cellsAt ag aq [.slice ab af ad, .int .i64 a3] 0 ∧
 ∃ (aa a1 a7 ae a2 : Int), cellsAt ag al [.int .i64 aa, .int .u64 a1, .int .i64 a7, .int .i64 ae, .int .i64 a2] 0 ∧
 Calls Try.prog 56 #[.agg #[.slice ab af ad, .int .i64 a3], .agg #[.int .i64 aa, .int .u64 a1, .int .i64 a7, .int .i64 ae, .int .i64 a2]] ag fun ao an => ∃ (ak : Option Addr) (ai ah : Nat) (a8 : Int), ao = .returned (.agg #[.slice ak ai ah, .int .i64 a8]) ∧
 putsK an am [.slice ak ai ah, .int .i64 a8] 0 fun aj =>
 ∃ (a6 : Option Addr) (a4 a5 : Nat) (a0 : Int), cellsAt aj am [.slice a6 a4 a5, .int .i64 a0] 0 ∧
 R (.tuple #[.agg #[.slice a6 a4 a5, .int .i64 a0], .int .i64 0]) aj

abbrev Q09.J3 (a1 a7 a8 a5 : Addr) (R : RW) (a3 : World) : Prop :=
 ∃ (a0 : Int), a3.cell? (a5.add 1) = some (.int .i64 a0) ∧
 Q0d a3 ((a1.add 3).add 0) ∧
 thenW (a3.setCell ((a1.add 3).add 0) (.int .i64 a0)) fun a2 =>
 ∃ (a4 : Int), a2.cell? (a1.add 3) = some (.int .i64 a4) ∧
 bif decide (a4 < 0) then (
 Q0d a2 ((a1.add 3).add 0) ∧
 thenW (a2.setCell ((a1.add 3).add 0) (.int .i64 (-2))) fun a6 =>
 Q09.J2 a1 a7 a8 a5 R a6) else (
 Q09.J2 a1 a7 a8 a5 R a2)

abbrev Q09.J4 (a8 a7 a9 aa : Addr) (R : RW) (a4 : World) : Prop :=
 ∃ (a5 : Int), a4.cell? (a8.add 3) = some (.int .i64 a5) ∧
 bif a5 != (-1) then (
 putsK a4 a7 [.slice none 0 0, .int .i64 0] 0 fun a6 =>
 ∃ (a2 : Option Addr) (a3 a1 : Nat) (a0 : Int), cellsAt a6 a7 [.slice a2 a3 a1, .int .i64 a0] 0 ∧
 R (.tuple #[.agg #[.slice a2 a3 a1, .int .i64 a0], .int .i64 10]) a6) else (
 Q09.J3 a8 a7 a9 aa R a4)

abbrev Q09.J5 (av : Option Addr) (ar : Nat) (ah aw an : Addr) (R : RW) (ao : World) : Prop :=
 ∃ (I1 : Nat → List Value → World → Prop) (au : Nat), I1 au [.int .i64 0] ao ∧ ∀ (aq : Nat) (ab : World) (a4 : Int), I1 aq [.int .i64 a4] ab →
 bif decide (a4 < (ar : Int)) then (
 thenW (ab.drew) fun aa =>
 av.elim False fun ay =>
 0 ≤ (a4 : Int) ∧ (a4 : Int) < (ar : Int) ∧
 ∃ (af : Int), aa.cell? ((ay.add (Int.toNat a4 * 5)).add 0) = some (.int .i64 af) ∧
 ∃ (a3 : Option Addr) (a2 ae : Nat), aa.cell? (aw.add 4) = some (.slice a3 a2 ae) ∧
 a3.elim False fun ax =>
 0 ≤ (a4 : Int) ∧ (a4 : Int) < (a2 : Int) ∧
 ∃ (ag : Int), aa.cell? ((ax.add (Int.toNat a4 * 2)).add 0) = some (.int .i64 ag) ∧
 bif af != ag then (
 putsK aa ah [.slice none 0 0, .int .i64 0] 0 fun ai =>
 ∃ (a9 : Option Addr) (ac a6 : Nat) (a1 : Int), cellsAt ai ah [.slice a9 ac a6, .int .i64 a1] 0 ∧
 R (.tuple #[.agg #[.slice a9 ac a6, .int .i64 a1], .int .i64 10]) ai) else (
 ∃ ap, ap < aq ∧ I1 ap [.int .i64 (IntKind.i64.wrap (a4 + 1))] aa)) else (
 ∃ (al : Option Addr) (am aj : Nat), ab.cell? (an.add 0) = some (.slice al am aj) ∧
 ∃ (ad : Int), ab.cell? (an.add 1) = some (.int .i64 ad) ∧
 putsK ab ah [.slice al am aj, .int .i64 (IntKind.i64.wrap (ad + 1))] 0 fun ak =>
 ∃ (a8 : Option Addr) (a7 a5 : Nat) (a0 : Int), cellsAt ak ah [.slice a8 a7 a5, .int .i64 a0] 0 ∧
 R (.tuple #[.agg #[.slice a8 a7 a5, .int .i64 a0], .int .i64 0]) ak)

abbrev Q09.J6 (ah ar au : Addr) (R : RW) (ap : World) : Prop :=
 ∃ (ai : Option Addr) (ak aj : Nat) (a3 : Int), cellsAt ap au [.slice ai ak aj, .int .i64 a3] 0 ∧
 Calls Try.prog 45 #[.agg #[.slice ai ak aj, .int .i64 a3]] ap fun av a4 => ∃ (ae : Option Addr) (a5 al : Nat), av = .returned (.slice ae a5 al) ∧
 ∃ (ag : Option Addr) (a2 af : Nat), a4.cell? (ar.add 4) = some (.slice ag a2 af) ∧
 bif (a5 : Int) != (a2 : Int) then (
 putsK a4 ah [.slice none 0 0, .int .i64 0] 0 fun aq =>
 ∃ (a6 : Option Addr) (ab a9 : Nat) (a0 : Int), cellsAt aq ah [.slice a6 ab a9, .int .i64 a0] 0 ∧
 R (.tuple #[.agg #[.slice a6 ab a9, .int .i64 a0], .int .i64 10]) aq) else (
 ∃ (am : Option Addr) (ad an : Nat), a4.cell? (ar.add 5) = some (.slice am ad an) ∧
 ∃ (aa : Int), a4.cell? (au.add 1) = some (.int .i64 aa) ∧
 bif !(((ad : Int) == 0) == (aa == (-1))) then (
 putsK a4 ah [.slice none 0 0, .int .i64 0] 0 fun ao =>
 ∃ (a7 : Option Addr) (ac a8 : Nat) (a1 : Int), cellsAt ao ah [.slice a7 ac a8, .int .i64 a1] 0 ∧
 R (.tuple #[.agg #[.slice a7 ac a8, .int .i64 a1], .int .i64 10]) ao) else (
 Q09.J5 ae a5 ah ar au R a4))

abbrev Q09.J7 (a7 a9 a8 : Addr) (R : RW) (a5 : World) : Prop :=
 ∃ (a3 : Int), a5.cell? (a8.add 1) = some (.int .i64 a3) ∧
 bif decide (a3 ≥ 19) then (
 putsK a5 a7 [.slice none 0 0, .int .i64 0] 0 fun a6 =>
 ∃ (a4 : Option Addr) (a1 a2 : Nat) (a0 : Int), cellsAt a6 a7 [.slice a4 a1 a2, .int .i64 a0] 0 ∧
 R (.tuple #[.agg #[.slice a4 a1 a2, .int .i64 a0], .int .i64 2]) a6) else (
 Q09.J6 a7 a9 a8 R a5)

abbrev Q09.J8 (al ao ar : Addr) (R : RW) (an : World) : Prop :=
 ∃ (ah : Option Addr) (ak ag : Nat) (a4 : Int), cellsAt an ar [.slice ah ak ag, .int .i64 a4] 0 ∧
 ∃ (af : Int), an.cell? (ao.add 1) = some (.int .i64 af) ∧
 Calls Try.prog 55 #[.agg #[.slice ah ak ag, .int .i64 a4], .int .i64 af] an fun av am => ∃ (ai a2 ae ap a9 : Int) (a8 : Bool), av = .returned (.tuple #[.agg #[.int .i64 ai, .int .u64 a2, .int .i64 ae, .int .i64 ap, .int .i64 a9], .bool a8]) ∧
 thenW (am.alloc (.cells #[.int .i64 0, .int .u64 0, .int .i64 0, .int .i64 0, .int .i64 0] 111)) fun au =>
 putsK au (blk am.heap.size) [.int .i64 ai, .int .u64 a2, .int .i64 ae, .int .i64 ap, .int .i64 a9] 0 fun ad =>
 ∃ (a7 : Int), ad.cell? (ao.add 0) = some (.int .i64 a7) ∧
 bif a7 == 1 then (
 bif a8 then (
 putsK ad al [.slice none 0 0, .int .i64 0] 0 fun aq =>
 ∃ (ac : Option Addr) (ab aa : Nat) (a1 : Int), cellsAt aq al [.slice ac ab aa, .int .i64 a1] 0 ∧
 R (.tuple #[.agg #[.slice ac ab aa, .int .i64 a1], .int .i64 13]) aq) else (
 Q09.J1 al ao ar R ad)) else (
 bif a7 == 2 then (
 bif !a8 then (
 putsK ad al [.slice none 0 0, .int .i64 0] 0 fun aj =>
 ∃ (a5 : Option Addr) (a3 a6 : Nat) (a0 : Int), cellsAt aj al [.slice a5 a3 a6, .int .i64 a0] 0 ∧
 R (.tuple #[.agg #[.slice a5 a3 a6, .int .i64 a0], .int .i64 20]) aj) else (
 Q09.J4 (blk am.heap.size) al ao ar R ad)) else (
 Q09.J7 al ao ar R ad))

def Q09.M (b0 : Option Addr) (ay az : Nat) (aj ap aq ag ak : Int) (af : Option Addr) (ah ai : Nat) (an : Option Addr) (am ao : Nat) (R : RW) (w : World) : Prop :=
 thenW (w.alloc (.cells #[.slice b0 ay az, .int .i64 aj] 68)) fun ax =>
 thenW (ax.alloc (.cells #[.int .i64 ap, .int .i64 aq, .int .u64 ag, .int .i64 ak, .slice af ah ai, .slice an am ao] 77)) fun al =>
 thenW (al.alloc (.cells #[.slice none 0 0, .int .i64 0] 68)) fun ar =>
 ∃ (a8 ae a1 a5 : Int) (a3 : Option Addr) (a4 a2 : Nat) (aa : Option Addr) (ab a6 : Nat), cellsAt ar (blk ax.heap.size) [.int .i64 a8, .int .i64 ae, .int .u64 a1, .int .i64 a5, .slice a3 a4 a2, .slice aa ab a6] 0 ∧
 Calls Try.prog 54 #[.agg #[.int .i64 a8, .int .i64 ae, .int .u64 a1, .int .i64 a5, .slice a3 a4 a2, .slice aa ab a6]] ar fun aw au => ∃ (ac : Bool), aw = .returned (.bool ac) ∧
 bif !ac then (
 putsK au (blk al.heap.size) [.slice none 0 0, .int .i64 0] 0 fun av =>
 ∃ (ad : Option Addr) (a7 a9 : Nat) (a0 : Int), cellsAt av (blk al.heap.size) [.slice ad a7 a9, .int .i64 a0] 0 ∧
 R (.tuple #[.agg #[.slice ad a7 a9, .int .i64 a0], .int .i64 1]) av) else (
 Q09.J8 (blk al.heap.size) (blk ax.heap.size) (blk w.heap.size) R au)

theorem Q09.ok (ad : Option Addr) (ab ac : Nat) (a4 a9 aa a0 a5 : Int) (a2 : Option Addr) (a1 a3 : Nat) (a7 : Option Addr) (a8 a6 : Nat) {R : RW} {w : World} (h : Q09.M ad ab ac a4 a9 aa a0 a5 a2 a1 a3 a7 a8 a6 R w) : Calls Try.prog 24 #[.agg #[.slice ad ab ac, .int .i64 a4], .agg #[.int .i64 a9, .int .i64 aa, .int .u64 a0, .int .i64 a5, .slice a2 a1 a3, .slice a7 a8 a6]] w fun e w' => ∃ v, e = .returned v ∧ R v w' :=
  Q0i follows (H := [(1, [2, 3, 4, 8], [(9, (.one (.int .i64)))])]) (args := [.agg #[.slice ad ab ac, .int .i64 a4], .agg #[.int .i64 a9, .int .i64 aa, .int .u64 a0, .int .i64 a5, .slice a2 a1 a3, .slice a7 a8 a6]]) (cast (by kernel_rfl) h)

def Q09.N (ak : Option Addr) (aj al : Nat) (a0 a5 ao ab a7 : Int) (aa : Option Addr) (a1 ar : Nat) (b0 : Option Addr) (ae b3 : Nat) (R : RW) (w : World) : Prop :=
 ∀ (ay : World) (c0 bz a9 : Nat), Ext no w ay → Priv w ay [c0, bz, a9] →
 Calls Try.prog 54 #[.agg #[.int .i64 a5, .int .i64 ao, .int .u64 ab, .int .i64 a7, .slice aa a1 ar, .slice b0 ae b3]] ay fun c2 az => ∃ (a6 : Bool), c2 = .returned (.bool a6) ∧
 Keep [c0, bz, a9] ay az ∧
 (a6 = false →
 ∀ (bu : World), Ext (fun b => b = a9) az bu →
 R (.tuple #[.agg #[.slice none 0 0, .int .i64 0], .int .i64 1]) bu) ∧
 (a6 = true →
 Calls Try.prog 55 #[.agg #[.slice ak aj al, .int .i64 a0], .int .i64 ao] az fun c3 a8 => ∃ (au a3 ac b5 aw : Int) (a4 : Bool), c3 = .returned (.tuple #[.agg #[.int .i64 au, .int .u64 a3, .int .i64 ac, .int .i64 b5, .int .i64 aw], .bool a4]) ∧
 Keep [c0, bz, a9] az a8 ∧
 (a5 = 1 →
 (a4 = true →
 ∀ (bv : World), Ext (fun b => b = a9) a8 bv →
 R (.tuple #[.agg #[.slice none 0 0, .int .i64 0], .int .i64 13]) bv) ∧
 (a4 = false →
 (-9223372036854775808 : Int) ≤ (a0 + 1) ∧ (a0 + 1) < 9223372036854775808 ∧
 ∀ (ad : World), Ext no a8 ad →
 Calls Try.prog 56 #[.agg #[.slice ak aj al, .int .i64 a0], .agg #[.int .i64 ao, .int .u64 ab, .int .i64 (a0 + 1), .int .i64 (-1), .int .i64 0]] ad fun c4 bb => ∃ (b7 : Option Addr) (bh br : Nat) (ag : Int), c4 = .returned (.agg #[.slice b7 bh br, .int .i64 ag]) ∧
 Keep [a9] ad bb ∧
 ∀ (ba : World), Ext (fun b => b = a9) bb ba →
 R (.tuple #[.agg #[.slice b7 bh br, .int .i64 ag], .int .i64 0]) ba)) ∧
 (a5 ≠ 1 →
 (a5 = 2 →
 (a4 = false →
 ∀ (bw : World), Ext (fun b => b = a9) a8 bw →
 R (.tuple #[.agg #[.slice none 0 0, .int .i64 0], .int .i64 20]) bw) ∧
 (a4 = true →
 (b5 ≠ (-1) →
 ∀ (bg : World), Ext (fun b => b = a9) a8 bg →
 R (.tuple #[.agg #[.slice none 0 0, .int .i64 0], .int .i64 10]) bg) ∧
 (b5 = (-1) →
 (a0 < 0 →
 ∀ (b4 : World), Ext no a8 b4 →
 Calls Try.prog 56 #[.agg #[.slice ak aj al, .int .i64 a0], .agg #[.int .i64 au, .int .u64 a3, .int .i64 ac, .int .i64 (-2), .int .i64 a7]] b4 fun c1 b8 => ∃ (bn : Option Addr) (bi b9 : Nat) (ai : Int), c1 = .returned (.agg #[.slice bn bi b9, .int .i64 ai]) ∧
 Keep [a9] b4 b8 ∧
 ∀ (bo : World), Ext (fun b => b = a9) b8 bo →
 R (.tuple #[.agg #[.slice bn bi b9, .int .i64 ai], .int .i64 0]) bo) ∧
 ((0 : Int) ≤ a0 →
 ∀ (b1 : World), Ext no a8 b1 →
 Calls Try.prog 56 #[.agg #[.slice ak aj al, .int .i64 a0], .agg #[.int .i64 au, .int .u64 a3, .int .i64 ac, .int .i64 a0, .int .i64 a7]] b1 fun c6 bf => ∃ (bx : Option Addr) (bq bk : Nat) (ah : Int), c6 = .returned (.agg #[.slice bx bq bk, .int .i64 ah]) ∧
 Keep [a9] b1 bf ∧
 ∀ (bt : World), Ext (fun b => b = a9) bf bt →
 R (.tuple #[.agg #[.slice bx bq bk, .int .i64 ah], .int .i64 0]) bt)))) ∧
 (a5 ≠ 2 →
 (a0 ≥ 19 →
 ∀ (bc : World), Ext (fun b => b = a9) a8 bc →
 R (.tuple #[.agg #[.slice none 0 0, .int .i64 0], .int .i64 2]) bc) ∧
 (a0 < 19 →
 ∀ (ad : World), Ext no a8 ad →
 Calls Try.prog 45 #[.agg #[.slice ak aj al, .int .i64 a0]] ad fun c5 ax => ∃ (ap : Option Addr) (a2 b2 : Nat), c5 = .returned (.slice ap a2 b2) ∧
 Keep [c0, bz, a9] ad ax ∧
 ((a2 : Int) ≠ (a1 : Int) →
 ∀ (bj : World), Ext (fun b => b = a9) ax bj →
 R (.tuple #[.agg #[.slice none 0 0, .int .i64 0], .int .i64 10]) bj) ∧
 ((a2 : Int) = (a1 : Int) →
 (((ae : Int) == 0) ≠ (a0 == (-1)) →
 ∀ (bp : World), Ext (fun b => b = a9) ax bp →
 R (.tuple #[.agg #[.slice none 0 0, .int .i64 0], .int .i64 10]) bp) ∧
 (((ae : Int) == 0) = (a0 == (-1)) →
 ∃ (I1 : Nat → List Value → World → Prop) (cb : Nat), I1 cb [.int .i64 0, .slice none 0 0, .int .i64 0] ax ∧ ∀ (c7 : Nat) (am : World) (an : Int) (bm : Option Addr) (bl bd : Nat) (af : Int), I1 c7 [.int .i64 an, .slice bm bl bd, .int .i64 af] am →
 (an < (a2 : Int) →
 ∃ c9 : Addr, ap = some c9 ∧
 0 ≤ (an : Int) ∧ (an : Int) < (a2 : Int) ∧
 ∃ (av : Int), am.cell? ((c9.add (Int.toNat an * 5)).add 0) = some (.int .i64 av) ∧
 ∃ c8 : Addr, aa = some c8 ∧
 0 ≤ (an : Int) ∧ (an : Int) < (a1 : Int) ∧
 ∃ (aq : Int), am.cell? ((c8.add (Int.toNat an * 2)).add 0) = some (.int .i64 aq) ∧
 (av ≠ aq →
 ∀ (be : World), Ext (fun b => b = a9) am be →
 R (.tuple #[.agg #[.slice none 0 0, .int .i64 0], .int .i64 10]) be) ∧
 (av = aq →
 (-9223372036854775808 : Int) ≤ (an + 1) ∧ (an + 1) < 9223372036854775808 ∧
 ∀ (bs : World), Ext no am bs →
 ∃ ca, ca < c7 ∧ I1 ca [.int .i64 (an + 1), .slice bm bl bd, .int .i64 af] bs)) ∧
 ((a2 : Int) ≤ an →
 (-9223372036854775808 : Int) ≤ (a0 + 1) ∧ (a0 + 1) < 9223372036854775808 ∧
 ∀ (b6 : World), Ext (fun b => b = a9) am b6 →
 R (.tuple #[.agg #[.slice ak aj al, .int .i64 (a0 + 1)], .int .i64 0]) b6)))))))

theorem Q09.up (aj : Option Addr) (ai am : Nat) (a0 an ao ac a2 : Int) (a7 : Option Addr) (a8 a9 : Nat) (ah : Option Addr) (ak al : Nat) {R : RW} {w : World} (h : Q09.N aj ai am a0 an ao ac a2 a7 a8 a9 ah ak al R w) : Q09.M aj ai am a0 an ao ac a2 a7 a8 a9 ah ak al R w := by
  unfold Q09.M
  unfold Q09.N at h
  refine Q01 fun e1 e9 => ?_
  have a6 := Blk.of_new e9
  have eb := ((Ext.refl no w)).size
  have e2 := (Ext.refl no w).x_alloc e9
  refine Q01 fun a4 dy => ?_
  have aa := Blk.of_new dy
  have en := (e2).size
  have dz := Nat.ne_of_lt a6.lt
  have a6 := a6.x_alloc dy
  have br := e2.x_alloc dy
  refine Q01 fun dg ci => ?_
  have a1 := Blk.of_new ci
  have ez := (br).size
  have e0 := Nat.ne_of_lt a6.lt
  have a6 := a6.x_alloc ci
  have e3 := Nat.ne_of_lt aa.lt
  have aa := aa.x_alloc ci
  have d4 := br.x_alloc ci
  refine ⟨an, ao, ac, a2, a7, a8, a9, ah, ak, al, ⟨aa.celli 0 rfl rfl, aa.celli 1 rfl rfl, aa.celli 2 rfl rfl, aa.celli 3 rfl rfl, aa.celli 4 rfl rfl, aa.celli 5 rfl rfl, trivial⟩, ?_⟩
  have h := h dg (w.heap.size) (e1.heap.size) (a4.heap.size) d4 (Priv.cons eb a6.lt (Priv.cons en aa.lt (Priv.cons ez a1.lt Priv.nil)))
  refine h.mono fun ef bm h => ?_
  obtain ⟨b4, he, hk, h⟩ := h
  refine ⟨b4, he, ?_⟩
  have a6 := hk.blk a6 (by simp)
  have aa := hk.blk aa (by simp)
  have a1 := hk.blk a1 (by simp)
  refine bif_of (fun dp => ?_) (fun dp => ?_)
  ·have h := h.1 (not_t dp)
   have d9 : Ext (fun b => b = a4.heap.size) bm bm := ((Ext.refl no bm)).none
   refine Q0p (k := 0) (j := 0) a1 (Nat.le_of_ble_eq_true rfl) fun c9 f4 f5 => ?_
   have dh := d9.x_puts f4 (.inl rfl)
   have a1 : Blk c9 a4.heap.size 68 [.slice none 0 0, .int .i64 0] := f5
   refine ⟨none, 0, 0, 0, ⟨a1.celli 0 rfl rfl, a1.celli 1 rfl rfl, trivial⟩, ?_⟩
   have h := h c9 dh
   exact h
  have h := h.2 (not_f dp)
  unfold Q09.J8
  refine ⟨aj, ai, am, a0, ⟨a6.celli 0 rfl rfl, a6.celli 1 rfl rfl, trivial⟩, ?_⟩
  refine ⟨ao, aa.celli 1 rfl rfl, ?_⟩
  refine h.mono fun em a5 h => ?_
  obtain ⟨af, a3, ab, bn, ag, bg, he, hk, h⟩ := h
  refine ⟨af, a3, ab, bn, ag, bg, he, ?_⟩
  have a6 := hk.blk a6 (by simp)
  have aa := hk.blk aa (by simp)
  have a1 := hk.blk a1 (by simp)
  refine Q01 fun ej cd => ?_
  have ae := Blk.of_new cd
  have bw := ((Ext.refl no a5)).size
  have av := Nat.ne_of_lt a6.lt
  have a6 := a6.x_alloc cd
  have b1 := Nat.ne_of_lt aa.lt
  have aa := aa.x_alloc cd
  have au := Nat.ne_of_lt a1.lt
  have a1 := a1.x_alloc cd
  have cj := (Ext.refl no a5).x_alloc cd
  refine Q0p (k := 0) (j := 0) ae (Nat.le_of_ble_eq_true rfl) fun ax cf eh => ?_
  have aw := cj.x_puts cf (.inr bw)
  have a6 := a6.x_puts cf av
  have aa := aa.x_puts cf b1
  have a1 := a1.x_puts cf au
  have ae : Blk ax a5.heap.size 111 [.int .i64 af, .int .u64 a3, .int .i64 ab, .int .i64 bn, .int .i64 ag] := eh
  refine ⟨an, aa.celli 0 rfl rfl, ?_⟩
  refine bif_of (fun cu => ?_) (fun cu => ?_)
  ·have h := h.1 (beq_t cu)
   refine bif_of (fun dt => ?_) (fun dt => ?_)
   ·have h := h.1 dt
    have dc : Ext (fun b => b = a4.heap.size) a5 ax := (aw).none
    refine Q0p (k := 0) (j := 0) a1 (Nat.le_of_ble_eq_true rfl) fun ca f2 ey => ?_
    have dx := dc.x_puts f2 (.inl rfl)
    have a1 : Blk ca a4.heap.size 68 [.slice none 0 0, .int .i64 0] := ey
    refine ⟨none, 0, 0, 0, ⟨a1.celli 0 rfl rfl, a1.celli 1 rfl rfl, trivial⟩, ?_⟩
    have h := h ca dx
    exact h
   have h := h.2 dt
   unfold Q09.J1
   refine ⟨aj, ai, am, a0, ⟨a6.celli 0 rfl rfl, a6.celli 1 rfl rfl, trivial⟩, ?_⟩
   refine ⟨ao, aa.celli 1 rfl rfl, ?_⟩
   refine ⟨ac, aa.celli 2 rfl rfl, ?_⟩
   refine ⟨a0, a6.celli 1 rfl rfl, ?_⟩
   obtain ⟨c4, cc, h⟩ := h
   try rw [w64 c4 cc]
   have h := h ax aw
   refine h.mono fun eu bb h => ?_
   obtain ⟨b6, bd, bk, ap, he, hk, h⟩ := h
   refine ⟨b6, bd, bk, ap, he, ?_⟩
   have a1 := hk.blk a1 (by simp)
   have cz : Ext (fun b => b = a4.heap.size) bb bb := ((Ext.refl no bb)).none
   refine Q0p (k := 0) (j := 0) a1 (Nat.le_of_ble_eq_true rfl) fun bp eq eo => ?_
   have cn := cz.x_puts eq (.inl rfl)
   have a1 : Blk bp a4.heap.size 68 [.slice b6 bd bk, .int .i64 ap] := eo
   refine ⟨b6, bd, bk, ap, ⟨a1.celli 0 rfl rfl, a1.celli 1 rfl rfl, trivial⟩, ?_⟩
   have h := h bp cn
   exact h
  have h := h.2 (beq_f cu)
  refine bif_of (fun dk => ?_) (fun dk => ?_)
  ·have h := h.1 (beq_t dk)
   refine bif_of (fun co => ?_) (fun co => ?_)
   ·have h := h.1 (not_t co)
    have de : Ext (fun b => b = a4.heap.size) a5 ax := (aw).none
    refine Q0p (k := 0) (j := 0) a1 (Nat.le_of_ble_eq_true rfl) fun cb ep e7 => ?_
    have cq := de.x_puts ep (.inl rfl)
    have a1 : Blk cb a4.heap.size 68 [.slice none 0 0, .int .i64 0] := e7
    refine ⟨none, 0, 0, 0, ⟨a1.celli 0 rfl rfl, a1.celli 1 rfl rfl, trivial⟩, ?_⟩
    have h := h cb cq
    exact h
   have h := h.2 (not_f co)
   unfold Q09.J4
   refine ⟨bn, ae.celli 3 rfl rfl, ?_⟩
   refine bif_of (fun d2 => ?_) (fun d2 => ?_)
   ·have h := h.1 (bne_t d2)
    have ds : Ext (fun b => b = a4.heap.size) a5 ax := (aw).none
    refine Q0p (k := 0) (j := 0) a1 (Nat.le_of_ble_eq_true rfl) fun bu ea ec => ?_
    have dn := ds.x_puts ea (.inl rfl)
    have a1 : Blk bu a4.heap.size 68 [.slice none 0 0, .int .i64 0] := ec
    refine ⟨none, 0, 0, 0, ⟨a1.celli 0 rfl rfl, a1.celli 1 rfl rfl, trivial⟩, ?_⟩
    have h := h bu dn
    exact h
   have h := h.2 (bne_f d2)
   unfold Q09.J3
   refine ⟨a0, a6.celli 1 rfl rfl, ?_⟩
   refine ⟨ae.cani 3 rfl rfl, Q01 fun da bv => ?_⟩
   have bx := aw.x_set (q := a5.heap.size) (i := 3) rfl (.inr bw) bv
   have a6 := a6.oth (q := a5.heap.size) (i := 3) rfl av bv
   have aa := aa.oth (q := a5.heap.size) (i := 3) rfl b1 bv
   have a1 := a1.oth (q := a5.heap.size) (i := 3) rfl au bv
   have ae : Blk da a5.heap.size 111 [.int .i64 af, .int .u64 a3, .int .i64 ab, .int .i64 a0, .int .i64 ag] := ae.seti 3 rfl bv
   refine ⟨a0, ae.celli 3 rfl rfl, ?_⟩
   refine bif_fo (fun du => ?_) (fun du => ?_)
   ·have h := h.2 (Int.not_lt.1 (of_decide_eq_false du))
    unfold Q09.J2
    refine ⟨a2, aa.celli 3 rfl rfl, ?_⟩
    refine ⟨ae.cani 4 rfl rfl, Q01 fun bq cg => ?_⟩
    have d5 := bx.x_set (q := a5.heap.size) (i := 4) rfl (.inr bw) cg
    have a6 := a6.oth (q := a5.heap.size) (i := 4) rfl av cg
    have a1 := a1.oth (q := a5.heap.size) (i := 4) rfl au cg
    have ae : Blk bq a5.heap.size 111 [.int .i64 af, .int .u64 a3, .int .i64 ab, .int .i64 a0, .int .i64 a2] := ae.seti 4 rfl cg
    refine ⟨aj, ai, am, a0, ⟨a6.celli 0 rfl rfl, a6.celli 1 rfl rfl, trivial⟩, ?_⟩
    refine ⟨af, a3, ab, a0, a2, ⟨ae.celli 0 rfl rfl, ae.celli 1 rfl rfl, ae.celli 2 rfl rfl, ae.celli 3 rfl rfl, ae.celli 4 rfl rfl, trivial⟩, ?_⟩
    have h := h bq d5
    refine h.mono fun f0 bc h => ?_
    obtain ⟨bl, bj, bh, aq, he, hk, h⟩ := h
    refine ⟨bl, bj, bh, aq, he, ?_⟩
    have a1 := hk.blk a1 (by simp)
    have df : Ext (fun b => b = a4.heap.size) bc bc := ((Ext.refl no bc)).none
    refine Q0p (k := 0) (j := 0) a1 (Nat.le_of_ble_eq_true rfl) fun c7 ev f7 => ?_
    have di := df.x_puts ev (.inl rfl)
    have a1 : Blk c7 a4.heap.size 68 [.slice bl bj bh, .int .i64 aq] := f7
    refine ⟨bl, bj, bh, aq, ⟨a1.celli 0 rfl rfl, a1.celli 1 rfl rfl, trivial⟩, ?_⟩
    have h := h c7 di
    exact h
   have h := h.1 (of_decide_eq_true du)
   refine ⟨ae.cani 3 rfl rfl, Q01 fun cw c0 => ?_⟩
   have dl := bx.x_set (q := a5.heap.size) (i := 3) rfl (.inr bw) c0
   have a6 := a6.oth (q := a5.heap.size) (i := 3) rfl av c0
   have aa := aa.oth (q := a5.heap.size) (i := 3) rfl b1 c0
   have a1 := a1.oth (q := a5.heap.size) (i := 3) rfl au c0
   have ae : Blk cw a5.heap.size 111 [.int .i64 af, .int .u64 a3, .int .i64 ab, .int .i64 (-2), .int .i64 ag] := ae.seti 3 rfl c0
   unfold Q09.J2
   refine ⟨a2, aa.celli 3 rfl rfl, ?_⟩
   refine ⟨ae.cani 4 rfl rfl, Q01 fun c6 ce => ?_⟩
   have dj := dl.x_set (q := a5.heap.size) (i := 4) rfl (.inr bw) ce
   have a6 := a6.oth (q := a5.heap.size) (i := 4) rfl av ce
   have a1 := a1.oth (q := a5.heap.size) (i := 4) rfl au ce
   have ae : Blk c6 a5.heap.size 111 [.int .i64 af, .int .u64 a3, .int .i64 ab, .int .i64 (-2), .int .i64 a2] := ae.seti 4 rfl ce
   refine ⟨aj, ai, am, a0, ⟨a6.celli 0 rfl rfl, a6.celli 1 rfl rfl, trivial⟩, ?_⟩
   refine ⟨af, a3, ab, (-2), a2, ⟨ae.celli 0 rfl rfl, ae.celli 1 rfl rfl, ae.celli 2 rfl rfl, ae.celli 3 rfl rfl, ae.celli 4 rfl rfl, trivial⟩, ?_⟩
   have h := h c6 dj
   refine h.mono fun e6 b7 h => ?_
   obtain ⟨bi, be, b8, ar, he, hk, h⟩ := h
   refine ⟨bi, be, b8, ar, he, ?_⟩
   have a1 := hk.blk a1 (by simp)
   have cy : Ext (fun b => b = a4.heap.size) b7 b7 := ((Ext.refl no b7)).none
   refine Q0p (k := 0) (j := 0) a1 (Nat.le_of_ble_eq_true rfl) fun c2 ex er => ?_
   have cx := cy.x_puts ex (.inl rfl)
   have a1 : Blk c2 a4.heap.size 68 [.slice bi be b8, .int .i64 ar] := er
   refine ⟨bi, be, b8, ar, ⟨a1.celli 0 rfl rfl, a1.celli 1 rfl rfl, trivial⟩, ?_⟩
   have h := h c2 cx
   exact h
  have h := h.2 (beq_f dk)
  unfold Q09.J7
  refine ⟨a0, a6.celli 1 rfl rfl, ?_⟩
  refine bif_of (fun d3 => ?_) (fun d3 => ?_)
  ·have h := h.1 (of_decide_eq_true d3)
   have dw : Ext (fun b => b = a4.heap.size) a5 ax := (aw).none
   refine Q0p (k := 0) (j := 0) a1 (Nat.le_of_ble_eq_true rfl) fun bs es ek => ?_
   have cr := dw.x_puts es (.inl rfl)
   have a1 : Blk bs a4.heap.size 68 [.slice none 0 0, .int .i64 0] := ek
   refine ⟨none, 0, 0, 0, ⟨a1.celli 0 rfl rfl, a1.celli 1 rfl rfl, trivial⟩, ?_⟩
   have h := h bs cr
   exact h
  have h := h.2 (Int.not_le.1 (of_decide_eq_false d3))
  unfold Q09.J6
  refine ⟨aj, ai, am, a0, ⟨a6.celli 0 rfl rfl, a6.celli 1 rfl rfl, trivial⟩, ?_⟩
  have h := h ax aw
  refine h.mono fun ew ay h => ?_
  obtain ⟨ba, b9, bf, he, hk, h⟩ := h
  refine ⟨ba, b9, bf, he, ?_⟩
  have a6 := hk.blk a6 (by simp)
  have aa := hk.blk aa (by simp)
  have a1 := hk.blk a1 (by simp)
  refine ⟨a7, a8, a9, aa.celli 4 rfl rfl, ?_⟩
  refine bif_of (fun d6 => ?_) (fun d6 => ?_)
  ·have h := h.1 (bne_t d6)
   have dd : Ext (fun b => b = a4.heap.size) ay ay := ((Ext.refl no ay)).none
   refine Q0p (k := 0) (j := 0) a1 (Nat.le_of_ble_eq_true rfl) fun bz ee f6 => ?_
   have dv := dd.x_puts ee (.inl rfl)
   have a1 : Blk bz a4.heap.size 68 [.slice none 0 0, .int .i64 0] := f6
   refine ⟨none, 0, 0, 0, ⟨a1.celli 0 rfl rfl, a1.celli 1 rfl rfl, trivial⟩, ?_⟩
   have h := h bz dv
   exact h
  have h := h.2 (bne_f d6)
  refine ⟨ah, ak, al, aa.celli 5 rfl rfl, ?_⟩
  refine ⟨a0, a6.celli 1 rfl rfl, ?_⟩
  refine bif_of (fun d8 => ?_) (fun d8 => ?_)
  ·have h := h.1 (bbeq_f (not_t d8))
   have ck : Ext (fun b => b = a4.heap.size) ay ay := ((Ext.refl no ay)).none
   refine Q0p (k := 0) (j := 0) a1 (Nat.le_of_ble_eq_true rfl) fun c3 et eg => ?_
   have d0 := ck.x_puts et (.inl rfl)
   have a1 : Blk c3 a4.heap.size 68 [.slice none 0 0, .int .i64 0] := eg
   refine ⟨none, 0, 0, 0, ⟨a1.celli 0 rfl rfl, a1.celli 1 rfl rfl, trivial⟩, ?_⟩
   have h := h c3 d0
   exact h
  have h := h.2 (bbeq_t (not_f d8))
  unfold Q09.J5
  obtain ⟨I1, e5, h0, h⟩ := h
  refine ⟨fun k vs ww => ∃ (b2 : Option Addr) (b3 b0 : Nat) (ad : Int), Blk ww w.heap.size 68 [.slice aj ai am, .int .i64 a0] ∧ Blk ww e1.heap.size 77 [.int .i64 an, .int .i64 ao, .int .u64 ac, .int .i64 a2, .slice a7 a8 a9, .slice ah ak al] ∧ Blk ww a4.heap.size 68 [.slice b2 b3 b0, .int .i64 ad] ∧ I1 k (vs ++ [.slice b2 b3 b0, .int .i64 ad]) ww, e5, ⟨none, 0, 0, 0, a6, aa, a1, h0⟩, fun ei az e8 hI => ?_⟩
  obtain ⟨b2, b3, b0, ad, a6, aa, a1, hI⟩ := hI
  have h := h ei az e8 b2 b3 b0 ad hI
  refine bif_fo (fun db => ?_) (fun db => ?_)
  ·have h := h.2 (Int.not_lt.1 (of_decide_eq_false db))
   refine ⟨aj, ai, am, a6.celli 0 rfl rfl, ?_⟩
   refine ⟨a0, a6.celli 1 rfl rfl, ?_⟩
   obtain ⟨c4, cc, h⟩ := h
   try rw [w64 c4 cc]
   have cl : Ext (fun b => b = a4.heap.size) az az := ((Ext.refl no az)).none
   refine Q0p (k := 0) (j := 0) a1 (Nat.le_of_ble_eq_true rfl) fun bo e4 el => ?_
   have cs := cl.x_puts e4 (.inl rfl)
   have a1 : Blk bo a4.heap.size 68 [.slice aj ai am, .int .i64 (a0 + 1)] := el
   refine ⟨aj, ai, am, (a0 + 1), ⟨a1.celli 0 rfl rfl, a1.celli 1 rfl rfl, trivial⟩, ?_⟩
   have h := h bo cs
   exact h
  have h := h.1 (of_decide_eq_true db)
  refine Q01 fun c5 ch => ?_
  have b5 := (Ext.refl no az).x_drew ch
  have a6 := a6.x_drew ch
  have aa := aa.x_drew ch
  have a1 := a1.x_drew ch
  obtain ⟨f9, d1, h⟩ := h
  refine Q05 d1 ?_
  obtain ⟨dm, cp, h⟩ := h
  refine ⟨dm, cp, ?_⟩
  obtain ⟨c8, cm, h⟩ := h
  refine ⟨c8, (b5).cell cm id, ?_⟩
  refine ⟨a7, a8, a9, aa.celli 4 rfl rfl, ?_⟩
  obtain ⟨f8, ct, h⟩ := h
  refine Q05 ct ?_
  obtain ⟨dm, cp, h⟩ := h
  refine ⟨dm, cp, ?_⟩
  obtain ⟨c1, cv, h⟩ := h
  refine ⟨c1, (b5).cell cv id, ?_⟩
  refine bif_fo (fun dr => ?_) (fun dr => ?_)
  ·have h := h.2 (bne_f dr)
   obtain ⟨c4, cc, h⟩ := h
   try rw [w64 c4 cc]
   have h := h c5 b5
   obtain ⟨f3, hk, h⟩ := h
   exact ⟨f3, hk, b2, b3, b0, ad, a6, aa, a1, h⟩
  have h := h.1 (bne_t dr)
  have d7 : Ext (fun b => b = a4.heap.size) az c5 := (b5).none
  refine Q0p (k := 0) (j := 0) a1 (Nat.le_of_ble_eq_true rfl) fun bt f1 ed => ?_
  have dq := d7.x_puts f1 (.inl rfl)
  have a1 : Blk bt a4.heap.size 68 [.slice none 0 0, .int .i64 0] := ed
  refine ⟨none, 0, 0, 0, ⟨a1.celli 0 rfl rfl, a1.celli 1 rfl rfl, trivial⟩, ?_⟩
  have h := h bt dq
  exact h

theorem Q09.go (ad : Option Addr) (ab ac : Nat) (a4 a9 aa a0 a5 : Int) (a2 : Option Addr) (a1 a3 : Nat) (a7 : Option Addr) (a8 a6 : Nat) {R : RW} {w : World} (h : Q09.N ad ab ac a4 a9 aa a0 a5 a2 a1 a3 a7 a8 a6 R w) : Calls Try.prog 24 #[.agg #[.slice ad ab ac, .int .i64 a4], .agg #[.int .i64 a9, .int .i64 aa, .int .u64 a0, .int .i64 a5, .slice a2 a1 a3, .slice a7 a8 a6]] w fun e w' => ∃ v, e = .returned v ∧ R v w' := Q09.ok ad ab ac a4 a9 aa a0 a5 a2 a1 a3 a7 a8 a6 (Q09.up ad ab ac a4 a9 aa a0 a5 a2 a1 a3 a7 a8 a6 h)
open W (OwnB)
abbrev RRw (N : Nat) (w : World) (o : Own) (a : Option Addr) (c : Nat) (ml : List Mem) : Prop := LRow 111 5 N w o a ml.length c (ml.flatMap Mem.C)
section
variable {w w' w1 : World} {o o' o1 : Own} {a b : Option Addr} {c d N : Nat} {s t : MS} {m : Mem} {cg : Chg} {ml : List Mem}
theorem RRw.push (h : RRw N w o a c ml) (ok : Tags w o) (hl : ml.length < 1000000) (m : Mem) {q : Nat} (hb : Blk w q 111 m.C) (hq : N ≤ q) (hq' : q < w.heap.size) :
    ∃ a' n' c' w' o', (Builtin.append_ #[66, 66] 66 #[.slice a ml.length c, .slice (some (blk q)) 1 1]).run Try.prog w = .ok (.slice a' n' c') w' ∧ n' = (ml ++ [m]).length ∧ Step (fun j => N ≤ j) w o w' o' ∧ RRw N w' o' a' c' (ml ++ [m]) := by
  obtain ⟨i, hi, hz, hsz, hby⟩ := info_of inf111
  obtain ⟨a', c', w', o', hrun, s2, hrow, _⟩ := LRow.push (ty := 66) Try.underlying66 hi hz hsz hby rfl (by decide) h ok hq hq' (xa := some (blk q)) (m := 1) (xc := 1) (news := m.C) rfl (RowAt.of_blk hb) m.one (by omega) (by omega)
  exact ⟨a', _, c', w', o', hrun, by simp, s2, by unfold RRw; rw [List.length_append, List.flatMap_append]; simpa using hrow⟩
end
set_option maxHeartbeats 4000000
open W (OwnB)
def putGo (m : Mem) : List Mem → Bool → List Mem
  | [], inb => if inb then [] else [m]
  | x :: r, inb => (if inb = false ∧ m.who ≤ x.who then [m] else []) ++ (if x.who = m.who then [] else [x]) ++ putGo m r (inb || decide (m.who ≤ x.who))
def mputR (l : List Mem) (m : Mem) : List Mem := putGo m l false
section
variable {w w' w1 : World} {o o' o1 : Own} {a b : Option Addr} {c d N : Nat} {s t : MS} {m : Mem} {cg : Chg} {ml : List Mem} {l : List Wr} {wa oa : Option Addr} {wc oc : Nat}
theorem Q3J (m : Mem) : ∀ l : List Mem, putGo m l true = l.filter fun x => decide (x.who ≠ m.who)
  | [] => rfl
  | x :: r => by
    simp only [putGo, Bool.true_or, Q3J m r, List.filter_cons]
    by_cases h : x.who = m.who <;> simp [h]
theorem Q2r (m : Mem) : ∀ l : List Mem, putGo m l false = l.take (findI l m.who) ++ m :: (l.drop (findI l m.who)).filter fun x => decide (x.who ≠ m.who)
  | [] => rfl
  | x :: r => by
    by_cases h : x.who < m.who
    · have e : findI (x :: r) m.who = findI r m.who + 1 := by unfold findI; rw [List.takeWhile_cons, if_pos (by simpa using h)]; rfl
      have h1 : ¬ m.who ≤ x.who := by omega
      have h2 : x.who ≠ m.who := by omega
      rw [e]
      simp [putGo, h1, h2, Q2r m r]
    · have e : findI (x :: r) m.who = 0 := by unfold findI; rw [List.takeWhile_cons, if_neg (by simpa using h)]; rfl
      have h1 : m.who ≤ x.who := by omega
      rw [e]
      simp only [putGo, h1, and_self, if_true, List.take_zero, List.nil_append, List.drop_zero, decide_true, Bool.or_true, Q3J, List.filter_cons, List.singleton_append]
      by_cases h2 : x.who = m.who <;> simp [h2]
theorem Q6D (hs : Sorted ml) (h : isAt ml m.who = false) : mputR ml m = ml.take (findI ml m.who) ++ m :: ml.drop (findI ml m.who) := by
  unfold mputR
  rw [Q2r, List.filter_eq_self.2]
  intro x hx
  obtain ⟨j, hj⟩ := List.getElem?_of_mem hx
  rw [List.getElem?_drop] at hj
  have hlt : findI ml m.who < ml.length := by have := (List.getElem?_eq_some_iff.1 hj).1; omega
  have hg : ml[findI ml m.who]? = some ml[findI ml m.who] := List.getElem?_eq_getElem hlt
  have h1 := Q5d hg
  have h2 : m.who ≠ (ml[findI ml m.who]).who := fun e => by
    unfold isAt at h; rw [hg] at h; exact of_decide_eq_false h e.symm
  rcases Nat.eq_zero_or_pos j with rfl | hp
  · rw [Nat.add_zero, hg] at hj; cases hj; simp; omega
  · have := hs.get hg hj (by omega); simp; omega
theorem Q5a (hs : Sorted ml) {x : Mem} (hx : ml[findI ml m.who]? = some x) (hw : x.who = m.who) : mputR ml m = ml.set (findI ml m.who) m := by
  have hlt := (List.getElem?_eq_some_iff.1 hx).1
  unfold mputR
  rw [Q2r, List.set_eq_take_append_cons_drop, if_pos hlt]
  congr 2
  rw [List.drop_eq_getElem_cons hlt]
  have e : ml[findI ml m.who] = x := (List.getElem?_eq_some_iff.1 hx).2
  rw [e, List.filter_cons, if_neg (by simpa using hw), List.filter_eq_self.2]
  intro y hy
  obtain ⟨j, hj⟩ := List.getElem?_of_mem hy
  rw [List.getElem?_drop] at hj
  have := hs.get hx hj (by omega)
  simp; omega
theorem who_F (x : Int) : Q0c.F x = decide (0 ≤ x ∧ x < 8) := by
  unfold Q0c.F
  by_cases h : x ≥ 0
  · rw [if_pos h]
    by_cases h2 : x < 8 <;> simp [h2] <;> omega
  · rw [if_neg h]
    rw [eq_comm, decide_eq_false_iff_not]; omega
theorem Q61 (ok : Tags w o) (p : Int) : Calls Try.prog 20 #[.int .u64 p] w (fun x w' => ∃ o' a' c', x = .returned (.agg #[.slice a' (newM p).ml.length c', .int .i64 (newM p).ep]) ∧ Step no w o w' o' ∧ Row w' o' a' ((newM p).ml.flatMap Mem.C) ∧ (newM p).ml.length ≤ c') := by
  refine (Q0Z.go p (R := fun v w' => ∃ o' a' c', v = (.agg #[.slice a' (newM p).ml.length c', .int .i64 (newM p).ep]) ∧ Step no w o w' o' ∧ Row w' o' a' ((newM p).ml.flatMap Mem.C) ∧ (newM p).ml.length ≤ c') ?_).mono fun x w' ⟨v, he, o', a', c', hv, hw⟩ => ⟨o', a', c', by rw [he, hv], hw⟩
  unfold Q0Z.N
  intro w3 q4 p5 X3 hb hq hq' hp w7 X7
  have s3 := (Step.of_no X3 ok).tag (p := p5) (j := p5) (hp p5 (by simp)).1 (by have := (hp p5 (by simp)).2; omega)
  have h5 := hp p5 (by simp)
  have M3 : Mine [p5] w3 (tag (grow w o) p5 p5) := fun p hp' => by rw [show p = p5 by simpa using hp']; exact ⟨by omega, Q1v⟩
  have s7 := Step.stores X7 s3.ok M3 (by simp)
  have r3 : Row w3 (tag (grow w o) p5 p5) (some (blk q4)) ((newM p).ml.flatMap Mem.C) := ⟨RowAt.of_blk hb, fun _ ad ha => by cases ha; rw [tag_ne (by show q4 ≠ p5; omega)]; exact grow_ge hq⟩
  exact ⟨_, some (blk q4), 1, rfl, s3.trans' s7 fun i hi => .inr (by simp at hi; omega), r3.step s7, Nat.le_refl _⟩
theorem Q5S (hr : Row w o a (ml.flatMap Mem.C)) (ok : Tags w o) (hs : Sorted ml) (hl : ml.length < 1000000) (ep x : Int) :
    Calls Try.prog 55 #[.agg #[.slice a ml.length c, .int .i64 ep], .int .i64 x] w (Ret (.tuple #[(findM ml x).1.V, .bool (findM ml x).2]) fun w' => ∃ o', Step no w o w' o') := by
  refine Q0Q.run a ml.length c ep x ?_
  unfold Q0Q.N
  intro w5 p7 X5 hp
  obtain ⟨s5, M5⟩ := Step.priv X5 hp ok
  have g : w.heap.size ≤ p7 := (hp p7 (by simp)).1
  refine ⟨fun m vs w1 => ∃ (t : Nat), vs = [.int .i64 t, .int .i64 0, .int .u64 0, .int .i64 0, .int .i64 0, .int .i64 0] ∧ m + t = ml.length ∧ w1 = w5 ∧ ∀ y ∈ ml.take t, y.who ≠ x, ml.length, ⟨0, rfl, rfl, rfl, by simp⟩, ?_⟩
  rintro m w1 i0 k1 k2 k3 k4 k5 ⟨t, hi, hm, rfl, hno⟩
  simp only [List.cons.injEq, Value.int.injEq, true_and, and_true] at hi
  obtain ⟨rfl, rfl, rfl, rfl, rfl, rfl⟩ := hi
  refine ⟨fun ht => ?_, fun ht w38 X38 => ?_⟩
  · have htl : t < ml.length := by omega
    have hg : ml[t]? = some ml[t] := List.getElem?_eq_getElem htl
    have hym := List.getElem_mem htl
    have htk : ml.take (t + 1) = ml.take t ++ [ml[t]] := by rw [List.take_add_one, hg]; rfl
    generalize ml[t] = y at *
    have hr5 := hr.step s5
    obtain ⟨ad, rfl⟩ := hr.1.faddr Mem.len (by decide) htl
    refine ⟨ad, rfl, by omega, by omega, y.who, by rw [Int.toNat_natCast]; exact hr5.1.fcell Mem.len hg 0 rfl, fun he => ⟨by omega, by omega, y.who, y.pub, y.fr, y.to_, y.lim, by rw [Int.toNat_natCast]; exact hr5.1.floads Mem.len hg, fun w32 X32 => ?_⟩, fun hne => ⟨by omega, by omega, m - 1, by omega, t + 1, rfl, by omega, rfl, fun z hz => ?_⟩⟩
    · have s32 := Step.stores X32 s5.ok M5 (by simp)
      have hF : findM ml x = (y, true) := by rw [← he]; exact Q5w hs hym
      rw [hF]
      exact ⟨rfl, _, s5.trans' s32 fun i hi => .inr (by simp at hi; omega)⟩
    · rw [htk] at hz
      rcases List.mem_append.1 hz with hz | hz
      · exact hno z hz
      · simp at hz; subst hz; exact hne
  · have s38 := Step.stores X38 s5.ok M5 (by simp)
    have : t = ml.length := by omega
    subst this
    rw [List.take_length] at hno
    have hF : findM ml x = (Mem.z, false) := by
      unfold findM
      rw [if_neg]
      intro h
      obtain ⟨y, hy, hw⟩ := Q36 h
      exact hno y (List.mem_of_getElem? hy) hw
    rw [hF]
    exact ⟨rfl, _, s5.trans' s38 fun i hi => .inr (by simp at hi; omega)⟩
theorem Q4s (hr : Row w o a (ml.flatMap Mem.C)) (ok : Tags w o) (hl : ml.length < 1000) (ep : Int) :
    Calls Try.prog 45 #[.agg #[.slice a ml.length c, .int .i64 ep]] w (fun x w' => ∃ o' a' c', x = .returned (.slice a' (nowM ml).length c') ∧ Step no w o w' o' ∧ Row w' o' a' ((nowM ml).flatMap Mem.C) ∧ (nowM ml).length ≤ c') := by
  refine (Q0S.go a ml.length c ep (R := fun v w' => ∃ o' a' c', v = (.slice a' (nowM ml).length c') ∧ Step no w o w' o' ∧ Row w' o' a' ((nowM ml).flatMap Mem.C) ∧ (nowM ml).length ≤ c') ?_).mono fun x w' ⟨v, he, o', a', c', hv, hw⟩ => ⟨o', a', c', by rw [he, hv], hw⟩
  unfold Q0S.N
  intro w3 p4 X3 hp
  obtain ⟨s3, M3⟩ := Step.priv X3 hp ok
  have g4 := hp p4 (by simp)
  refine ⟨fun m vs w1 => ∃ (t : Nat) (a1 : Option Addr) (c1 : Nat) (o1 : Own), vs = [.slice a1 (nowM (ml.take t)).length c1, .int .i64 t] ∧ m + t = ml.length ∧ Step no w o w1 o1 ∧ Mine [p4] w1 o1 ∧ w3.heap.size ≤ w1.heap.size ∧ RRw w3.heap.size w1 o1 a1 c1 (nowM (ml.take t)), ml.length, ⟨0, none, 0, _, rfl, rfl, s3, M3, Nat.le_refl _, LRow.nil _ _ _ _ _⟩, ?_⟩
  rintro m w1 ra rn rc i ⟨t, a1, c1, o1, hi, hm, s1, M1, hsz, r1⟩
  simp only [List.cons.injEq, Value.slice.injEq, Value.int.injEq, true_and, and_true] at hi
  obtain ⟨⟨rfl, rfl, rfl⟩, rfl⟩ := hi
  refine ⟨fun ht => ?_, fun ht => ?_⟩
  · have htl : t < ml.length := by omega
    have hg : ml[t]? = some ml[t] := List.getElem?_eq_getElem htl
    have htk : ml.take (t + 1) = ml.take t ++ [ml[t]] := by rw [List.take_add_one, hg]; rfl
    generalize ml[t] = x at *
    obtain ⟨ad, rfl⟩ := hr.1.faddr Mem.len (by decide) htl
    refine ⟨ad, rfl, by omega, by omega, x.to_, by rw [Int.toNat_natCast]; exact (hr.step s1).1.fcell Mem.len hg 3 rfl, fun hto => ⟨by omega, by omega, x.who, x.pub, x.fr, x.to_, x.lim, by rw [Int.toNat_natCast]; exact (hr.step s1).1.floads Mem.len hg, fun w25 q26 X25 hb hq hq' => ?_⟩, fun hto => ⟨by omega, by omega, ?_⟩⟩
    · have s25 := Step.of_no X25 s1.ok
      have r25 : RRw w3.heap.size w25 _ ra rc (nowM (ml.take t)) := LRow.step r1 s25 fun k h => h.elim
      have hln : (nowM (ml.take t)).length < 1000000 := by
        have h1 : (nowM (ml.take t)).length ≤ (ml.take t).length := List.length_filter_le _ _
        rw [List.length_take] at h1; omega
      obtain ⟨a', n', c', w', o', hrun, hn', s2, hrow⟩ := r25.push s25.ok hln x hb (by omega) hq'
      have hnw : nowM (ml.take (t + 1)) = nowM (ml.take t) ++ [x] := by rw [htk]; unfold nowM; rw [List.filter_append]; simp [hto]
      have hs3 := s3.size
      refine ⟨a', n', c', w', hrun, (M1.step s25).keep s2 (fun p hp' => by simp at hp'; omega), by omega, by omega, m - 1, by omega, t + 1, a', c', o', by rw [hn', hnw]; rfl, by omega, (s1.trans s25).trans' s2 fun i hi => .inr (by omega), (M1.step s25).step s2, Nat.le_trans hsz (Nat.le_trans X25.size s2.size), by rw [hnw]; exact hrow⟩
    · have hnw : nowM (ml.take (t + 1)) = nowM (ml.take t) := by rw [htk]; unfold nowM; rw [List.filter_append]; simp [hto]
      exact ⟨m - 1, by omega, t + 1, ra, rc, _, by rw [hnw]; simp, by omega, s1, M1, hsz, by rw [hnw]; exact r1⟩
  · have : t = ml.length := by omega
    subst this
    rw [List.take_length] at r1 ⊢
    exact ⟨_, ra, rc, rfl, noStep (K := no) s1, r1.give s1 s3.size, r1.le⟩
theorem Q5Z (hr : Row w o a (ml.flatMap Mem.C)) (ok : Tags w o) (hl : ml.length < 1000) (ep : Int) (m : Mem) :
    Calls Try.prog 56 #[.agg #[.slice a ml.length c, .int .i64 ep], m.V] w (fun x w' => ∃ o' a' c', x = .returned (.agg #[.slice a' (mputR ml m).length c', .int .i64 ep]) ∧ Step no w o w' o' ∧ Row w' o' a' ((mputR ml m).flatMap Mem.C) ∧ (mputR ml m).length ≤ c') := by
  refine (Q0g.go a ml.length c ep m.who m.pub m.fr m.to_ m.lim (R := fun v w' => ∃ o' a' c', v = (.agg #[.slice a' (mputR ml m).length c', .int .i64 ep]) ∧ Step no w o w' o' ∧ Row w' o' a' ((mputR ml m).flatMap Mem.C) ∧ (mputR ml m).length ≤ c') ?_).mono fun x w' ⟨v, he, o', a', c', hv, hw⟩ => ⟨o', a', c', by rw [he, hv], hw⟩
  unfold Q0g.N
  intro w13 p14 p15 p16 p17 X13 hp
  obtain ⟨s13, M13⟩ := Step.priv X13 hp ok
  have g : ∀ p ∈ [p14, p15, p16, p17], w.heap.size ≤ p := fun p h => (hp p h).1
  have hM : ∀ p ∈ [p14, p15, p16, p17], p < w13.heap.size := fun p h => M13.lt h
  have hs13 := s13.size
  refine ⟨fun k vs w1 => ∃ (inb : Bool) (t : Nat) (a1 : Option Addr) (c1 : Nat) (out : List Mem) (o1 : Own), vs = [.bool inb, .int .i64 t, .slice none 0 0, .int .i64 0, .slice a1 out.length c1, .int .i64 ep] ∧ k + t = ml.length ∧ Step no w o w1 o1 ∧ Mine [p14, p15, p16, p17] w1 o1 ∧ w13.heap.size ≤ w1.heap.size ∧ RRw w13.heap.size w1 o1 a1 c1 out ∧ out ++ putGo m (ml.drop t) inb = mputR ml m ∧ out.length ≤ 2 * t, ml.length, ⟨false, 0, none, 0, [], _, rfl, rfl, s13, M13, Nat.le_refl _, LRow.nil _ _ _ _ _, rfl, Nat.le_refl _⟩, ?_⟩
  intro k w26 inb0 i0 k5a k5n k5c k6 k11a k11n k11c k12 hI
  obtain ⟨inb, t, a1, c1, out, o1, hi, hk, s1, M1, hsz, r1, hout, hol⟩ := hI
  simp only [List.cons.injEq, Value.slice.injEq, Value.int.injEq, Value.bool.injEq, true_and, and_true] at hi
  obtain ⟨rfl, rfl, ⟨rfl, rfl, rfl⟩, rfl, ⟨rfl, rfl, rfl⟩, rfl⟩ := hi
  -- one more
  have psh : ∀ {wz : World} {oz : Own} {az : Option Addr} {cz : Nat} {outz : List Mem} (x : Mem) {wy : World} {q : Nat}, Step no w o wz oz → Mine [p14, p15, p16, p17] wz oz → w13.heap.size ≤ wz.heap.size → RRw w13.heap.size wz oz az cz outz → outz.length < 1000000 → Ext no wz wy → Blk wy q 111 x.C → wz.heap.size ≤ q → q < wy.heap.size →
      ∃ a' n' c' w' o', (Builtin.append_ #[66, 66] 66 #[.slice az outz.length cz, .slice (some (blk q)) 1 1]).run Try.prog wy = .ok (.slice a' n' c') w' ∧ n' = (outz ++ [x]).length ∧ (∀ L, (∀ p ∈ L, p ∈ [p14, p15, p16, p17]) → Keep L wy w') ∧ Step no w o w' o' ∧ Mine [p14, p15, p16, p17] w' o' ∧ w13.heap.size ≤ w'.heap.size ∧ RRw w13.heap.size w' o' a' c' (outz ++ [x]) := by
    intro wz oz az cz outz x wy q sz Mz hz rz hoz X hb hq hq'
    have sy := Step.of_no X sz.ok
    have ry : RRw w13.heap.size wy _ az cz outz := LRow.step rz sy fun k h => h.elim
    obtain ⟨a', n', c', w', o', hrun, hn', s2, hrow⟩ := ry.push sy.ok hoz x hb (by omega) hq'
    refine ⟨a', n', c', w', o', hrun, hn', fun L hL => ((Mz.step sy).sub hL).keep s2 (fun p hp' => by have := hM p (hL p hp'); omega), (sz.trans sy).trans' s2 fun i hi => .inr (by omega), (Mz.step sy).step s2, Nat.le_trans hz (Nat.le_trans X.size s2.size), hrow⟩
  -- a store into a block of one's own
  have sto : ∀ {wz wy : World} {oz : Own} {az : Option Addr} {cz : Nat} {outz : List Mem} {mm : Nat → Prop}, (∀ b, mm b → b ∈ [p14, p15, p16, p17]) → Step no w o wz oz → Mine [p14, p15, p16, p17] wz oz → w13.heap.size ≤ wz.heap.size → RRw w13.heap.size wz oz az cz outz → Ext mm wz wy → ∃ oy, Step no w o wy oy ∧ Mine [p14, p15, p16, p17] wy oy ∧ w13.heap.size ≤ wy.heap.size ∧ RRw w13.heap.size wy oy az cz outz := by
    intro wz wy oz az cz outz mm hmm sz Mz hz rz X
    have s2 := Step.stores X sz.ok Mz hmm
    exact ⟨_, sz.trans' s2 fun i hi => .inr (g i hi), Mz.step s2, Nat.le_trans hz s2.size, LRow.step rz s2 fun k hk => .inl (hM k hk)⟩
  refine ⟨fun ht => ?_, fun ht => ?_⟩
  · have htl : t < ml.length := by omega
    have hg : ml[t]? = some ml[t] := List.getElem?_eq_getElem htl
    have hdrop := List.drop_eq_getElem_cons htl
    rw [hdrop] at hout
    generalize ml[t] = x at *
    obtain ⟨ad, rfl⟩ := hr.1.faddr Mem.len (by decide) htl
    have c0 : ∀ {wz : World} {oz : Own}, Step no w o wz oz → wz.cell? ((ad.add (Int.toNat (t : Int) * 5)).add 0) = some (.int .i64 x.who) := fun sz => by rw [Int.toNat_natCast]; exact (hr.step sz).1.fcell Mem.len hg 0 rfl
    have ld : ∀ {wz : World} {oz : Own}, Step no w o wz oz → cellsAt wz (ad.add (Int.toNat (t : Int) * 5)) [.int .i64 x.who, .int .u64 x.pub, .int .i64 x.fr, .int .i64 x.to_, .int .i64 x.lim] 0 := fun sz => by rw [Int.toNat_natCast]; exact (hr.step sz).1.floads Mem.len hg
    refine ⟨fun hin => ⟨ad, rfl, by omega, by omega, x.who, c0 s1, fun hge w34 q35 X34 hb hq hq' => ?_, fun hlt => ⟨by omega, by omega, x.who, c0 s1, fun hne => ⟨by omega, by omega, x.who, x.pub, x.fr, x.to_, x.lim, ld s1, fun w34 q35 X34 hb hq hq' => ?_⟩, fun h => by omega⟩⟩, fun hin => ⟨ad, rfl, by omega, by omega, x.who, c0 s1, fun hne => ⟨by omega, by omega, x.who, x.pub, x.fr, x.to_, x.lim, ld s1, fun w34 q35 X34 hb hq hq' => ?_⟩, fun he => ⟨by omega, by omega, fun w75 X75 => ?_⟩⟩⟩
    · obtain ⟨a', n', c', w37, o37, hrun, hn', hkp, s37, M37, z37, r37⟩ := psh m s1 M1 hsz r1 (by omega) X34 hb hq hq'
      refine ⟨a', n', c', w37, hrun, hkp _ (fun p h => h), by omega, by omega, fun w39 X39 => ?_⟩
      obtain ⟨o39, s39, M39, z39, r39⟩ := sto (by simp) s37 M37 z37 r37 X39
      have hstep : out ++ [m] ++ (if x.who = m.who then [] else [x]) ++ putGo m (ml.drop (t + 1)) true = mputR ml m := by
        rw [← hout, hin]; simp only [putGo, show m.who ≤ x.who by omega, and_self, if_true, decide_true, Bool.or_true, List.append_assoc]
      refine ⟨x.who, c0 s39, fun hne => ⟨by omega, by omega, x.who, x.pub, x.fr, x.to_, x.lim, ld s39, fun w50 q51 X50 hb2 hq2 hq2' => ?_⟩, fun he => ⟨by omega, by omega, k - 1, by omega, true, t + 1, a', c', out ++ [m], o39, by rw [hn']; rfl, by omega, s39, M39, z39, r39, ?_, by simp; omega⟩⟩
      · rw [hn']
        obtain ⟨a2, n2, c2, w53, o53, hrun2, hn2, hkp2, s53, M53, z53, r53⟩ := psh x s39 M39 z39 r39 (by simp; omega) X50 hb2 hq2 hq2'
        refine ⟨a2, n2, c2, w53, hrun2, hkp2 _ (fun p h => h), by omega, by omega, fun w54 X54 => ?_⟩
        obtain ⟨o54, s54, M54, z54, r54⟩ := sto (by simp) s53 M53 z53 r53 X54
        rw [if_neg hne] at hstep
        exact ⟨k - 1, by omega, true, t + 1, a2, c2, out ++ [m] ++ [x], o54, by rw [hn2]; rfl, by omega, s54, M54, z54, r54, hstep, by simp; omega⟩
      · rw [if_pos he, List.append_nil] at hstep; exact hstep
    · obtain ⟨a', n', c', w37, o37, hrun, hn', hkp, s37, M37, z37, r37⟩ := psh x s1 M1 hsz r1 (by omega) X34 hb hq hq'
      refine ⟨a', n', c', w37, hrun, hkp _ (fun p h => h), by omega, by omega, fun w39 X39 => ?_⟩
      obtain ⟨o39, s39, M39, z39, r39⟩ := sto (by simp) s37 M37 z37 r37 X39
      refine ⟨k - 1, by omega, inb0, t + 1, a', c', out ++ [x], o39, by rw [hn']; rfl, by omega, s39, M39, z39, r39, ?_, by simp; omega⟩
      rw [← hout, hin]
      have h1 : ¬ m.who ≤ x.who := by omega
      simp [putGo, h1, hne]
    · obtain ⟨a', n', c', w37, o37, hrun, hn', hkp, s37, M37, z37, r37⟩ := psh x s1 M1 hsz r1 (by omega) X34 hb hq hq'
      refine ⟨a', n', c', w37, hrun, hkp _ (fun p h => h), by omega, by omega, fun w39 X39 => ?_⟩
      obtain ⟨o39, s39, M39, z39, r39⟩ := sto (by simp) s37 M37 z37 r37 X39
      refine ⟨k - 1, by omega, inb0, t + 1, a', c', out ++ [x], o39, by rw [hn']; rfl, by omega, s39, M39, z39, r39, ?_, by simp; omega⟩
      rw [← hout, hin]
      simp [putGo, hne]
    · obtain ⟨o75, s75, M75, z75, r75⟩ := sto (mm := no) (fun _ h => h.elim) s1 M1 hsz r1 X75
      refine ⟨k - 1, by omega, inb0, t + 1, _, _, out, o75, rfl, by omega, s75, M75, z75, r75, ?_, by omega⟩
      rw [← hout, hin]
      simp [putGo, he]
  · have : t = ml.length := by omega
    subst this
    rw [List.drop_length] at hout
    refine ⟨fun hin w95 q96 X95 hb hq hq' => ?_, fun hin w103 X103 => ?_⟩
    · obtain ⟨a', n', c', w37, o37, hrun, hn', hkp, s37, M37, z37, r37⟩ := psh m s1 M1 hsz r1 (by omega) X95 hb hq hq'
      refine ⟨a', n', c', w37, hrun, hkp _ (fun p h => by simp at h ⊢; omega), fun w101 X101 => ?_⟩
      obtain ⟨o39, s39, M39, z39, r39⟩ := sto (by simp [or_comm]) s37 M37 z37 r37 X101
      have : out ++ [m] = mputR ml m := by rw [← hout, hin]; rfl
      rw [this] at r39 hn'
      exact ⟨_, a', c', by rw [hn'], noStep (K := no) s39, r39.give s39 hs13, r39.le⟩
    · obtain ⟨o39, s39, M39, z39, r39⟩ := sto (by simp) s1 M1 hsz r1 X103
      have : out = mputR ml m := by rw [← hout, hin]; simp [putGo]
      rw [this] at r39 ⊢
      exact ⟨_, _, _, rfl, noStep (K := no) s39, r39.give s39 hs13, r39.le⟩
end
open W (OwnB)
section
variable {w w' w1 : World} {o o' o1 : Own} {a b : Option Addr} {c d N : Nat} {s t : MS} {m : Mem} {cg : Chg} {ml : List Mem} {l : List Wr} {wa oa : Option Addr} {wc oc : Nat}
theorem Q3D : boxesP [] = false := rfl
theorem Q54 (h : cg.kd = 1) : rightM cg = decide ((0 ≤ cg.who ∧ cg.who < 8) ∧ cg.pub ≠ 0 ∧ cg.lim = 0 ∧ cg.ws = [] ∧ cg.old = []) := by
  unfold rightM
  by_cases h1 : 0 ≤ cg.who ∧ cg.who < 8
  · rw [if_pos h1, show (cg.kd == 3) = false by rw [h]; rfl]
    by_cases h2 : cg.ws = [] ∧ cg.old = []
    · rw [h2.1, h2.2, if_pos Q3D.symm, if_neg (by simp), if_pos h]
      simp [h1]
    · have : decide ((0 ≤ cg.who ∧ cg.who < 8) ∧ cg.pub ≠ 0 ∧ cg.lim = 0 ∧ cg.ws = [] ∧ cg.old = []) = false := decide_eq_false fun h => h2 ⟨h.2.2.2.1, h.2.2.2.2⟩
      rw [this]
      split
      · rw [if_pos ⟨by rw [h]; decide, h2⟩]
      · rfl
  · rw [if_neg h1, eq_comm, decide_eq_false_iff_not]; exact fun h => h1 h.1
theorem Q59 (h : cg.kd = 2) : rightM cg = decide ((0 ≤ cg.who ∧ cg.who < 8) ∧ cg.who ≠ 0 ∧ cg.pub = 0 ∧ 0 ≤ cg.lim ∧ cg.lim ≤ 200 ∧ cg.ws = [] ∧ cg.old = []) := by
  unfold rightM
  by_cases h1 : 0 ≤ cg.who ∧ cg.who < 8
  · rw [if_pos h1, show (cg.kd == 3) = false by rw [h]; rfl]
    by_cases h2 : cg.ws = [] ∧ cg.old = []
    · rw [h2.1, h2.2, if_pos Q3D.symm, if_neg (by simp), if_neg (by rw [h]; decide), if_pos h]
      simp [h1]
    · have : decide ((0 ≤ cg.who ∧ cg.who < 8) ∧ cg.who ≠ 0 ∧ cg.pub = 0 ∧ 0 ≤ cg.lim ∧ cg.lim ≤ 200 ∧ cg.ws = [] ∧ cg.old = []) = false := decide_eq_false fun h => h2 ⟨h.2.2.2.2.2.1, h.2.2.2.2.2.2⟩
      rw [this]
      split
      · rw [if_pos ⟨by rw [h]; decide, h2⟩]
      · rfl
  · rw [if_neg h1, eq_comm, decide_eq_false_iff_not]; exact fun h => h1 h.1
theorem Q2Z (h : cg.kd = 3) : rightM cg = (boxesP cg.ws && decide (cg.who = 0 ∧ cg.pub = 0 ∧ cg.lim = 0 ∧ (cg.old.length = 0 ∨ cg.old.length = 24))) := by
  unfold rightM
  by_cases h1 : 0 ≤ cg.who ∧ cg.who < 8
  · rw [if_pos h1, show (cg.kd == 3) = true by rw [h]; rfl]
    cases hb : boxesP cg.ws
    · rw [if_neg (by decide)]; rfl
    · rw [if_pos rfl, if_neg (fun h' => h'.1 h), if_neg (by rw [h]; decide), if_neg (by rw [h]; decide), if_pos h]; rfl
  · rw [if_neg h1]
    have : decide (cg.who = 0 ∧ cg.pub = 0 ∧ cg.lim = 0 ∧ (cg.old.length = 0 ∨ cg.old.length = 24)) = false := decide_eq_false fun h => h1 (by rw [h.1]; decide)
    rw [this, Bool.and_false]
theorem Q6y (h1 : cg.kd ≠ 1) (h2 : cg.kd ≠ 2) (h3 : cg.kd ≠ 3) : rightM cg = false := by
  unfold rightM
  split
  · split
    · split
      · rfl
      · simp only [if_neg h1, if_neg h2, if_neg h3]
    · rfl
  · rfl
theorem Q3r (hr : RowAt w wa (l.flatMap Wr.C)) (hl : l.map Wr.p = cg.ws) (hn : l.length < 1000000) (ho : cg.old.length < 1000000) :
    Calls Try.prog 54 #[chgV cg wa wc oa oc] w (Ret (.bool (rightM cg)) fun w' => Ext no w w') := by
  refine Q0w.run cg.kd cg.who cg.pub cg.lim wa cg.ws.length wc oa cg.old.length oc ?_
  unfold Q0w.N
  simp only [who_F]
  have hlen : cg.ws.length = l.length := by rw [← hl]; simp
  have hz : cg.ws = [] ↔ cg.ws.length = 0 := List.length_eq_zero_iff.symm
  have hz2 : cg.old = [] ↔ cg.old.length = 0 := List.length_eq_zero_iff.symm
  have key : ∀ {w1 : World} {b : Bool}, Ext no w w1 → b = rightM cg → Value.bool b = .bool (rightM cg) ∧ Ext no w w1 := fun X h => ⟨by rw [h], X⟩
  have f1 : cg.kd = 1 → ¬ ((0 ≤ cg.who ∧ cg.who < 8) ∧ cg.pub ≠ 0 ∧ cg.lim = 0 ∧ cg.ws = [] ∧ cg.old = []) → false = rightM cg := fun h h2 => by rw [Q54 h, decide_eq_false h2]
  have f2 : cg.kd = 2 → ¬ ((0 ≤ cg.who ∧ cg.who < 8) ∧ cg.who ≠ 0 ∧ cg.pub = 0 ∧ 0 ≤ cg.lim ∧ cg.lim ≤ 200 ∧ cg.ws = [] ∧ cg.old = []) → false = rightM cg := fun h h2 => by rw [Q59 h, decide_eq_false h2]
  have f3 : cg.kd = 3 → ¬ (cg.who = 0 ∧ cg.pub = 0 ∧ cg.lim = 0 ∧ (cg.old.length = 0 ∨ cg.old.length = 24)) → false = rightM cg := fun h h2 => by rw [Q2Z h, decide_eq_false h2, Bool.and_false]
  have f4 : cg.kd = 3 → boxesP cg.ws = false → false = rightM cg := fun h h2 => by rw [Q2Z h, h2, Bool.false_and]
  have f5 : cg.kd ≠ 1 → cg.kd ≠ 2 → cg.kd ≠ 3 → false = rightM cg := fun a b c => (Q6y a b c).symm
  refine ⟨fun ho0 => ⟨fun h3 w7 X => key X ?_, fun h3 => ⟨fun h24 w7 X => key X (f3 h3 (by omega)), fun h24 => ?_⟩⟩, fun ho0 => ?_⟩
  · by_cases h1 : cg.kd = 1
    · exact f1 h1 (by rw [hz2]; omega)
    · by_cases h2 : cg.kd = 2
      · exact f2 h2 (by rw [hz2]; omega)
      · exact f5 h1 h2 h3
  all_goals have hoo : cg.old.length = 0 ∨ cg.old.length = 24 := by omega
  all_goals refine ⟨fun h1 => ?_, fun h1 => ⟨fun h2 => ?_, fun h2 => ⟨fun h3 w7 X7 => ?_, fun h3 w7 X7 => key X7 (f5 h1 h2 h3)⟩⟩⟩
  all_goals try (exfalso; omega)
  rotate_left
  · refine ⟨fun hw => ⟨fun hp => ⟨fun hl1 w14 X => key X ?_, fun hl1 w14 X => key X (f1 h1 fun h => hl1 h.2.2.1)⟩, fun hp w14 X => key X (f1 h1 fun h => h.2.1 hp)⟩, fun hw w14 X => key X (f1 h1 fun h => of_decide_eq_false hw h.1)⟩
    rw [Q54 h1, Bool.eq_iff_iff, beq_iff_eq, decide_eq_true_iff]
    exact ⟨fun h => ⟨of_decide_eq_true hw, hp, hl1, hz.2 (by omega), hz2.2 (by omega)⟩, fun h => by rw [h.2.2.2.1]; rfl⟩
  · refine ⟨fun hw => ⟨fun hw0 => ⟨fun hp => ⟨fun hl0 => ⟨fun hl1 w14 X => key X ?_, fun hl1 w14 X => key X (f2 h2 fun h => by omega)⟩, fun hl0 w14 X => key X (f2 h2 fun h => by omega)⟩, fun hp w14 X => key X (f2 h2 fun h => hp h.2.2.1)⟩, fun hw0 w14 X => key X (f2 h2 fun h => h.2.1 hw0)⟩, fun hw w14 X => key X (f2 h2 fun h => of_decide_eq_false hw h.1)⟩
    rw [Q59 h2, Bool.eq_iff_iff, beq_iff_eq, decide_eq_true_iff]
    exact ⟨fun h => ⟨of_decide_eq_true hw, hw0, hp, hl0, hl1, hz.2 (by omega), hz2.2 (by omega)⟩, fun h => by rw [h.2.2.2.2.2.1]; rfl⟩
  all_goals
    refine ⟨fun m vs w1 => ∃ (t : Nat) (last : Int), vs = [.int .i64 t] ∧ m + t = l.length ∧ Ext no w w1 ∧ boxesGo (-1) cg.ws = boxesGo last (cg.ws.drop t) ∧ (t = 0 → last = -1) ∧ (∀ x, 0 < t → cg.ws[t - 1]? = some x → last = x.1), l.length, ⟨0, -1, rfl, rfl, X7, rfl, fun _ => rfl, fun x h => absurd h (by omega)⟩, ?_⟩
    rintro m w1 i ⟨t, last, hi, hm, X1, hbx, hz0, hzp⟩
    simp only [List.cons.injEq, Value.int.injEq, true_and, and_true] at hi
    subst hi
    refine ⟨fun ht => ?_, fun ht => ?_⟩
    · have htl : t < l.length := by omega
      have htw : t < cg.ws.length := by omega
      have hg : l[t]? = some l[t] := List.getElem?_eq_getElem htl
      have hgw : cg.ws[t]? = some l[t].p := by rw [← hl, List.getElem?_map, hg]; rfl
      have hgw' : cg.ws[t] = l[t].p := (List.getElem?_eq_some_iff.1 hgw).2
      rw [Q2R htw, hgw'] at hbx
      have hprev : ∀ (_ : 0 < t), ∃ y, l[t - 1]? = some y ∧ last = y.who := fun h0 => by
        have h1 : t - 1 < l.length := by omega
        exact ⟨l[t - 1], List.getElem?_eq_getElem h1, hzp (l[t - 1]).p h0 (by rw [← hl, List.getElem?_map, List.getElem?_eq_getElem h1]; rfl)⟩
      generalize l[t] = x at *
      have hr1 := hr.no X1
      obtain ⟨ad, rfl⟩ := hr.faddr Wr.len (by decide) htl
      refine ⟨ad, rfl, by omega, by omega, x.who, by rw [Int.toNat_natCast]; exact hr1.fcell Wr.len hg 0 rfl, fun hw w46 X46 => key (X1.trans X46) (f4 h3 ?_), fun hw => ⟨by omega, by omega, x.a, x.b.length, x.c, by rw [Int.toNat_natCast]; exact hr1.fcell Wr.len hg 1 rfl, fun hb w46 X46 => key (X1.trans X46) (f4 h3 ?_), fun hb => ⟨fun hi => ?_, fun hi => ⟨by omega, by omega, fun w46 X46 => ⟨m - 1, by omega, t + 1, x.who, rfl, by omega, X1.trans X46, ?_, fun h => by omega, fun y _ hy => ?_⟩⟩⟩⟩⟩
      · unfold boxesP; rw [hbx, show decide (0 ≤ x.p.1 ∧ x.p.1 < 8) = false from hw]; rfl
      · unfold boxesP; rw [hbx, show decide (x.p.2.length = 16) = false from decide_eq_false fun h => hb (by rw [show x.b.length = 16 from h]; rfl)]; simp
      · obtain ⟨y, hy, hyl⟩ := hprev (by omega)
        refine ⟨by omega, by omega, by omega, by omega, y.who, by rw [show ((t : Int) - 1).toNat = t - 1 by omega]; exact hr1.fcell Wr.len hy 0 rfl, by omega, by omega, x.who, by rw [Int.toNat_natCast]; exact hr1.fcell Wr.len hg 0 rfl, fun hge w46 X46 => key (X1.trans X46) (f4 h3 ?_), fun hlt => ⟨by omega, by omega, fun w46 X46 => ⟨m - 1, by omega, t + 1, x.who, rfl, by omega, X1.trans X46, ?_, fun h => by omega, fun y _ hy => ?_⟩⟩⟩
        · unfold boxesP; rw [hbx, show decide (last < x.p.1) = false from decide_eq_false fun h => by have : last < x.who := h; omega]; simp
        · rw [hbx, show decide (0 ≤ x.p.1 ∧ x.p.1 < 8) = true from hw, decide_eq_true (show last < x.p.1 by show last < x.who; omega), decide_eq_true (show x.p.2.length = 16 by show x.b.length = 16; omega)]; rfl
        · rw [Nat.add_sub_cancel, hgw] at hy; cases hy; rfl
      · have h0 := hz0 (by omega)
        have hw' : 0 ≤ x.who ∧ x.who < 8 := of_decide_eq_true hw
        rw [hbx, show decide (0 ≤ x.p.1 ∧ x.p.1 < 8) = true from hw, decide_eq_true (show last < x.p.1 by show last < x.who; omega), decide_eq_true (show x.p.2.length = 16 by show x.b.length = 16; omega)]; rfl
      · rw [Nat.add_sub_cancel, hgw] at hy; cases hy; rfl
    · have htt : cg.ws.drop t = [] := List.drop_eq_nil_of_le (by omega)
      rw [htt] at hbx
      have hbP : boxesP cg.ws = decide ((cg.ws.length : Int) > 0) := by
        unfold boxesP; rw [hbx]
        show (true && decide (cg.ws ≠ [])) = _
        rw [Bool.true_and, decide_eq_decide, Ne, hz]; omega
      refine ⟨fun hw => ⟨fun hp => ⟨fun hl1 => key X1 ?_, fun hl1 => key X1 (f3 h3 fun h => hl1 h.2.2.1)⟩, fun hp => key X1 (f3 h3 fun h => hp h.2.1)⟩, fun hw => key X1 (f3 h3 fun h => hw h.1)⟩
      rw [Q2Z h3, ← hbP, decide_eq_true (show cg.who = 0 ∧ cg.pub = 0 ∧ cg.lim = 0 ∧ (cg.old.length = 0 ∨ cg.old.length = 24) from ⟨hw, hp, hl1, hoo⟩), Bool.and_true]
theorem findM_2 (ml : List Mem) (x : Int) : (findM ml x).2 = isAt ml x := by
  unfold findM; cases h : isAt ml x <;> simp [h]
theorem Q6N {x : Int} (h : isAt ml x = true) : ∃ m, ml[findI ml x]? = some m ∧ m.who = x ∧ findM ml x = (m, true) := by
  obtain ⟨m, hm, hw⟩ := Q36 h
  exact ⟨m, hm, hw, by unfold findM; rw [if_pos h, hm]; rfl⟩
theorem Q4N (hr : Row w o a (s.ml.flatMap Mem.C)) (ok : Tags w o) (hs : s.ok) (hc : s.ml.length ≤ c) (hw : Row w o wa (l.flatMap Wr.C)) (hl : l.map Wr.p = cg.ws) (hn : l.length < 1000000) (ho : cg.old.length < 1000000) :
    Calls Try.prog 24 #[.agg #[.slice a s.ml.length c, .int .i64 s.ep], chgV cg wa wc oa oc] w (MsG w o (applyM s cg)) := by
  have hle := hs.le
  have h0 := hs.ep0
  have h1 := hs.ep1
  have hlen : cg.ws.length = l.length := by rw [← hl]; simp
  refine (Q09.go a s.ml.length c s.ep cg.kd cg.who cg.pub cg.lim wa cg.ws.length wc oa cg.old.length oc (R := MsR w o (applyM s cg)) ?_).mono fun x w' ⟨v, he, h⟩ => h.of he
  unfold Q09.N
  intro w11 p12 p13 p14 X11 hp
  obtain ⟨s11, M11⟩ := Step.priv X11 hp ok
  have g : ∀ p ∈ [p12, p13, p14], w.heap.size ≤ p := fun p h => (hp p h).1
  refine (Q3r (hw.step s11).1 hl hn ho).mono fun e w17 ⟨he, X17⟩ => ⟨_, he, X17.kept, fun hf w20 X20 => ?_, fun hf => ?_⟩
  all_goals have s17' := Step.of_no X17 s11.ok
  all_goals have s17 := s11.trans s17'
  all_goals have M17 := M11.step s17'
  · have s20 := Step.stores X20 s17'.ok (M17.sub (M := [p14]) (by simp)) (by simp)
    unfold applyM; rw [if_neg (by rw [hf]; decide)]
    exact MsR.zero (s17.trans' s20 fun i hi => .inr (g i (by simp at hi ⊢; omega))) 1
  refine (Q5S (hr.step s17) s17.ok hs.sorted (by omega) s.ep cg.who).mono fun e w28 ⟨he, o28, s28'⟩ => ⟨_, _, _, _, _, _, he, M17.keep s28' fun _ _ => id, ?_⟩
  have s28 := s17.trans s28'
  have M28 := M17.step s28'
  have hA : applyM s cg = if cg.kd = 1 then inviteM s cg else if cg.kd = 2 then revokeM s cg else beginM s cg := by unfold applyM; rw [if_pos hf]
  have zero : ∀ {w20 : World} (k : Int), applyM s cg = (MS.z, k) → Ext (fun b => b = p14) w28 w20 → MsR w o (applyM s cg) (.tuple #[.agg #[.slice none 0 0, .int .i64 0], .int .i64 k]) w20 := fun k hk X => by
    rw [hk]
    have s20 := Step.stores X s28.ok (M28.sub (M := [p14]) (by simp)) (by simp)
    exact MsR.zero (s28.trans' s20 fun i hi => .inr (g i (by simp at hi ⊢; omega))) k
  have put : ∀ {w34 : World} (m : Mem), applyM s cg = (⟨mputR s.ml m, s.ep⟩, 0) → Ext no w28 w34 →
      Calls Try.prog 56 #[.agg #[.slice a s.ml.length c, .int .i64 s.ep], m.V] w34 fun ee43 ww44 => ∃ (L41a : Option Addr) (L41n L41c : Nat) (Epoch42 : Int), ee43 = .returned (.agg #[.slice L41a L41n L41c, .int .i64 Epoch42]) ∧ Keep [p14] w34 ww44 ∧
        ∀ (ww46 : World), Ext (fun b => b = p14) ww44 ww46 → MsR w o (applyM s cg) (.tuple #[.agg #[.slice L41a L41n L41c, .int .i64 Epoch42], .int .i64 0]) ww46 := fun m hk X => by
    rw [hk]
    have s34' := Step.of_no X s28.ok
    have s34 := s28.trans s34'
    refine (Q5Z (hr.step s34) s34.ok (by omega) s.ep m).mono fun x w44 ⟨o44, a', c', he, s44, r44, hc'⟩ => ⟨_, _, _, _, he, ((M28.step s34').sub (M := [p14]) (by simp)).keep s44 fun _ _ => id, fun w46 X46 => ?_⟩
    have s46 := Step.stores X46 s44.ok ((((M28.step s34').step s44)).sub (M := [p14]) (by simp)) (by simp)
    exact ⟨_, a', c', rfl, (s34.trans s44).trans' s46 fun i hi => .inr (g i (by simp at hi ⊢; omega)), r44.step s46, hc'⟩
  have hF2 := findM_2 s.ml cg.who
  refine ⟨fun hk => ?_, fun hk1 => ⟨fun hk => ?_, fun hk2 => ?_⟩⟩
  · rw [if_pos hk] at hA
    refine ⟨fun hi w38 X => zero 13 ?_ X, fun hi => ⟨by omega, by omega, fun w34 X => put ⟨cg.who, cg.pub, s.ep + 1, -1, 0⟩ ?_ X⟩⟩
    · rw [hA]; unfold inviteM; rw [if_pos (by rw [← hF2]; exact hi)]
    · rw [hF2] at hi
      rw [hA]; unfold inviteM; rw [if_neg (by rw [hi]; decide), Q6D hs.sorted hi]
  · rw [if_neg (by omega), if_pos hk] at hA
    refine ⟨fun hi w38 X => zero 20 ?_ X, fun hi => ?_⟩
    · rw [hA]; unfold revokeM; rw [if_neg (by rw [← hF2, hi]; decide)]
    · rw [hF2] at hi
      obtain ⟨m, hm, hmw, hF⟩ := Q6N hi
      rw [hF]
      have hR : revokeM s cg = if m.to_ = -1 then (⟨s.ml.set (findI s.ml cg.who) { m with to_ := if s.ep < 0 then -2 else s.ep, lim := cg.lim }, s.ep⟩, 0) else (MS.z, 10) := by unfold revokeM; rw [if_pos hi, hm]
      refine ⟨fun hto w38 X => zero 10 ?_ X, fun hto => ⟨fun he w59 X => put ⟨m.who, m.pub, m.fr, -2, cg.lim⟩ ?_ X, fun he w59 X => put ⟨m.who, m.pub, m.fr, s.ep, cg.lim⟩ ?_ X⟩⟩
      · rw [hA, hR, if_neg hto]
      · rw [hA, hR, if_pos hto, if_pos he, Q5a (m := ⟨m.who, m.pub, m.fr, -2, cg.lim⟩) hs.sorted (x := m) (by show s.ml[findI s.ml m.who]? = _; rw [hmw]; exact hm) rfl]
        show _ = (MS.mk (s.ml.set (findI s.ml m.who) _) _, _)
        rw [hmw]
      · rw [hA, hR, if_pos hto, if_neg (by omega), Q5a (m := ⟨m.who, m.pub, m.fr, s.ep, cg.lim⟩) hs.sorted (x := m) (by show s.ml[findI s.ml m.who]? = _; rw [hmw]; exact hm) rfl]
        show _ = (MS.mk (s.ml.set (findI s.ml m.who) _) _, _)
        rw [hmw]
  · rw [if_neg hk1, if_neg hk2] at hA
    refine ⟨fun he w38 X => zero 2 ?_ X, fun he w34 X34 => ?_⟩
    · rw [hA]; unfold beginM; rw [if_pos (by omega)]
    have hB : applyM s cg = if ((cg.old.length : Int) == 0) = decide (s.ep < 0) then (if (nowM s.ml).map Mem.who = cg.ws.map Prod.fst then (⟨s.ml, s.ep + 1⟩, 0) else (MS.z, 10)) else (MS.z, 10) := by rw [hA]; unfold beginM; rw [if_neg (by omega)]
    have s34' := Step.of_no X34 s28.ok
    have s34 := s28.trans s34'
    have M34 := M28.step s34'
    refine (Q4s (hr.step s34) s34.ok (by omega) s.ep).mono fun x w82 ⟨o82, na, nc, hx, s82', r82, _⟩ => ⟨_, _, _, hx, M34.keep s82' fun _ _ => id, ?_⟩
    have s82 := s34.trans s82'
    have M82 := M34.step s82'
    have ten : ∀ {w1 w20 : World} {o1 : Own}, applyM s cg = (MS.z, 10) → Step no w o w1 o1 → Mine [p12, p13, p14] w1 o1 → Ext (fun b => b = p14) w1 w20 → MsR w o (applyM s cg) (.tuple #[.agg #[.slice none 0 0, .int .i64 0], .int .i64 10]) w20 := fun hk s1 M1 X => by
      rw [hk]
      have s20 := Step.stores X s1.ok (M1.sub (M := [p14]) (by simp)) (by simp)
      exact MsR.zero (s1.trans' s20 fun i hi => .inr (g i (by simp at hi ⊢; omega))) 10
    have hnl : (nowM s.ml).length ≤ s.ml.length := List.length_filter_le _ _
    refine ⟨fun hne w85 X85 => ten ?_ s82 M82 X85, fun heq => ⟨fun hne w85 X85 => ten ?_ s82 M82 X85, fun heo => ?_⟩⟩
    · rw [hB, if_neg (c := (nowM s.ml).map Mem.who = cg.ws.map Prod.fst) (fun h => hne (by have := congrArg List.length h; simp at this; omega)), ite_self]
    · rw [hB, if_neg]
      intro h
      apply hne
      rw [h, Bool.eq_iff_iff, decide_eq_true_iff, beq_iff_eq]; omega
    have hB2 : applyM s cg = if (nowM s.ml).map Mem.who = cg.ws.map Prod.fst then (⟨s.ml, s.ep + 1⟩, 0) else (MS.z, 10) := by
      rw [hB, if_pos]
      rw [heo, Bool.eq_iff_iff, decide_eq_true_iff, beq_iff_eq]; omega
    refine ⟨fun m vs w1 => ∃ (t : Nat) (o1 : Own), vs = [.int .i64 t, .slice none 0 0, .int .i64 0] ∧ m + t = (nowM s.ml).length ∧ Step no w82 o82 w1 o1 ∧ ((nowM s.ml).map Mem.who).take t = (cg.ws.map Prod.fst).take t, (nowM s.ml).length, ⟨0, o82, rfl, rfl, Step.refl _ s82.ok, rfl⟩, ?_⟩
    rintro m w94 i0 xa xn xc xe ⟨t, o94, hi, hm, s94, htk⟩
    simp only [List.cons.injEq, Value.slice.injEq, Value.int.injEq, true_and, and_true] at hi
    obtain ⟨rfl, ⟨rfl, rfl, rfl⟩, rfl⟩ := hi
    refine ⟨fun ht => ?_, fun ht => ⟨by omega, by omega, fun w108 X108 => ?_⟩⟩
    · have htl : t < (nowM s.ml).length := by omega
      have htw : t < l.length := by omega
      have hg : (nowM s.ml)[t]? = some (nowM s.ml)[t] := List.getElem?_eq_getElem htl
      have hgw : l[t]? = some l[t] := List.getElem?_eq_getElem htw
      have e1 : ((nowM s.ml).map Mem.who)[t]? = some (nowM s.ml)[t].who := by rw [List.getElem?_map, hg]; rfl
      have e2 : (cg.ws.map Prod.fst)[t]? = some l[t].who := by rw [← hl, List.getElem?_map, List.getElem?_map, hgw]; rfl
      generalize (nowM s.ml)[t] = x at *
      generalize l[t] = y at *
      obtain ⟨ad, rfl⟩ := r82.1.faddr Mem.len (by decide) htl
      obtain ⟨bd, rfl⟩ := hw.1.faddr Wr.len (by decide) htw
      refine ⟨ad, rfl, by omega, by omega, x.who, by rw [Int.toNat_natCast]; exact (r82.step s94).1.fcell Mem.len hg 0 rfl, bd, rfl, by omega, by omega, y.who, by rw [Int.toNat_natCast]; exact ((hw.step s82).step s94).1.fcell Wr.len hgw 0 rfl, fun hne w105 X105 => ten ?_ (s82.trans s94) (M82.step s94) X105, fun heq => ⟨by omega, by omega, fun w96 X96 => ⟨m - 1, by omega, t + 1, _, rfl, by omega, s94.trans (Step.of_no X96 s94.ok), ?_⟩⟩⟩
      · rw [hB2, if_neg]
        intro h
        rw [h, e2] at e1
        exact hne (Option.some.inj e1).symm
      · rw [List.take_add_one, List.take_add_one, htk, e1, e2, heq]
    · have hall : (nowM s.ml).map Mem.who = cg.ws.map Prod.fst := by
        rwa [List.take_of_length_le (by simp; omega), List.take_of_length_le (by simp; omega)] at htk
      rw [hB2, if_pos hall]
      have s94w := s82.trans s94
      have s108 := Step.stores X108 s94.ok ((M82.step s94).sub (M := [p14]) (by simp)) (by simp)
      have sF := s94w.trans' s108 fun i hi => .inr (g i (by simp at hi ⊢; omega))
      exact ⟨_, a, c, rfl, sF, hr.step sF, hc⟩
end
def clone64.M (a3 : Option Addr) (a5 a6 : Nat) (R : RW) (w : World) : Prop :=
 bif Option.isNone a3 then (
 R (.slice none 0 0) w) else (
 thenW (w.alloc (.cells #[] 36)) fun a7 =>
 ∃ (a4 : Option Addr) (a1 a0 : Nat) (a2 : World), (Builtin.append_ #[22, 22] 22 #[.slice (some (blk w.heap.size)) 0 0, .slice a3 a5 a6]).run Try.prog a7 = .ok (.slice a4 a1 a0) a2 ∧
 R (.slice a4 a1 a0) a2)

theorem clone64.ok (a1 : Option Addr) (a0 a2 : Nat) {R : RW} {w : World} (h : clone64.M a1 a0 a2 R w) : Calls Try.prog 36 #[.slice a1 a0 a2] w fun e w' => ∃ v, e = .returned v ∧ R v w' :=
  Q0i follows (H := []) (args := [.slice a1 a0 a2]) (cast (by kernel_rfl) h)

def cloneB.M (a3 : Option Addr) (a5 a6 : Nat) (R : RW) (w : World) : Prop :=
 bif Option.isNone a3 then (
 R (.slice none 0 0) w) else (
 thenW (w.alloc (.cells #[] 5)) fun a7 =>
 ∃ (a4 : Option Addr) (a1 a0 : Nat) (a2 : World), (Builtin.append_ #[25, 25] 25 #[.slice (some (blk w.heap.size)) 0 0, .slice a3 a5 a6]).run Try.prog a7 = .ok (.slice a4 a1 a0) a2 ∧
 R (.slice a4 a1 a0) a2)

theorem cloneB.ok (a1 : Option Addr) (a0 a2 : Nat) {R : RW} {w : World} (h : cloneB.M a1 a0 a2 R w) : Calls Try.prog 60 #[.slice a1 a0 a2] w fun e w' => ∃ v, e = .returned v ∧ R v w' :=
  Q0i follows (H := []) (args := [.slice a1 a0 a2]) (cast (by kernel_rfl) h)

def oNew.M (a5 : Option Addr) (a4 a3 : Nat) (R : RW) (w : World) : Prop :=
 Calls Try.prog 36 #[.slice a5 a4 a3] w fun ah af => ∃ (a2 : Option Addr) (a1 a0 : Nat), ah = .returned (.slice a2 a1 a0) ∧
 thenW (af.alloc (.map #[] 0)) fun ag =>
 thenW (ag.alloc (.map #[] 0)) fun ad =>
 thenW (ad.alloc (.map #[] 0)) fun ac =>
 thenW (ac.alloc (.map #[] 0)) fun ab =>
 thenW (ab.alloc (.map #[] 0)) fun ae =>
 thenW (ae.alloc (.map #[] 0)) fun a8 =>
 thenW (a8.alloc (.map #[] 0)) fun a6 =>
 thenW (a6.alloc (.map #[] 0)) fun a7 =>
 thenW (a7.alloc (.map #[] 0)) fun a9 =>
 thenW (a9.alloc (.cells #[.slice a2 a1 a0, .map (some af.heap.size), .int .u64 1, .map (some ag.heap.size), .map (some ad.heap.size), .map (some ac.heap.size), .map (some ab.heap.size), .map (some ae.heap.size), .map (some a8.heap.size), .map (some a6.heap.size), .map (some a7.heap.size)] 102)) fun aa =>
 R (.pointer (some (blk a9.heap.size))) aa

theorem oNew.ok (a1 : Option Addr) (a0 a2 : Nat) {R : RW} {w : World} (h : oNew.M a1 a0 a2 R w) : Calls Try.prog 15 #[.slice a1 a0 a2] w fun e w' => ∃ v, e = .returned v ∧ R v w' :=
  Q0i follows (H := []) (args := [.slice a1 a0 a2]) (cast (by kernel_rfl) h)

def oTake.M (o1 : Option Addr) (h2 : Int) (R : RW) (w : World) : Prop :=
 bif h2 == 0 then (
 R (.bool false) w) else (
 o1.elim False fun a3 =>
 ∃ (a1 : Option Nat), w.cell? (a3.add 1) = some (.map a1) ∧
 ∃ (v5 : Bool), (Instr.lookup 94 (.map a1) (.int .u64 h2) false).run Try.prog w = .ok (.bool v5) w ∧
 bif v5 then (
 R (.bool false) w) else (
 o1.elim False fun a6 =>
 ∃ (a0 : Option Nat), w.cell? (a6.add 1) = some (.map a0) ∧
 ∃ a2 : World, (Instr.mapUpdate 94 (.map a0) (.int .u64 h2) (.bool true)).run Try.prog w = .ok () a2 ∧
 R (.bool true) a2))

theorem oTake.ok (o1 : Option Addr) (h2 : Int) {R : RW} {w : World} (h : oTake.M o1 h2 R w) : Calls Try.prog 72 #[.pointer o1, .int .u64 h2] w fun e w' => ∃ v, e = .returned v ∧ R v w' :=
  Q0i follows (H := []) (args := [.pointer o1, .int .u64 h2]) (cast (by kernel_rfl) h)

def oFresh.M (o1 : Option Addr) (R : RW) (w : World) : Prop :=
 ∃ (I0 : Nat → List Value → World → Prop) (m2 : Nat), I0 m2 [] w ∧ ∀ (m3 : Nat) (ai : World), I0 m3 [] ai →
 o1.elim False fun a5 =>
 ∃ (af : Option Addr) (a3 ag : Nat), ai.cell? (a5.add 0) = some (.slice af a3 ag) ∧
 bif decide ((a3 : Int) > 0) then (
 o1.elim False fun a7 =>
 ∃ (a6 : Option Addr) (a4 ah : Nat), ai.cell? (a7.add 0) = some (.slice a6 a4 ah) ∧
 a6.elim False fun a9 =>
 0 ≤ (0 : Int) ∧ (0 : Int) < (a4 : Int) ∧
 ∃ (ao : Int), ai.cell? (a9.add (Int.toNat 0 * 1)) = some (.int .u64 ao) ∧
 o1.elim False fun ax =>
 ∃ (a2 : Option Addr) (a1 a0 : Nat), ai.cell? (ax.add 0) = some (.slice a2 a1 a0) ∧
 (0 : Int) ≤ (1 : Int) ∧ (1 : Int) ≤ (a1 : Int) ∧
 o1.elim False fun aq =>
 Q0d ai ((aq.add 0).add 0) ∧
 thenW (ai.setCell ((aq.add 0).add 0) (.slice (if a0 = Int.toNat 1 then a2 else Option.map (fun z : Addr => z.add ((Int.toNat 1) * 1)) a2) (a1 - (Int.toNat 1)) (a0 - (Int.toNat 1)))) fun am =>
 Calls Try.prog 72 #[.pointer o1, .int .u64 ao] am fun al ak => ∃ (ab : Bool), al = .returned (.bool ab) ∧
 bif ab then (
 R (.int .u64 ao) ak) else (
 ∃ aw, aw < m3 ∧ I0 aw [] ak)) else (
 ∃ (I2 : Nat → List Value → World → Prop) (az : Nat), I2 az [] ai ∧ ∀ (au : Nat) (aj : World), I2 au [] aj →
 o1.elim False fun b0 =>
 ∃ (ac : Int), aj.cell? (b0.add 2) = some (.int .u64 ac) ∧
 Calls Try.prog 72 #[.pointer o1, .int .u64 ac] aj fun an ad => ∃ (aa : Bool), an = .returned (.bool aa) ∧
 bif !aa then (
 o1.elim False fun ay =>
 ∃ (ae : Int), ad.cell? (ay.add 2) = some (.int .u64 ae) ∧
 o1.elim False fun ar =>
 Q0d ad ((ar.add 2).add 0) ∧
 thenW (ad.setCell ((ar.add 2).add 0) (.int .u64 (IntKind.u64.wrap (ae + 1)))) fun ap =>
 ∃ av, av < au ∧ I2 av [] ap) else (
 o1.elim False fun b1 =>
 ∃ (a8 : Int), ad.cell? (b1.add 2) = some (.int .u64 a8) ∧
 R (.int .u64 a8) ad))

theorem oFresh.ok (o1 : Option Addr) {R : RW} {w : World} (h : oFresh.M o1 R w) : Calls Try.prog 37 #[.pointer o1] w fun e w' => ∃ v, e = .returned v ∧ R v w' :=
  Q0i follows (H := [(0, [0, 3], []), (2, [0, 3], [])]) (args := [.pointer o1]) (cast (by kernel_rfl) h)

def oKey.M (o1 : Option Addr) (R : RW) (w : World) : Prop :=
 bif Option.isNone o1 then (
 R (.int .u64 0) w) else (
 Calls Try.prog 37 #[.pointer o1] w fun a4 a3 => ∃ (a0 : Int), a4 = .returned (.int .u64 a0) ∧
 o1.elim False fun a5 =>
 ∃ (a1 : Option Nat), a3.cell? (a5.add 4) = some (.map a1) ∧
 ∃ a2 : World, (Instr.mapUpdate 94 (.map a1) (.int .u64 a0) (.bool true)).run Try.prog a3 = .ok () a2 ∧
 R (.int .u64 a0) a2)

theorem oKey.ok (o1 : Option Addr) {R : RW} {w : World} (h : oKey.M o1 R w) : Calls Try.prog 39 #[.pointer o1] w fun e w' => ∃ v, e = .returned v ∧ R v w' :=
  Q0i follows (H := []) (args := [.pointer o1]) (cast (by kernel_rfl) h)

def oPair.M (o1 : Option Addr) (R : RW) (w : World) : Prop :=
 bif Option.isNone o1 then (
 R (.tuple #[.int .u64 0, .int .u64 0]) w) else (
 Calls Try.prog 37 #[.pointer o1] w fun aa a8 => ∃ (a1 : Int), aa = .returned (.int .u64 a1) ∧
 o1.elim False fun a5 =>
 ∃ (a2 : Option Nat), a8.cell? (a5.add 5) = some (.map a2) ∧
 ∃ a7 : World, (Instr.mapUpdate 94 (.map a2) (.int .u64 a1) (.bool true)).run Try.prog a8 = .ok () a7 ∧
 Calls Try.prog 37 #[.pointer o1] a7 fun ab a4 => ∃ (a3 : Int), ab = .returned (.int .u64 a3) ∧
 o1.elim False fun a9 =>
 ∃ (a0 : Option Nat), a4.cell? (a9.add 6) = some (.map a0) ∧
 ∃ a6 : World, (Instr.mapUpdate 96 (.map a0) (.int .u64 a3) (.int .u64 a1)).run Try.prog a4 = .ok () a6 ∧
 R (.tuple #[.int .u64 a1, .int .u64 a3]) a6)

theorem oPair.ok (o1 : Option Addr) {R : RW} {w : World} (h : oPair.M o1 R w) : Calls Try.prog 16 #[.pointer o1] w fun e w' => ∃ v, e = .returned v ∧ R v w' :=
  Q0i follows (H := []) (args := [.pointer o1]) (cast (by kernel_rfl) h)

def oSeal.M (o1 : Option Addr) (ap : Int) (af : Option Addr) (ag aj : Nat) (ai : Option Addr) (aa ah : Nat) (R : RW) (w : World) : Prop :=
 Calls Try.prog 13 #[.int .i64 (aa : Int)] w fun b3 al => ∃ (a2 : Int), b3 = .returned (.int .i64 a2) ∧
 bif Option.isNone o1 then (
 R (.tuple #[.slice none 0 0, .int .i64 23]) al) else (
 o1.elim False fun a8 =>
 ∃ (ak : Option Nat), al.cell? (a8.add 4) = some (.map ak) ∧
 ∃ (b2 : Bool), (Instr.lookup 94 (.map ak) (.int .u64 ap) false).run Try.prog al = .ok (.bool b2) al ∧
 bif !b2 then (
 R (.tuple #[.slice none 0 0, .int .i64 11]) al) else (
 bif decide (a2 < 0) then (
 R (.tuple #[.slice none 0 0, .int .i64 3]) al) else (
 Calls Try.prog 37 #[.pointer o1] al fun ar au => ∃ (a1 : Int), ar = .returned (.int .u64 a1) ∧
 thenW (au.drew) fun an =>
 o1.elim False fun b1 =>
 ∃ (a0 : Option Nat), an.cell? (b1.add 9) = some (.map a0) ∧
 Calls Try.prog 60 #[.slice af ag aj] an fun ax am => ∃ (a4 : Option Addr) (a5 a7 : Nat), ax = .returned (.slice a4 a5 a7) ∧
 am.cell? (b1.add 9) = some (.map a0) ∧
 Calls Try.prog 60 #[.slice ai aa ah] am fun av ao => ∃ (a9 : Option Addr) (a3 a6 : Nat), av = .returned (.slice a9 a3 a6) ∧
 ao.cell? (b1.add 9) = some (.map a0) ∧
 ∃ aq : World, (Instr.mapUpdate 99 (.map a0) (.int .u64 a1) (.agg #[.int .u64 ap, .slice a4 a5 a7, .slice a9 a3 a6])).run Try.prog ao = .ok () aq ∧
 Calls Try.prog 33 #[.int .i64 a2] aq fun ay az => ∃ (ad : Int), ay = .returned (.int .i64 ad) ∧
 Calls Try.prog 66 #[.int .u64 a1, .int .i64 ad] az fun b0 aw => ∃ (ae : Option Addr) (ac ab : Nat), b0 = .returned (.slice ae ac ab) ∧
 R (.tuple #[.slice ae ac ab, .int .i64 0]) aw)))

theorem oSeal.ok (o1 : Option Addr) (a6 : Int) (a5 : Option Addr) (a0 a4 : Nat) (a3 : Option Addr) (a1 a2 : Nat) {R : RW} {w : World} (h : oSeal.M o1 a6 a5 a0 a4 a3 a1 a2 R w) : Calls Try.prog 29 #[.pointer o1, .int .u64 a6, .slice a5 a0 a4, .slice a3 a1 a2] w fun e w' => ∃ v, e = .returned v ∧ R v w' :=
  Q0i follows (H := []) (args := [.pointer o1, .int .u64 a6, .slice a5 a0 a4, .slice a3 a1 a2]) (cast (by kernel_rfl) h)

def oOpen.M (o1 : Option Addr) (bx : Int) (b9 : Option Addr) (b7 b8 : Nat) (ch : Option Addr) (c0 cg : Nat) (R : RW) (w : World) : Prop :=
 bif Option.isNone o1 then (
 R (.tuple #[.slice none 0 0, .int .i64 23]) w) else (
 thenW (w.drew) fun ba =>
 o1.elim False fun a6 =>
 ∃ (a0 : Option Nat), ba.cell? (a6.add 9) = some (.map a0) ∧
 (Calls Try.prog 69 #[.slice ch c0 cg] ba fun ci a1 => ∃ (a9 : Int), ci = .returned (.int .u64 a9) ∧
 a1.cell? (a6.add 9) = some (.map a0) ∧
 ∃ (bg : Int) (a8 : Option Addr) (a5 a7 : Nat) (a4 : Option Addr) (a2 a3 : Nat) (ca : Bool), (Instr.lookup 99 (.map a0) (.int .u64 a9) true).run Try.prog a1 = .ok (.tuple #[.agg #[.int .u64 bg, .slice a8 a5 a7, .slice a4 a2 a3], .bool ca]) a1 ∧
 thenW (a1.alloc (.cells #[.int .u64 0, .slice none 0 0, .slice none 0 0] 134)) fun bh =>
 (Instr.lookup 99 (.map a0) (.int .u64 a9) true).run Try.prog bh = .ok (.tuple #[.agg #[.int .u64 bg, .slice a8 a5 a7, .slice a4 a2 a3], .bool ca]) bh ∧
 bh.cell? (a6.add 9) = some (.map a0) ∧
 Q0d bh ((blk a1.heap.size).add 0) ∧
 thenW (bh.setCell ((blk a1.heap.size).add 0) (.int .u64 bg)) fun bv =>
 Q0d bv ((blk a1.heap.size).add 1) ∧
 thenW (bv.setCell ((blk a1.heap.size).add 1) (.slice a8 a5 a7)) fun bz =>
 Q0d bz ((blk a1.heap.size).add 2) ∧
 thenW (bz.setCell ((blk a1.heap.size).add 2) (.slice a4 a2 a3)) fun bs =>
 bif !ca then (
 R (.tuple #[.slice none 0 0, .int .i64 4]) bs) else (
 ∃ (bi : Option Addr) (ah bl : Nat), bs.cell? ((blk a1.heap.size).add 2) = some (.slice bi ah bl) ∧
 Calls Try.prog 13 #[.int .i64 (ah : Int)] bs fun cd c2 => ∃ (aw : Int), cd = .returned (.int .i64 aw) ∧
 Calls Try.prog 33 #[.int .i64 aw] c2 fun c6 bj => ∃ (bb : Int), c6 = .returned (.int .i64 bb) ∧
 bif (c0 : Int) != (IntKind.i64.wrap ((8 : Int) + bb)) then (
 R (.tuple #[.slice none 0 0, .int .i64 4]) bj) else (
 ∃ (bo : Int), bj.cell? ((blk a1.heap.size).add 0) = some (.int .u64 bo) ∧
 bif bo != bx then (
 R (.tuple #[.slice none 0 0, .int .i64 11]) bj) else (
 ∃ (al : Option Addr) (ab ad : Nat), bj.cell? ((blk a1.heap.size).add 1) = some (.slice al ab ad) ∧
 Calls Try.prog 70 #[.slice al ab ad, .slice b9 b7 b8] bj fun c9 br => ∃ (b5 : Bool), c9 = .returned (.bool b5) ∧
 bif !b5 then (
 R (.tuple #[.slice none 0 0, .int .i64 5]) br) else (
 ∃ (aj : Option Addr) (ag az : Nat), br.cell? ((blk a1.heap.size).add 2) = some (.slice aj ag az) ∧
 Calls Try.prog 60 #[.slice aj ag az] br fun cb ce => ∃ (b3 : Option Addr) (ap ay : Nat), cb = .returned (.slice b3 ap ay) ∧
 R (.tuple #[.slice b3 ap ay, .int .i64 0]) ce))))) ∧
 (thenW (ba.alloc (.cells #[.int .u64 0, .slice none 0 0, .slice none 0 0] 134)) fun bt =>
 bt.cell? (a6.add 9) = some (.map a0) ∧
 Calls Try.prog 69 #[.slice ch c0 cg] bt fun c7 bf => ∃ (am : Int), c7 = .returned (.int .u64 am) ∧
 bf.cell? (a6.add 9) = some (.map a0) ∧
 ∃ (bm : Int) (b1 : Option Addr) (an b0 : Nat) (av : Option Addr) (au b4 : Nat) (cf : Bool), (Instr.lookup 99 (.map a0) (.int .u64 am) true).run Try.prog bf = .ok (.tuple #[.agg #[.int .u64 bm, .slice b1 an b0, .slice av au b4], .bool cf]) bf ∧
 Q0d bf ((blk ba.heap.size).add 0) ∧
 thenW (bf.setCell ((blk ba.heap.size).add 0) (.int .u64 bm)) fun bu =>
 Q0d bu ((blk ba.heap.size).add 1) ∧
 thenW (bu.setCell ((blk ba.heap.size).add 1) (.slice b1 an b0)) fun bw =>
 Q0d bw ((blk ba.heap.size).add 2) ∧
 thenW (bw.setCell ((blk ba.heap.size).add 2) (.slice av au b4)) fun bq =>
 bif !cf then (
 R (.tuple #[.slice none 0 0, .int .i64 4]) bq) else (
 ∃ (be : Option Addr) (ae bk : Nat), bq.cell? ((blk ba.heap.size).add 2) = some (.slice be ae bk) ∧
 Calls Try.prog 13 #[.int .i64 (ae : Int)] bq fun c4 c3 => ∃ (b2 : Int), c4 = .returned (.int .i64 b2) ∧
 Calls Try.prog 33 #[.int .i64 b2] c3 fun c1 bc => ∃ (bd : Int), c1 = .returned (.int .i64 bd) ∧
 bif (c0 : Int) != (IntKind.i64.wrap ((8 : Int) + bd)) then (
 R (.tuple #[.slice none 0 0, .int .i64 4]) bc) else (
 ∃ (bn : Int), bc.cell? ((blk ba.heap.size).add 0) = some (.int .u64 bn) ∧
 bif bn != bx then (
 R (.tuple #[.slice none 0 0, .int .i64 11]) bc) else (
 ∃ (ac : Option Addr) (ao aq : Nat), bc.cell? ((blk ba.heap.size).add 1) = some (.slice ac ao aq) ∧
 Calls Try.prog 70 #[.slice ac ao aq, .slice b9 b7 b8] bc fun c5 bp => ∃ (b6 : Bool), c5 = .returned (.bool b6) ∧
 bif !b6 then (
 R (.tuple #[.slice none 0 0, .int .i64 5]) bp) else (
 ∃ (aa : Option Addr) (ak ar : Nat), bp.cell? ((blk ba.heap.size).add 2) = some (.slice aa ak ar) ∧
 Calls Try.prog 60 #[.slice aa ak ar] bp fun cc c8 => ∃ (af : Option Addr) (ax ai : Nat), cc = .returned (.slice af ax ai) ∧
 R (.tuple #[.slice af ax ai, .int .i64 0]) c8))))))

theorem oOpen.ok (o1 : Option Addr) (a3 : Int) (a2 : Option Addr) (a0 a1 : Nat) (a5 : Option Addr) (a4 a6 : Nat) {R : RW} {w : World} (h : oOpen.M o1 a3 a2 a0 a1 a5 a4 a6 R w) : Calls Try.prog 31 #[.pointer o1, .int .u64 a3, .slice a2 a0 a1, .slice a5 a4 a6] w fun e w' => ∃ v, e = .returned v ∧ R v w' :=
  Q0i follows (H := []) (args := [.pointer o1, .int .u64 a3, .slice a2 a0 a1, .slice a5 a4 a6]) (cast (by kernel_rfl) h)

def oWrap.M (o1 : Option Addr) (a3 ab : Int) (R : RW) (w : World) : Prop :=
 bif Option.isNone o1 then (
 R (.tuple #[.slice none 0 0, .int .i64 23]) w) else (
 o1.elim False fun a4 =>
 ∃ (a2 : Option Nat), w.cell? (a4.add 6) = some (.map a2) ∧
 ∃ (v6 : Int) (v7 : Bool), (Instr.lookup 96 (.map a2) (.int .u64 a3) true).run Try.prog w = .ok (.tuple #[.int .u64 v6, .bool v7]) w ∧
 bif !v7 then (
 R (.tuple #[.slice none 0 0, .int .i64 20]) w) else (
 o1.elim False fun a8 =>
 ∃ (a9 : Option Nat), w.cell? (a8.add 4) = some (.map a9) ∧
 ∃ (ag : Bool), (Instr.lookup 94 (.map a9) (.int .u64 ab) false).run Try.prog w = .ok (.bool ag) w ∧
 bif !ag then (
 R (.tuple #[.slice none 0 0, .int .i64 11]) w) else (
 Calls Try.prog 37 #[.pointer o1] w fun ad ac => ∃ (a1 : Int), ad = .returned (.int .u64 a1) ∧
 o1.elim False fun ah =>
 ∃ (a0 : Option Nat), ac.cell? (ah.add 10) = some (.map a0) ∧
 ∃ aa : World, (Instr.mapUpdate 100 (.map a0) (.int .u64 a1) (.agg #[.int .u64 a3, .int .u64 ab])).run Try.prog ac = .ok () aa ∧
 Calls Try.prog 66 #[.int .u64 a1, .int .i64 8] aa fun ae af => ∃ (a6 : Option Addr) (a5 a7 : Nat), ae = .returned (.slice a6 a5 a7) ∧
 R (.tuple #[.slice a6 a5 a7, .int .i64 0]) af)))

theorem oWrap.ok (o1 : Option Addr) (a0 a1 : Int) {R : RW} {w : World} (h : oWrap.M o1 a0 a1 R w) : Calls Try.prog 41 #[.pointer o1, .int .u64 a0, .int .u64 a1] w fun e w' => ∃ v, e = .returned v ∧ R v w' :=
  Q0i follows (H := []) (args := [.pointer o1, .int .u64 a0, .int .u64 a1]) (cast (by kernel_rfl) h)

def oUnwrap.M (o1 : Option Addr) (ac : Int) (az : Option Addr) (aq av : Nat) (R : RW) (w : World) : Prop :=
 bif Option.isNone o1 then (
 R (.tuple #[.int .u64 0, .int .i64 23]) w) else (
 thenW (w.drew) fun ah =>
 o1.elim False fun a5 =>
 ∃ (a0 : Option Nat), ah.cell? (a5.add 10) = some (.map a0) ∧
 (Calls Try.prog 69 #[.slice az aq av] ah fun b2 ag => ∃ (a8 : Int), b2 = .returned (.int .u64 a8) ∧
 ag.cell? (a5.add 10) = some (.map a0) ∧
 ∃ (a1 af : Int) (ar : Bool), (Instr.lookup 100 (.map a0) (.int .u64 a8) true).run Try.prog ag = .ok (.tuple #[.agg #[.int .u64 a1, .int .u64 af], .bool ar]) ag ∧
 thenW (ag.alloc (.cells #[.int .u64 0, .int .u64 0] 144)) fun ad =>
 (Instr.lookup 100 (.map a0) (.int .u64 a8) true).run Try.prog ad = .ok (.tuple #[.agg #[.int .u64 a1, .int .u64 af], .bool ar]) ad ∧
 ad.cell? (a5.add 10) = some (.map a0) ∧
 Q0d ad ((blk ag.heap.size).add 0) ∧
 thenW (ad.setCell ((blk ag.heap.size).add 0) (.int .u64 a1)) fun an =>
 Q0d an ((blk ag.heap.size).add 1) ∧
 thenW (an.setCell ((blk ag.heap.size).add 1) (.int .u64 af)) fun al =>
 bif !ar then (
 R (.tuple #[.int .u64 0, .int .i64 4]) al) else (
 bif (aq : Int) != 16 then (
 R (.tuple #[.int .u64 0, .int .i64 4]) al) else (
 thenW (al.drew) fun aa =>
 o1.elim False fun b0 =>
 ∃ (a3 : Option Nat), aa.cell? (b0.add 6) = some (.map a3) ∧
 ∃ (a6 : Int), aa.cell? ((blk ag.heap.size).add 0) = some (.int .u64 a6) ∧
 ∃ (ax : Int), (Instr.lookup 96 (.map a3) (.int .u64 a6) false).run Try.prog aa = .ok (.int .u64 ax) aa ∧
 bif ax != ac then (
 R (.tuple #[.int .u64 0, .int .i64 11]) aa) else (
 ∃ (aj : Int), aa.cell? ((blk ag.heap.size).add 1) = some (.int .u64 aj) ∧
 R (.tuple #[.int .u64 aj, .int .i64 0]) aa)))) ∧
 (thenW (ah.alloc (.cells #[.int .u64 0, .int .u64 0] 144)) fun ao =>
 ao.cell? (a5.add 10) = some (.map a0) ∧
 Calls Try.prog 69 #[.slice az aq av] ao fun au ae => ∃ (a9 : Int), au = .returned (.int .u64 a9) ∧
 ae.cell? (a5.add 10) = some (.map a0) ∧
 ∃ (a4 ak : Int) (aw : Bool), (Instr.lookup 100 (.map a0) (.int .u64 a9) true).run Try.prog ae = .ok (.tuple #[.agg #[.int .u64 a4, .int .u64 ak], .bool aw]) ae ∧
 Q0d ae ((blk ah.heap.size).add 0) ∧
 thenW (ae.setCell ((blk ah.heap.size).add 0) (.int .u64 a4)) fun ap =>
 Q0d ap ((blk ah.heap.size).add 1) ∧
 thenW (ap.setCell ((blk ah.heap.size).add 1) (.int .u64 ak)) fun am =>
 bif !aw then (
 R (.tuple #[.int .u64 0, .int .i64 4]) am) else (
 bif (aq : Int) != 16 then (
 R (.tuple #[.int .u64 0, .int .i64 4]) am) else (
 thenW (am.drew) fun ab =>
 o1.elim False fun b1 =>
 ∃ (a2 : Option Nat), ab.cell? (b1.add 6) = some (.map a2) ∧
 ∃ (a7 : Int), ab.cell? ((blk ah.heap.size).add 0) = some (.int .u64 a7) ∧
 ∃ (ay : Int), (Instr.lookup 96 (.map a2) (.int .u64 a7) false).run Try.prog ab = .ok (.int .u64 ay) ab ∧
 bif ay != ac then (
 R (.tuple #[.int .u64 0, .int .i64 11]) ab) else (
 ∃ (ai : Int), ab.cell? ((blk ah.heap.size).add 1) = some (.int .u64 ai) ∧
 R (.tuple #[.int .u64 ai, .int .i64 0]) ab)))))

theorem oUnwrap.ok (o1 : Option Addr) (a0 : Int) (a3 : Option Addr) (a1 a2 : Nat) {R : RW} {w : World} (h : oUnwrap.M o1 a0 a3 a1 a2 R w) : Calls Try.prog 59 #[.pointer o1, .int .u64 a0, .slice a3 a1 a2] w fun e w' => ∃ v, e = .returned v ∧ R v w' :=
  Q0i follows (H := []) (args := [.pointer o1, .int .u64 a0, .slice a3 a1 a2]) (cast (by kernel_rfl) h)

def oBox.M (h1 a0 : Int) (R : RW) (w : World) : Prop :=
 ∃ (a4 : Option Addr) (a2 a5 : Nat) (a7 : World), (Instr.makeSlice 25 (.int .i64 (IntKind.i64.wrap ((8 : Int) + a0))) (.int .i64 (IntKind.i64.wrap ((8 : Int) + a0)))).run Try.prog w = .ok (.slice a4 a2 a5) a7 ∧
 ∃ (I0 : Nat → List Value → World → Prop) (m6 : Nat), I0 m6 [.int .i64 0] a7 ∧ ∀ (m7 : Nat) (a1 : World) (t5 : Int), I0 m7 [.int .i64 t5] a1 →
 bif decide (t5 < 8) then (
 0 ≤ ((IntKind.i64.wrap ((56 : Int) - (IntKind.i64.wrap ((8 : Int) * t5)))) : Int) ∧
 a4.elim False fun a9 =>
 0 ≤ (t5 : Int) ∧ (t5 : Int) < (a2 : Int) ∧
 Q0d a1 ((a9.add (Int.toNat t5 * 1)).add 0) ∧
 thenW (a1.setCell ((a9.add (Int.toNat t5 * 1)).add 0) (.int .u8 (IntKind.u8.wrap (Int.fdiv h1 (2 ^ (min (Int.toNat (IntKind.i64.wrap ((56 : Int) - (IntKind.i64.wrap ((8 : Int) * t5))))) (IntKind.bits .u64))))))) fun a3 =>
 ∃ a6, a6 < m7 ∧ I0 a6 [.int .i64 (IntKind.i64.wrap (t5 + 1))] a3) else (
 R (.slice a4 a2 a5) a1)

theorem oBox.ok (h1 a0 : Int) {R : RW} {w : World} (h : oBox.M h1 a0 R w) : Calls Try.prog 66 #[.int .u64 h1, .int .i64 a0] w fun e w' => ∃ v, e = .returned v ∧ R v w' :=
  Q0i follows (H := [(0, [0, 5], [(10, (.one (.int .i64)))])]) (args := [.int .u64 h1, .int .i64 a0]) (cast (by kernel_rfl) h)

def oHandle.M (a2 : Option Addr) (a4 a3 : Nat) (R : RW) (w : World) : Prop :=
 bif decide ((a4 : Int) < 8) then (
 R (.int .u64 0) w) else (
 (0 : Int) ≤ (8 : Int) ∧ (8 : Int) ≤ (a4 : Int) ∧
 Calls Try.prog 90 #[.slice (if a3 = Int.toNat 8 then a2 else Option.map (fun z : Addr => z.add ((Int.toNat 8) * 1)) a2) (a4 - (Int.toNat 8)) (a3 - (Int.toNat 8)), .func (.func 91) #[] #[]] w fun a8 a7 => ∃ (a0 : Bool), a8 = .returned (.bool a0) ∧
 bif a0 then (
 R (.int .u64 0) a7) else (
 (0 : Int) ≤ (8 : Int) ∧ (8 : Int) ≤ (a3 : Int) ∧
 ∃ (I0 : Nat → List Value → World → Prop) (m7 : Nat), I0 m7 [.int .u64 0, .int .i64 0] a7 ∧ ∀ (m8 : Nat) (a1 : World) (n5 t6 : Int), I0 m8 [.int .u64 n5, .int .i64 t6] a1 →
 bif decide (t6 < (((Int.toNat 8) - 0 : Nat) : Int)) then (
 (if a3 = 0 then a2 else Option.map (fun z : Addr => z.add (0 * 1)) a2).elim False fun a9 =>
 0 ≤ (t6 : Int) ∧ (t6 : Int) < (((Int.toNat 8) - 0 : Nat) : Int) ∧
 ∃ (a6 : Int), a1.cell? (a9.add (Int.toNat t6 * 1)) = some (.int .u8 a6) ∧
 0 ≤ (8 : Int) ∧
 ∃ a5, a5 < m8 ∧ I0 a5 [.int .u64 (IntKind.u64.wrap ((BitVec.ofInt (IntKind.bits .u64) (IntKind.u64.wrap (n5 * 2 ^ (min (Int.toNat 8) (IntKind.bits .u64)))) ||| BitVec.ofInt (IntKind.bits .u64) (IntKind.u64.wrap a6)).toNat)), .int .i64 (IntKind.i64.wrap (t6 + 1))] a1) else (
 R (.int .u64 n5) a1)))

theorem oHandle.ok (a1 : Option Addr) (a0 a2 : Nat) {R : RW} {w : World} (h : oHandle.M a1 a0 a2 R w) : Calls Try.prog 69 #[.slice a1 a0 a2] w fun e w' => ∃ v, e = .returned v ∧ R v w' :=
  Q0i follows (H := [(0, [15, 16], [(3, (.one (.int .u64))), (17, (.one (.int .i64)))])]) (args := [.slice a1 a0 a2]) (cast (by kernel_rfl) h)

def hNz.M (c1 : Int) (R : RW) (w : World) : Prop :=
 R (.bool (c1 != 0)) w

theorem hNz.ok (c1 : Int) {R : RW} {w : World} (h : hNz.M c1 R w) : Calls Try.prog 91 #[.int .u8 c1] w fun e w' => ∃ v, e = .returned v ∧ R v w' :=
  Q0i follows (H := []) (args := [.int .u8 c1]) (cast (by kernel_rfl) h)

def bClass.M (n1 : Int) (R : RW) (w : World) : Prop :=
 ∃ (I0 : Nat → List Value → World → Prop) (m3 : Nat), I0 m3 [.int .i64 0] w ∧ ∀ (m4 : Nat) (a1 : World) (t2 : Int), I0 m4 [.int .i64 t2] a1 →
 bif decide (t2 < 7) then (
 bif decide (n1 ≥ 0) then (
 Calls Try.prog 34 #[.int .i64 t2] a1 fun a4 a2 => ∃ (a0 : Int), a4 = .returned (.int .i64 a0) ∧
 bif decide (n1 ≤ a0) then (
 R (.int .i64 t2) a2) else (
 ∃ m9, m9 < m4 ∧ I0 m9 [.int .i64 (IntKind.i64.wrap (t2 + 1))] a2)) else (
 ∃ a3, a3 < m4 ∧ I0 a3 [.int .i64 (IntKind.i64.wrap (t2 + 1))] a1)) else (
 R (.int .i64 (-1)) a1)

theorem bClass.ok (n1 : Int) {R : RW} {w : World} (h : bClass.M n1 R w) : Calls Try.prog 13 #[.int .i64 n1] w fun e w' => ∃ v, e = .returned v ∧ R v w' :=
  Q0i follows (H := [(0, [0], [(4, (.one (.int .i64)))])]) (args := [.int .i64 n1]) (cast (by kernel_rfl) h)

def bSize.M (c1 : Int) (R : RW) (w : World) : Prop :=
 Calls Try.prog 71 #[.int .i64 c1] w fun a2 a1 => ∃ (a0 : Int), a2 = .returned (.int .i64 a0) ∧
 R (.int .i64 a0) a1

theorem bSize.ok (c1 : Int) {R : RW} {w : World} (h : bSize.M c1 R w) : Calls Try.prog 33 #[.int .i64 c1] w fun e w' => ∃ v, e = .returned v ∧ R v w' :=
  Q0i follows (H := []) (args := [.int .i64 c1]) (cast (by kernel_rfl) h)

def bsize.M (c1 : Int) (R : RW) (w : World) : Prop :=
 bif decide (c1 < 0) then (
 R (.int .i64 0) w) else (
 bif decide (c1 ≥ 7) then (
 R (.int .i64 0) w) else (
 0 ≤ (c1 : Int) ∧
 R (.int .i64 (IntKind.i64.wrap (16 * 2 ^ (min (Int.toNat c1) (IntKind.bits .i64))))) w))

theorem bsize.ok (c1 : Int) {R : RW} {w : World} (h : bsize.M c1 R w) : Calls Try.prog 71 #[.int .i64 c1] w fun e w' => ∃ v, e = .returned v ∧ R v w' :=
  Q0i follows (H := []) (args := [.int .i64 c1]) (cast (by kernel_rfl) h)

def broom.M (c1 : Int) (R : RW) (w : World) : Prop :=
 Calls Try.prog 71 #[.int .i64 c1] w fun a2 a1 => ∃ (a0 : Int), a2 = .returned (.int .i64 a0) ∧
 bif decide ((IntKind.i64.wrap (a0 - 1)) ≥ 128) then (
 R (.int .i64 (IntKind.i64.wrap ((IntKind.i64.wrap (a0 - 1)) - 1))) a1) else (
 R (.int .i64 (IntKind.i64.wrap (a0 - 1))) a1)

theorem broom.ok (c1 : Int) {R : RW} {w : World} (h : broom.M c1 R w) : Calls Try.prog 34 #[.int .i64 c1] w fun e w' => ∃ v, e = .returned v ∧ R v w' :=
  Q0i follows (H := []) (args := [.int .i64 c1]) (cast (by kernel_rfl) h)

def bEqual.M (a2 : Option Addr) (a4 a1 : Nat) (a0 : Option Addr) (a3 a5 : Nat) (R : RW) (w : World) : Prop :=
 ∃ (s3 : ByteArray), (convert 25 9 (.slice a2 a4 a1)).run Try.prog w = .ok (.string s3) w ∧
 ∃ (s4 : ByteArray), (convert 25 9 (.slice a0 a3 a5)).run Try.prog w = .ok (.string s4) w ∧
 R (.bool (s3.toList == s4.toList)) w

theorem bEqual.ok (a2 : Option Addr) (a4 a1 : Nat) (a0 : Option Addr) (a3 a5 : Nat) {R : RW} {w : World} (h : bEqual.M a2 a4 a1 a0 a3 a5 R w) : Calls Try.prog 70 #[.slice a2 a4 a1, .slice a0 a3 a5] w fun e w' => ∃ v, e = .returned v ∧ R v w' :=
  Q0i follows (H := []) (args := [.slice a2 a4 a1, .slice a0 a3 a5]) (cast (by kernel_rfl) h)

def bCF.M (a6 : Option Addr) (a3 a4 a1 : Nat) (a2 a8 : Array Value) (R : RW) (w : World) : Prop :=
 Calls Try.prog 97 #[.slice a6 a3 a4, .func (.func a1) a2 a8] w fun a5 a7 => ∃ (a0 : Int), a5 = .returned (.int .i64 a0) ∧
 R (.bool (decide (a0 ≥ 0))) a7

theorem bCF.ok (a4 : Option Addr) (a2 a3 a0 : Nat) (a1 a5 : Array Value) {R : RW} {w : World} (h : bCF.M a4 a2 a3 a0 a1 a5 R w) : Calls Try.prog 90 #[.slice a4 a2 a3, .func (.func a0) a1 a5] w fun e w' => ∃ v, e = .returned v ∧ R v w' :=
  Q0i follows (H := []) (args := [.slice a4 a2 a3, .func (.func a0) a1 a5]) (cast (by kernel_rfl) h)

def bIF.M (ab : Option Addr) (a6 ac a3 : Nat) (a5 aa : Array Value) (R : RW) (w : World) : Prop :=
 ∃ (I0 : Nat → List Value → World → Prop) (m4 : Nat), I0 m4 [.int .i64 0] w ∧ ∀ (m5 : Nat) (a1 : World) (t3 : Int), I0 m5 [.int .i64 t3] a1 →
 bif decide (t3 < (a6 : Int)) then (
 ab.elim False fun a7 =>
 0 ≤ (t3 : Int) ∧ (t3 : Int) < (a6 : Int) ∧
 ∃ (x8 : Int), a1.cell? (a7.add (Int.toNat t3 * 1)) = some (.int .u8 x8) ∧
 bif enters Try.prog a3 then Calls Try.prog a3 (a5.toList ++ ([.int .u8 x8] : List Value) ++ aa.toList).toArray a1 (fun a4 a2 => ∃ (r9 : Bool), a4 = .returned (.bool r9) ∧
 bif r9 then (
 R (.int .i64 t3) a2) else (
 ∃ a9, a9 < m5 ∧ I0 a9 [.int .i64 (IntKind.i64.wrap (t3 + 1))] a2)) else (∃ (r9 : Bool) (a0 : World), (Q1l a3 (a5.toList ++ ([.int .u8 x8] : List Value) ++ aa.toList).toArray).run Try.prog a1 = .ok (.bool r9) a0 ∧
 bif r9 then (
 R (.int .i64 t3) a0) else (
 ∃ a8, a8 < m5 ∧ I0 a8 [.int .i64 (IntKind.i64.wrap (t3 + 1))] a0))) else (
 R (.int .i64 (-1)) a1)

theorem bIF.ok (a4 : Option Addr) (a2 a3 a0 : Nat) (a1 a5 : Array Value) {R : RW} {w : World} (h : bIF.M a4 a2 a3 a0 a1 a5 R w) : Calls Try.prog 97 #[.slice a4 a2 a3, .func (.func a0) a1 a5] w fun e w' => ∃ v, e = .returned v ∧ R v w' :=
  Q0i follows (H := [(0, [0, 1, 7], [(8, (.one (.int .i64)))])]) (args := [.slice a4 a2 a3, .func (.func a0) a1 a5]) (cast (by kernel_rfl) h)

theorem inf36 : (Try.prog.info? 36).map (fun i => (i.zero, i.size, i.bytes)) = some (some (.int .u64 0), 1, 8) := by kernel_rfl
theorem inf4 : (Try.prog.info? 4).map (fun i => (i.zero, i.size, i.bytes)) = some (some (.bool false), 1, 1) := by kernel_rfl
set_option linter.unusedSectionVars false

structure Sealed where
  key : Int
  bound : List UInt8
  plain : List UInt8
structure OS where
  draws : List Int
  used : List Int
  next : Int
  hashes : List (List UInt8 × Int)
  keys : List Int
  secrets : List Int
  publics : List (Int × Int)
  signs : List ((Int × List UInt8) × Int)
  signed : List (Int × (Int × List UInt8))
  sealed : List (Int × Sealed)
  wrapped : List (Int × (Int × Int))

structure OG where
  p : Nat
  used : Nat
  hashes : Nat
  keys : Nat
  secrets : Nat
  publics : Nat
  signs : Nat
  signed : Nat
  sealed : Nat
  wrapped : Nat
  x : Nat → Prop
def OG.list (g : OG) : List Nat := [g.p, g.used, g.hashes, g.keys, g.secrets, g.publics, g.signs, g.signed, g.sealed, g.wrapped]
def OG.m (g : OG) : Nat → Prop := fun b => b ∈ g.list
def OG.M (g : OG) : Nat → Prop := fun b => g.m b ∨ g.x b

def u64V (n : Int) : Value := .int .u64 n
def signedV (x : Int × List UInt8) : Value := .agg #[.int .u64 x.1, strV x.2]
def bset (l : List Int) : List (Int × Value) := l.map fun n => (n, .bool true)
def SealedV (w : World) (m : Nat → Prop) (s : Sealed) (v : Value) : Prop :=
  ∃ ba bc pa pc, v = .agg #[.int .u64 s.key, .slice ba s.bound.length bc, .slice pa s.plain.length pc] ∧ RowAt w ba (bytesV s.bound) ∧ (bytesV s.bound ≠ [] → Out m ba) ∧ RowAt w pa (bytesV s.plain) ∧ (bytesV s.plain ≠ [] → Out m pa)
def SealedL (w : World) (m : Nat → Prop) : List (Int × Sealed) → List (Int × Value) → Prop
  | [], [] => True
  | p :: r, q :: s => p.1 = q.1 ∧ SealedV w m p.2 q.2 ∧ SealedL w m r s
  | _, _ => False

def OrcP (w : World) (g : OG) (draws : List Int) (next : Int) : Prop :=
  ∃ da dc, Blk w g.p 102 [.slice da draws.length dc, .map (some g.used), .int .u64 next, .map (some g.hashes), .map (some g.keys), .map (some g.secrets), .map (some g.publics), .map (some g.signs), .map (some g.signed), .map (some g.sealed), .map (some g.wrapped)] ∧
    draws.length ≤ dc ∧ RowAt w da (draws.map u64V) ∧ (draws.map u64V ≠ [] → Out g.M da)

structure Orc (w : World) (g : OG) (S : OS) : Prop where
  nd : g.list.Nodup
  st : OrcP w g S.draws S.next
  used : MapIs w g.used u64V (bset S.used)
  hashes : MapIs w g.hashes strV (S.hashes.map fun p => (p.1, u64V p.2))
  keys : MapIs w g.keys u64V (bset S.keys)
  secrets : MapIs w g.secrets u64V (bset S.secrets)
  publics : MapIs w g.publics u64V (S.publics.map fun p => (p.1, u64V p.2))
  signs : MapIs w g.signs signedV (S.signs.map fun p => (p.1, u64V p.2))
  signed : MapIs w g.signed u64V (S.signed.map fun p => (p.1, signedV p.2))
  sealed : ∃ lv, MapIs w g.sealed u64V lv ∧ SealedL w g.M S.sealed lv
  wrapped : MapIs w g.wrapped u64V (S.wrapped.map fun p => (p.1, .agg #[.int .u64 p.2.1, .int .u64 p.2.2]))
  xm : ∀ b, g.m b → ¬ g.x b
  xlt : ∀ b, g.x b → b < w.heap.size

theorem SealedL.ext {w w' : World} {m n : Nat → Prop} (k : Ext n w w') (hn : ∀ b, n b → m b) : ∀ {l : List (Int × Sealed)} {lv : List (Int × Value)}, SealedL w m l lv → SealedL w' m l lv
  | [], [], _ => trivial
  | p :: r, q :: s, h => by
    obtain ⟨h1, ⟨ba, bc, pa, pc, hv, h2, h3, h4, h5⟩, h6⟩ := h
    exact ⟨h1, ⟨ba, bc, pa, pc, hv, h2.ext' k (fun h0 ad ha hb => h3 h0 ad ha (hn _ hb)), h3, h4.ext' k (fun h0 ad ha hb => h5 h0 ad ha (hn _ hb)), h5⟩, SealedL.ext k hn h6⟩
  | [], _ :: _, h => h.elim
  | _ :: _, [], h => h.elim
theorem OrcP.ext {w w' : World} {g : OG} {d : List Int} {x : Int} {n : Nat → Prop} (h : OrcP w g d x) (k : Ext n w w') (hn : ∀ b, n b → g.M b) (hp : ¬ n g.p) : OrcP w' g d x := by
  obtain ⟨da, dc, h1, h2, h3, h4⟩ := h
  exact ⟨da, dc, h1.ext k hp, h2, h3.ext' k (fun h0 ad ha hb => h4 h0 ad ha (hn _ hb)), h4⟩

section
variable {w w' : World} {g : OG} {S : OS}
theorem m_list {g : OG} : g.m g.p ∧ g.m g.used ∧ g.m g.hashes ∧ g.m g.keys ∧ g.m g.secrets ∧ g.m g.publics ∧ g.m g.signs ∧ g.m g.signed ∧ g.m g.sealed ∧ g.m g.wrapped := by simp [OG.m, OG.list]
theorem Orc.ext {m : Nat → Prop} (h : Orc w g S) (k : Ext m w w') (hd : ∀ b, b < w.heap.size → m b → g.x b) : Orc w' g S := by
  have k' : Ext g.x w w' := k.mono fun b hb hlt => hd b hlt hb
  obtain ⟨lv, h1, h2⟩ := h.sealed
  obtain ⟨q1, q2, q3, q4, q5, q6, q7, q8, q9, q10⟩ := m_list (g := g)
  exact ⟨h.nd, h.st.ext k' (fun b hb => .inr hb) (h.xm _ q1), h.used.ext k' (h.xm _ q2), h.hashes.ext k' (h.xm _ q3), h.keys.ext k' (h.xm _ q4), h.secrets.ext k' (h.xm _ q5), h.publics.ext k' (h.xm _ q6), h.signs.ext k' (h.xm _ q7), h.signed.ext k' (h.xm _ q8), ⟨lv, h1.ext k' (h.xm _ q9), h2.ext k' fun b hb => .inr hb⟩, h.wrapped.ext k' (h.xm _ q10), h.xm, fun b hb => Nat.lt_of_lt_of_le (h.xlt b hb) k.size⟩
theorem Orc.none (h : Orc w g S) (k : Ext no w w') : Orc w' g S := h.ext k fun b _ hb => hb.elim
theorem Orc.mlt (h : Orc w g S) : ∀ b, g.m b → b < w.heap.size := fun b hb => by
  obtain ⟨da, dc, hp, _⟩ := h.st
  obtain ⟨lv, hse, _⟩ := h.sealed
  simp only [OG.m, OG.list, List.mem_cons, List.not_mem_nil, or_false] at hb
  rcases hb with rfl | rfl | rfl | rfl | rfl | rfl | rfl | rfl | rfl | rfl
  · exact hp.lt
  · exact h.used.lt
  · exact h.hashes.lt
  · exact h.keys.lt
  · exact h.secrets.lt
  · exact h.publics.lt
  · exact h.signs.lt
  · exact h.signed.lt
  · exact hse.lt
  · exact h.wrapped.lt
def OG.more (g : OG) (w w' : World) : OG := { g with x := fun b => g.x b ∨ (w.heap.size ≤ b ∧ b < w'.heap.size) }
theorem SealedL.wide {w : World} {m n : Nat → Prop} (hn : ∀ b, n b → m b ∨ w.heap.size ≤ b) : ∀ {l : List (Int × Sealed)} {lv : List (Int × Value)}, SealedL w m l lv → SealedL w n l lv
  | [], [], _ => trivial
  | p :: r, q :: s, h => by
    obtain ⟨h1, ⟨ba, bc, pa, pc, hv, h2, h3, h4, h5⟩, h6⟩ := h
    refine ⟨h1, ⟨ba, bc, pa, pc, hv, h2, fun h0 ad ha hb => ?_, h4, fun h0 ad ha hb => ?_⟩, SealedL.wide hn h6⟩
    · rcases hn _ hb with h | h
      · exact h3 h0 ad ha h
      · have := h2.lt h0 ha; omega
    · rcases hn _ hb with h | h
      · exact h5 h0 ad ha h
      · have := h4.lt h0 ha; omega
  | [], _ :: _, h => h.elim
  | _ :: _, [], h => h.elim
theorem Orc.foreign {n : Nat → Prop} (h : Orc w g S) (k : Ext n w w') (hd : ∀ b, b < w.heap.size → n b → g.x b) : Orc w' (g.more w w') S := by
  have hw := h.ext k hd
  have k' : Ext g.x w w' := k.mono fun b hb hlt => hd b hlt hb
  have hM : ∀ b, (g.more w w').M b → g.M b ∨ w.heap.size ≤ b := fun b hb => by
    rcases hb with hb | hb | hb
    · exact .inl (.inl hb)
    · exact .inl (.inr hb)
    · exact .inr hb.1
  obtain ⟨lv, h1, h2⟩ := h.sealed
  obtain ⟨lv', h1', h2'⟩ := hw.sealed
  obtain ⟨da, dc, hp, h3, h4, h5⟩ := h.st
  refine ⟨hw.nd, ⟨da, dc, hp.ext k' (h.xm _ m_list.1), h3, h4.ext' k' (fun h0 ad ha hb => h5 h0 ad ha (.inr hb)), fun h0 ad ha hb => ?_⟩, hw.used, hw.hashes, hw.keys, hw.secrets, hw.publics, hw.signs, hw.signed,
    ⟨lv, h1.ext k' (h.xm _ m_list.2.2.2.2.2.2.2.2.1), (h2.wide hM).ext k' fun b hb => .inr (.inl hb)⟩, hw.wrapped, fun b hb hx => ?_, fun b hb => ?_⟩
  · rcases hM _ hb with h | h
    · exact h5 h0 ad ha h
    · have := h4.lt h0 ha; omega
  · rcases hx with hx | hx
    · exact h.xm b hb hx
    · have := h.mlt b hb; omega
  · rcases hb with hb | hb
    · exact Nat.lt_of_lt_of_le (h.xlt b hb) k.size
    · exact hb.2
theorem nd_ne (h : Orc w g S) : g.p ≠ g.used ∧ g.p ≠ g.hashes ∧ g.p ≠ g.keys ∧ g.p ≠ g.secrets ∧ g.p ≠ g.publics ∧ g.p ≠ g.signs ∧ g.p ≠ g.signed ∧ g.p ≠ g.sealed ∧ g.p ≠ g.wrapped ∧
    g.used ≠ g.hashes ∧ g.used ≠ g.keys ∧ g.used ≠ g.secrets ∧ g.used ≠ g.publics ∧ g.used ≠ g.signs ∧ g.used ≠ g.signed ∧ g.used ≠ g.sealed ∧ g.used ≠ g.wrapped ∧
    g.hashes ≠ g.keys ∧ g.hashes ≠ g.secrets ∧ g.hashes ≠ g.publics ∧ g.hashes ≠ g.signs ∧ g.hashes ≠ g.signed ∧ g.hashes ≠ g.sealed ∧ g.hashes ≠ g.wrapped ∧
    g.keys ≠ g.secrets ∧ g.keys ≠ g.publics ∧ g.keys ≠ g.signs ∧ g.keys ≠ g.signed ∧ g.keys ≠ g.sealed ∧ g.keys ≠ g.wrapped ∧
    g.secrets ≠ g.publics ∧ g.secrets ≠ g.signs ∧ g.secrets ≠ g.signed ∧ g.secrets ≠ g.sealed ∧ g.secrets ≠ g.wrapped ∧
    g.publics ≠ g.signs ∧ g.publics ≠ g.signed ∧ g.publics ≠ g.sealed ∧ g.publics ≠ g.wrapped ∧
    g.signs ≠ g.signed ∧ g.signs ≠ g.sealed ∧ g.signs ≠ g.wrapped ∧ g.signed ≠ g.sealed ∧ g.signed ≠ g.wrapped ∧ g.sealed ≠ g.wrapped := by
  have := h.nd
  simp only [OG.list, List.nodup_cons, List.mem_cons, not_or, List.not_mem_nil, not_false_eq_true, List.nodup_nil, and_true] at this
  simp only [this, ne_eq, not_false_eq_true, and_self]

theorem one_sub {g : OG} {b : Nat} (hb : b ∈ g.list) : ∀ c, (fun x => x = b) c → g.M c := fun c hc => by subst hc; exact .inl hb

theorem Orc.set_used (h : Orc w g S) (k : Ext (fun b => b = g.used) w w') {l : List Int} (hl : MapIs w' g.used u64V (bset l)) : Orc w' g { S with used := l } := by
  have hn := nd_ne h
  have hs := one_sub (g := g) (b := g.used) (by simp [OG.list])
  obtain ⟨lv, h1, h2⟩ := h.sealed
  exact ⟨h.nd, h.st.ext k hs (by simp_all), hl, h.hashes.ext k (by simp_all [eq_comm]), h.keys.ext k (by simp_all [eq_comm]), h.secrets.ext k (by simp_all [eq_comm]), h.publics.ext k (by simp_all [eq_comm]), h.signs.ext k (by simp_all [eq_comm]), h.signed.ext k (by simp_all [eq_comm]), ⟨lv, h1.ext k (by simp_all [eq_comm]), h2.ext k hs⟩, h.wrapped.ext k (by simp_all [eq_comm]), h.xm, fun b hb => Nat.lt_of_lt_of_le (h.xlt b hb) k.size⟩
theorem Orc.set_keys (h : Orc w g S) (k : Ext (fun b => b = g.keys) w w') {l : List Int} (hl : MapIs w' g.keys u64V (bset l)) : Orc w' g { S with keys := l } := by
  have hn := nd_ne h
  have hs := one_sub (g := g) (b := g.keys) (by simp [OG.list])
  obtain ⟨lv, h1, h2⟩ := h.sealed
  exact ⟨h.nd, h.st.ext k hs (by simp_all), h.used.ext k (by simp_all [eq_comm]), h.hashes.ext k (by simp_all [eq_comm]), hl, h.secrets.ext k (by simp_all [eq_comm]), h.publics.ext k (by simp_all [eq_comm]), h.signs.ext k (by simp_all [eq_comm]), h.signed.ext k (by simp_all [eq_comm]), ⟨lv, h1.ext k (by simp_all [eq_comm]), h2.ext k hs⟩, h.wrapped.ext k (by simp_all [eq_comm]), h.xm, fun b hb => Nat.lt_of_lt_of_le (h.xlt b hb) k.size⟩
theorem Orc.set_secrets (h : Orc w g S) (k : Ext (fun b => b = g.secrets) w w') {l : List Int} (hl : MapIs w' g.secrets u64V (bset l)) : Orc w' g { S with secrets := l } := by
  have hn := nd_ne h
  have hs := one_sub (g := g) (b := g.secrets) (by simp [OG.list])
  obtain ⟨lv, h1, h2⟩ := h.sealed
  exact ⟨h.nd, h.st.ext k hs (by simp_all), h.used.ext k (by simp_all [eq_comm]), h.hashes.ext k (by simp_all [eq_comm]), h.keys.ext k (by simp_all [eq_comm]), hl, h.publics.ext k (by simp_all [eq_comm]), h.signs.ext k (by simp_all [eq_comm]), h.signed.ext k (by simp_all [eq_comm]), ⟨lv, h1.ext k (by simp_all [eq_comm]), h2.ext k hs⟩, h.wrapped.ext k (by simp_all [eq_comm]), h.xm, fun b hb => Nat.lt_of_lt_of_le (h.xlt b hb) k.size⟩
theorem Orc.set_publics (h : Orc w g S) (k : Ext (fun b => b = g.publics) w w') {l : List (Int × Int)} (hl : MapIs w' g.publics u64V (l.map fun p => (p.1, u64V p.2))) : Orc w' g { S with publics := l } := by
  have hn := nd_ne h
  have hs := one_sub (g := g) (b := g.publics) (by simp [OG.list])
  obtain ⟨lv, h1, h2⟩ := h.sealed
  exact ⟨h.nd, h.st.ext k hs (by simp_all), h.used.ext k (by simp_all [eq_comm]), h.hashes.ext k (by simp_all [eq_comm]), h.keys.ext k (by simp_all [eq_comm]), h.secrets.ext k (by simp_all [eq_comm]), hl, h.signs.ext k (by simp_all [eq_comm]), h.signed.ext k (by simp_all [eq_comm]), ⟨lv, h1.ext k (by simp_all [eq_comm]), h2.ext k hs⟩, h.wrapped.ext k (by simp_all [eq_comm]), h.xm, fun b hb => Nat.lt_of_lt_of_le (h.xlt b hb) k.size⟩
theorem Orc.set_wrapped (h : Orc w g S) (k : Ext (fun b => b = g.wrapped) w w') {l : List (Int × (Int × Int))} (hl : MapIs w' g.wrapped u64V (l.map fun p => (p.1, .agg #[.int .u64 p.2.1, .int .u64 p.2.2]))) : Orc w' g { S with wrapped := l } := by
  have hn := nd_ne h
  have hs := one_sub (g := g) (b := g.wrapped) (by simp [OG.list])
  obtain ⟨lv, h1, h2⟩ := h.sealed
  exact ⟨h.nd, h.st.ext k hs (by simp_all), h.used.ext k (by simp_all [eq_comm]), h.hashes.ext k (by simp_all [eq_comm]), h.keys.ext k (by simp_all [eq_comm]), h.secrets.ext k (by simp_all [eq_comm]), h.publics.ext k (by simp_all [eq_comm]), h.signs.ext k (by simp_all [eq_comm]), h.signed.ext k (by simp_all [eq_comm]), ⟨lv, h1.ext k (by simp_all [eq_comm]), h2.ext k hs⟩, hl, h.xm, fun b hb => Nat.lt_of_lt_of_le (h.xlt b hb) k.size⟩
theorem Orc.set_sealed (h : Orc w g S) (k : Ext (fun b => b = g.sealed) w w') {l : List (Int × Sealed)} {lv : List (Int × Value)} (hl : MapIs w' g.sealed u64V lv) (hv : SealedL w' g.M l lv) : Orc w' g { S with sealed := l } := by
  have hn := nd_ne h
  have hs := one_sub (g := g) (b := g.sealed) (by simp [OG.list])
  exact ⟨h.nd, h.st.ext k hs (by simp_all), h.used.ext k (by simp_all [eq_comm]), h.hashes.ext k (by simp_all [eq_comm]), h.keys.ext k (by simp_all [eq_comm]), h.secrets.ext k (by simp_all [eq_comm]), h.publics.ext k (by simp_all [eq_comm]), h.signs.ext k (by simp_all [eq_comm]), h.signed.ext k (by simp_all [eq_comm]), ⟨lv, hl, hv⟩, h.wrapped.ext k (by simp_all [eq_comm]), h.xm, fun b hb => Nat.lt_of_lt_of_le (h.xlt b hb) k.size⟩
theorem Orc.set_p (h : Orc w g S) (k : Ext (fun b => b = g.p) w w') {d : List Int} {x : Int} (hl : OrcP w' g d x) : Orc w' g { S with draws := d, next := x } := by
  have hn := nd_ne h
  have hs := one_sub (g := g) (b := g.p) (by simp [OG.list])
  obtain ⟨lv, h1, h2⟩ := h.sealed
  exact ⟨h.nd, hl, h.used.ext k (by simp_all [eq_comm]), h.hashes.ext k (by simp_all [eq_comm]), h.keys.ext k (by simp_all [eq_comm]), h.secrets.ext k (by simp_all [eq_comm]), h.publics.ext k (by simp_all [eq_comm]), h.signs.ext k (by simp_all [eq_comm]), h.signed.ext k (by simp_all [eq_comm]), ⟨lv, h1.ext k (by simp_all [eq_comm]), h2.ext k hs⟩, h.wrapped.ext k (by simp_all [eq_comm]), h.xm, fun b hb => Nat.lt_of_lt_of_le (h.xlt b hb) k.size⟩
end

theorem Q2G {l : List Int} {h : Int} : mlook (bset l) h = if h ∈ l then some (.bool true) else none := by
  induction l with
  | nil => rfl
  | cons a r ih =>
    simp only [bset, List.map_cons, mlook] at ih ⊢
    by_cases ha : a = h
    · simp [ha]
    · simp only [ha, if_false, List.mem_cons, Ne.symm ha, false_or]; exact ih
theorem Q4r {l : List Int} {h : Int} (hn : h ∉ l) : mput (bset l) h (.bool true) = bset (l ++ [h]) := by
  induction l with
  | nil => rfl
  | cons a r ih =>
    simp only [List.mem_cons, not_or] at hn
    simp only [bset, List.map_cons, List.cons_append, mput, Ne.symm hn.1, if_false] at ih ⊢
    rw [ih hn.2]
theorem Q4J {l : List Int} {h : Int} (hn : h ∈ l) : mput (bset l) h (.bool true) = bset l := by
  induction l with
  | nil => cases hn
  | cons a r ih =>
    simp only [bset, List.map_cons, mput] at ih ⊢
    by_cases ha : a = h
    · simp [ha]
    · simp only [ha, if_false]
      rw [ih (by rcases List.mem_cons.1 hn with h | h; exact absurd h.symm ha; exact h)]

/-! ### lists of pairs -/
section
variable {κ β : Type} [DecidableEq κ]
def alook : List (κ × β) → κ → Option β
  | [], _ => none
  | p :: r, x => if p.1 = x then some p.2 else alook r x
def aput : List (κ × β) → κ → β → List (κ × β)
  | [], x, v => [(x, v)]
  | p :: r, x, v => if p.1 = x then (x, v) :: r else p :: aput r x v
theorem Q2D (f : β → Value) : ∀ (l : List (κ × β)) (x : κ), mlook (l.map fun p => (p.1, f p.2)) x = (alook l x).map f
  | [], x => rfl
  | p :: r, x => by
    simp only [List.map_cons, mlook, alook]
    by_cases h : p.1 = x
    · simp [h]
    · simp only [h, if_false]; exact Q2D f r x
theorem Q45 (f : β → Value) : ∀ (l : List (κ × β)) (x : κ) (v : β), mput (l.map fun p => (p.1, f p.2)) x (f v) = (aput l x v).map fun p => (p.1, f p.2)
  | [], x, v => rfl
  | p :: r, x, v => by
    simp only [List.map_cons, mput, aput]
    by_cases h : p.1 = x
    · simp [h]
    · simp only [h, if_false, List.map_cons]; rw [Q45 f r x v]
theorem Q1m : ∀ (l : List (κ × β)) (x y : κ) (v : β), alook (aput l x v) y = if x = y then some v else alook l y
  | [], x, y, v => rfl
  | p :: r, x, y, v => by
    simp only [aput]
    by_cases h : p.1 = x
    · subst h; simp only [if_true, alook]; split <;> rfl
    · simp only [h, if_false, alook, Q1m r x y v]
      by_cases h2 : p.1 = y
      · subst h2; simp [Ne.symm h]
      · simp [h2]
end

/-! ### a fresh handle -/
def pickD : List Int → List Int → Option (Int × List Int)
  | [], _ => none
  | h :: r, used => if h = 0 ∨ h ∈ used then pickD r used else some (h, r)
def pickN (used : List Int) : Nat → Int → Int
  | 0, n => n
  | k + 1, n => if n = 0 ∨ n ∈ used then pickN used k (n + 1) else n
def freshOf (S : OS) : Int × OS :=
  match pickD S.draws S.used with
  | some (h, r) => (h, { S with draws := r, used := S.used ++ [h] })
  | none => let h := pickN S.used (S.used.length + 1) S.next; (h, { S with draws := [], next := h, used := S.used ++ [h] })
def OS.ok (S : OS) : Prop := 1 ≤ S.next ∧ (∀ n, 1 ≤ n → n < S.next → n ∈ S.used) ∧ S.next ≤ S.used.length + 1 ∧ ∀ d ∈ S.draws, 0 ≤ d ∧ d < 18446744073709551616

theorem Q1q (used : List Int) : ∀ (k : Nat) (n : Int), 1 ≤ n → (∃ m, n ≤ m ∧ m < n + k ∧ m ∉ used) →
    n ≤ pickN used k n ∧ pickN used k n < n + k ∧ pickN used k n ∉ used ∧ pickN used k n ≠ 0 ∧ ∀ m, n ≤ m → m < pickN used k n → m ∈ used
  | 0, n, h1, ⟨m, h2, h3, _⟩ => by omega
  | k + 1, n, h1, ⟨m, h2, h3, h4⟩ => by
    simp only [pickN]
    by_cases hn : n = 0 ∨ n ∈ used
    · rw [if_pos hn]
      have hn' : n ∈ used := hn.resolve_left (by omega)
      have hm : m ≠ n := fun e => h4 (e ▸ hn')
      obtain ⟨a, b, c, d, e⟩ := Q1q used k (n + 1) (by omega) ⟨m, by omega, by omega, h4⟩
      refine ⟨by omega, by omega, c, d, fun q hq1 hq2 => ?_⟩
      by_cases hqn : q = n
      · subst hqn; exact hn'
      · exact e q (by omega) hq2
    · rw [if_neg hn]
      rw [not_or] at hn
      exact ⟨by omega, by omega, hn.2, hn.1, fun q h1 h2 => by omega⟩

theorem gap (used : List Int) : ∀ (k : Nat) (n : Int), used.length < k → ∃ m, n ≤ m ∧ m < n + k ∧ m ∉ used := by
  induction used with
  | nil => intro k n hk; exact ⟨n, by omega, by simp at hk; omega, by simp⟩
  | cons a r ih =>
    intro k n hk
    simp only [List.length_cons] at hk
    -- numbers below and above a
    by_cases ha : n ≤ a ∧ a < n + k
    · by_cases hr : (r.length : Int) < a - n
      · obtain ⟨m, h1, h2, h3⟩ := ih (a - n).toNat n (by omega)
        exact ⟨m, h1, by omega, by simp only [List.mem_cons, not_or]; exact ⟨by omega, h3⟩⟩
      · -- count below and above together: move the numbers above a down by one
        obtain ⟨m, h1, h2, h3⟩ : ∃ m, n ≤ m ∧ m < n + (k - 1 : Nat) ∧ m ∉ r.map (fun x => if a < x then x - 1 else x) := by
          have hl : (r.map (fun x => if a < x then x - 1 else x)).length < k - 1 := by simp; omega
          have : ∀ (l : List Int) (k : Nat), l.length < k → ∃ m, n ≤ m ∧ m < n + k ∧ m ∉ l := by
            intro l
            induction hq : l.length generalizing l with
            | zero =>
              intro k hk
              have : l = [] := List.eq_nil_of_length_eq_zero hq
              subst this; exact ⟨n, by omega, by omega, by simp⟩
            | succ q ihq =>
              intro k hk
              by_cases hall : ∃ m, n ≤ m ∧ m < n + k ∧ m ∉ l
              · exact hall
              · exfalso
                -- the last number is in l: strike it
                have hlast : (n + k - 1) ∈ l := by
                  by_cases h : (n + k - 1) ∈ l
                  · exact h
                  · exact absurd ⟨n + k - 1, by omega, by omega, h⟩ hall
                have hlen : (l.erase (n + k - 1)).length = q := by rw [List.length_erase_of_mem hlast, hq]; rfl
                obtain ⟨m, h1, h2, h3⟩ := ihq (l.erase (n + k - 1)) hlen (k - 1) (by omega)
                refine hall ⟨m, h1, by omega, fun hm => h3 ?_⟩
                exact (List.mem_erase_of_ne (by omega)).2 hm
          exact this _ _ hl
        by_cases hma : m < a
        · refine ⟨m, h1, by omega, ?_⟩
          simp only [List.mem_cons, not_or]
          refine ⟨by omega, fun hm => h3 ?_⟩
          exact List.mem_map.2 ⟨m, hm, by rw [if_neg (by omega)]⟩
        · refine ⟨m + 1, by omega, by omega, ?_⟩
          simp only [List.mem_cons, not_or]
          refine ⟨by omega, fun hm => h3 ?_⟩
          exact List.mem_map.2 ⟨m + 1, hm, by rw [if_pos (by omega)]; omega⟩
    · obtain ⟨m, h1, h2, h3⟩ := ih k n (by omega)
      exact ⟨m, h1, h2, by simp only [List.mem_cons, not_or]; exact ⟨by omega, h3⟩⟩

theorem Q2l {d used : List Int} {h : Int} {r : List Int} (hp : pickD d used = some (h, r)) : h ≠ 0 ∧ h ∉ used ∧ h ∈ d := by
  induction d with
  | nil => simp [pickD] at hp
  | cons a d ih =>
    simp only [pickD] at hp
    by_cases ha : a = 0 ∨ a ∈ used
    · rw [if_pos ha] at hp
      obtain ⟨h1, h2, h3⟩ := ih hp
      exact ⟨h1, h2, List.mem_cons_of_mem _ h3⟩
    · rw [if_neg ha] at hp
      simp only [Option.some.injEq, Prod.mk.injEq] at hp
      rw [not_or] at ha
      exact ⟨hp.1 ▸ ha.1, hp.1 ▸ ha.2, hp.1 ▸ List.mem_cons_self⟩

theorem Q3G {d used : List Int} {h : Int} {r : List Int} (hp : pickD d used = some (h, r)) : ∀ x ∈ r, x ∈ d := by
  induction d with
  | nil => simp [pickD] at hp
  | cons a d ih =>
    simp only [pickD] at hp
    by_cases ha : a = 0 ∨ a ∈ used
    · rw [if_pos ha] at hp
      exact fun x hx => List.mem_cons_of_mem _ (ih hp x hx)
    · rw [if_neg ha] at hp
      simp only [Option.some.injEq, Prod.mk.injEq] at hp
      rw [← hp.2]
      exact fun x hx => List.mem_cons_of_mem _ hx
theorem Q3t {S : OS} (h : S.ok) (hl : S.used.length < 1000000) : 0 < (freshOf S).1 ∧ (freshOf S).1 < 18446744073709551616 := by
  obtain ⟨h1, h2, h3, h4⟩ := h
  unfold freshOf
  cases hp : pickD S.draws S.used with
  | some q =>
    obtain ⟨x, r⟩ := q
    obtain ⟨a, b, c⟩ := Q2l hp
    have := h4 x c
    exact ⟨by show 0 < x; omega, this.2⟩
  | none =>
    obtain ⟨a, b, c, d, e⟩ := Q1q S.used (S.used.length + 1) S.next h1 (gap S.used _ _ (by omega))
    exact ⟨by show 0 < pickN _ _ _; omega, by show pickN _ _ _ < _; omega⟩
theorem Q1h {S : OS} (h : S.ok) : (freshOf S).1 ≠ 0 ∧ (freshOf S).1 ∉ S.used ∧ (freshOf S).2.used = S.used ++ [(freshOf S).1] ∧ (freshOf S).2.ok := by
  obtain ⟨h1, h2, h3, h4⟩ := h
  unfold freshOf
  cases hp : pickD S.draws S.used with
  | some q =>
    obtain ⟨x, r⟩ := q
    obtain ⟨a, b, _⟩ := Q2l hp
    exact ⟨a, b, rfl, h1, fun n hn1 hn2 => List.mem_append_left _ (h2 n hn1 hn2), by simp; omega, fun d hd => h4 d (Q3G hp d hd)⟩
  | none =>
    obtain ⟨a, b, c, d, e⟩ := Q1q S.used (S.used.length + 1) S.next h1 (gap S.used _ _ (by omega))
    refine ⟨d, c, rfl, by show 1 ≤ pickN _ _ _; omega, fun n hn1 hn2 => ?_, ?_, fun d hd => by cases hd⟩
    · refine List.mem_append_left _ ?_
      by_cases hlt : n < S.next
      · exact h2 n hn1 hlt
      · exact e n (by omega) hn2
    · -- all numbers from 1 on below it are used, and they are apart
      show pickN S.used (S.used.length + 1) S.next ≤ ((S.used ++ [_]).length : Int) + 1
      have hall : ∀ m, 1 ≤ m → m < pickN S.used (S.used.length + 1) S.next → m ∈ S.used := fun m h1' h2' => by
        by_cases hlt : m < S.next
        · exact h2 m h1' hlt
        · exact e m (by omega) h2'
      by_cases hle : pickN S.used (S.used.length + 1) S.next ≤ (S.used.length : Int) + 2
      · simp; omega
      · obtain ⟨m, q1, q2, q3⟩ := gap S.used (S.used.length + 1) 1 (by omega)
        exact absurd (hall m q1 (by omega)) q3

theorem Q0R (S : OS) : (freshOf S).2.hashes = S.hashes ∧ (freshOf S).2.keys = S.keys ∧ (freshOf S).2.secrets = S.secrets ∧ (freshOf S).2.publics = S.publics ∧
    (freshOf S).2.signs = S.signs ∧ (freshOf S).2.signed = S.signed ∧ (freshOf S).2.sealed = S.sealed ∧ (freshOf S).2.wrapped = S.wrapped := by
  unfold freshOf
  cases pickD S.draws S.used with
  | some q => exact ⟨rfl, rfl, rfl, rfl, rfl, rfl, rfl, rfl⟩
  | none => exact ⟨rfl, rfl, rfl, rfl, rfl, rfl, rfl, rfl⟩

def OS.init (l : List Int) : OS := ⟨l, [], 1, [], [], [], [], [], [], [], []⟩
theorem OS.init_ok (l : List Int) (hl : ∀ d ∈ l, 0 ≤ d ∧ d < 18446744073709551616) : (OS.init l).ok := ⟨Int.le_refl _, fun n h1 h2 => by simp only [OS.init] at h2; omega, by simp [OS.init], hl⟩
def badd (l : List Int) (x : Int) : List Int := if x ∈ l then l else l ++ [x]
theorem Q4B (l : List Int) (x : Int) : mput (bset l) x (.bool true) = bset (badd l x) := by
  unfold badd
  split
  · exact Q4J ‹_›
  · exact Q4r ‹_›
def keyOf (S : OS) : Int × OS := ((freshOf S).1, { (freshOf S).2 with keys := badd S.keys (freshOf S).1 })
theorem Q4e {S : OS} (h : S.ok) : (keyOf S).2.ok ∧ (keyOf S).2.used.length ≤ S.used.length + 1 := by
  obtain ⟨_, _, h3, h4⟩ := Q1h h
  exact ⟨h4, by show (freshOf S).2.used.length ≤ _; rw [h3]; simp⟩

def pairOf (S : OS) : (Int × Int) × OS :=
  let S1 := { (freshOf S).2 with secrets := badd S.secrets (freshOf S).1 }
  (((freshOf S).1, (freshOf S1).1), { (freshOf S1).2 with publics := aput S.publics (freshOf S1).1 (freshOf S).1 })
theorem Q2A {S : OS} (h : S.ok) : (pairOf S).2.ok ∧ (pairOf S).2.used.length ≤ S.used.length + 2 := by
  obtain ⟨_, _, h3, h4⟩ := Q1h h
  have h5 : OS.ok { (freshOf S).2 with secrets := badd S.secrets (freshOf S).1 } := h4
  obtain ⟨_, _, h6, h7⟩ := Q1h h5
  exact ⟨h7, by show (freshOf _).2.used.length ≤ _; rw [h6]; show ((freshOf S).2.used ++ _).length ≤ _; rw [h3]; simp⟩
theorem Q51 {S : OS} (h : S.ok) : (pairOf S).1.1 ≠ 0 ∧ (pairOf S).1.2 ≠ 0 ∧ (pairOf S).1.1 ∉ S.used ∧ (pairOf S).1.2 ∉ S.used ∧ (pairOf S).1.1 ≠ (pairOf S).1.2 ∧ (pairOf S).2.used = S.used ++ [(pairOf S).1.1] ++ [(pairOf S).1.2] ∧
    (pairOf S).2.secrets = badd S.secrets (pairOf S).1.1 ∧ (pairOf S).2.publics = aput S.publics (pairOf S).1.2 (pairOf S).1.1 ∧
    (pairOf S).2.hashes = S.hashes ∧ (pairOf S).2.keys = S.keys ∧ (pairOf S).2.signs = S.signs ∧ (pairOf S).2.signed = S.signed ∧ (pairOf S).2.sealed = S.sealed ∧ (pairOf S).2.wrapped = S.wrapped := by
  obtain ⟨a1, a2, a3, a4⟩ := Q1h h
  have h5 : OS.ok { (freshOf S).2 with secrets := badd S.secrets (freshOf S).1 } := a4
  obtain ⟨b1, b2, b3, b4⟩ := Q1h h5
  obtain ⟨c1, c2, c3, c4, c5, c6, c7, c8⟩ := Q0R S
  obtain ⟨d1, d2, d3, d4, d5, d6, d7, d8⟩ := Q0R { (freshOf S).2 with secrets := badd S.secrets (freshOf S).1 }
  have hu : ({ (freshOf S).2 with secrets := badd S.secrets (freshOf S).1 } : OS).used = S.used ++ [(freshOf S).1] := a3
  rw [hu] at b2 b3
  simp only [List.mem_append, List.mem_singleton, not_or] at b2
  exact ⟨a1, b1, a2, b2.1, fun e => b2.2 e.symm, b3, d3, rfl, d1.trans c1, d2.trans c2, d5.trans c5, d6.trans c6, d7.trans c7, d8.trans c8⟩

theorem SealedL.look {w : World} {m : Nat → Prop} : ∀ {l : List (Int × Sealed)} {lv : List (Int × Value)}, SealedL w m l lv → ∀ x, (alook l x = none ∧ mlook lv x = none) ∨ ∃ s v, alook l x = some s ∧ mlook lv x = some v ∧ SealedV w m s v
  | [], [], _, x => .inl ⟨rfl, rfl⟩
  | p :: r, q :: s, h, x => by
    obtain ⟨h1, h2, h3⟩ := h
    simp only [alook, mlook, ← h1]
    by_cases hp : p.1 = x
    · rw [if_pos hp, if_pos hp]; exact .inr ⟨_, _, rfl, rfl, h2⟩
    · rw [if_neg hp, if_neg hp]; exact SealedL.look h3 x
  | [], _ :: _, h, _ => h.elim
  | _ :: _, [], h, _ => h.elim
theorem SealedL.put {w : World} {m : Nat → Prop} {x : Int} {t : Sealed} {v : Value} (hv : SealedV w m t v) : ∀ {l : List (Int × Sealed)} {lv : List (Int × Value)}, SealedL w m l lv → SealedL w m (aput l x t) (mput lv x v)
  | [], [], _ => ⟨rfl, hv, trivial⟩
  | p :: r, q :: s, h => by
    obtain ⟨h1, h2, h3⟩ := h
    simp only [aput, mput, ← h1]
    by_cases hp : p.1 = x
    · rw [if_pos hp, if_pos hp]; exact ⟨rfl, hv, h3⟩
    · rw [if_neg hp, if_neg hp]; exact ⟨h1, h2, SealedL.put hv h3⟩
  | [], _ :: _, h => h.elim
  | _ :: _, [], h => h.elim
theorem Orc.ltM {w : World} {g : OG} {S : OS} (h : Orc w g S) : ∀ b, g.M b → b < w.heap.size := fun b hb => hb.elim (h.mlt b) (h.xlt b)

theorem keysU : Keys Try.prog 36 u64V := Q6E Try.underlying36
def Gives (v : Value) (Q : World → Prop) (e : Ending) (w' : World) : Prop := e = .returned v ∧ Q w'

section
variable {w w' : World} {g : OG} {S : OS}
theorem Orc.pCell (h : Orc w g S) {i : Nat} {v : Value} (hv : ∀ da dc, ([.slice da S.draws.length dc, .map (some g.used), .int .u64 S.next, .map (some g.hashes), .map (some g.keys), .map (some g.secrets), .map (some g.publics), .map (some g.signs), .map (some g.signed), .map (some g.sealed), .map (some g.wrapped)] : List Value)[i]? = some v) :
    w.cell? ((blk g.p).add i) = some v := by
  obtain ⟨da, dc, hb, _⟩ := h.st
  exact hb.cella (hv da dc)

theorem m_used : g.m g.used := by simp [OG.m, OG.list]
theorem m_p : g.m g.p := by simp [OG.m, OG.list]
theorem m_keys : g.m g.keys := by simp [OG.m, OG.list]
theorem Q66 : g.m g.secrets := by simp [OG.m, OG.list]
theorem Q5X : g.m g.publics := by simp [OG.m, OG.list]

theorem take_no (h : Orc w g S) {x : Int} (hx : x = 0 ∨ x ∈ S.used) :
    Calls Try.prog 72 #[.pointer (some (blk g.p)), .int .u64 x] w (Gives (.bool false) fun w' => w' = w) := by
  refine (oTake.ok _ _ (R := fun v w' => v = .bool false ∧ w' = w) ?_).mono fun e w' ⟨v, he, hv, hw⟩ => ⟨by rw [he, hv], hw⟩
  unfold oTake.M
  by_cases h0 : x = 0
  · subst h0; exact ⟨rfl, rfl⟩
  · have hx' : x ∈ S.used := hx.resolve_left h0
    have : (x == 0) = false := by simpa using h0
    rw [this]
    obtain ⟨i, hi, hz, _⟩ := info_of inf4
    have hl := h.used.lookup keysU Try.underlying94 hi hz x false
    rw [Q2G, if_pos hx'] at hl
    exact ⟨some g.used, h.pCell fun _ _ => rfl, true, hl, rfl, rfl⟩
theorem Q5h (h : Orc w g S) {x : Int} (h0 : x ≠ 0) (hx : x ∉ S.used) :
    Calls Try.prog 72 #[.pointer (some (blk g.p)), .int .u64 x] w (Gives (.bool true) fun w' => Orc w' g { S with used := S.used ++ [x] } ∧ Ext g.m w w') := by
  refine (oTake.ok _ _ (R := fun v w' => v = .bool true ∧ Orc w' g { S with used := S.used ++ [x] } ∧ Ext g.m w w') ?_).mono fun e w' ⟨v, he, hv, hw⟩ => ⟨by rw [he, hv], hw⟩
  unfold oTake.M
  have : (x == 0) = false := by simpa using h0
  rw [this]
  obtain ⟨i, hi, hz, _⟩ := info_of inf4
  have hl := h.used.lookup keysU Try.underlying94 hi hz x false
  rw [Q2G, if_neg hx] at hl
  obtain ⟨w1, hr, hm, hext⟩ := h.used.update keysU Try.underlying94 x (.bool true)
  rw [Q4r hx] at hm
  exact ⟨some g.used, h.pCell fun _ _ => rfl, false, hl, some g.used, h.pCell fun _ _ => rfl, w1, hr, rfl, h.set_used (hext _ rfl) hm, hext _ m_used⟩

theorem Q1R (h : Orc w g S) (hok : S.ok) (hlen : S.used.length < 1000000) :
    Calls Try.prog 37 #[.pointer (some (blk g.p))] w (Gives (u64V (freshOf S).1) fun w' => Orc w' g (freshOf S).2 ∧ Ext g.m w w') := by
  refine (oFresh.ok _ (R := fun v w' => v = u64V (freshOf S).1 ∧ Orc w' g (freshOf S).2 ∧ Ext g.m w w') ?_).mono fun e w' ⟨v, he, hv, hw⟩ => ⟨by rw [he, hv], hw⟩
  unfold oFresh.M
  refine ⟨fun k vs w1 => ∃ d, k = d.length ∧ Orc w1 g { S with draws := d } ∧ pickD d S.used = pickD S.draws S.used ∧ Ext g.m w w1, S.draws.length, ⟨S.draws, rfl, h, rfl, Ext.refl _ _⟩, ?_⟩
  rintro k w1 ⟨d, rfl, h1, hp, hx⟩
  obtain ⟨da, dc, hb, hle, hrow, hout⟩ := h1.st
  refine ⟨da, d.length, dc, hb.cella rfl, ?_⟩
  cases d with
  | nil =>
    -- the counter
    simp only [List.length_nil, Int.natCast_zero, gt_iff_lt, Int.lt_irrefl, decide_false, cond_false]
    have hf : freshOf S = (pickN S.used (S.used.length + 1) S.next, { S with draws := [], next := pickN S.used (S.used.length + 1) S.next, used := S.used ++ [pickN S.used (S.used.length + 1) S.next] }) := by
      simp [freshOf, ← hp, pickD]
    obtain ⟨q1, q2, q3, q4⟩ := hok
    obtain ⟨a1, a2, a3, a4, a5⟩ := Q1q S.used (S.used.length + 1) S.next q1 (gap S.used _ _ (by omega))
    rw [hf]
    generalize hN : pickN S.used (S.used.length + 1) S.next = N at *
    refine ⟨fun k vs w1 => ∃ n, S.next ≤ n ∧ n ≤ N ∧ k = (N - n).toNat ∧ Orc w1 g { S with draws := [], next := n } ∧ Ext g.m w w1, (N - S.next).toNat, ⟨S.next, Int.le_refl _, a1, rfl, h1, hx⟩, ?_⟩
    rintro k w2 ⟨n, hn1, hn2, rfl, h2, hx2⟩
    refine ⟨n, h2.pCell fun _ _ => rfl, ?_⟩
    by_cases hn : n = N
    · subst hn
      refine (Q5h h2 a4 a3).mono fun e w3 ⟨he, h3, hx3⟩ => ⟨true, he, ?_⟩
      exact ⟨n, h3.pCell fun _ _ => rfl, rfl, h3, hx2.trans hx3⟩
    · refine (take_no h2 (.inr (a5 n hn1 (by omega)))).mono fun e w3 ⟨he, hw3⟩ => ⟨false, he, ?_⟩
      subst hw3
      obtain ⟨da2, dc2, hb2, hle2, hrow2, hout2⟩ := h2.st
      have hwr : IntKind.u64.wrap (n + 1) = n + 1 := by
        simp only [IntKind.wrap, IntKind.bits, IntKind.signed]
        simp
        omega
      refine ⟨n, h2.pCell fun _ _ => rfl, hb2.cana (i := 2) rfl, Q01 fun w4 hw4 => ?_⟩
      rw [hwr] at hw4
      have hext : Ext (fun b => b = g.p) w3 w4 := by
        subst hw4; exact (Ext.refl _ _).setCell (.inl (by rw [add_zero, add_blk])) _
      have hb4 := hb2.seta 2 (.int .u64 (n + 1))
      refine ⟨(N - (n + 1)).toNat, by omega, n + 1, by omega, by omega, rfl, ?_, hx2.trans (hext.mono fun b hb _ => by subst hb; exact m_p)⟩
      refine h2.set_p hext ⟨da2, dc2, ?_, hle2, RowAt.nil _ _, hout2⟩
      subst hw4
      exact hb4
  | cons x r =>
    have hpos : decide (((x :: r).length : Int) > 0) = true := by simp
    rw [hpos]
    have hcell : w1.cell? (((blk g.p).add 0)) = some (.slice da (x :: r).length dc) := hb.cella rfl
    obtain ⟨ad, rfl⟩ := hrow.addr (by simp)
    have hx0 : w1.cell? (ad.add (Int.toNat 0 * 1)) = some (.int .u64 x) := hrow.at_ (i := 0) rfl
    refine ⟨_, _, dc, hcell, Int.le_refl _, by show (0 : Int) < ((x :: r).length : Int); rw [List.length_cons]; omega, x, hx0, _, _, dc, hcell, by omega, by show (1 : Int) ≤ ((x :: r).length : Int); rw [List.length_cons]; omega, hb.cana (i := 0) rfl, Q01 fun w2 hw2 => ?_⟩
    have hext : Ext (fun b => b = g.p) w1 w2 := by
      subst hw2; exact (Ext.refl _ _).setCell (.inl (by rw [add_zero, add_blk])) _
    have hb2 := hb.seta 0 (.slice (if dc = Int.toNat 1 then some ad else Option.map (fun z : Addr => z.add ((Int.toNat 1) * 1)) (some ad)) ((x :: r).length - (Int.toNat 1)) (dc - (Int.toNat 1)))
    have hxm : Ext g.m w w2 := hx.trans (hext.mono fun b hb _ => by subst hb; exact m_p)
    have hrow2 : RowAt w1 (if dc = 1 then some ad else Option.map (·.add 1) (some ad)) (r.map u64V) := by
      have := hrow.drop 1 dc (fun e => by simp only [List.length_cons, List.length_map] at hle ⊢; omega)
      simpa using this
    have hout2 : r.map u64V ≠ [] → Out g.M (if dc = 1 then some ad else Option.map (·.add 1) (some ad)) := fun _ q hq => by
      split at hq
      · exact hout (by simp) q hq
      · simp only [Option.map_some, Option.some.injEq] at hq
        subst hq; rw [Q1a]; exact hout (by simp) ad rfl
    have h2 : Orc w2 g { S with draws := r } := by
      refine h1.set_p (x := S.next) hext ⟨_, dc - 1, ?_, by simp at hle ⊢; omega, hrow2.ext' hext (fun h0 q hq hb => hout2 h0 q hq (.inl (by rw [hb]; exact m_p))), hout2⟩
      subst hw2
      exact hb2
    by_cases hxu : x = 0 ∨ x ∈ S.used
    · refine (take_no h2 hxu).mono fun e w3 ⟨he, hw3⟩ => ⟨false, he, ?_⟩
      subst hw3
      exact ⟨r.length, by simp, r, rfl, h2, by rw [← hp]; simp [pickD, hxu], hxm⟩
    · rw [not_or] at hxu
      refine (Q5h h2 hxu.1 hxu.2).mono fun e w3 ⟨he, h3, hx3⟩ => ⟨true, he, ?_⟩
      have hf : freshOf S = (x, { S with draws := r, used := S.used ++ [x] }) := by
        simp [freshOf, ← hp, pickD, hxu]
      rw [hf]
      exact ⟨rfl, h3, hxm.trans hx3⟩

theorem u64_one (l : List Int) : ∀ u ∈ l.map u64V, u.oneCell' = true := fun u hu => by
  obtain ⟨b, _, rfl⟩ := List.mem_map.1 hu; rfl
theorem Q4G {a : Option Addr} {c : Nat} {l : List Int} (h : RowAt w a (l.map u64V)) (hl : l.length ≤ 1000000) :
    Calls Try.prog 36 #[.slice a l.length c] w (fun e w' => ∃ a' c', e = .returned (.slice a' l.length c') ∧ l.length ≤ c' ∧ RowAt w' a' (l.map u64V) ∧ Ext no w w' ∧ Fresh w w' a') := by
  refine (clone64.ok a l.length c (R := fun v w' => ∃ a' c', v = (.slice a' l.length c') ∧ l.length ≤ c' ∧ RowAt w' a' (l.map u64V) ∧ Ext no w w' ∧ Fresh w w' a') ?_).mono fun e w' ⟨v, he, a', c', hv, hw⟩ => ⟨a', c', by rw [he, hv], hw⟩
  unfold clone64.M
  cases a with
  | none =>
    have : l = [] := by simpa using h.none_nil
    subst this
    exact ⟨none, 0, rfl, Nat.le_refl _, RowAt.nil _ _, Ext.refl _ _, fun ad ha => by cases ha⟩
  | some ad =>
    rw [Option.isNone_some, cond_false]
    refine Q01 fun w2 hw2 => ?_
    subst hw2
    obtain ⟨i, hi, hz, hs, hb⟩ := info_of inf36
    obtain ⟨a', c', w', hr, h1, h2, h3, h4⟩ := Q4C (c := c) (m := l.length) (ty := 22) Try.underlying22 hi hz hs hb rfl (by simp) h (u64_one l) (by omega) (by omega)
    exact ⟨a', l.length, c', w', hr, a', c', rfl, h1, h2, h3, h4⟩
theorem Q1G {a : Option Addr} {c : Nat} {l : List UInt8} (h : RowAt w a (bytesV l)) (hl : l.length ≤ 1000000) :
    Calls Try.prog 60 #[.slice a l.length c] w (fun e w' => ∃ a' c', e = .returned (.slice a' l.length c') ∧ l.length ≤ c' ∧ RowAt w' a' (bytesV l) ∧ Ext no w w' ∧ Fresh w w' a') := by
  refine (cloneB.ok a l.length c (R := fun v w' => ∃ a' c', v = (.slice a' l.length c') ∧ l.length ≤ c' ∧ RowAt w' a' (bytesV l) ∧ Ext no w w' ∧ Fresh w w' a') ?_).mono fun e w' ⟨v, he, a', c', hv, hw⟩ => ⟨a', c', by rw [he, hv], hw⟩
  unfold cloneB.M
  cases a with
  | none =>
    have : l = [] := by simpa [bytesV] using h.none_nil
    subst this
    exact ⟨none, 0, rfl, Nat.le_refl _, RowAt.nil _ _, Ext.refl _ _, fun ad ha => by cases ha⟩
  | some ad =>
    rw [Option.isNone_some, cond_false]
    refine Q01 fun w2 hw2 => ?_
    subst hw2
    obtain ⟨i, hi, hz, hs, hb⟩ := info_of inf5
    obtain ⟨a', c', w', hr, h1, h2, h3, h4⟩ := Q4C (c := c) (m := l.length) (ty := 25) Try.underlying25 hi hz hs hb rfl (Q1o l) h (Q2I l) (by omega) (by omega)
    exact ⟨a', l.length, c', w', hr, a', c', rfl, h1, h2, h3, h4⟩

theorem new_map {κ : Type} [DecidableEq κ] (enc : κ → Value) {w1 w2 : World} (h : w2 = w1.alloc (.map #[] 0)) : MapIs w2 w1.heap.size enc [] ∧ Ext no w1 w2 ∧ w2.heap.size = w1.heap.size + 1 := by
  subst h; exact ⟨MapIs.new _ _, (Ext.refl _ _).alloc _, by simp⟩
theorem Q6b (x0 : Nat → Prop) (hx0 : ∀ b, x0 b → b < w.heap.size) {a : Option Addr} {c : Nat} {l : List Int} (h : RowAt w a (l.map u64V)) (hl : l.length ≤ 1000000) :
    Calls Try.prog 15 #[.slice a l.length c] w (fun e w' => ∃ g : OG, e = .returned (.pointer (some (blk g.p))) ∧ Orc w' g (OS.init l) ∧ Ext no w w' ∧ (∀ b, g.m b → w.heap.size ≤ b ∧ b < w'.heap.size) ∧ g.x = x0) := by
  refine (oNew.ok a l.length c (R := fun v w' => ∃ g : OG, v = (.pointer (some (blk g.p))) ∧ Orc w' g (OS.init l) ∧ Ext no w w' ∧ (∀ b, g.m b → w.heap.size ≤ b ∧ b < w'.heap.size) ∧ g.x = x0) ?_).mono fun e w' ⟨v, he, g, hv, hw⟩ => ⟨g, by rw [he, hv], hw⟩
  unfold oNew.M
  refine (Q4G h hl).mono fun e w4 ⟨a', c', he, hle, hrow, hx, hf⟩ => ⟨a', l.length, c', he, ?_⟩
  refine Q01 fun w5 h5 => Q01 fun w6 h6 => Q01 fun w7 h7 => Q01 fun w8 h8 => Q01 fun w9 h9 => Q01 fun w10 h10 => Q01 fun w11 h11 => Q01 fun w12 h12 => Q01 fun w13 h13 => Q01 fun w14 h14 => ?_
  obtain ⟨m5, e5, s5⟩ := new_map u64V h5
  obtain ⟨m6, e6, s6⟩ := new_map strV h6
  obtain ⟨m7, e7, s7⟩ := new_map u64V h7
  obtain ⟨m8, e8, s8⟩ := new_map u64V h8
  obtain ⟨m9, e9, s9⟩ := new_map u64V h9
  obtain ⟨m10, e10, s10⟩ := new_map signedV h10
  obtain ⟨m11, e11, s11⟩ := new_map u64V h11
  obtain ⟨m12, e12, s12⟩ := new_map u64V h12
  obtain ⟨m13, e13, s13⟩ := new_map u64V h13
  have e14 : Ext no w13 w14 := by rw [h14]; exact (Ext.refl _ _).alloc _
  have s14 : w14.heap.size = w13.heap.size + 1 := by rw [h14]; simp
  have x13 := e14
  have x12 := e13.trans x13
  have x11 := e12.trans x12
  have x10 := e11.trans x11
  have x9 := e10.trans x10
  have x8 := e9.trans x9
  have x7 := e8.trans x8
  have x6 := e7.trans x7
  have x5 := e6.trans x6
  have x4 := e5.trans x5
  have hsz := hx.size
  have hm : ∀ b, (OG.mk w13.heap.size w4.heap.size w5.heap.size w6.heap.size w7.heap.size w8.heap.size w9.heap.size w10.heap.size w11.heap.size w12.heap.size x0).m b → w4.heap.size ≤ b ∧ b < w14.heap.size := fun b hb => by
    simp only [OG.m, OG.list, List.mem_cons, List.not_mem_nil, or_false] at hb
    omega
  refine ⟨⟨w13.heap.size, w4.heap.size, w5.heap.size, w6.heap.size, w7.heap.size, w8.heap.size, w9.heap.size, w10.heap.size, w11.heap.size, w12.heap.size, x0⟩, rfl, ⟨?_, ?_, m5.ext x5 id, m6.ext x6 id, m7.ext x7 id, m8.ext x8 id, m9.ext x9 id, m10.ext x10 id, m11.ext x11 id, ⟨[], m12.ext x12 id, trivial⟩, m13.ext x13 id, fun b hb hxx => ?_, fun b hb => ?_⟩, hx.trans x4, fun b hb => ⟨?_, (hm b hb).2⟩, rfl⟩
  · simp only [OG.list, List.nodup_cons, List.mem_cons, not_or, List.not_mem_nil, not_false_eq_true, List.nodup_nil, and_true]
    omega
  · refine ⟨a', c', ?_, hle, hrow.ext x4 (fun _ _ h => h), fun _ => hf.out fun b hb => hb.elim (fun hb => .inr (hm b hb).1) (fun hb => .inl (hx0 b hb))⟩
    rw [h14]
    exact Blk.new _ _ _
  · have h1 := (hm b hb).1
    have h2 := hx0 b hxx
    omega
  · exact Nat.lt_of_lt_of_le (hx0 b hb) (hx.trans x4).size
  · exact Nat.le_trans hsz (hm b hb).1

theorem Q6J (h : Orc w g S) (hok : S.ok) (hlen : S.used.length < 1000000) :
    Calls Try.prog 39 #[.pointer (some (blk g.p))] w (Gives (u64V (keyOf S).1) fun w' => Orc w' g (keyOf S).2 ∧ Ext g.m w w') := by
  refine (oKey.ok _ (R := fun v w' => v = u64V (keyOf S).1 ∧ Orc w' g (keyOf S).2 ∧ Ext g.m w w') ?_).mono fun e w' ⟨v, he, hv, hw⟩ => ⟨by rw [he, hv], hw⟩
  unfold oKey.M
  refine (Q1R h hok hlen).mono fun e w4 ⟨he, hO, hx⟩ => ⟨(freshOf S).1, he, ?_⟩
  obtain ⟨w7, hu, hm, hext⟩ := hO.keys.update keysU Try.underlying94 (freshOf S).1 (.bool true)
  rw [(Q0R S).2.1, Q4B] at hm
  exact ⟨some g.keys, hO.pCell fun _ _ => rfl, w7, hu, rfl, hO.set_keys (hext _ rfl) hm, hx.trans (hext _ m_keys)⟩

end
section
variable {w w' : World} {g : OG} {S : OS}
theorem Q6L : g.m g.sealed := by simp [OG.m, OG.list]
theorem Q68 : g.m g.wrapped := by simp [OG.m, OG.list]

theorem Q60 (h : Orc w g S) (hok : S.ok) (hlen : S.used.length + 1 < 1000000) :
    Calls Try.prog 16 #[.pointer (some (blk g.p))] w (Gives (.tuple #[u64V (pairOf S).1.1, u64V (pairOf S).1.2]) fun w' => Orc w' g (pairOf S).2 ∧ Ext g.m w w') := by
  refine (oPair.ok _ (R := fun v w' => v = .tuple #[u64V (pairOf S).1.1, u64V (pairOf S).1.2] ∧ Orc w' g (pairOf S).2 ∧ Ext g.m w w') ?_).mono fun e w' ⟨v, he, hv, hw⟩ => ⟨by rw [he, hv], hw⟩
  unfold oPair.M
  refine (Q1R h hok (by omega)).mono fun e w4 ⟨he, hO, hx⟩ => ⟨(freshOf S).1, he, ?_⟩
  obtain ⟨w7, hu, hm, hext⟩ := hO.secrets.update keysU Try.underlying94 (freshOf S).1 (.bool true)
  rw [(Q0R S).2.2.1, Q4B] at hm
  have hO7 := hO.set_secrets (hext _ rfl) hm
  obtain ⟨_, _, h3, h4⟩ := Q1h hok
  refine ⟨some g.secrets, hO.pCell fun _ _ => rfl, w7, hu, ?_⟩
  refine (Q1R hO7 h4 (by show (freshOf S).2.used.length < _; rw [h3]; simp; omega)).mono fun e w10 ⟨he, hO10, hx10⟩ => ⟨_, he, ?_⟩
  obtain ⟨w13, hu13, hm13, hext13⟩ := hO10.publics.update keysU Try.underlying96 (pairOf S).1.2 (u64V (freshOf S).1)
  rw [Q45, (Q0R _).2.2.2.1] at hm13
  rw [show ({ (freshOf S).2 with secrets := badd S.secrets (freshOf S).1 } : OS).publics = S.publics from (Q0R S).2.2.2.1] at hm13
  exact ⟨some g.publics, hO10.pCell fun _ _ => rfl, w13, hu13, rfl, hO10.set_publics (hext13 _ rfl) hm13, ((hx.trans (hext _ Q66)).trans hx10).trans (hext13 _ Q5X)⟩

theorem Q57 (h : Orc w g S) (k : Int) : (Instr.lookup 94 (.map (some g.keys)) (.int .u64 k) false).run Try.prog w = .ok (.bool (decide (k ∈ S.keys))) w := by
  obtain ⟨i, hi, hz, _⟩ := info_of inf4
  have hl := h.keys.lookup keysU Try.underlying94 hi hz k false
  rw [Q2G] at hl
  refine hl.trans ?_
  by_cases hk : k ∈ S.keys
  · simp [hk]
  · simp [hk]
theorem Q4X (h : Orc w g S) (k : Int) : (Instr.lookup 96 (.map (some g.publics)) (.int .u64 k) true).run Try.prog w = .ok (.tuple #[.int .u64 ((alook S.publics k).getD 0), .bool (alook S.publics k).isSome]) w := by
  obtain ⟨i, hi, hz, _⟩ := info_of inf36
  have hl := h.publics.lookup keysU Try.underlying96 hi hz k true
  rw [Q2D] at hl
  refine hl.trans ?_
  cases alook S.publics k <;> rfl

end
def POrc (w : World) (o : Own) (k : Nat) (S : OS) : Prop := ∃ g : OG, g.p = k ∧ Orc w g S ∧ (∀ b, g.m b → o b = some k) ∧ (∀ b, b < w.heap.size → ∀ j, o b = some j → j ≠ k → g.x b)
def Gs (K : Nat → Prop) (w : World) (o : Own) (v : Value) (Q : World → Own → Prop) (e : Ending) (w' : World) : Prop := ∃ o', e = .returned v ∧ Step K w o w' o' ∧ Q w' o'
section
variable {w w' : World} {o o' : Own} {k : Nat} {S : OS} {K : Nat → Prop}
theorem POrc.lt (h : POrc w o k S) : k < w.heap.size := by obtain ⟨g, rfl, h1, _⟩ := h; exact h1.mlt _ m_p
theorem POrc.step (h : POrc w o k S) (s : Step K w o w' o') (hk : ¬ K k) : POrc w' o' k S := by
  obtain ⟨g, h0, h1, h2, h3⟩ := h
  refine ⟨g.more w w', h0, h1.foreign s.ext fun b hb ⟨j, hj, hK⟩ => h3 b hb j hj fun e => hk (e ▸ hK), fun b hb => ?_, fun b hb j hj hne => ?_⟩
  · rw [s.same b (h1.mlt b hb)]; exact h2 b hb
  · by_cases hl : b < w.heap.size
    · rw [s.same b hl] at hj; exact .inl (h3 b hl j hj hne)
    · exact .inr ⟨by omega, hb⟩
theorem own_out {g : OG} {a : Option Addr} {cs : List Value} (h2 : ∀ b, g.m b → o b = some k) (hr : Row w o a cs) : cs ≠ [] → Out g.m a := fun h0 ad ha hm => by
  have := h2 _ hm
  rw [hr.2 h0 ad ha] at this; cases this
theorem POrc.turn {g : OG} {S' : OS} (h2 : ∀ b, g.m b → o b = some g.p) (h3 : ∀ b, b < w.heap.size → ∀ j, o b = some j → j ≠ g.p → g.x b) (hl : ∀ b, g.m b → b < w.heap.size) (ok : Tags w o) (h : Orc w' g S') (X : Ext g.m w w') :
    Step (fun j => j = g.p) w o w' (grow w o) ∧ POrc w' (grow w o) g.p S' := by
  refine ⟨Step.of_ext X ok fun b hb _ => h2 b hb, g, rfl, h, fun b hb => ?_, fun b hb j hj hne => ?_⟩
  · rw [grow_lt (hl b hb)]; exact h2 b hb
  · by_cases hlt : b < w.heap.size
    · rw [grow_lt hlt] at hj; exact h3 b hlt j hj hne
    · rw [grow_ge (by omega)] at hj; cases hj
open Classical in
theorem NewO (ok : Tags w o) {a : Option Addr} {c : Nat} {l : List Int} (h : RowAt w a (l.map u64V)) (hl : l.length ≤ 1000000) :
    Calls Try.prog 15 #[.slice a l.length c] w (fun e w' => ∃ k o', e = .returned (.pointer (some (blk k))) ∧ w.heap.size ≤ k ∧ Step no w o w' o' ∧ POrc w' o' k (OS.init l)) := by
  refine (Q6b (fun b => b < w.heap.size ∧ o b ≠ none) (fun b hb => hb.1) h hl).mono fun e w' ⟨g, he, hO, hx, hg, hgx⟩ => ?_
  have hp := hg _ m_p
  refine ⟨g.p, fun b => if b < w.heap.size then o b else if g.m b then some g.p else none, he, hp.1, ⟨hx.mono fun _ h _ => h.elim, fun b hb => if_pos hb, ok, fun b j hb hj => ?_⟩, g, rfl, hO, fun b hb => ?_, fun b hb j hj hne => ?_⟩
  · by_cases hlt : b < w.heap.size
    · simp only [if_pos hlt] at hj; exact Nat.lt_of_lt_of_le (ok b j hlt hj) hx.size
    · simp only [if_neg hlt] at hj
      split at hj
      · cases hj; exact hp.2
      · cases hj
  · have := (hg b hb).1
    simp only [if_neg (by omega : ¬ b < w.heap.size), if_pos hb]
  · by_cases hlt : b < w.heap.size
    · simp only [if_pos hlt] at hj
      rw [hgx]
      exact ⟨hlt, by rw [hj]; simp⟩
    · simp only [if_neg hlt] at hj
      split at hj
      · cases hj; exact absurd rfl hne
      · cases hj
theorem PairO (h : POrc w o k S) (ok : Tags w o) (hok : S.ok) (hlen : S.used.length + 1 < 1000000) :
    Calls Try.prog 16 #[.pointer (some (blk k))] w (Gs (fun j => j = k) w o (.tuple #[u64V (pairOf S).1.1, u64V (pairOf S).1.2]) fun w' o' => POrc w' o' k (pairOf S).2) := by
  obtain ⟨g, rfl, h1, h2, h3⟩ := h
  refine (Q60 h1 hok hlen).mono fun e w' ⟨he, hO, hx⟩ => ?_
  obtain ⟨s, p⟩ := POrc.turn h2 h3 h1.mlt ok hO hx
  exact ⟨_, he, s, p⟩
end
end Go.Proofs.Ytgeakpldocfccaa