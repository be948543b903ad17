/- Sealing: predicates of the laws. -/
import Derived.Test.YtgeakpldocfccaaZF
import Derived.Test.YtgeakpldocfccaaZA
set_option linter.unusedVariables false
set_option linter.unusedSimpArgs false
set_option maxRecDepth 100000
set_option maxHeartbeats 4000000
namespace Go.Proofs.Ytgeakpldocfccaa
open Go Go.Mx Go.Proofs
theorem eqT24 (x0 x1 x2 y0 y1 y2 : Int) (w : World) : (Op.equalIn 10000 24 (.agg #[.int .i64 x0, .int .i64 x1, .int .i64 x2]) (.agg #[.int .i64 y0, .int .i64 y1, .int .i64 y2])).run Try.prog w = .ok (decide (x0 = y0 ∧ x1 = y1 ∧ x2 = y2)) w := by
  obtain ⟨f0, f1, f2, ht, n0, o0, p0, u0, n1, o1, p1, u1, n2, o2, p2, u2, hp⟩ : ∃ f0 f1 f2, Try.prog.underlying 24 = some (.struct #[f0, f1, f2]) ∧ f0.name ≠ "_" ∧ f0.offset = 0 ∧ Try.prog.plainKey f0.type = true ∧ Try.prog.underlying f0.type = some (.int .i64) ∧ f1.name ≠ "_" ∧ f1.offset = 1 ∧ Try.prog.plainKey f1.type = true ∧ Try.prog.underlying f1.type = some (.int .i64) ∧ f2.name ≠ "_" ∧ f2.offset = 2 ∧ Try.prog.plainKey f2.type = true ∧ Try.prog.underlying f2.type = some (.int .i64) ∧ Try.prog.stoodInHeld 24 = false :=
    ⟨_, _, _, Try.underlying24, by decide, rfl, by kernel_rfl, by kernel_rfl, by decide, rfl, by kernel_rfl, by kernel_rfl, by decide, rfl, by kernel_rfl, by kernel_rfl, by kernel_rfl⟩
  have hf : Try.prog.fieldsOf 24 = #[f0, f1, f2] := by simp [Program.fieldsOf, ht]
  rw [show (10000 : Nat) = 9998 + 1 + 1 from rfl, run_equalIn_struct w (9998 + 1) _ _ _ (by rw [hf]; exact ht) hp, hf]
  show (Op.eqFields (9998 + 1) _ _ [f0, f1, f2]).run Try.prog w = _
  rw [W.eqf_step n0 (run_part_plain w p0 (by rw [o0]; rfl)) (run_part_plain w p0 (by rw [o0]; rfl)) (run_equalIn_int w _ _ _ _ _ _ u0), W.eqf_step n1 (run_part_plain w p1 (by rw [o1]; rfl)) (run_part_plain w p1 (by rw [o1]; rfl)) (run_equalIn_int w _ _ _ _ _ _ u1), W.eqf_step n2 (run_part_plain w p2 (by rw [o2]; rfl)) (run_part_plain w p2 (by rw [o2]; rfl)) (run_equalIn_int w _ _ _ _ _ _ u2)]
  by_cases e0 : x0 = y0 <;> by_cases e1 : x1 = y1 <;> by_cases e2 : x2 = y2 <;> simp [e0, e1, e2, Op.eqFields]
theorem Q4h (x0 x1 x2 y0 y1 y2 : Int) (w : World) : (binOp .eql 24 (.agg #[.int .i64 x0, .int .i64 x1, .int .i64 x2]) (.agg #[.int .i64 y0, .int .i64 y1, .int .i64 y2])).run Try.prog w = .ok (.bool (decide (x0 = y0 ∧ x1 = y1 ∧ x2 = y2))) w := by rw [run_eql_struct, eqT24]; rfl
abbrev Q04.J1 (b0 : Addr) (ar : Option Addr) (ay ax : Addr) (R : RW) (aw : World) : Prop :=
 thenW (aw.drew) fun af =>
 ar.elim False fun b1 =>
 ∃ (ao : Option Addr), af.cell? (b1.add 0) = some (.pointer ao) ∧
 ar.elim False fun az =>
 ∃ (aq : Option Addr), af.cell? (az.add 2) = some (.pointer aq) ∧
 ∃ (a0 a7 ac ae ag aa : Int) (a6 : Option Addr) (a3 a2 : Nat) (ah : Int), cellsAt af b0 [.int .i64 a0, .int .i64 a7, .int .u64 ac, .int .i64 ae, .int .i64 ag, .int .i64 aa, .slice a6 a3 a2, .int .u64 ah] 0 ∧
 Calls Try.prog 9 #[.pointer ao, .pointer aq, .agg #[.int .i64 a0, .int .i64 a7, .int .u64 ac, .int .i64 ae, .int .i64 ag, .int .i64 aa, .slice a6 a3 a2, .int .u64 ah]] af fun an a9 => ∃ (ai : Option Addr) (aj ak : Nat) (ab : Int), an = .returned (.tuple #[.slice ai aj ak, .int .i64 ab]) ∧
 ∃ (am a5 a4 : Int), cellsAt a9 ay [.int .i64 am, .int .i64 a5, .int .i64 a4] 0 ∧
 ∃ (al a8 a1 : Int), cellsAt a9 ax [.int .i64 al, .int .i64 a8, .int .i64 a1] 0 ∧
 ∃ (av : Bool), (binOp .eql 24 (.agg #[.int .i64 am, .int .i64 a5, .int .i64 a4]) (.agg #[.int .i64 al, .int .i64 a8, .int .i64 a1])).run Try.prog a9 = .ok (.bool av) a9 ∧
 bif (ab == 0) == av then (
 Calls Try.prog 6 #[] a9 fun au ap => ∃ (ad : Bool), au = .returned (.bool ad) ∧
 R (.bool ad) ap) else (
 R (.bool false) a9)

abbrev Q04.J2 (ar : Addr) (an : Option Addr) (ab am : Addr) (R : RW) (a0 : World) : Prop :=
 ∃ (a1 a3 aa ac ae a6 : Int) (a2 : Option Addr) (a5 a4 : Nat) (af : Int), cellsAt a0 ar [.int .i64 a1, .int .i64 a3, .int .u64 aa, .int .i64 ac, .int .i64 ae, .int .i64 a6, .slice a2 a5 a4, .int .u64 af] 0 ∧
 thenW (a0.alloc (.cells #[.int .i64 0, .int .i64 0, .int .u64 0, .int .i64 0, .int .i64 0, .int .i64 0, .slice none 0 0, .int .u64 0] 42)) fun aq =>
 putsK aq (blk a0.heap.size) [.int .i64 a1, .int .i64 a3, .int .u64 aa, .int .i64 ac, .int .i64 ae, .int .i64 a6, .slice a2 a5 a4, .int .u64 af] 0 fun aj =>
 ∃ (ap : Int), aj.cell? (ab.add 0) = some (.int .i64 ap) ∧
 Q0d aj (((blk a0.heap.size).add 0).add 0) ∧
 thenW (aj.setCell (((blk a0.heap.size).add 0).add 0) (.int .i64 ap)) fun ai =>
 ∃ (ao : Int), ai.cell? (ab.add 0) = some (.int .i64 ao) ∧
 Q0d ai ((((blk a0.heap.size).add 3).add 1).add 0) ∧
 thenW (ai.setCell ((((blk a0.heap.size).add 3).add 1).add 0) (.int .i64 ao)) fun ag =>
 ∃ (a8 : Int), ag.cell? (ab.add 1) = some (.int .i64 a8) ∧
 Q0d ag (((blk a0.heap.size).add 1).add 0) ∧
 thenW (ag.setCell (((blk a0.heap.size).add 1).add 0) (.int .i64 a8)) fun ah =>
 ∃ (a9 : Int), ah.cell? (ab.add 2) = some (.int .i64 a9) ∧
 Q0d ah (((blk a0.heap.size).add 5).add 0) ∧
 thenW (ah.setCell (((blk a0.heap.size).add 5).add 0) (.int .i64 a9)) fun ak =>
 Q0d ak (((blk a0.heap.size).add 2).add 0) ∧
 thenW (ak.setCell (((blk a0.heap.size).add 2).add 0) (.int .u64 0)) fun ad =>
 ∃ (a7 : Int), ad.cell? (ab.add 1) = some (.int .i64 a7) ∧
 bif decide (a7 > 0) then (
 Q0d ad (((blk a0.heap.size).add 2).add 0) ∧
 thenW (ad.setCell (((blk a0.heap.size).add 2).add 0) (.int .u64 1)) fun al =>
 Q04.J1 (blk a0.heap.size) an ab am R al) else (
 Q04.J1 (blk a0.heap.size) an ab am R ad)

abbrev Q04.J3 (b0 : Addr) (ax : Option Addr) (bc bi : Addr) (bd : Option Addr) (bf bg : Nat) (R : RW) (b5 : World) : Prop :=
 thenW (b5.drew) fun aq =>
 ax.elim False fun bb =>
 ∃ (b3 : Option Addr), aq.cell? (bb.add 0) = some (.pointer b3) ∧
 ax.elim False fun ba =>
 ∃ (b2 : Option Addr), aq.cell? (ba.add 2) = some (.pointer b2) ∧
 ∃ (a1 a9 ah ap am a3 : Int) (ab : Option Addr) (aa ad : Nat) (ar : Int), cellsAt aq b0 [.int .i64 a1, .int .i64 a9, .int .u64 ah, .int .i64 ap, .int .i64 am, .int .i64 a3, .slice ab aa ad, .int .u64 ar] 0 ∧
 Calls Try.prog 9 #[.pointer b3, .pointer b2, .agg #[.int .i64 a1, .int .i64 a9, .int .u64 ah, .int .i64 ap, .int .i64 am, .int .i64 a3, .slice ab aa ad, .int .u64 ar]] aq fun b6 b1 => ∃ (ac : Option Addr) (a4 a2 : Nat) (ag : Int), b6 = .returned (.tuple #[.slice ac a4 a2, .int .i64 ag]) ∧
 thenW (b1.drew) fun al =>
 ax.elim False fun bh =>
 ∃ (b8 : Option Addr), al.cell? (bh.add 0) = some (.pointer b8) ∧
 ax.elim False fun be =>
 ∃ (b4 : Option Addr), al.cell? (be.add 3) = some (.pointer b4) ∧
 ∃ (a0 a8 af aj an a5 : Int) (ae : Option Addr) (a6 a7 : Nat) (ao : Int), cellsAt al b0 [.int .i64 a0, .int .i64 a8, .int .u64 af, .int .i64 aj, .int .i64 an, .int .i64 a5, .slice ae a6 a7, .int .u64 ao] 0 ∧
 Calls Try.prog 9 #[.pointer b8, .pointer b4, .agg #[.int .i64 a0, .int .i64 a8, .int .u64 af, .int .i64 aj, .int .i64 an, .int .i64 a5, .slice ae a6 a7, .int .u64 ao]] al fun b7 az => ∃ (av : Option Addr) (aw au : Nat) (ai : Int), b7 = .returned (.tuple #[.slice av aw au, .int .i64 ai]) ∧
 bif ag != 0 then (
 R (.bool false) az) else (
 Calls Try.prog 10 #[.slice ac a4 a2, .slice bd bf bg] az fun b9 ay => ∃ (ak : Bool), b9 = .returned (.bool ak) ∧
 bif !ak then (
 R (.bool false) ay) else (
 bif ai != 11 then (
 R (.bool false) ay) else (
 Q04.J2 b0 ax bc bi R ay)))

abbrev Q04.J4 (ag : Option Addr) (af ah : Nat) (aa : Option Addr) (ad a4 : Addr) (a7 : Option Addr) (ab a6 : Nat) (R : RW) (a0 : World) : Prop :=
 ∃ (ae : Int), a0.cell? (a4.add 0) = some (.int .i64 ae) ∧
 ∃ (a3 : Int), a0.cell? (a4.add 1) = some (.int .i64 a3) ∧
 ∃ (a8 : Int), a0.cell? (a4.add 0) = some (.int .i64 a8) ∧
 ∃ (a1 : Int), a0.cell? (a4.add 2) = some (.int .i64 a1) ∧
 thenW (a0.alloc (.cells #[.int .i64 0, .int .i64 0, .int .u64 0, .int .i64 0, .int .i64 0, .int .i64 0, .slice none 0 0, .int .u64 0] 42)) fun a9 =>
 putsK a9 (blk a0.heap.size) [.int .i64 ae, .int .i64 a3, .int .u64 0, .int .i64 1, .int .i64 a8, .int .i64 a1, .slice ag af ah, .int .u64 0] 0 fun a5 =>
 ∃ (a2 : Int), a5.cell? (a4.add 1) = some (.int .i64 a2) ∧
 bif decide (a2 > 0) then (
 Q0d a5 (((blk a0.heap.size).add 2).add 0) ∧
 thenW (a5.setCell (((blk a0.heap.size).add 2).add 0) (.int .u64 1)) fun ac =>
 Q04.J3 (blk a0.heap.size) aa ad a4 a7 ab a6 R ac) else (
 Q04.J3 (blk a0.heap.size) aa ad a4 a7 ab a6 R a5)

abbrev Q04.J5 (aj : Option Addr) (an ag : Addr) (al : Option Addr) (am ak : Nat) (R : RW) (ac : World) : Prop :=
 thenW (ac.drew) fun a2 =>
 aj.elim False fun ai =>
 ∃ (aa : Option Addr), a2.cell? (ai.add 0) = some (.pointer aa) ∧
 aj.elim False fun ah =>
 ∃ (a9 : Option Addr), a2.cell? (ah.add 2) = some (.pointer a9) ∧
 ∃ (ab : Int), a2.cell? (ag.add 0) = some (.int .i64 ab) ∧
 ∃ (a7 : Int), a2.cell? (ag.add 1) = some (.int .i64 a7) ∧
 ∃ (a5 : Int), a2.cell? (ag.add 2) = some (.int .i64 a5) ∧
 Calls Try.prog 8 #[.pointer aa, .pointer a9, .int .i64 ab, .int .i64 a7, .int .i64 a5, .slice al am ak] a2 fun ae a8 => ∃ (a3 : Option Addr) (a0 a1 : Nat) (a6 : Int), ae = .returned (.tuple #[.slice a3 a0 a1, .int .i64 a6]) ∧
 bif a6 != 0 then (
 bif (a0 : Int) == 0 then (
 Calls Try.prog 6 #[] a8 fun af ad => ∃ (a4 : Bool), af = .returned (.bool a4) ∧
 R (.bool a4) ad) else (
 R (.bool false) a8)) else (
 Q04.J4 a3 a0 a1 aj an ag al am ak R a8)

abbrev Q04.J6 (a5 a8 : Addr) (aa : Option Addr) (a6 a9 : Nat) (ab : Option Addr) (a7 a4 : Nat) (R : RW) (a3 : World) : Prop :=
 Calls Try.prog 7 #[.slice aa a6 a9, .int .i64 3] a3 fun a2 a1 => ∃ (a0 : Option Addr), a2 = .returned (.pointer a0) ∧
 bif Option.isNone a0 then (
 R (.bool false) a1) else (
 Q04.J5 a0 a5 a8 ab a7 a4 R a1)

def Q04.M (ab : Option Addr) (a4 ae : Nat) (ar ad aa : Int) (ag : Option Addr) (a8 af : Nat) (aq a9 ac : Int) (R : RW) (w : World) : Prop :=
 thenW (w.alloc (.cells #[.int .i64 ar, .int .i64 ad, .int .i64 aa] 24)) fun ap =>
 thenW (ap.alloc (.cells #[.int .i64 aq, .int .i64 a9, .int .i64 ac] 24)) fun a0 =>
 bif decide ((a4 : Int) > 50) then (
 Calls Try.prog 6 #[] a0 fun ah aj => ∃ (a5 : Bool), ah = .returned (.bool a5) ∧
 R (.bool a5) aj) else (
 bif decide ((a8 : Int) > 1500) then (
 Calls Try.prog 6 #[] a0 fun al ak => ∃ (a3 : Bool), al = .returned (.bool a3) ∧
 R (.bool a3) ak) else (
 ∃ (a1 : Int), a0.cell? ((blk w.heap.size).add 2) = some (.int .i64 a1) ∧
 bif decide (a1 < 0) then (
 Calls Try.prog 6 #[] a0 fun ai am => ∃ (a6 : Bool), ai = .returned (.bool a6) ∧
 R (.bool a6) am) else (
 ∃ (a7 : Int), a0.cell? ((blk w.heap.size).add 2) = some (.int .i64 a7) ∧
 bif decide (a7 > 2) then (
 Calls Try.prog 6 #[] a0 fun an ao => ∃ (a2 : Bool), an = .returned (.bool a2) ∧
 R (.bool a2) ao) else (
 Q04.J6 (blk ap.heap.size) (blk w.heap.size) ab a4 ae ag a8 af R a0))))

theorem Q04.ok (a6 : Option Addr) (a4 a3 : Nat) (ab a1 a2 : Int) (a8 : Option Addr) (a9 a7 : Nat) (aa a0 a5 : Int) {R : RW} {w : World} (h : Q04.M a6 a4 a3 ab a1 a2 a8 a9 a7 aa a0 a5 R w) : Calls Try.prog 3 #[.slice a6 a4 a3, .agg #[.int .i64 ab, .int .i64 a1, .int .i64 a2], .slice a8 a9 a7, .agg #[.int .i64 aa, .int .i64 a0, .int .i64 a5]] w fun e w' => ∃ v, e = .returned v ∧ R v w' :=
  Q0i follows (H := []) (args := [.slice a6 a4 a3, .agg #[.int .i64 ab, .int .i64 a1, .int .i64 a2], .slice a8 a9 a7, .agg #[.int .i64 aa, .int .i64 a0, .int .i64 a5]]) (cast (by kernel_rfl) h)

def Q04.N (cc : Option Addr) (am c8 : Nat) (av a2 a0 : Int) (b4 : Option Addr) (ab b5 : Nat) (b2 a1 a4 : Int) (R : RW) (w : World) : Prop :=
 ((am : Int) > 50 →
 ∀ (a8 : World), Ext no w a8 →
 Calls Try.prog 6 #[] a8 fun da dc => ∃ (bd : Bool), da = .returned (.bool bd) ∧
 R (.bool bd) dc) ∧
 ((am : Int) ≤ 50 →
 ((ab : Int) > 1500 →
 ∀ (a8 : World), Ext no w a8 →
 Calls Try.prog 6 #[] a8 fun dj d8 => ∃ (bc : Bool), dj = .returned (.bool bc) ∧
 R (.bool bc) d8) ∧
 ((ab : Int) ≤ 1500 →
 (a0 < 0 →
 ∀ (a8 : World), Ext no w a8 →
 Calls Try.prog 6 #[] a8 fun dk db => ∃ (bb : Bool), dk = .returned (.bool bb) ∧
 R (.bool bb) db) ∧
 ((0 : Int) ≤ a0 →
 (a0 > 2 →
 ∀ (a8 : World), Ext no w a8 →
 Calls Try.prog 6 #[] a8 fun di dl => ∃ (b8 : Bool), di = .returned (.bool b8) ∧
 R (.bool b8) dl) ∧
 (a0 ≤ 2 →
 ∀ (a8 : World) (be bo : Nat), Ext no w a8 → Priv w a8 [be, bo] →
 Calls Try.prog 7 #[.slice cc am c8, .int .i64 3] a8 fun df c2 => ∃ (a7 : Option Addr), df = .returned (.pointer a7) ∧
 Keep [be, bo] a8 c2 ∧
 (a7 = none →
 R (.bool false) c2) ∧
 (a7 ≠ none →
 ∃ aq : Addr, a7 = some aq ∧
 ∃ (dn : Option Addr), c2.cell? (aq.add 0) = some (.pointer dn) ∧
 ∃ (dp : Option Addr), c2.cell? (aq.add 2) = some (.pointer dp) ∧
 ∀ (ce : World), Ext no c2 ce →
 Calls Try.prog 8 #[.pointer dn, .pointer dp, .int .i64 av, .int .i64 a2, .int .i64 a0, .slice b4 ab b5] ce fun de ag => ∃ (a6 : Option Addr) (a3 a5 : Nat) (ao : Int), de = .returned (.tuple #[.slice a6 a3 a5, .int .i64 ao]) ∧
 Keep [be, bo] ce ag ∧
 (ao ≠ 0 →
 ((a3 : Int) = 0 →
 Calls Try.prog 6 #[] ag fun d9 d7 => ∃ (b7 : Bool), d9 = .returned (.bool b7) ∧
 R (.bool b7) d7) ∧
 ((a3 : Int) ≠ 0 →
 R (.bool false) ag)) ∧
 (ao = 0 →
 (a2 > 0 →
 ∃ (dm : Option Addr), ag.cell? (aq.add 0) = some (.pointer dm) ∧
 ∃ (dq : Option Addr), ag.cell? (aq.add 2) = some (.pointer dq) ∧
 ∀ (cb : World) (d6 : Nat), Ext no ag cb → Priv ag cb [d6] →
 Calls Try.prog 9 #[.pointer dm, .pointer dq, .agg #[.int .i64 av, .int .i64 a2, .int .u64 1, .int .i64 1, .int .i64 av, .int .i64 a0, .slice a6 a3 a5, .int .u64 0]] cb fun dg c9 => ∃ (aw : Option Addr) (ay az : Nat) (al : Int), dg = .returned (.tuple #[.slice aw ay az, .int .i64 al]) ∧
 Keep [be, bo, d6] cb c9 ∧
 ∃ (ds : Option Addr), c9.cell? (aq.add 0) = some (.pointer ds) ∧
 ∃ (dt : Option Addr), c9.cell? (aq.add 3) = some (.pointer dt) ∧
 ∀ (cf : World), Ext no c9 cf →
 Calls Try.prog 9 #[.pointer ds, .pointer dt, .agg #[.int .i64 av, .int .i64 a2, .int .u64 1, .int .i64 1, .int .i64 av, .int .i64 a0, .slice a6 a3 a5, .int .u64 0]] cf fun dd ca => ∃ (bw : Option Addr) (bz bx : Nat) (an : Int), dd = .returned (.tuple #[.slice bw bz bx, .int .i64 an]) ∧
 Keep [be, bo, d6] cf ca ∧
 (al ≠ 0 →
 R (.bool false) ca) ∧
 (al = 0 →
 Calls Try.prog 10 #[.slice aw ay az, .slice b4 ab b5] ca fun dh ap => ∃ (b3 : Bool), dh = .returned (.bool b3) ∧
 Keep [be, bo, d6] ca ap ∧
 (b3 = false →
 R (.bool false) ap) ∧
 (b3 = true →
 (an ≠ 11 →
 R (.bool false) ap) ∧
 (an = 11 →
 (a1 > 0 →
 ∃ (dr : Option Addr), ap.cell? (aq.add 0) = some (.pointer dr) ∧
 ∃ (du : Option Addr), ap.cell? (aq.add 2) = some (.pointer du) ∧
 ∀ (cg : World), Ext no ap cg →
 Calls Try.prog 9 #[.pointer dr, .pointer du, .agg #[.int .i64 b2, .int .i64 a1, .int .u64 1, .int .i64 1, .int .i64 b2, .int .i64 a4, .slice a6 a3 a5, .int .u64 0]] cg fun cv c7 => ∃ (bg : Option Addr) (bm bu : Nat) (ac : Int), cv = .returned (.tuple #[.slice bg bm bu, .int .i64 ac]) ∧
 Keep [be, bo] cg c7 ∧
 ((ac == 0) = (decide (b2 = av ∧ a1 = a2 ∧ a4 = a0)) →
 Calls Try.prog 6 #[] c7 fun cq d5 => ∃ (b0 : Bool), cq = .returned (.bool b0) ∧
 R (.bool b0) d5) ∧
 ((ac == 0) ≠ (decide (b2 = av ∧ a1 = a2 ∧ a4 = a0)) →
 R (.bool false) c7)) ∧
 (a1 ≤ 0 →
 ∃ (d0 : Option Addr), ap.cell? (aq.add 0) = some (.pointer d0) ∧
 ∃ (cn : Option Addr), ap.cell? (aq.add 2) = some (.pointer cn) ∧
 ∀ (c4 : World), Ext no ap c4 →
 Calls Try.prog 9 #[.pointer d0, .pointer cn, .agg #[.int .i64 b2, .int .i64 a1, .int .u64 0, .int .i64 1, .int .i64 b2, .int .i64 a4, .slice a6 a3 a5, .int .u64 0]] c4 fun d4 c3 => ∃ (bi : Option Addr) (bj bf : Nat) (aa : Int), d4 = .returned (.tuple #[.slice bi bj bf, .int .i64 aa]) ∧
 Keep [be, bo] c4 c3 ∧
 ((aa == 0) = (decide (b2 = av ∧ a1 = a2 ∧ a4 = a0)) →
 Calls Try.prog 6 #[] c3 fun d1 cr => ∃ (b1 : Bool), d1 = .returned (.bool b1) ∧
 R (.bool b1) cr) ∧
 ((aa == 0) ≠ (decide (b2 = av ∧ a1 = a2 ∧ a4 = a0)) →
 R (.bool false) c3)))))) ∧
 (a2 ≤ 0 →
 ∃ (ch : Option Addr), ag.cell? (aq.add 0) = some (.pointer ch) ∧
 ∃ (cs : Option Addr), ag.cell? (aq.add 2) = some (.pointer cs) ∧
 ∀ (ba : World) (cd : Nat), Ext no ag ba → Priv ag ba [cd] →
 Calls Try.prog 9 #[.pointer ch, .pointer cs, .agg #[.int .i64 av, .int .i64 a2, .int .u64 0, .int .i64 1, .int .i64 av, .int .i64 a0, .slice a6 a3 a5, .int .u64 0]] ba fun cl b9 => ∃ (aj : Option Addr) (ai ak : Nat) (ae : Int), cl = .returned (.tuple #[.slice aj ai ak, .int .i64 ae]) ∧
 Keep [be, bo, cd] ba b9 ∧
 ∃ (ci : Option Addr), b9.cell? (aq.add 0) = some (.pointer ci) ∧
 ∃ (cp : Option Addr), b9.cell? (aq.add 3) = some (.pointer cp) ∧
 ∀ (c5 : World), Ext no b9 c5 →
 Calls Try.prog 9 #[.pointer ci, .pointer cp, .agg #[.int .i64 av, .int .i64 a2, .int .u64 0, .int .i64 1, .int .i64 av, .int .i64 a0, .slice a6 a3 a5, .int .u64 0]] c5 fun cx b6 => ∃ (bp : Option Addr) (bl bh : Nat) (af : Int), cx = .returned (.tuple #[.slice bp bl bh, .int .i64 af]) ∧
 Keep [be, bo, cd] c5 b6 ∧
 (ae ≠ 0 →
 R (.bool false) b6) ∧
 (ae = 0 →
 Calls Try.prog 10 #[.slice aj ai ak, .slice b4 ab b5] b6 fun co a9 => ∃ (ar : Bool), co = .returned (.bool ar) ∧
 Keep [be, bo, cd] b6 a9 ∧
 (ar = false →
 R (.bool false) a9) ∧
 (ar = true →
 (af ≠ 11 →
 R (.bool false) a9) ∧
 (af = 11 →
 (a1 > 0 →
 ∃ (d3 : Option Addr), a9.cell? (aq.add 0) = some (.pointer d3) ∧
 ∃ (cu : Option Addr), a9.cell? (aq.add 2) = some (.pointer cu) ∧
 ∀ (bv : World), Ext no a9 bv →
 Calls Try.prog 9 #[.pointer d3, .pointer cu, .agg #[.int .i64 b2, .int .i64 a1, .int .u64 1, .int .i64 1, .int .i64 b2, .int .i64 a4, .slice a6 a3 a5, .int .u64 0]] bv fun cw c6 => ∃ (bn : Option Addr) (bs bt : Nat) (ah : Int), cw = .returned (.tuple #[.slice bn bs bt, .int .i64 ah]) ∧
 Keep [be, bo] bv c6 ∧
 ((ah == 0) = (decide (b2 = av ∧ a1 = a2 ∧ a4 = a0)) →
 Calls Try.prog 6 #[] c6 fun ct cz => ∃ (ax : Bool), ct = .returned (.bool ax) ∧
 R (.bool ax) cz) ∧
 ((ah == 0) ≠ (decide (b2 = av ∧ a1 = a2 ∧ a4 = a0)) →
 R (.bool false) c6)) ∧
 (a1 ≤ 0 →
 ∃ (cm : Option Addr), a9.cell? (aq.add 0) = some (.pointer cm) ∧
 ∃ (cy : Option Addr), a9.cell? (aq.add 2) = some (.pointer cy) ∧
 ∀ (c0 : World), Ext no a9 c0 →
 Calls Try.prog 9 #[.pointer cm, .pointer cy, .agg #[.int .i64 b2, .int .i64 a1, .int .u64 0, .int .i64 1, .int .i64 b2, .int .i64 a4, .slice a6 a3 a5, .int .u64 0]] c0 fun cj c1 => ∃ (bq : Option Addr) (bk br : Nat) (ad : Int), cj = .returned (.tuple #[.slice bq bk br, .int .i64 ad]) ∧
 Keep [be, bo] c0 c1 ∧
 ((ad == 0) = (decide (b2 = av ∧ a1 = a2 ∧ a4 = a0)) →
 Calls Try.prog 6 #[] c1 fun d2 ck => ∃ (au : Bool), d2 = .returned (.bool au) ∧
 R (.bool au) ck) ∧
 ((ad == 0) ≠ (decide (b2 = av ∧ a1 = a2 ∧ a4 = a0)) →
 R (.bool false) c1))))))))))))

theorem Q04.up (an : Option Addr) (am al : Nat) (af a4 a3 : Int) (bl : Option Addr) (bb bs : Nat) (ad a5 a7 : Int) {R : RW} {w : World} (h : Q04.N an am al af a4 a3 bl bb bs ad a5 a7 R w) : Q04.M an am al af a4 a3 bl bb bs ad a5 a7 R w := by
  unfold Q04.M
  unfold Q04.N at h
  refine Q01 fun gx e9 => ?_
  have a6 := Blk.of_new e9
  have gh := ((Ext.refl no w)).size
  have g5 := (Ext.refl no w).x_alloc e9
  refine Q01 fun bq fj => ?_
  have a8 := Blk.of_new fj
  have gm := (g5).size
  have fu := Nat.ne_of_lt a6.lt
  have a6 := a6.x_alloc fj
  have bg := g5.x_alloc fj
  refine bif_of (fun f7 => ?_) (fun f7 => ?_)
  ·have h := h.1 (of_decide_eq_true f7)
   have h := h bq bg
   refine h.mono fun gf gn h => ?_
   obtain ⟨c9, he, h⟩ := h
   refine ⟨c9, he, ?_⟩
   exact h
  have h := h.2 (Int.not_lt.1 (of_decide_eq_false f7))
  refine bif_of (fun el => ?_) (fun el => ?_)
  ·have h := h.1 (of_decide_eq_true el)
   have h := h bq bg
   refine h.mono fun i0 gc h => ?_
   obtain ⟨c4, he, h⟩ := h
   refine ⟨c4, he, ?_⟩
   exact h
  have h := h.2 (Int.not_lt.1 (of_decide_eq_false el))
  refine ⟨a3, a6.celli 2 rfl rfl, ?_⟩
  refine bif_of (fun ec => ?_) (fun ec => ?_)
  ·have h := h.1 (of_decide_eq_true ec)
   have h := h bq bg
   refine h.mono fun i2 gl h => ?_
   obtain ⟨c2, he, h⟩ := h
   refine ⟨c2, he, ?_⟩
   exact h
  have h := h.2 (Int.not_lt.1 (of_decide_eq_false ec))
  refine ⟨a3, a6.celli 2 rfl rfl, ?_⟩
  refine bif_of (fun fi => ?_) (fun fi => ?_)
  ·have h := h.1 (of_decide_eq_true fi)
   have h := h bq bg
   refine h.mono fun gy i3 h => ?_
   obtain ⟨bz, he, h⟩ := h
   refine ⟨bz, he, ?_⟩
   exact h
  have h := h.2 (Int.not_lt.1 (of_decide_eq_false fi))
  unfold Q04.J6
  have h := h bq (w.heap.size) (gx.heap.size) bg (Priv.cons gh a6.lt (Priv.cons gm a8.lt Priv.nil))
  refine h.mono fun gu ej h => ?_
  obtain ⟨ap, he, hk, h⟩ := h
  refine ⟨ap, he, ?_⟩
  have a6 := hk.blk a6 (by simp)
  have a8 := hk.blk a8 (by simp)
  refine bif_of (fun f6 => ?_) (fun f6 => ?_)
  ·have h := h.1 (Q1B f6)
   exact h
  have h := h.2 (Q1C f6)
  unfold Q04.J5
  refine Q01 fun em eo => ?_
  have cs := (Ext.refl no ej).x_drew eo
  have a6 := a6.x_drew eo
  have a8 := a8.x_drew eo
  obtain ⟨i4, ae, h⟩ := h
  refine Q05 ae ?_
  obtain ⟨ga, ea, h⟩ := h
  refine ⟨ga, (cs).cell ea id, ?_⟩
  refine Q05 ae ?_
  obtain ⟨gj, f4, h⟩ := h
  refine ⟨gj, (cs).cell f4 id, ?_⟩
  refine ⟨af, a6.celli 0 rfl rfl, ?_⟩
  refine ⟨a4, a6.celli 1 rfl rfl, ?_⟩
  refine ⟨a3, a6.celli 2 rfl rfl, ?_⟩
  have h := h em cs
  refine h.mono fun gt ak h => ?_
  obtain ⟨a2, a0, a1, c1, he, hk, h⟩ := h
  refine ⟨a2, a0, a1, c1, he, ?_⟩
  have a6 := hk.blk a6 (by simp)
  have a8 := hk.blk a8 (by simp)
  refine bif_of (fun fm => ?_) (fun fm => ?_)
  ·have h := h.1 (bne_t fm)
   refine bif_fo (fun ev => ?_) (fun ev => ?_)
   ·have h := h.2 (beq_f ev)
    exact h
   have h := h.1 (beq_t ev)
   refine h.mono fun gd gb h => ?_
   obtain ⟨bv, he, h⟩ := h
   refine ⟨bv, he, ?_⟩
   exact h
  have h := h.2 (bne_f fm)
  unfold Q04.J4
  refine ⟨af, a6.celli 0 rfl rfl, ?_⟩
  refine ⟨a4, a6.celli 1 rfl rfl, ?_⟩
  refine ⟨af, a6.celli 0 rfl rfl, ?_⟩
  refine ⟨a3, a6.celli 2 rfl rfl, ?_⟩
  refine Q01 fun gr dw => ?_
  have aa := Blk.of_new dw
  have dz := ((Ext.refl no ak)).size
  have ce := Nat.ne_of_lt a6.lt
  have a6 := a6.x_alloc dw
  have cg := Nat.ne_of_lt a8.lt
  have a8 := a8.x_alloc dw
  have en := (Ext.refl no ak).x_alloc dw
  refine Q0p (k := 0) (j := 0) aa (Nat.le_of_ble_eq_true rfl) fun ek f1 gg => ?_
  have d4 := en.x_puts f1 (.inr dz)
  have a6 := a6.x_puts f1 ce
  have a8 := a8.x_puts f1 cg
  have aa : Blk ek ak.heap.size 42 [.int .i64 af, .int .i64 a4, .int .u64 0, .int .i64 1, .int .i64 af, .int .i64 a3, .slice a2 a0 a1, .int .u64 0] := gg
  refine ⟨a4, a6.celli 1 rfl rfl, ?_⟩
  refine bif_of (fun ff => ?_) (fun ff => ?_)
  have h := h.1 (of_decide_eq_true ff)
  refine ⟨aa.cani 2 rfl rfl, Q01 fun ei dx => ?_⟩
  have fk := d4.x_set (q := ak.heap.size) (i := 2) rfl (.inr dz) dx
  have a6 := a6.oth (q := ak.heap.size) (i := 2) rfl ce dx
  have a8 := a8.oth (q := ak.heap.size) (i := 2) rfl cg dx
  have aa : Blk ei ak.heap.size 42 [.int .i64 af, .int .i64 a4, .int .u64 1, .int .i64 1, .int .i64 af, .int .i64 a3, .slice a2 a0 a1, .int .u64 0] := aa.seti 2 rfl dx
  unfold Q04.J3
  refine Q01 fun ey e2 => ?_
  have cv := fk.x_drew e2
  have a6 := a6.x_drew e2
  have a8 := a8.x_drew e2
  have aa := aa.x_drew e2
  refine Q05 ae ?_
  obtain ⟨g9, e3, h⟩ := h
  refine ⟨g9, (cv).cell e3 id, ?_⟩
  refine Q05 ae ?_
  obtain ⟨gk, f3, h⟩ := h
  refine ⟨gk, (cv).cell f3 id, ?_⟩
  refine ⟨af, a4, 1, 1, af, a3, a2, a0, a1, 0, ⟨aa.celli 0 rfl rfl, aa.celli 1 rfl rfl, aa.celli 2 rfl rfl, aa.celli 3 rfl rfl, aa.celli 4 rfl rfl, aa.celli 5 rfl rfl, aa.celli 6 rfl rfl, aa.celli 7 rfl rfl, trivial⟩, ?_⟩
  have h := h ey (ak.heap.size) cv (Priv.cons dz aa.lt Priv.nil)
  refine h.mono fun gv eb h => ?_
  obtain ⟨bk, bm, bn, bt, he, hk, h⟩ := h
  refine ⟨bk, bm, bn, bt, he, ?_⟩
  have a6 := hk.blk a6 (by simp)
  have a8 := hk.blk a8 (by simp)
  have aa := hk.blk aa (by simp)
  refine Q01 fun er dy => ?_
  have cl := (Ext.refl no eb).x_drew dy
  have a6 := a6.x_drew dy
  have a8 := a8.x_drew dy
  have aa := aa.x_drew dy
  refine Q05 ae ?_
  obtain ⟨gs, fe, h⟩ := h
  refine ⟨gs, (cl).cell fe id, ?_⟩
  refine Q05 ae ?_
  obtain ⟨gz, eh, h⟩ := h
  refine ⟨gz, (cl).cell eh id, ?_⟩
  refine ⟨af, a4, 1, 1, af, a3, a2, a0, a1, 0, ⟨aa.celli 0 rfl rfl, aa.celli 1 rfl rfl, aa.celli 2 rfl rfl, aa.celli 3 rfl rfl, aa.celli 4 rfl rfl, aa.celli 5 rfl rfl, aa.celli 6 rfl rfl, aa.celli 7 rfl rfl, trivial⟩, ?_⟩
  have h := h er cl
  refine h.mono fun gq gi h => ?_
  obtain ⟨b6, bc, b8, bx, he, hk, h⟩ := h
  refine ⟨b6, bc, b8, bx, he, ?_⟩
  have a6 := hk.blk a6 (by simp)
  have a8 := hk.blk a8 (by simp)
  have aa := hk.blk aa (by simp)
  refine bif_of (fun f0 => ?_) (fun f0 => ?_)
  ·have h := h.1 (bne_t f0)
   exact h
  have h := h.2 (bne_f f0)
  refine h.mono fun gw ac h => ?_
  obtain ⟨co, he, hk, h⟩ := h
  refine ⟨co, he, ?_⟩
  have a6 := hk.blk a6 (by simp)
  have a8 := hk.blk a8 (by simp)
  have aa := hk.blk aa (by simp)
  refine bif_of (fun fg => ?_) (fun fg => ?_)
  ·have h := h.1 (not_t fg)
   exact h
  have h := h.2 (not_f fg)
  refine bif_of (fun fa => ?_) (fun fa => ?_)
  ·have h := h.1 (bne_t fa)
   exact h
  have h := h.2 (bne_f fa)
  unfold Q04.J2
  refine ⟨af, a4, 1, 1, af, a3, a2, a0, a1, 0, ⟨aa.celli 0 rfl rfl, aa.celli 1 rfl rfl, aa.celli 2 rfl rfl, aa.celli 3 rfl rfl, aa.celli 4 rfl rfl, aa.celli 5 rfl rfl, aa.celli 6 rfl rfl, aa.celli 7 rfl rfl, trivial⟩, ?_⟩
  refine Q01 fun ge ds => ?_
  have ab := Blk.of_new ds
  have cn := ((Ext.refl no ac)).size
  have ag := Nat.ne_of_lt a6.lt
  have a6 := a6.x_alloc ds
  have ah := Nat.ne_of_lt a8.lt
  have a8 := a8.x_alloc ds
  have f5 := (Ext.refl no ac).x_alloc ds
  refine Q0p (k := 0) (j := 0) ab (Nat.le_of_ble_eq_true rfl) fun fc fh g8 => ?_
  have ex := f5.x_puts fh (.inr cn)
  have a6 := a6.x_puts fh ag
  have a8 := a8.x_puts fh ah
  have ab : Blk fc ac.heap.size 42 [.int .i64 af, .int .i64 a4, .int .u64 1, .int .i64 1, .int .i64 af, .int .i64 a3, .slice a2 a0 a1, .int .u64 0] := g8
  refine ⟨ad, a8.celli 0 rfl rfl, ?_⟩
  refine ⟨ab.cani 0 rfl rfl, Q01 fun f8 e1 => ?_⟩
  have fd := ex.x_set (q := ac.heap.size) (i := 0) rfl (.inr cn) e1
  have a6 := a6.oth (q := ac.heap.size) (i := 0) rfl ag e1
  have a8 := a8.oth (q := ac.heap.size) (i := 0) rfl ah e1
  have ab : Blk f8 ac.heap.size 42 [.int .i64 ad, .int .i64 a4, .int .u64 1, .int .i64 1, .int .i64 af, .int .i64 a3, .slice a2 a0 a1, .int .u64 0] := ab.seti 0 rfl e1
  refine ⟨ad, a8.celli 0 rfl rfl, ?_⟩
  refine ⟨ab.cani 4 rfl rfl, Q01 fun eg e0 => ?_⟩
  have e5 := fd.x_set (q := ac.heap.size) (i := 4) rfl (.inr cn) e0
  have a6 := a6.oth (q := ac.heap.size) (i := 4) rfl ag e0
  have a8 := a8.oth (q := ac.heap.size) (i := 4) rfl ah e0
  have ab : Blk eg ac.heap.size 42 [.int .i64 ad, .int .i64 a4, .int .u64 1, .int .i64 1, .int .i64 ad, .int .i64 a3, .slice a2 a0 a1, .int .u64 0] := ab.seti 4 rfl e0
  refine ⟨a5, a8.celli 1 rfl rfl, ?_⟩
  refine ⟨ab.cani 1 rfl rfl, Q01 fun fo dv => ?_⟩
  have e4 := e5.x_set (q := ac.heap.size) (i := 1) rfl (.inr cn) dv
  have a6 := a6.oth (q := ac.heap.size) (i := 1) rfl ag dv
  have a8 := a8.oth (q := ac.heap.size) (i := 1) rfl ah dv
  have ab : Blk fo ac.heap.size 42 [.int .i64 ad, .int .i64 a5, .int .u64 1, .int .i64 1, .int .i64 ad, .int .i64 a3, .slice a2 a0 a1, .int .u64 0] := ab.seti 1 rfl dv
  refine ⟨a7, a8.celli 2 rfl rfl, ?_⟩
  refine ⟨ab.cani 5 rfl rfl, Q01 fun es dr => ?_⟩
  have f9 := e4.x_set (q := ac.heap.size) (i := 5) rfl (.inr cn) dr
  have a6 := a6.oth (q := ac.heap.size) (i := 5) rfl ag dr
  have a8 := a8.oth (q := ac.heap.size) (i := 5) rfl ah dr
  have ab : Blk es ac.heap.size 42 [.int .i64 ad, .int .i64 a5, .int .u64 1, .int .i64 1, .int .i64 ad, .int .i64 a7, .slice a2 a0 a1, .int .u64 0] := ab.seti 5 rfl dr
  refine ⟨ab.cani 2 rfl rfl, Q01 fun e6 dt => ?_⟩
  have d5 := f9.x_set (q := ac.heap.size) (i := 2) rfl (.inr cn) dt
  have a6 := a6.oth (q := ac.heap.size) (i := 2) rfl ag dt
  have a8 := a8.oth (q := ac.heap.size) (i := 2) rfl ah dt
  have ab : Blk e6 ac.heap.size 42 [.int .i64 ad, .int .i64 a5, .int .u64 0, .int .i64 1, .int .i64 ad, .int .i64 a7, .slice a2 a0 a1, .int .u64 0] := ab.seti 2 rfl dt
  refine ⟨a5, a8.celli 1 rfl rfl, ?_⟩
  refine bif_fo (fun ep => ?_) (fun ep => ?_)
  ·have h := h.2 (Int.not_lt.1 (of_decide_eq_false ep))
   unfold Q04.J1
   refine Q01 fun d2 c6 => ?_
   have bf := d5.x_drew c6
   have a6 := a6.x_drew c6
   have a8 := a8.x_drew c6
   have ab := ab.x_drew c6
   refine Q05 ae ?_
   obtain ⟨f2, dg, h⟩ := h
   refine ⟨f2, (bf).cell dg id, ?_⟩
   refine Q05 ae ?_
   obtain ⟨ee, cx, h⟩ := h
   refine ⟨ee, (bf).cell cx id, ?_⟩
   refine ⟨ad, a5, 0, 1, ad, a7, a2, a0, a1, 0, ⟨ab.celli 0 rfl rfl, ab.celli 1 rfl rfl, ab.celli 2 rfl rfl, ab.celli 3 rfl rfl, ab.celli 4 rfl rfl, ab.celli 5 rfl rfl, ab.celli 6 rfl rfl, ab.celli 7 rfl rfl, trivial⟩, ?_⟩
   have h := h d2 bf
   refine h.mono fun g6 g0 h => ?_
   obtain ⟨av, aw, ao, ba, he, hk, h⟩ := h
   refine ⟨av, aw, ao, ba, he, ?_⟩
   have a6 := hk.blk a6 (by simp)
   have a8 := hk.blk a8 (by simp)
   refine ⟨ad, a5, a7, ⟨a8.celli 0 rfl rfl, a8.celli 1 rfl rfl, a8.celli 2 rfl rfl, trivial⟩, ?_⟩
   refine ⟨af, a4, a3, ⟨a6.celli 0 rfl rfl, a6.celli 1 rfl rfl, a6.celli 2 rfl rfl, trivial⟩, ?_⟩
   refine ⟨_, Q4h ad a5 a7 af a4 a3 _, ?_⟩
   refine bif_fo (fun cj => ?_) (fun cj => ?_)
   ·have h := h.2 (bbeq_f cj)
    exact h
   have h := h.1 (bbeq_t cj)
   refine h.mono fun g3 fy h => ?_
   obtain ⟨br, he, h⟩ := h
   refine ⟨br, he, ?_⟩
   exact h
  have h := h.1 (of_decide_eq_true ep)
  refine ⟨ab.cani 2 rfl rfl, Q01 fun ef dq => ?_⟩
  have d9 := d5.x_set (q := ac.heap.size) (i := 2) rfl (.inr cn) dq
  have a6 := a6.oth (q := ac.heap.size) (i := 2) rfl ag dq
  have a8 := a8.oth (q := ac.heap.size) (i := 2) rfl ah dq
  have ab : Blk ef ac.heap.size 42 [.int .i64 ad, .int .i64 a5, .int .u64 1, .int .i64 1, .int .i64 ad, .int .i64 a7, .slice a2 a0 a1, .int .u64 0] := ab.seti 2 rfl dq
  rotate_left
  have h := h.2 (Int.not_lt.1 (of_decide_eq_false ff))
  unfold Q04.J3
  refine Q01 fun d6 c3 => ?_
  have b9 := d4.x_drew c3
  have a6 := a6.x_drew c3
  have a8 := a8.x_drew c3
  have aa := aa.x_drew c3
  refine Q05 ae ?_
  obtain ⟨e7, d7, h⟩ := h
  refine ⟨e7, (b9).cell d7 id, ?_⟩
  refine Q05 ae ?_
  obtain ⟨et, cz, h⟩ := h
  refine ⟨et, (b9).cell cz id, ?_⟩
  refine ⟨af, a4, 0, 1, af, a3, a2, a0, a1, 0, ⟨aa.celli 0 rfl rfl, aa.celli 1 rfl rfl, aa.celli 2 rfl rfl, aa.celli 3 rfl rfl, aa.celli 4 rfl rfl, aa.celli 5 rfl rfl, aa.celli 6 rfl rfl, aa.celli 7 rfl rfl, trivial⟩, ?_⟩
  have h := h d6 (ak.heap.size) b9 (Priv.cons dz aa.lt Priv.nil)
  refine h.mono fun ft d1 h => ?_
  obtain ⟨b0, aq, b1, bh, he, hk, h⟩ := h
  refine ⟨b0, aq, b1, bh, he, ?_⟩
  have a6 := hk.blk a6 (by simp)
  have a8 := hk.blk a8 (by simp)
  have aa := hk.blk aa (by simp)
  refine Q01 fun di c0 => ?_
  have bp := (Ext.refl no d1).x_drew c0
  have a6 := a6.x_drew c0
  have a8 := a8.x_drew c0
  have aa := aa.x_drew c0
  refine Q05 ae ?_
  obtain ⟨e8, da, h⟩ := h
  refine ⟨e8, (bp).cell da id, ?_⟩
  refine Q05 ae ?_
  obtain ⟨eq, dc, h⟩ := h
  refine ⟨eq, (bp).cell dc id, ?_⟩
  refine ⟨af, a4, 0, 1, af, a3, a2, a0, a1, 0, ⟨aa.celli 0 rfl rfl, aa.celli 1 rfl rfl, aa.celli 2 rfl rfl, aa.celli 3 rfl rfl, aa.celli 4 rfl rfl, aa.celli 5 rfl rfl, aa.celli 6 rfl rfl, aa.celli 7 rfl rfl, trivial⟩, ?_⟩
  have h := h di bp
  refine h.mono fun g2 fp h => ?_
  obtain ⟨b2, ay, au, bi, he, hk, h⟩ := h
  refine ⟨b2, ay, au, bi, he, ?_⟩
  have a6 := hk.blk a6 (by simp)
  have a8 := hk.blk a8 (by simp)
  have aa := hk.blk aa (by simp)
  refine bif_of (fun ch => ?_) (fun ch => ?_)
  ·have h := h.1 (bne_t ch)
   exact h
  have h := h.2 (bne_f ch)
  refine h.mono fun fw a9 h => ?_
  obtain ⟨cb, he, hk, h⟩ := h
  refine ⟨cb, he, ?_⟩
  have a6 := hk.blk a6 (by simp)
  have a8 := hk.blk a8 (by simp)
  have aa := hk.blk aa (by simp)
  refine bif_of (fun ck => ?_) (fun ck => ?_)
  ·have h := h.1 (not_t ck)
   exact h
  have h := h.2 (not_f ck)
  refine bif_of (fun cu => ?_) (fun cu => ?_)
  ·have h := h.1 (bne_t cu)
   exact h
  have h := h.2 (bne_f cu)
  unfold Q04.J2
  refine ⟨af, a4, 0, 1, af, a3, a2, a0, a1, 0, ⟨aa.celli 0 rfl rfl, aa.celli 1 rfl rfl, aa.celli 2 rfl rfl, aa.celli 3 rfl rfl, aa.celli 4 rfl rfl, aa.celli 5 rfl rfl, aa.celli 6 rfl rfl, aa.celli 7 rfl rfl, trivial⟩, ?_⟩
  refine Q01 fun fz ca => ?_
  have ab := Blk.of_new ca
  have cp := ((Ext.refl no a9)).size
  have aj := Nat.ne_of_lt a6.lt
  have a6 := a6.x_alloc ca
  have ai := Nat.ne_of_lt a8.lt
  have a8 := a8.x_alloc ca
  have cy := (Ext.refl no a9).x_alloc ca
  refine Q0p (k := 0) (j := 0) ab (Nat.le_of_ble_eq_true rfl) fun dp ci ez => ?_
  have dj := cy.x_puts ci (.inr cp)
  have a6 := a6.x_puts ci aj
  have a8 := a8.x_puts ci ai
  have ab : Blk dp a9.heap.size 42 [.int .i64 af, .int .i64 a4, .int .u64 0, .int .i64 1, .int .i64 af, .int .i64 a3, .slice a2 a0 a1, .int .u64 0] := ez
  refine ⟨ad, a8.celli 0 rfl rfl, ?_⟩
  refine ⟨ab.cani 0 rfl rfl, Q01 fun dn c5 => ?_⟩
  have dd := dj.x_set (q := a9.heap.size) (i := 0) rfl (.inr cp) c5
  have a6 := a6.oth (q := a9.heap.size) (i := 0) rfl aj c5
  have a8 := a8.oth (q := a9.heap.size) (i := 0) rfl ai c5
  have ab : Blk dn a9.heap.size 42 [.int .i64 ad, .int .i64 a4, .int .u64 0, .int .i64 1, .int .i64 af, .int .i64 a3, .slice a2 a0 a1, .int .u64 0] := ab.seti 0 rfl c5
  refine ⟨ad, a8.celli 0 rfl rfl, ?_⟩
  refine ⟨ab.cani 4 rfl rfl, Q01 fun dh bu => ?_⟩
  have de := dd.x_set (q := a9.heap.size) (i := 4) rfl (.inr cp) bu
  have a6 := a6.oth (q := a9.heap.size) (i := 4) rfl aj bu
  have a8 := a8.oth (q := a9.heap.size) (i := 4) rfl ai bu
  have ab : Blk dh a9.heap.size 42 [.int .i64 ad, .int .i64 a4, .int .u64 0, .int .i64 1, .int .i64 ad, .int .i64 a3, .slice a2 a0 a1, .int .u64 0] := ab.seti 4 rfl bu
  refine ⟨a5, a8.celli 1 rfl rfl, ?_⟩
  refine ⟨ab.cani 1 rfl rfl, Q01 fun df c7 => ?_⟩
  have dl := de.x_set (q := a9.heap.size) (i := 1) rfl (.inr cp) c7
  have a6 := a6.oth (q := a9.heap.size) (i := 1) rfl aj c7
  have a8 := a8.oth (q := a9.heap.size) (i := 1) rfl ai c7
  have ab : Blk df a9.heap.size 42 [.int .i64 ad, .int .i64 a5, .int .u64 0, .int .i64 1, .int .i64 ad, .int .i64 a3, .slice a2 a0 a1, .int .u64 0] := ab.seti 1 rfl c7
  refine ⟨a7, a8.celli 2 rfl rfl, ?_⟩
  refine ⟨ab.cani 5 rfl rfl, Q01 fun d8 cc => ?_⟩
  have db := dl.x_set (q := a9.heap.size) (i := 5) rfl (.inr cp) cc
  have a6 := a6.oth (q := a9.heap.size) (i := 5) rfl aj cc
  have a8 := a8.oth (q := a9.heap.size) (i := 5) rfl ai cc
  have ab : Blk d8 a9.heap.size 42 [.int .i64 ad, .int .i64 a5, .int .u64 0, .int .i64 1, .int .i64 ad, .int .i64 a7, .slice a2 a0 a1, .int .u64 0] := ab.seti 5 rfl cc
  refine ⟨ab.cani 2 rfl rfl, Q01 fun d0 bw => ?_⟩
  have cf := db.x_set (q := a9.heap.size) (i := 2) rfl (.inr cp) bw
  have a6 := a6.oth (q := a9.heap.size) (i := 2) rfl aj bw
  have a8 := a8.oth (q := a9.heap.size) (i := 2) rfl ai bw
  have ab : Blk d0 a9.heap.size 42 [.int .i64 ad, .int .i64 a5, .int .u64 0, .int .i64 1, .int .i64 ad, .int .i64 a7, .slice a2 a0 a1, .int .u64 0] := ab.seti 2 rfl bw
  refine ⟨a5, a8.celli 1 rfl rfl, ?_⟩
  refine bif_fo (fun cq => ?_) (fun cq => ?_)
  ·have h := h.2 (Int.not_lt.1 (of_decide_eq_false cq))
   unfold Q04.J1
   refine Q01 fun cw c8 => ?_
   have bj := cf.x_drew c8
   have a6 := a6.x_drew c8
   have a8 := a8.x_drew c8
   have ab := ab.x_drew c8
   refine Q05 ae ?_
   obtain ⟨ed, dk, h⟩ := h
   refine ⟨ed, (bj).cell dk id, ?_⟩
   refine Q05 ae ?_
   obtain ⟨ew, d3, h⟩ := h
   refine ⟨ew, (bj).cell d3 id, ?_⟩
   refine ⟨ad, a5, 0, 1, ad, a7, a2, a0, a1, 0, ⟨ab.celli 0 rfl rfl, ab.celli 1 rfl rfl, ab.celli 2 rfl rfl, ab.celli 3 rfl rfl, ab.celli 4 rfl rfl, ab.celli 5 rfl rfl, ab.celli 6 rfl rfl, ab.celli 7 rfl rfl, trivial⟩, ?_⟩
   have h := h cw bj
   refine h.mono fun fq fv h => ?_
   obtain ⟨b4, ax, b3, be, he, hk, h⟩ := h
   refine ⟨b4, ax, b3, be, he, ?_⟩
   have a6 := hk.blk a6 (by simp)
   have a8 := hk.blk a8 (by simp)
   refine ⟨ad, a5, a7, ⟨a8.celli 0 rfl rfl, a8.celli 1 rfl rfl, a8.celli 2 rfl rfl, trivial⟩, ?_⟩
   refine ⟨af, a4, a3, ⟨a6.celli 0 rfl rfl, a6.celli 1 rfl rfl, a6.celli 2 rfl rfl, trivial⟩, ?_⟩
   refine ⟨_, Q4h ad a5 a7 af a4 a3 _, ?_⟩
   refine bif_fo (fun ct => ?_) (fun ct => ?_)
   ·have h := h.2 (bbeq_f ct)
    exact h
   have h := h.1 (bbeq_t ct)
   refine h.mono fun g4 fs h => ?_
   obtain ⟨b7, he, h⟩ := h
   refine ⟨b7, he, ?_⟩
   exact h
  have h := h.1 (of_decide_eq_true cq)
  refine ⟨ab.cani 2 rfl rfl, Q01 fun dm cd => ?_⟩
  have d9 := cf.x_set (q := a9.heap.size) (i := 2) rfl (.inr cp) cd
  have a6 := a6.oth (q := a9.heap.size) (i := 2) rfl aj cd
  have a8 := a8.oth (q := a9.heap.size) (i := 2) rfl ai cd
  have ab : Blk dm a9.heap.size 42 [.int .i64 ad, .int .i64 a5, .int .u64 1, .int .i64 1, .int .i64 ad, .int .i64 a7, .slice a2 a0 a1, .int .u64 0] := ab.seti 2 rfl cd
  rotate_left
  all_goals
   unfold Q04.J1
   refine Q01 fun eu du => ?_
   have cr := d9.x_drew du
   have a6 := a6.x_drew du
   have a8 := a8.x_drew du
   have ab := ab.x_drew du
   refine Q05 ae ?_
   obtain ⟨gp, fl, h⟩ := h
   refine ⟨gp, (cr).cell fl id, ?_⟩
   refine Q05 ae ?_
   obtain ⟨i1, fb, h⟩ := h
   refine ⟨i1, (cr).cell fb id, ?_⟩
   refine ⟨ad, a5, 1, 1, ad, a7, a2, a0, a1, 0, ⟨ab.celli 0 rfl rfl, ab.celli 1 rfl rfl, ab.celli 2 rfl rfl, ab.celli 3 rfl rfl, ab.celli 4 rfl rfl, ab.celli 5 rfl rfl, ab.celli 6 rfl rfl, ab.celli 7 rfl rfl, trivial⟩, ?_⟩
   have h := h eu cr
   refine h.mono fun g1 fr h => ?_
   obtain ⟨ar, az, b5, bd, he, hk, h⟩ := h
   refine ⟨ar, az, b5, bd, he, ?_⟩
   have a6 := hk.blk a6 (by simp)
   have a8 := hk.blk a8 (by simp)
   refine ⟨ad, a5, a7, ⟨a8.celli 0 rfl rfl, a8.celli 1 rfl rfl, a8.celli 2 rfl rfl, trivial⟩, ?_⟩
   refine ⟨af, a4, a3, ⟨a6.celli 0 rfl rfl, a6.celli 1 rfl rfl, a6.celli 2 rfl rfl, trivial⟩, ?_⟩
   refine ⟨_, Q4h ad a5 a7 af a4 a3 _, ?_⟩
   refine bif_fo (fun cm => ?_) (fun cm => ?_)
   ·have h := h.2 (bbeq_f cm)
    exact h
   have h := h.1 (bbeq_t cm)
   refine h.mono fun fx g7 h => ?_
   obtain ⟨bo, he, h⟩ := h
   refine ⟨bo, he, ?_⟩
   exact h

theorem Q04.go (a6 : Option Addr) (a4 a3 : Nat) (ab a1 a2 : Int) (a8 : Option Addr) (a9 a7 : Nat) (aa a0 a5 : Int) {R : RW} {w : World} (h : Q04.N a6 a4 a3 ab a1 a2 a8 a9 a7 aa a0 a5 R w) : Calls Try.prog 3 #[.slice a6 a4 a3, .agg #[.int .i64 ab, .int .i64 a1, .int .i64 a2], .slice a8 a9 a7, .agg #[.int .i64 aa, .int .i64 a0, .int .i64 a5]] w fun e w' => ∃ v, e = .returned v ∧ R v w' := Q04.ok a6 a4 a3 ab a1 a2 a8 a9 a7 aa a0 a5 (Q04.up a6 a4 a3 ab a1 a2 a8 a9 a7 aa a0 a5 h)
abbrev Q0f.J1 (an ak ai ah : Int) (ac : Option Addr) (al : Int) (R : RW) (ag : World) : Prop :=
 thenW (ag.drew) fun a8 =>
 ac.elim False fun am =>
 ∃ (af : Option Addr), a8.cell? (am.add 0) = some (.pointer af) ∧
 ac.elim False fun aj =>
 ∃ (ab : Option Addr), a8.cell? (aj.add 2) = some (.pointer ab) ∧
 Calls Try.prog 9 #[.pointer af, .pointer ab, .agg #[.int .i64 0, .int .i64 0, .int .u64 0, .int .i64 1, .int .i64 0, .int .i64 (-1), .slice none 0 0, .int .u64 0]] a8 fun ad a2 => ∃ (a6 : Option Addr) (a4 a5 : Nat) (a0 : Int), ad = .returned (.tuple #[.slice a6 a4 a5, .int .i64 a0]) ∧
 bif ah == 23 then (
 bif ai == 23 then (
 bif ak == 23 then (
 Calls Try.prog 14 #[] a2 fun aa a7 => ∃ (a3 : Int), aa = .returned (.int .i64 a3) ∧
 bif (an == 0) == (decide (al ≤ a3)) then (
 bif a0 == 10 then (
 Calls Try.prog 6 #[] a7 fun a9 ae => ∃ (a1 : Bool), a9 = .returned (.bool a1) ∧
 R (.bool a1) ae) else (
 R (.bool false) a7)) else (
 R (.bool false) a7)) else (
 R (.bool false) a2)) else (
 R (.bool false) a2)) else (
 R (.bool false) a2)

abbrev Q0f.J2 (ai : Option Addr) (az : Int) (b1 : Option Addr) (b6 b4 : Nat) (R : RW) (aj : World) : Prop :=
 ai.elim False fun b9 =>
 ∃ (b3 : Option Addr), aj.cell? (b9.add 0) = some (.pointer b3) ∧
 Calls Try.prog 8 #[.pointer b3, .pointer none, .int .i64 0, .int .i64 0, .int .i64 0, .slice b1 b6 b4] aj fun aw ao => ∃ (af : Option Addr) (aa a4 : Nat) (a2 : Int), aw = .returned (.tuple #[.slice af aa a4, .int .i64 a2]) ∧
 ai.elim False fun ba =>
 ∃ (b2 : Option Addr), ao.cell? (ba.add 0) = some (.pointer b2) ∧
 Calls Try.prog 9 #[.pointer b2, .pointer none, .agg #[.int .i64 0, .int .i64 0, .int .u64 0, .int .i64 1, .int .i64 0, .int .i64 0, .slice none 0 0, .int .u64 0]] ao fun ar am => ∃ (ac : Option Addr) (a9 a6 : Nat) (a3 : Int), ar = .returned (.tuple #[.slice ac a9 a6, .int .i64 a3]) ∧
 ai.elim False fun b8 =>
 ∃ (b5 : Option Addr), am.cell? (b8.add 2) = some (.pointer b5) ∧
 Calls Try.prog 8 #[.pointer none, .pointer b5, .int .i64 0, .int .i64 0, .int .i64 0, .slice b1 b6 b4] am fun ay ax => ∃ (ad : Option Addr) (ab a7 : Nat) (a0 : Int), ay = .returned (.tuple #[.slice ad ab a7, .int .i64 a0]) ∧
 thenW (ax.drew) fun ah =>
 ai.elim False fun b7 =>
 ∃ (aq : Option Addr), ah.cell? (b7.add 0) = some (.pointer aq) ∧
 ai.elim False fun b0 =>
 ∃ (au : Option Addr), ah.cell? (b0.add 2) = some (.pointer au) ∧
 ∃ (al : Option Addr) (ak an : Nat) (ag : World), (Instr.makeSlice 25 (.int .i64 az) (.int .i64 az)).run Try.prog ah = .ok (.slice al ak an) ag ∧
 ag.cell? (b0.add 2) = some (.pointer au) ∧
 ag.cell? (b7.add 0) = some (.pointer aq) ∧
 Calls Try.prog 8 #[.pointer aq, .pointer au, .int .i64 0, .int .i64 0, .int .i64 0, .slice al ak an] ag fun av ap => ∃ (ae : Option Addr) (a5 a8 : Nat) (a1 : Int), av = .returned (.tuple #[.slice ae a5 a8, .int .i64 a1]) ∧
 Q0f.J1 a1 a0 a3 a2 ai az R ap

abbrev Q0f.J3 (a7 : Int) (a6 : Option Addr) (a5 a4 : Nat) (R : RW) (a3 : World) : Prop :=
 Calls Try.prog 7 #[.slice none 0 0, .int .i64 1] a3 fun a2 a1 => ∃ (a0 : Option Addr), a2 = .returned (.pointer a0) ∧
 bif Option.isNone a0 then (
 R (.bool false) a1) else (
 Q0f.J2 a0 a7 a6 a5 a4 R a1)

def Q0f.M (n1 : Int) (a4 : Option Addr) (a0 a5 : Nat) (R : RW) (w : World) : Prop :=
 bif decide (n1 < 0) then (
 Calls Try.prog 6 #[] w fun a9 ab => ∃ (a2 : Bool), a9 = .returned (.bool a2) ∧
 R (.bool a2) ab) else (
 bif decide (n1 > 1200) then (
 Calls Try.prog 6 #[] w fun aa a8 => ∃ (a3 : Bool), aa = .returned (.bool a3) ∧
 R (.bool a3) a8) else (
 bif decide ((a0 : Int) > 100) then (
 Calls Try.prog 6 #[] w fun a6 a7 => ∃ (a1 : Bool), a6 = .returned (.bool a1) ∧
 R (.bool a1) a7) else (
 Q0f.J3 n1 a4 a0 a5 R w)))

theorem Q0f.ok (n1 : Int) (a0 : Option Addr) (a2 a1 : Nat) {R : RW} {w : World} (h : Q0f.M n1 a0 a2 a1 R w) : Calls Try.prog 5 #[.int .i64 n1, .slice a0 a2 a1] w fun e w' => ∃ v, e = .returned v ∧ R v w' :=
  Q0i follows (H := []) (args := [.int .i64 n1, .slice a0 a2 a1]) (cast (by kernel_rfl) h)

def Q0f.N (n1 : Int) (al : Option Addr) (a4 ag : Nat) (R : RW) (w : World) : Prop :=
 (n1 < 0 →
 Calls Try.prog 6 #[] w fun bu bs => ∃ (am : Bool), bu = .returned (.bool am) ∧
 R (.bool am) bs) ∧
 ((0 : Int) ≤ n1 →
 (n1 > 1200 →
 Calls Try.prog 6 #[] w fun bt bg => ∃ (ar : Bool), bt = .returned (.bool ar) ∧
 R (.bool ar) bg) ∧
 (n1 ≤ 1200 →
 ((a4 : Int) > 100 →
 Calls Try.prog 6 #[] w fun b9 be => ∃ (a9 : Bool), b9 = .returned (.bool a9) ∧
 R (.bool a9) be) ∧
 ((a4 : Int) ≤ 100 →
 Calls Try.prog 7 #[.slice none 0 0, .int .i64 1] w fun bd b1 => ∃ (a0 : Option Addr), bd = .returned (.pointer a0) ∧
 (a0 = none →
 R (.bool false) b1) ∧
 (a0 ≠ none →
 ∃ av : Addr, a0 = some av ∧
 ∃ (bp : Option Addr), b1.cell? (av.add 0) = some (.pointer bp) ∧
 Calls Try.prog 8 #[.pointer bp, .pointer none, .int .i64 0, .int .i64 0, .int .i64 0, .slice al a4 ag] b1 fun bl b6 => ∃ (an : Option Addr) (aj ak : Nat) (a1 : Int), bl = .returned (.tuple #[.slice an aj ak, .int .i64 a1]) ∧
 ∃ (bo : Option Addr), b6.cell? (av.add 0) = some (.pointer bo) ∧
 Calls Try.prog 9 #[.pointer bo, .pointer none, .agg #[.int .i64 0, .int .i64 0, .int .u64 0, .int .i64 1, .int .i64 0, .int .i64 0, .slice none 0 0, .int .u64 0]] b6 fun bm b7 => ∃ (ai : Option Addr) (af ah : Nat) (a6 : Int), bm = .returned (.tuple #[.slice ai af ah, .int .i64 a6]) ∧
 ∃ (br : Option Addr), b7.cell? (av.add 2) = some (.pointer br) ∧
 Calls Try.prog 8 #[.pointer none, .pointer br, .int .i64 0, .int .i64 0, .int .i64 0, .slice al a4 ag] b7 fun bb b0 => ∃ (ap : Option Addr) (aq au : Nat) (a3 : Int), bb = .returned (.tuple #[.slice ap aq au, .int .i64 a3]) ∧
 ∃ (bh : Option Addr), b0.cell? (av.add 0) = some (.pointer bh) ∧
 ∃ (ba : Option Addr), b0.cell? (av.add 2) = some (.pointer ba) ∧
 ∀ (b2 : World), Ext no b0 b2 →
 ∃ (b5 : Option Addr) (b3 b4 : Nat) (ax : World), (Instr.makeSlice 25 (.int .i64 n1) (.int .i64 n1)).run Try.prog b2 = .ok (.slice b5 b3 b4) ax ∧
 ax.cell? (av.add 2) = some (.pointer ba) ∧
 ax.cell? (av.add 0) = some (.pointer bh) ∧
 Calls Try.prog 8 #[.pointer bh, .pointer ba, .int .i64 0, .int .i64 0, .int .i64 0, .slice b5 b3 b4] ax fun bk ay => ∃ (ao : Option Addr) (aa ad : Nat) (a5 : Int), bk = .returned (.tuple #[.slice ao aa ad, .int .i64 a5]) ∧
 ∃ (bn : Option Addr), ay.cell? (av.add 0) = some (.pointer bn) ∧
 ∃ (bq : Option Addr), ay.cell? (av.add 2) = some (.pointer bq) ∧
 ∀ (b8 : World), Ext no ay b8 →
 Calls Try.prog 9 #[.pointer bn, .pointer bq, .agg #[.int .i64 0, .int .i64 0, .int .u64 0, .int .i64 1, .int .i64 0, .int .i64 (-1), .slice none 0 0, .int .u64 0]] b8 fun bf aw => ∃ (ae : Option Addr) (ab ac : Nat) (a2 : Int), bf = .returned (.tuple #[.slice ae ab ac, .int .i64 a2]) ∧
 (a1 = 23 →
 (a6 = 23 →
 (a3 = 23 →
 Calls Try.prog 14 #[] aw fun bj az => ∃ (a7 : Int), bj = .returned (.int .i64 a7) ∧
 ((a5 == 0) = (decide (n1 ≤ a7)) →
 (a2 = 10 →
 Calls Try.prog 6 #[] az fun bi bc => ∃ (a8 : Bool), bi = .returned (.bool a8) ∧
 R (.bool a8) bc) ∧
 (a2 ≠ 10 →
 R (.bool false) az)) ∧
 ((a5 == 0) ≠ (decide (n1 ≤ a7)) →
 R (.bool false) az)) ∧
 (a3 ≠ 23 →
 R (.bool false) aw)) ∧
 (a6 ≠ 23 →
 R (.bool false) aw)) ∧
 (a1 ≠ 23 →
 R (.bool false) aw)))))

theorem Q0f.up (n1 : Int) (ah : Option Addr) (ab ae : Nat) {R : RW} {w : World} (h : Q0f.N n1 ah ab ae R w) : Q0f.M n1 ah ab ae R w := by
  unfold Q0f.M
  unfold Q0f.N at h
  refine bif_of (fun c3 => ?_) (fun c3 => ?_)
  ·have h := h.1 (of_decide_eq_true c3)
   refine h.mono fun cg ch h => ?_
   obtain ⟨ax, he, h⟩ := h
   refine ⟨ax, he, ?_⟩
   exact h
  have h := h.2 (Int.not_lt.1 (of_decide_eq_false c3))
  refine bif_of (fun c7 => ?_) (fun c7 => ?_)
  ·have h := h.1 (of_decide_eq_true c7)
   refine h.mono fun ci cb h => ?_
   obtain ⟨ar, he, h⟩ := h
   refine ⟨ar, he, ?_⟩
   exact h
  have h := h.2 (Int.not_lt.1 (of_decide_eq_false c7))
  refine bif_of (fun be => ?_) (fun be => ?_)
  ·have h := h.1 (of_decide_eq_true be)
   refine h.mono fun c5 bm h => ?_
   obtain ⟨ap, he, h⟩ := h
   refine ⟨ap, he, ?_⟩
   exact h
  have h := h.2 (Int.not_lt.1 (of_decide_eq_false be))
  unfold Q0f.J3
  refine h.mono fun bq cd h => ?_
  obtain ⟨a1, he, h⟩ := h
  refine ⟨a1, he, ?_⟩
  refine bif_of (fun bg => ?_) (fun bg => ?_)
  ·have h := h.1 (Q1B bg)
   exact h
  have h := h.2 (Q1C bg)
  unfold Q0f.J2
  obtain ⟨cf, a0, h⟩ := h
  refine Q05 a0 ?_
  obtain ⟨bx, bk, h⟩ := h
  refine ⟨bx, bk, ?_⟩
  refine h.mono fun bu c9 h => ?_
  obtain ⟨a8, af, ag, an, he, h⟩ := h
  refine ⟨a8, af, ag, an, he, ?_⟩
  refine Q05 a0 ?_
  obtain ⟨bs, bc, h⟩ := h
  refine ⟨bs, bc, ?_⟩
  refine h.mono fun ce bw h => ?_
  obtain ⟨a3, ad, a7, aq, he, h⟩ := h
  refine ⟨a3, ad, a7, aq, he, ?_⟩
  refine Q05 a0 ?_
  obtain ⟨c4, b0, h⟩ := h
  refine ⟨c4, b0, ?_⟩
  refine h.mono fun c8 bd h => ?_
  obtain ⟨ai, ac, aj, al, he, h⟩ := h
  refine ⟨ai, ac, aj, al, he, ?_⟩
  refine Q01 fun b6 c2 => ?_
  have au := (Ext.refl no bd).x_drew c2
  refine Q05 a0 ?_
  obtain ⟨bz, b7, h⟩ := h
  refine ⟨bz, (au).cell b7 id, ?_⟩
  refine Q05 a0 ?_
  obtain ⟨c6, b5, h⟩ := h
  refine ⟨c6, (au).cell b5 id, ?_⟩
  have h := h b6 au
  obtain ⟨bb, bi, ba, bh, hr, h⟩ := h
  refine ⟨bb, bi, ba, bh, hr, ?_⟩
  obtain ⟨ay, b4, h⟩ := h
  refine ⟨ay, b4, ?_⟩
  refine h.mono fun c1 bf h => ?_
  obtain ⟨aa, a2, a6, am, he, h⟩ := h
  refine ⟨aa, a2, a6, am, he, ?_⟩
  unfold Q0f.J1
  refine Q01 fun b3 cc => ?_
  have aw := (Ext.refl no bf).x_drew cc
  refine Q05 a0 ?_
  obtain ⟨bv, bj, h⟩ := h
  refine ⟨bv, (aw).cell bj id, ?_⟩
  refine Q05 a0 ?_
  obtain ⟨bn, b8, h⟩ := h
  refine ⟨bn, (aw).cell b8 id, ?_⟩
  have h := h b3 aw
  refine h.mono fun ca bo h => ?_
  obtain ⟨a9, a4, a5, ao, he, h⟩ := h
  refine ⟨a9, a4, a5, ao, he, ?_⟩
  refine bif_fo (fun b9 => ?_) (fun b9 => ?_)
  ·have h := h.2 (beq_f b9)
   exact h
  have h := h.1 (beq_t b9)
  refine bif_fo (fun az => ?_) (fun az => ?_)
  ·have h := h.2 (beq_f az)
   exact h
  have h := h.1 (beq_t az)
  refine bif_fo (fun bl => ?_) (fun bl => ?_)
  ·have h := h.2 (beq_f bl)
   exact h
  have h := h.1 (beq_t bl)
  refine h.mono fun bt br h => ?_
  obtain ⟨av, he, h⟩ := h
  refine ⟨av, he, ?_⟩
  refine bif_fo (fun b1 => ?_) (fun b1 => ?_)
  ·have h := h.2 (bbeq_f b1)
   exact h
  have h := h.1 (bbeq_t b1)
  refine bif_fo (fun b2 => ?_) (fun b2 => ?_)
  ·have h := h.2 (beq_f b2)
   exact h
  have h := h.1 (beq_t b2)
  refine h.mono fun c0 bp h => ?_
  obtain ⟨ak, he, h⟩ := h
  refine ⟨ak, he, ?_⟩
  exact h

theorem Q0f.go (n1 : Int) (a0 : Option Addr) (a2 a1 : Nat) {R : RW} {w : World} (h : Q0f.N n1 a0 a2 a1 R w) : Calls Try.prog 5 #[.int .i64 n1, .slice a0 a2 a1] w fun e w' => ∃ v, e = .returned v ∧ R v w' := Q0f.ok n1 a0 a2 a1 (Q0f.up n1 a0 a2 a1 h)
set_option maxRecDepth 20000
open W (OwnB sameB_spec)
def PlQ (W : World) (cs : List Value) : Prop := ∃ w i e : Int, cs = [.int .i64 w, .int .i64 i, .int .i64 e]
theorem endE {W w : World} {o : Own} (s : Step no W (fun _ => none) w o) : Ext no W w := s.ext.mono fun b ⟨_, h, _⟩ _ => by cases h
theorem live14 {W w2 : World} {o2 : Own} (s : Step no W (fun _ => none) w2 o2) : Calls Try.prog 6 #[] w2 fun ee ww => ∃ (al : Bool), ee = .returned (.bool al) ∧ (Value.bool al = .bool true ∧ Ext no W ww) :=
  (Q4y s.ok).mono fun x ww ⟨o2, he, s2⟩ => ⟨true, he, rfl, endE (s.trans s2)⟩
theorem SealingBack_walk (W : World) (a0 : Option Addr) (len0 cap0 : Nat) (cs1 : Array Value) (a2 : Option Addr) (len2 cap2 : Nat) (cs3 : Array Value) (o0 : IntsQ .u64 W [.slice a0 len0 cap0]) (o1 : PlQ W cs1.toList) (o2 : BytesQ W [.slice a2 len2 cap2]) (o3 : PlQ W cs3.toList) :
    Calls Try.prog 3 #[.slice a0 len0 cap0, .agg cs1, .slice a2 len2 cap2, .agg cs3] W (Gives (.bool true) fun w' => Ext no W w') := by
  obtain ⟨_, _, d, e, hdc, _, hd, hdw⟩ := o0
  cases e
  obtain ⟨_, _, p, e, hpc, _, hp⟩ := o2
  cases e
  obtain ⟨cs1⟩ := cs1
  obtain ⟨cs3⟩ := cs3
  obtain ⟨pw, pi, pe, e1⟩ := o1
  obtain ⟨qw, qi, qe, e3⟩ := o3
  have e1 : cs1 = _ := e1
  have e3 : cs3 = _ := e3
  subst e1 e3
  have tg0 : Tags W fun _ => none := fun b j _ h => by cases h
  have hd0 : Row W (fun _ => none) a0 (d.map u64V) := ⟨hd, fun _ _ _ => rfl⟩
  have hp0 : Row W (fun _ => none) a2 (bytesV p) := ⟨hp, fun _ _ _ => rfl⟩
  refine (Q04.go a0 d.length cap0 pw pi pe a2 p.length cap2 qw qi qe (R := fun v w' => v = .bool true ∧ Ext no W w') ?_).mono fun x w' ⟨v, he, hv, X⟩ => ⟨by rw [he, hv], X⟩
  unfold Q04.N
  refine ⟨fun _ w10 X => live14 (Step.of_no X tg0), fun hd50 => ⟨fun _ w10 X => live14 (Step.of_no X tg0), fun hp15 => ⟨fun _ w10 X => live14 (Step.of_no X tg0), fun he0 => ⟨fun _ w10 X => live14 (Step.of_no X tg0), fun he2 w10 p1 p2 X10 hp10 => ?_⟩⟩⟩⟩
  obtain ⟨s10, M10⟩ := Step.priv X10 hp10 tg0
  refine (Q25 (d := d) (many := 3) s10.ok (hd0.step s10) hdc (fun x hx => wf_u64 (hdw x hx)) (by omega) (by decide)).mono fun x w39 ⟨q, o39, he, B, X, S, R, K, O, hq, s39, A39, I, hov⟩ => ⟨_, he, M10.keep s39 (fun _ _ => id), fun h => (by cases h), fun _ => ⟨_, rfl, ?_⟩⟩
  subst hq
  have hus := I.used (by decide)
  have M39 := M10.step s39
  have t39 := s10.trans s39
  have hov0 : ∀ {j}, j = B.k → W.heap.size ≤ j := fun h => by have := hov.k; have := s10.size; omega
  refine ⟨_, A39.bk.celli 0 rfl rfl, _, A39.bk.celli 2 rfl rfl, fun w41 X41 => ?_⟩
  have s41 := Step.of_no X41 s39.ok
  have A41 := A39.no s41
  have M41 := M39.step s41
  have hkM : ∀ y ∈ [p1, p2], ¬ y = B.k := fun y hy e => by
    have h1 := (hp10 y hy).2
    have h2 := hov.k
    omega
  refine (Q2L A41.a A41.orc s41.ok I.pi.ki.inv.ok (by omega) pw pi pe ((hp0.step t39).step s41) (by omega)).mono fun x w50 ⟨o50, ba, bc, he, s50, r50, hbc, P50⟩ => ⟨_, _, _, _, he, M41.keep s50 hkM, fun hbad => ?_, fun hgood => ?_⟩
  · have t50 := ((t39.trans s41).trans' s50 fun a ha => .inr (hov0 ha))
    refine ⟨fun _ => live14 t50, fun h => absurd ?_ h⟩
    rw [Q6k hbad]; rfl
  obtain ⟨g1, g2, g3, g4, g5⟩ := Q5j I.pi.ki (by omega) hgood
  have hsh := Q2s (R := R 0) (w := pw) (i := pi) (e := pe) (p := p) I.pi.ki (by omega)
  have hle : (sealP S (R 0) pw pi pe p).1.1.length ≤ 1032 := by
    have := Q1r (classOf p.length); omega
  have A50 := A41.toOrc s50 P50
  have M50 := M41.step s50
  have t50 : Step no W (fun _ => none) w50 o50 := ((t39.trans s41).trans' s50 fun a ha => .inr (hov0 ha))
  have hp50 := ((hp0.step t39).step s41).step s50
  generalize (sealP S (R 0) pw pi pe p).1.1 = b at *
  generalize (sealP S (R 0) pw pi pe p).2 = S2 at *
  have hpl : 0 ≤ pw ∧ pw < 8 ∧ 0 ≤ pi ∧ pi < 200 ∧ 0 ≤ pe ∧ pe < 20 := of_decide_eq_true g1
  have hx : keyK (R 1) pe = (0, 11) := Q5O I.x he0 (by omega)
  -- what is opened where it was sealed
  have oa : ∀ (pv : Int) {w1 : World} {o1 : Own} {Q : World → Own → Prop}, (pv = 0 ↔ pi = 0) → RmG w1 o1 B S2 S (4 + 10 * 3) (R 0) (R 1) (R 0) → Tags w1 o1 → Row w1 o1 ba (bytesV b) →
      Calls Try.prog 9 #[.pointer (some (blk B.k)), .pointer (some (blk B.a)), .agg #[.int .i64 pw, .int .i64 pi, .int .u64 pv, .int .i64 1, .int .i64 pw, .int .i64 pe, .slice ba b.length bc, .int .u64 0]] w1 (Gb no w1 o1 (p, 0) fun _ _ => True) := fun pv w1 o1 Q hpv A ok r => by
    have op1 := Q1E (e := ⟨pw, pi, pv, 1, pw, pe, b, 0⟩) (ec := bc) A.a A.orc ok hsh r (by show b.length < 1000000; omega) hbc
    rw [Q2Y g4 g5 g1 hpv g2, if_neg (fun h => h rfl), if_neg (fun h => h rfl)] at op1
    exact op1
  have ox : ∀ (pv : Int) {w1 : World} {o1 : Own}, (pv = 0 ↔ pi = 0) → RmG w1 o1 B S2 S (4 + 10 * 3) (R 0) (R 1) (R 0) → Tags w1 o1 → Row w1 o1 ba (bytesV b) →
      Calls Try.prog 9 #[.pointer (some (blk B.k)), .pointer (some (blk B.x)), .agg #[.int .i64 pw, .int .i64 pi, .int .u64 pv, .int .i64 1, .int .i64 pw, .int .i64 pe, .slice ba b.length bc, .int .u64 0]] w1 (Gb no w1 o1 ([], 11) fun _ _ => True) := fun pv w1 o1 hpv A ok r => by
    have op1 := Q1E (e := ⟨pw, pi, pv, 1, pw, pe, b, 0⟩) (ec := bc) A.x A.orc ok hsh r (by show b.length < 1000000; omega) hbc
    have e1 : openP S2 (R 1) ⟨pw, pi, pv, 1, pw, pe, b, 0⟩ = ([], 11) := by
      have hsz := Q1r (classOf p.length)
      have hr : Q1Z ⟨pw, pi, pv, 1, pw, pe, b, 0⟩ = true := decide_eq_true (by
        show _ ∧ _ ∧ _ ∧ _ ∧ _ ∧ _ ∧ _ ∧ _ ∧ _ ∧ _ ∧ (pv = 0 ↔ pi = 0)
        exact ⟨hpl.1, hpl.2.1, hpl.2.2.1, hpl.2.2.2.1, by show (-1 : Int) ≤ pe; omega, hpl.2.2.2.2.2, by show (0 : Int) < 1; decide, by show (1 : Int) ≤ 1099511627776; decide, rfl, by show b.length ≤ 1100; omega, hpv⟩)
      unfold openP
      rw [if_pos hr]
      show (if pe < 0 then _ else if (keyK (R 1) pe).2 ≠ 0 then _ else _) = _
      rw [hx, if_neg (by omega), if_pos (by show (11 : Int) ≠ 0; decide)]
    rw [e1] at op1
    exact op1
  have oq : ∀ (pv : Int) {w1 : World} {o1 : Own}, pv = (if qi > 0 then 1 else 0) → RmG w1 o1 B S2 S (4 + 10 * 3) (R 0) (R 1) (R 0) → Tags w1 o1 → Row w1 o1 ba (bytesV b) →
      Calls Try.prog 9 #[.pointer (some (blk B.k)), .pointer (some (blk B.a)), .agg #[.int .i64 qw, .int .i64 qi, .int .u64 pv, .int .i64 1, .int .i64 qw, .int .i64 qe, .slice ba b.length bc, .int .u64 0]] w1 (fun x w' => ∃ o' a c n k, x = .returned (.tuple #[.slice a n c, .int .i64 k]) ∧ Step no w1 o1 w' o' ∧ (k == 0) = decide (qw = pw ∧ qi = pi ∧ qe = pe)) := fun pv w1 o1 hpv A ok r => by
    refine (Q1E (e := ⟨qw, qi, pv, 1, qw, qe, b, 0⟩) (ec := bc) A.a A.orc ok hsh r (by show b.length < 1000000; omega) hbc).mono fun x w' ⟨o', a, c, he, s, _⟩ => ⟨o', a, c, _, _, he, s, ?_⟩
    subst hpv
    rw [Bool.eq_iff_iff, beq_iff_eq, decide_eq_true_eq]
    exact Q67 g4 g5 g1 g2
  refine ⟨fun hi => ?_, fun hi => ?_⟩
  all_goals
    refine ⟨_, A50.bk.celli 0 rfl rfl, _, A50.bk.celli 2 rfl rfl, fun w60 p3 X60 hp60 => ?_⟩
    obtain ⟨s60, M60'⟩ := Step.priv X60 hp60 s50.ok
    have A60 := A50.no s60
    have M60 : Mine [p1, p2, p3] w60 _ := fun y hy => by
      rcases List.mem_cons.1 hy with rfl | hy
      · exact (M50.step s60) _ (by simp)
      · rcases List.mem_cons.1 hy with rfl | hy
        · exact (M50.step s60) _ (by simp)
        · exact M60' _ hy
    refine (oa _ (Q := fun _ _ => True) (by omega) A60 s60.ok (r50.step s60)).mono fun x w69 ⟨o69, ta, tc, he, s69, r69, htc, _⟩ => ⟨_, _, _, _, he, M60.keep s69 (fun _ _ => id), ?_⟩
    have A69 := A60.no s69
    refine ⟨_, A69.bk.celli 0 rfl rfl, _, A69.bk.celli 3 rfl rfl, fun w70 X70 => ?_⟩
    have s70 := Step.of_no X70 s69.ok
    have M70 := (M60.step s69).step s70
    refine (ox _ (by omega) (A69.no s70) s70.ok (((r50.step s60).step s69).step s70)).mono fun x w78 ⟨o78, xa, xc, he, s78, _⟩ => ⟨_, _, _, _, he, M70.keep s78 (fun _ _ => id), fun h => absurd rfl h, fun _ => ?_⟩
    have hp78 := (((hp50.step s60).step s69).step s70).step s78
    refine (sameB_spec ((r69.step s70).step s78).1 hp78.1 (by show p.length < 1000000; omega)).mono fun x w82 ⟨he, X82⟩ => ⟨_, he, X82.kept, fun h => (by simp at h), fun _ => ⟨fun h => absurd rfl h, fun _ => ?_⟩⟩
    have s82 := Step.of_no X82 s78.ok
    have A82 := ((A69.no s70).no s78).no s82
    have M82 := ((M70.step s78).step s82).sub (M := [p1, p2]) (by simp)
    have r82 := ((((r50.step s60).step s69).step s70).step s78).step s82
    have t82 := ((((t50.trans s60).trans s69).trans s70).trans s78).trans s82
    refine ⟨fun hq => ?_, fun hq => ?_⟩
    all_goals
      refine ⟨_, A82.bk.celli 0 rfl rfl, _, A82.bk.celli 2 rfl rfl, fun w94 X94 => ?_⟩
      have s94 := Step.of_no X94 s82.ok
      refine (oq _ (by first | rw [if_pos hq] | rw [if_neg (by omega)]) (A82.no s94) s94.ok (r82.step s94)).mono fun x w103 ⟨o103, a, c, n, k, he, s103, hk⟩ => ⟨_, _, _, _, he, (M82.step s94).keep s103 (fun _ _ => id), fun _ => live14 ((t82.trans s94).trans s103), fun h => absurd hk h⟩
section
variable {w w' : World} {o o' : Own} {q k : Nat} {S : OS} {R : Rng}
theorem nilKey (e : Int) (w : World) : Calls Try.prog 64 #[.pointer none, .int .i64 e] w (Ret (.tuple #[.int .u64 0, .int .i64 23]) fun w' => w' = w) := by
  refine Q0W.run _ _ ?_
  unfold Q0W.N
  exact ⟨fun _ => ⟨rfl, rfl⟩, fun h => absurd rfl h⟩
theorem nilSeal (k : Int) {a b : Option Addr} {n c m d : Nat} : Calls Try.prog 29 #[.pointer none, .int .u64 k, .slice b m d, .slice a n c] w (Gives (.tuple #[.slice none 0 0, .int .i64 23]) fun w' => w' = w) := by
  refine (oSeal.ok _ _ _ _ _ _ _ _ (R := fun v w' => v = .tuple #[.slice none 0 0, .int .i64 23] ∧ w' = w) ?_).mono fun e w' ⟨v, he, hv, hw⟩ => ⟨by rw [he, hv], hw⟩
  exact (Q2g n).mono fun x w' ⟨he, hw⟩ => ⟨_, he, rfl, hw⟩
theorem use_nil (wv iv ev : Int) (kk : Nat) (f g : Array Value) {pa : Option Addr} {pn pc : Nat} (w : World) :
    Calls Try.prog 28 #[.agg #[.int .i64 wv, .int .i64 iv, .int .i64 ev], .func (.func kk) f g, .pointer none, .slice pa pn pc] w (Ret (.tuple #[.slice none 0 0, .int .i64 23]) fun w' => Ext no w w') := by
  refine (Q0y.go _ _ _ _ _ _ _ _ _ _ (R := fun v w' => v = .tuple #[.slice none 0 0, .int .i64 23] ∧ Ext no w w') ?_).mono fun e w' ⟨v, he, hv, hw⟩ => ⟨by rw [he, hv], hw⟩
  unfold Q0y.N
  intro w7 p8 X7 hp8
  exact (nilKey ev w7).mono fun x w12 ⟨he, hw⟩ => ⟨_, _, he, (by rw [hw]; exact Keep.refl _ _), fun hk => ⟨rfl, by rw [hw]; exact X7⟩, fun hk => (by cases hk)⟩
theorem Q4D {oo : Option Addr} {pa : Option Addr} {pn pc : Nat} (w : World) : Calls Try.prog 8 #[.pointer oo, .pointer none, .int .i64 0, .int .i64 0, .int .i64 0, .slice pa pn pc] w (Ret (.tuple #[.slice none 0 0, .int .i64 23]) fun w' => Ext no w w') := by
  refine (Q11.go _ _ _ _ _ _ _ _ (R := fun v w' => v = .tuple #[.slice none 0 0, .int .i64 23] ∧ Ext no w w') ?_).mono fun e w' ⟨v, he, hv, hw⟩ => ⟨by rw [he, hv], hw⟩
  unfold Q11.N
  rw [placeF]
  refine ⟨fun hf => (by cases hf), fun _ w9 X9 => ?_⟩
  exact (use_nil 0 0 0 _ _ _ w9).mono fun x w20 ⟨he, X⟩ => ⟨_, _, _, _, he, rfl, X9.trans X⟩
theorem Q4w {oo : Option Addr} (w : World) : Calls Try.prog 9 #[.pointer oo, .pointer none, .agg #[.int .i64 0, .int .i64 0, .int .u64 0, .int .i64 1, .int .i64 0, .int .i64 0, .slice none 0 0, .int .u64 0]] w (Ret (.tuple #[.slice none 0 0, .int .i64 23]) fun w' => Ext no w w') := by
  refine (Q14.go _ _ _ _ _ _ _ _ _ _ _ _ (R := fun v w' => v = .tuple #[.slice none 0 0, .int .i64 23] ∧ Ext no w w') ?_).mono fun e w' ⟨v, he, hv, hw⟩ => ⟨by rw [he, hv], hw⟩
  unfold Q14.N
  have hF := Q3H ⟨0, 0, 0, 1, 0, 0, [], 0⟩ none 0
  have hF : Q0M.F 0 0 0 1 0 0 none 0 0 0 = true := hF.trans (by decide)
  rw [hF]
  refine ⟨fun hf => (by cases hf), fun _ => ⟨fun h => absurd h (by decide), fun _ w9 X9 => ?_⟩⟩
  exact (use_nil 0 0 0 _ _ _ w9).mono fun x w20 ⟨he, X⟩ => ⟨_, _, _, _, he, rfl, X9.trans X⟩
theorem Q4W (h : EG w o q k R) (ok : Tags w o) (hk : (keyK R 0).2 = 0) {pa : Option Addr} {pn pc : Nat} : Calls Try.prog 8 #[.pointer none, .pointer (some (blk q)), .int .i64 0, .int .i64 0, .int .i64 0, .slice pa pn pc] w (Ret (.tuple #[.slice none 0 0, .int .i64 23]) fun w' => Ext no w w') := by
  refine (Q11.go _ _ _ _ _ _ _ _ (R := fun v w' => v = .tuple #[.slice none 0 0, .int .i64 23] ∧ Ext no w w') ?_).mono fun e w' ⟨v, he, hv, hw⟩ => ⟨by rw [he, hv], hw⟩
  unfold Q11.N
  rw [placeF]
  refine ⟨fun hf => (by cases hf), fun _ w9 X9 => ?_⟩
  have s9 := Step.of_no X9 ok
  refine (Q0y.go _ _ _ _ _ _ _ _ _ _ (R := fun v w' => v = .tuple #[.slice none 0 0, .int .i64 23] ∧ Ext no w w') ?_).mono fun e w' ⟨v, he, hv, hw⟩ => ⟨_, _, _, _, by rw [he, hv], rfl, hw⟩
  unfold Q0y.N
  intro w7 p8 X7 hp8
  obtain ⟨s7, M7⟩ := Step.priv X7 hp8 s9.ok
  refine (Q3v ((h.step s9 id).step s7 id) 0).mono fun x w12 ⟨he, hw⟩ => ⟨_, _, he, (by rw [hw]; exact Keep.refl _ _), fun h => absurd hk h, fun _ => ?_⟩
  subst hw
  refine (Q2H (x := 0) (y := 0) (z := 0) (by omega) (by omega) (by omega) (by omega)).mono fun x w16 ⟨ba, bc, he, hO, X16⟩ => ⟨_, _, _, he, by kernel_rfl, ?_⟩
  exact (nilSeal (keyK R 0).1 (w := w16)).mono fun x w20 ⟨he, hw⟩ => ⟨_, _, _, _, he, rfl, by rw [hw]; exact (X9.trans X7).trans X16⟩
theorem Q4k (n : Nat) : 0 ≤ classOf n ↔ n ≤ 1022 := by
  have r0 : roomN 0 = 15 := by decide
  have r1 : roomN 1 = 31 := by decide
  have r2 : roomN 2 = 63 := by decide
  have r3 : roomN 3 = 127 - 1 ∨ roomN 3 = 127 := by decide
  have r4 : roomN 4 = 254 := by decide
  have r5 : roomN 5 = 510 := by decide
  have r6 : roomN 6 = 1022 := by decide
  unfold classOf
  simp only [classF, Nat.zero_add, Nat.reduceAdd]
  constructor
  · intro h
    repeat' split at h
    all_goals first | omega | (exfalso; revert h; decide)
  · intro h
    repeat' split
    all_goals omega
theorem SealingNils_walk (W : World) (n0 : Int) (a1 : Option Addr) (len1 cap1 : Nat) (w0 : (Lit.int .i64 n0).wf = true) (o1 : BytesQ W [.slice a1 len1 cap1]) :
    Calls Try.prog 5 #[.int .i64 n0, .slice a1 len1 cap1] W (Gives (.bool true) fun w' => Ext no W w') := by
  obtain ⟨_, _, p, e, hpc, _, hp⟩ := o1
  cases e
  have tg0 : Tags W fun _ => none := fun b j _ h => by cases h
  have hp0 : Row W (fun _ => none) a1 (bytesV p) := ⟨hp, fun _ _ _ => rfl⟩
  refine (Q0f.go n0 a1 p.length cap1 (R := fun v w' => v = .bool true ∧ Ext no W w') ?_).mono fun x w' ⟨v, he, hv, X⟩ => ⟨by rw [he, hv], X⟩
  unfold Q0f.N
  have s0 : Step no W (fun _ => none) W (fun _ => none) := Step.refl _ tg0
  refine ⟨fun _ => live14 s0, fun hn0 => ⟨fun _ => live14 s0, fun hn1 => ⟨fun _ => live14 s0, fun hp1 => ?_⟩⟩⟩
  obtain ⟨n, rfl⟩ := Int.eq_ofNat_of_zero_le hn0
  refine (Q25 (d := []) (many := 1) s0.ok (Row.nil _ _ _) (Nat.le_refl _) (fun x hx => by cases hx) (by simp) (by decide)).mono fun x w17 ⟨q, o17, he, B, X, S, R, K, O, hq, s17, A17, I, hov⟩ => ⟨_, he, fun h => (by cases h), fun _ => ⟨_, rfl, ?_⟩⟩
  subst hq
  have hus := I.used (by decide)
  have hin : OInv (OS.init []) := OInv.init (l := []) (fun x hx => by cases hx)
  have hkey := I.key (e := 0) (by decide)
  have hmem := I.one hin
  have hkk : (keyK (R 0) 0).2 = 0 := congrArg Prod.snd hkey
  refine ⟨_, A17.bk.celli 0 rfl rfl, (Q4D w17).mono fun x w25 ⟨he, X25⟩ => ⟨_, _, _, _, he, ?_⟩⟩
  have s25 := Step.of_no X25 s17.ok
  have A25 := A17.no s25
  refine ⟨_, A25.bk.celli 0 rfl rfl, (Q4w w25).mono fun x w31 ⟨he, X31⟩ => ⟨_, _, _, _, he, ?_⟩⟩
  have s31 := Step.of_no X31 s25.ok
  have A31 := A25.no s31
  refine ⟨_, A31.bk.celli 2 rfl rfl, (Q4W A31.a s31.ok hkk).mono fun x w37 ⟨he, X37⟩ => ⟨_, _, _, _, he, ?_⟩⟩
  have s37 := Step.of_no X37 s31.ok
  have A37 := A31.no s37
  refine ⟨_, A37.bk.celli 0 rfl rfl, _, A37.bk.celli 2 rfl rfl, fun w38 X38 => ?_⟩
  have s38 := Step.of_no X38 s37.ok
  generalize grow w37 _ = o38 at s38
  have A38 := A37.no s38
  obtain ⟨w44, hr44, X44, b44, hlt⟩ := Q6P w38 n (by omega)
  have s44 := Step.of_no X44 s38.ok
  have A44 := A38.no s44
  have r44 : Row w44 (grow w38 o38) (some (blk w38.heap.size)) (bytesV (List.replicate n 0)) := Row.fresh (RowAt.of_blk b44) fun ad ha => by cases ha; exact Nat.le_refl _
  refine ⟨_, _, _, w44, hr44, A44.bk.celli 2 rfl rfl, A44.bk.celli 0 rfl rfl, ?_⟩
  have hsl := Q2L A44.a A44.orc s44.ok I.pi.ki.inv.ok (by omega) 0 0 0 (pc := n) r44 (by simp; omega)
  rw [List.length_replicate] at hsl
  have hkd : ((sealP S (R 0) 0 0 0 (List.replicate n 0)).1.2 == 0) = decide ((n : Int) ≤ 1022) := by
    have e1 : sealP S (R 0) 0 0 0 (List.replicate n 0) = sealOf S (K[0]?.getD 0) (boundL 0 0 0) (List.replicate n 0) := by
      unfold sealP
      rw [if_pos (by decide)]
      have hk2 : keyK (R 0) 0 = (K[0]?.getD 0, 0) := hkey
      rw [hk2]; exact if_neg (fun h => h rfl)
    have hcr := Q4k n
    rw [e1]
    unfold sealOf
    rw [if_pos hmem, List.length_replicate]
    by_cases hc : classOf n < 0
    · rw [if_pos hc]
      rw [decide_eq_false (by omega)]; rfl
    · rw [if_neg hc]
      rw [decide_eq_true (by omega)]; rfl
  refine hsl.mono fun x w50 ⟨o50, ba, bc, he, s50, r50, hbc, P50⟩ => ⟨_, _, _, _, he, ?_⟩
  have A50 := A44.toOrc s50 P50
  refine ⟨_, A50.bk.celli 0 rfl rfl, _, A50.bk.celli 2 rfl rfl, fun w51 X51 => ?_⟩
  have s51 := Step.of_no X51 s50.ok
  have A51 := A50.no s51
  have hsh := Q2s (R := R 0) (w := 0) (i := 0) (e := 0) (p := List.replicate n 0) I.pi.ki (by simp; omega)
  have op := Q1E (e := ⟨0, 0, 0, 1, 0, -1, [], 0⟩) (ea := none) (ec := 0) A51.a A51.orc s51.ok hsh (Row.nil _ _ _) (by decide) (Nat.le_refl _)
  have e1 : ∀ (S : OS) (R : Rng), openP S R ⟨0, 0, 0, 1, 0, -1, [], 0⟩ = ([], 10) := fun S R => by unfold openP; rw [if_pos (by decide)]; exact if_pos (by decide)
  rw [e1] at op
  have t51 : Step no W (fun _ => none) w51 _ := (((((((s17.trans s25).trans s31).trans s37).trans s38).trans s44).trans' s50 fun a ha => .inr (by rw [ha]; exact hov.k)).trans s51)
  refine op.mono fun x w59 ⟨o59, ta, tc, he, s59, _⟩ => ⟨_, _, _, _, he, fun _ => ⟨fun _ => ⟨fun _ => ?_, fun h => absurd rfl h⟩, fun h => absurd rfl h⟩, fun h => absurd rfl h⟩
  have t59 := t51.trans s59
  exact (Q5R w59).mono fun x w65 ⟨he, X65⟩ => ⟨_, he, fun _ => ⟨fun _ => live14 (t59.trans (Step.of_no X65 t59.ok)), fun h => absurd rfl h⟩, fun h => absurd hkd h⟩
end
end Go.Proofs.Ytgeakpldocfccaa