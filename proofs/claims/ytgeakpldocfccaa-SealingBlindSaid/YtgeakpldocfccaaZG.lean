/- Sealing: predicates of the laws. -/
import Derived.Test.YtgeakpldocfccaaZF
import Derived.Test.YtgeakpldocfccaaZA
set_option linter.unusedVariables false
set_option linter.unusedSimpArgs false
set_option maxRecDepth 100000
set_option maxHeartbeats 4000000
namespace Go.Proofs.Ytgeakpldocfccaa
open Go Go.Mx Go.Proofs
theorem eqT24 (x0 x1 x2 y0 y1 y2 : Int) (w : World) : (Op.equalIn 10000 24 (.agg #[.int .i64 x0, .int .i64 x1, .int .i64 x2]) (.agg #[.int .i64 y0, .int .i64 y1, .int .i64 y2])).run Try.prog w = .ok (decide (x0 = y0 ∧ x1 = y1 ∧ x2 = y2)) w := by
  obtain ⟨f0, f1, f2, ht, n0, o0, p0, u0, n1, o1, p1, u1, n2, o2, p2, u2, hp⟩ : ∃ f0 f1 f2, Try.prog.underlying 24 = some (.struct #[f0, f1, f2]) ∧ f0.name ≠ "_" ∧ f0.offset = 0 ∧ Try.prog.plainKey f0.type = true ∧ Try.prog.underlying f0.type = some (.int .i64) ∧ f1.name ≠ "_" ∧ f1.offset = 1 ∧ Try.prog.plainKey f1.type = true ∧ Try.prog.underlying f1.type = some (.int .i64) ∧ f2.name ≠ "_" ∧ f2.offset = 2 ∧ Try.prog.plainKey f2.type = true ∧ Try.prog.underlying f2.type = some (.int .i64) ∧ Try.prog.stoodInHeld 24 = false :=
    ⟨_, _, _, Try.underlying24, by decide, rfl, by kernel_rfl, by kernel_rfl, by decide, rfl, by kernel_rfl, by kernel_rfl, by decide, rfl, by kernel_rfl, by kernel_rfl, by kernel_rfl⟩
  have hf : Try.prog.fieldsOf 24 = #[f0, f1, f2] := by simp [Program.fieldsOf, ht]
  rw [show (10000 : Nat) = 9998 + 1 + 1 from rfl, run_equalIn_struct w (9998 + 1) _ _ _ (by rw [hf]; exact ht) hp, hf]
  show (Op.eqFields (9998 + 1) _ _ [f0, f1, f2]).run Try.prog w = _
  rw [W.eqf_step n0 (run_part_plain w p0 (by rw [o0]; rfl)) (run_part_plain w p0 (by rw [o0]; rfl)) (run_equalIn_int w _ _ _ _ _ _ u0), W.eqf_step n1 (run_part_plain w p1 (by rw [o1]; rfl)) (run_part_plain w p1 (by rw [o1]; rfl)) (run_equalIn_int w _ _ _ _ _ _ u1), W.eqf_step n2 (run_part_plain w p2 (by rw [o2]; rfl)) (run_part_plain w p2 (by rw [o2]; rfl)) (run_equalIn_int w _ _ _ _ _ _ u2)]
  by_cases e0 : x0 = y0 <;> by_cases e1 : x1 = y1 <;> by_cases e2 : x2 = y2 <;> simp [e0, e1, e2, Op.eqFields]
theorem Q47 (x0 x1 x2 y0 y1 y2 : Int) (w : World) : (binOp .eql 24 (.agg #[.int .i64 x0, .int .i64 x1, .int .i64 x2]) (.agg #[.int .i64 y0, .int .i64 y1, .int .i64 y2])).run Try.prog w = .ok (.bool (decide (x0 = y0 ∧ x1 = y1 ∧ x2 = y2))) w := by rw [run_eql_struct, eqT24]; rfl
abbrev Q04.J1 (b1 : Addr) (av : Option Addr) (ax ay : Addr) (R : RW) (aw : World) : Prop :=
 thenW (aw.drew) fun ae =>
 av.elim False fun az =>
 ∃ (au : Option Addr), ae.cell? (az.add 0) = some (.pointer au) ∧
 av.elim False fun b0 =>
 ∃ (aq : Option Addr), ae.cell? (b0.add 2) = some (.pointer aq) ∧
 ∃ (a0 a6 ac ah ag a8 : Int) (a7 : Option Addr) (aa a9 : Nat) (af : Int), cellsAt ae b1 [.int .i64 a0, .int .i64 a6, .int .u64 ac, .int .i64 ah, .int .i64 ag, .int .i64 a8, .slice a7 aa a9, .int .u64 af] 0 ∧
 Calls Try.prog 9 #[.pointer au, .pointer aq, .agg #[.int .i64 a0, .int .i64 a6, .int .u64 ac, .int .i64 ah, .int .i64 ag, .int .i64 a8, .slice a7 aa a9, .int .u64 af]] ae fun ar a2 => ∃ (aj : Option Addr) (ak ai : Nat) (ad : Int), ar = .returned (.tuple #[.slice aj ak ai, .int .i64 ad]) ∧
 ∃ (al a1 a5 : Int), cellsAt a2 ax [.int .i64 al, .int .i64 a1, .int .i64 a5] 0 ∧
 ∃ (am a3 a4 : Int), cellsAt a2 ay [.int .i64 am, .int .i64 a3, .int .i64 a4] 0 ∧
 ∃ (ao : Bool), (binOp .eql 24 (.agg #[.int .i64 al, .int .i64 a1, .int .i64 a5]) (.agg #[.int .i64 am, .int .i64 a3, .int .i64 a4])).run Try.prog a2 = .ok (.bool ao) a2 ∧
 bif (ad == 0) == ao then (
 Calls Try.prog 6 #[] a2 fun an ap => ∃ (ab : Bool), an = .returned (.bool ab) ∧
 R (.bool ab) ap) else (
 R (.bool false) a2)

abbrev Q04.J2 (ar : Addr) (am : Option Addr) (ab al : Addr) (R : RW) (a0 : World) : Prop :=
 ∃ (a1 a6 a8 af ac a2 : Int) (a4 : Option Addr) (a3 a5 : Nat) (ae : Int), cellsAt a0 ar [.int .i64 a1, .int .i64 a6, .int .u64 a8, .int .i64 af, .int .i64 ac, .int .i64 a2, .slice a4 a3 a5, .int .u64 ae] 0 ∧
 thenW (a0.alloc (.cells #[.int .i64 0, .int .i64 0, .int .u64 0, .int .i64 0, .int .i64 0, .int .i64 0, .slice none 0 0, .int .u64 0] 42)) fun ap =>
 putsK ap (blk a0.heap.size) [.int .i64 a1, .int .i64 a6, .int .u64 a8, .int .i64 af, .int .i64 ac, .int .i64 a2, .slice a4 a3 a5, .int .u64 ae] 0 fun ah =>
 ∃ (an : Int), ah.cell? (ab.add 0) = some (.int .i64 an) ∧
 Q0d ah (((blk a0.heap.size).add 0).add 0) ∧
 thenW (ah.setCell (((blk a0.heap.size).add 0).add 0) (.int .i64 an)) fun aj =>
 ∃ (aq : Int), aj.cell? (ab.add 0) = some (.int .i64 aq) ∧
 Q0d aj ((((blk a0.heap.size).add 3).add 1).add 0) ∧
 thenW (aj.setCell ((((blk a0.heap.size).add 3).add 1).add 0) (.int .i64 aq)) fun ai =>
 ∃ (a7 : Int), ai.cell? (ab.add 1) = some (.int .i64 a7) ∧
 Q0d ai (((blk a0.heap.size).add 1).add 0) ∧
 thenW (ai.setCell (((blk a0.heap.size).add 1).add 0) (.int .i64 a7)) fun ag =>
 ∃ (aa : Int), ag.cell? (ab.add 2) = some (.int .i64 aa) ∧
 Q0d ag (((blk a0.heap.size).add 5).add 0) ∧
 thenW (ag.setCell (((blk a0.heap.size).add 5).add 0) (.int .i64 aa)) fun ak =>
 Q0d ak (((blk a0.heap.size).add 2).add 0) ∧
 thenW (ak.setCell (((blk a0.heap.size).add 2).add 0) (.int .u64 0)) fun ad =>
 ∃ (a9 : Int), ad.cell? (ab.add 1) = some (.int .i64 a9) ∧
 bif decide (a9 > 0) then (
 Q0d ad (((blk a0.heap.size).add 2).add 0) ∧
 thenW (ad.setCell (((blk a0.heap.size).add 2).add 0) (.int .u64 1)) fun ao =>
 Q04.J1 (blk a0.heap.size) am ab al R ao) else (
 Q04.J1 (blk a0.heap.size) am ab al R ad)

abbrev Q04.J3 (b0 : Addr) (ax : Option Addr) (be bg : Addr) (bb : Option Addr) (bc bh : Nat) (R : RW) (b8 : World) : Prop :=
 thenW (b8.drew) fun al =>
 ax.elim False fun ba =>
 ∃ (b1 : Option Addr), al.cell? (ba.add 0) = some (.pointer b1) ∧
 ax.elim False fun bd =>
 ∃ (b2 : Option Addr), al.cell? (bd.add 2) = some (.pointer b2) ∧
 ∃ (a1 a4 af aq ap a7 : Int) (a2 : Option Addr) (a8 aa : Nat) (aj : Int), cellsAt al b0 [.int .i64 a1, .int .i64 a4, .int .u64 af, .int .i64 aq, .int .i64 ap, .int .i64 a7, .slice a2 a8 aa, .int .u64 aj] 0 ∧
 Calls Try.prog 9 #[.pointer b1, .pointer b2, .agg #[.int .i64 a1, .int .i64 a4, .int .u64 af, .int .i64 aq, .int .i64 ap, .int .i64 a7, .slice a2 a8 aa, .int .u64 aj]] al fun b6 b3 => ∃ (a6 : Option Addr) (ab a9 : Nat) (ah : Int), b6 = .returned (.tuple #[.slice a6 ab a9, .int .i64 ah]) ∧
 thenW (b3.drew) fun an =>
 ax.elim False fun bi =>
 ∃ (b9 : Option Addr), an.cell? (bi.add 0) = some (.pointer b9) ∧
 ax.elim False fun bf =>
 ∃ (b5 : Option Addr), an.cell? (bf.add 3) = some (.pointer b5) ∧
 ∃ (a0 a3 ai ak am ae : Int) (ac : Option Addr) (ad a5 : Nat) (ar : Int), cellsAt an b0 [.int .i64 a0, .int .i64 a3, .int .u64 ai, .int .i64 ak, .int .i64 am, .int .i64 ae, .slice ac ad a5, .int .u64 ar] 0 ∧
 Calls Try.prog 9 #[.pointer b9, .pointer b5, .agg #[.int .i64 a0, .int .i64 a3, .int .u64 ai, .int .i64 ak, .int .i64 am, .int .i64 ae, .slice ac ad a5, .int .u64 ar]] an fun b4 az => ∃ (aw : Option Addr) (av au : Nat) (ag : Int), b4 = .returned (.tuple #[.slice aw av au, .int .i64 ag]) ∧
 bif ah != 0 then (
 R (.bool false) az) else (
 Calls Try.prog 10 #[.slice a6 ab a9, .slice bb bc bh] az fun b7 ay => ∃ (ao : Bool), b7 = .returned (.bool ao) ∧
 bif !ao then (
 R (.bool false) ay) else (
 bif ag != 11 then (
 R (.bool false) ay) else (
 Q04.J2 b0 ax be bg R ay)))

abbrev Q04.J4 (ag : Option Addr) (ah af : Nat) (ac : Option Addr) (ae a4 : Addr) (a8 : Option Addr) (a9 ad : Nat) (R : RW) (a0 : World) : Prop :=
 ∃ (a7 : Int), a0.cell? (a4.add 0) = some (.int .i64 a7) ∧
 ∃ (a3 : Int), a0.cell? (a4.add 1) = some (.int .i64 a3) ∧
 ∃ (aa : Int), a0.cell? (a4.add 0) = some (.int .i64 aa) ∧
 ∃ (a2 : Int), a0.cell? (a4.add 2) = some (.int .i64 a2) ∧
 thenW (a0.alloc (.cells #[.int .i64 0, .int .i64 0, .int .u64 0, .int .i64 0, .int .i64 0, .int .i64 0, .slice none 0 0, .int .u64 0] 42)) fun a6 =>
 putsK a6 (blk a0.heap.size) [.int .i64 a7, .int .i64 a3, .int .u64 0, .int .i64 1, .int .i64 aa, .int .i64 a2, .slice ag ah af, .int .u64 0] 0 fun a5 =>
 ∃ (a1 : Int), a5.cell? (a4.add 1) = some (.int .i64 a1) ∧
 bif decide (a1 > 0) then (
 Q0d a5 (((blk a0.heap.size).add 2).add 0) ∧
 thenW (a5.setCell (((blk a0.heap.size).add 2).add 0) (.int .u64 1)) fun ab =>
 Q04.J3 (blk a0.heap.size) ac ae a4 a8 a9 ad R ab) else (
 Q04.J3 (blk a0.heap.size) ac ae a4 a8 a9 ad R a5)

abbrev Q04.J5 (ah : Option Addr) (an ag : Addr) (al : Option Addr) (am ak : Nat) (R : RW) (ae : World) : Prop :=
 thenW (ae.drew) fun a1 =>
 ah.elim False fun ai =>
 ∃ (ad : Option Addr), a1.cell? (ai.add 0) = some (.pointer ad) ∧
 ah.elim False fun aj =>
 ∃ (ac : Option Addr), a1.cell? (aj.add 2) = some (.pointer ac) ∧
 ∃ (aa : Int), a1.cell? (ag.add 0) = some (.int .i64 aa) ∧
 ∃ (a6 : Int), a1.cell? (ag.add 1) = some (.int .i64 a6) ∧
 ∃ (a7 : Int), a1.cell? (ag.add 2) = some (.int .i64 a7) ∧
 Calls Try.prog 8 #[.pointer ad, .pointer ac, .int .i64 aa, .int .i64 a6, .int .i64 a7, .slice al am ak] a1 fun a9 a8 => ∃ (a2 : Option Addr) (a0 a3 : Nat) (a5 : Int), a9 = .returned (.tuple #[.slice a2 a0 a3, .int .i64 a5]) ∧
 bif a5 != 0 then (
 bif (a0 : Int) == 0 then (
 Calls Try.prog 6 #[] a8 fun af ab => ∃ (a4 : Bool), af = .returned (.bool a4) ∧
 R (.bool a4) ab) else (
 R (.bool false) a8)) else (
 Q04.J4 a2 a0 a3 ah an ag al am ak R a8)

abbrev Q04.J6 (a5 a4 : Addr) (aa : Option Addr) (a6 a9 : Nat) (a7 : Option Addr) (ab a8 : Nat) (R : RW) (a2 : World) : Prop :=
 Calls Try.prog 7 #[.slice aa a6 a9, .int .i64 3] a2 fun a3 a1 => ∃ (a0 : Option Addr), a3 = .returned (.pointer a0) ∧
 bif Option.isNone a0 then (
 R (.bool false) a1) else (
 Q04.J5 a0 a5 a4 a7 ab a8 R a1)

def Q04.M (a9 : Option Addr) (a4 aa : Nat) (aq ae ac : Int) (ag : Option Addr) (a8 af : Nat) (ar ab ad : Int) (R : RW) (w : World) : Prop :=
 thenW (w.alloc (.cells #[.int .i64 aq, .int .i64 ae, .int .i64 ac] 24)) fun ap =>
 thenW (ap.alloc (.cells #[.int .i64 ar, .int .i64 ab, .int .i64 ad] 24)) fun a0 =>
 bif decide ((a4 : Int) > 50) then (
 Calls Try.prog 6 #[] a0 fun ah am => ∃ (a6 : Bool), ah = .returned (.bool a6) ∧
 R (.bool a6) am) else (
 bif decide ((a8 : Int) > 1500) then (
 Calls Try.prog 6 #[] a0 fun al ak => ∃ (a5 : Bool), al = .returned (.bool a5) ∧
 R (.bool a5) ak) else (
 ∃ (a1 : Int), a0.cell? ((blk w.heap.size).add 2) = some (.int .i64 a1) ∧
 bif decide (a1 < 0) then (
 Calls Try.prog 6 #[] a0 fun an ao => ∃ (a2 : Bool), an = .returned (.bool a2) ∧
 R (.bool a2) ao) else (
 ∃ (a3 : Int), a0.cell? ((blk w.heap.size).add 2) = some (.int .i64 a3) ∧
 bif decide (a3 > 2) then (
 Calls Try.prog 6 #[] a0 fun ai aj => ∃ (a7 : Bool), ai = .returned (.bool a7) ∧
 R (.bool a7) aj) else (
 Q04.J6 (blk ap.heap.size) (blk w.heap.size) a9 a4 aa ag a8 af R a0))))

theorem Q04.ok (a4 : Option Addr) (a0 a5 : Nat) (aa a3 a6 : Int) (a8 : Option Addr) (a7 a9 : Nat) (ab a2 a1 : Int) {R : RW} {w : World} (h : Q04.M a4 a0 a5 aa a3 a6 a8 a7 a9 ab a2 a1 R w) : Calls Try.prog 3 #[.slice a4 a0 a5, .agg #[.int .i64 aa, .int .i64 a3, .int .i64 a6], .slice a8 a7 a9, .agg #[.int .i64 ab, .int .i64 a2, .int .i64 a1]] w fun e w' => ∃ v, e = .returned v ∧ R v w' :=
  Q0i follows (H := []) (args := [.slice a4 a0 a5, .agg #[.int .i64 aa, .int .i64 a3, .int .i64 a6], .slice a8 a7 a9, .agg #[.int .i64 ab, .int .i64 a2, .int .i64 a1]]) (cast (by kernel_rfl) h)

def Q04.N (c9 : Option Addr) (an ca : Nat) (av a2 a0 : Int) (b5 : Option Addr) (aa b3 : Nat) (b2 a1 a4 : Int) (R : RW) (w : World) : Prop :=
 ((an : Int) > 50 →
 ∀ (a8 : World), Ext no w a8 →
 Calls Try.prog 6 #[] a8 fun di dd => ∃ (b6 : Bool), di = .returned (.bool b6) ∧
 R (.bool b6) dd) ∧
 ((an : Int) ≤ 50 →
 ((aa : Int) > 1500 →
 ∀ (a8 : World), Ext no w a8 →
 Calls Try.prog 6 #[] a8 fun dc dg => ∃ (b9 : Bool), dc = .returned (.bool b9) ∧
 R (.bool b9) dg) ∧
 ((aa : Int) ≤ 1500 →
 (a0 < 0 →
 ∀ (a8 : World), Ext no w a8 →
 Calls Try.prog 6 #[] a8 fun d7 d9 => ∃ (bb : Bool), d7 = .returned (.bool bb) ∧
 R (.bool bb) d9) ∧
 ((0 : Int) ≤ a0 →
 (a0 > 2 →
 ∀ (a8 : World), Ext no w a8 →
 Calls Try.prog 6 #[] a8 fun dh db => ∃ (b8 : Bool), dh = .returned (.bool b8) ∧
 R (.bool b8) db) ∧
 (a0 ≤ 2 →
 ∀ (a8 : World) (be bs : Nat), Ext no w a8 → Priv w a8 [be, bs] →
 Calls Try.prog 7 #[.slice c9 an ca, .int .i64 3] a8 fun dj c1 => ∃ (a7 : Option Addr), dj = .returned (.pointer a7) ∧
 Keep [be, bs] a8 c1 ∧
 (a7 = none →
 R (.bool false) c1) ∧
 (a7 ≠ none →
 ∃ ao : Addr, a7 = some ao ∧
 ∃ (ds : Option Addr), c1.cell? (ao.add 0) = some (.pointer ds) ∧
 ∃ (dt : Option Addr), c1.cell? (ao.add 2) = some (.pointer dt) ∧
 ∀ (cg : World), Ext no c1 cg →
 Calls Try.prog 8 #[.pointer ds, .pointer dt, .int .i64 av, .int .i64 a2, .int .i64 a0, .slice b5 aa b3] cg fun da ae => ∃ (a5 : Option Addr) (a3 a6 : Nat) (ar : Int), da = .returned (.tuple #[.slice a5 a3 a6, .int .i64 ar]) ∧
 Keep [be, bs] cg ae ∧
 (ar ≠ 0 →
 ((a3 : Int) = 0 →
 Calls Try.prog 6 #[] ae fun df dl => ∃ (bc : Bool), df = .returned (.bool bc) ∧
 R (.bool bc) dl) ∧
 ((a3 : Int) ≠ 0 →
 R (.bool false) ae)) ∧
 (ar = 0 →
 (a2 > 0 →
 ∃ (dr : Option Addr), ae.cell? (ao.add 0) = some (.pointer dr) ∧
 ∃ (dn : Option Addr), ae.cell? (ao.add 2) = some (.pointer dn) ∧
 ∀ (cd : World) (d6 : Nat), Ext no ae cd → Priv ae cd [d6] →
 Calls Try.prog 9 #[.pointer dr, .pointer dn, .agg #[.int .i64 av, .int .i64 a2, .int .u64 1, .int .i64 1, .int .i64 av, .int .i64 a0, .slice a5 a3 a6, .int .u64 0]] cd fun d8 c8 => ∃ (au : Option Addr) (b1 az : Nat) (ap : Int), d8 = .returned (.tuple #[.slice au b1 az, .int .i64 ap]) ∧
 Keep [be, bs, d6] cd c8 ∧
 ∃ (dp : Option Addr), c8.cell? (ao.add 0) = some (.pointer dp) ∧
 ∃ (dq : Option Addr), c8.cell? (ao.add 3) = some (.pointer dq) ∧
 ∀ (cf : World), Ext no c8 cf →
 Calls Try.prog 9 #[.pointer dp, .pointer dq, .agg #[.int .i64 av, .int .i64 a2, .int .u64 1, .int .i64 1, .int .i64 av, .int .i64 a0, .slice a5 a3 a6, .int .u64 0]] cf fun dk cb => ∃ (c0 : Option Addr) (c5 c3 : Nat) (al : Int), dk = .returned (.tuple #[.slice c0 c5 c3, .int .i64 al]) ∧
 Keep [be, bs, d6] cf cb ∧
 (ap ≠ 0 →
 R (.bool false) cb) ∧
 (ap = 0 →
 Calls Try.prog 10 #[.slice au b1 az, .slice b5 aa b3] cb fun de aq => ∃ (b4 : Bool), de = .returned (.bool b4) ∧
 Keep [be, bs, d6] cb aq ∧
 (b4 = false →
 R (.bool false) aq) ∧
 (b4 = true →
 (al ≠ 11 →
 R (.bool false) aq) ∧
 (al = 11 →
 (a1 > 0 →
 ∃ (dm : Option Addr), aq.cell? (ao.add 0) = some (.pointer dm) ∧
 ∃ (du : Option Addr), aq.cell? (ao.add 2) = some (.pointer du) ∧
 ∀ (ce : World), Ext no aq ce →
 Calls Try.prog 9 #[.pointer dm, .pointer du, .agg #[.int .i64 b2, .int .i64 a1, .int .u64 1, .int .i64 1, .int .i64 b2, .int .i64 a4, .slice a5 a3 a6, .int .u64 0]] ce fun cj bv => ∃ (bh : Option Addr) (bl bp : Nat) (ah : Int), cj = .returned (.tuple #[.slice bh bl bp, .int .i64 ah]) ∧
 Keep [be, bs] ce bv ∧
 ((ah == 0) = (decide (b2 = av ∧ a1 = a2 ∧ a4 = a0)) →
 Calls Try.prog 6 #[] bv fun cn ch => ∃ (aw : Bool), cn = .returned (.bool aw) ∧
 R (.bool aw) ch) ∧
 ((ah == 0) ≠ (decide (b2 = av ∧ a1 = a2 ∧ a4 = a0)) →
 R (.bool false) bv)) ∧
 (a1 ≤ 0 →
 ∃ (cq : Option Addr), aq.cell? (ao.add 0) = some (.pointer cq) ∧
 ∃ (d2 : Option Addr), aq.cell? (ao.add 2) = some (.pointer d2) ∧
 ∀ (c7 : World), Ext no aq c7 →
 Calls Try.prog 9 #[.pointer cq, .pointer d2, .agg #[.int .i64 b2, .int .i64 a1, .int .u64 0, .int .i64 1, .int .i64 b2, .int .i64 a4, .slice a5 a3 a6, .int .u64 0]] c7 fun cx c6 => ∃ (bt : Option Addr) (bf bm : Nat) (af : Int), cx = .returned (.tuple #[.slice bt bf bm, .int .i64 af]) ∧
 Keep [be, bs] c7 c6 ∧
 ((af == 0) = (decide (b2 = av ∧ a1 = a2 ∧ a4 = a0)) →
 Calls Try.prog 6 #[] c6 fun cz ci => ∃ (ay : Bool), cz = .returned (.bool ay) ∧
 R (.bool ay) ci) ∧
 ((af == 0) ≠ (decide (b2 = av ∧ a1 = a2 ∧ a4 = a0)) →
 R (.bool false) c6)))))) ∧
 (a2 ≤ 0 →
 ∃ (d3 : Option Addr), ae.cell? (ao.add 0) = some (.pointer d3) ∧
 ∃ (cw : Option Addr), ae.cell? (ao.add 2) = some (.pointer cw) ∧
 ∀ (ba : World) (cc : Nat), Ext no ae ba → Priv ae ba [cc] →
 Calls Try.prog 9 #[.pointer d3, .pointer cw, .agg #[.int .i64 av, .int .i64 a2, .int .u64 0, .int .i64 1, .int .i64 av, .int .i64 a0, .slice a5 a3 a6, .int .u64 0]] ba fun cv bd => ∃ (aj : Option Addr) (ai ak : Nat) (ab : Int), cv = .returned (.tuple #[.slice aj ai ak, .int .i64 ab]) ∧
 Keep [be, bs, cc] ba bd ∧
 ∃ (cs : Option Addr), bd.cell? (ao.add 0) = some (.pointer cs) ∧
 ∃ (cy : Option Addr), bd.cell? (ao.add 3) = some (.pointer cy) ∧
 ∀ (c4 : World), Ext no bd c4 →
 Calls Try.prog 9 #[.pointer cs, .pointer cy, .agg #[.int .i64 av, .int .i64 a2, .int .u64 0, .int .i64 1, .int .i64 av, .int .i64 a0, .slice a5 a3 a6, .int .u64 0]] c4 fun ct b7 => ∃ (bk : Option Addr) (bu bi : Nat) (ad : Int), ct = .returned (.tuple #[.slice bk bu bi, .int .i64 ad]) ∧
 Keep [be, bs, cc] c4 b7 ∧
 (ab ≠ 0 →
 R (.bool false) b7) ∧
 (ab = 0 →
 Calls Try.prog 10 #[.slice aj ai ak, .slice b5 aa b3] b7 fun cl a9 => ∃ (am : Bool), cl = .returned (.bool am) ∧
 Keep [be, bs, cc] b7 a9 ∧
 (am = false →
 R (.bool false) a9) ∧
 (am = true →
 (ad ≠ 11 →
 R (.bool false) a9) ∧
 (ad = 11 →
 (a1 > 0 →
 ∃ (d5 : Option Addr), a9.cell? (ao.add 0) = some (.pointer d5) ∧
 ∃ (cr : Option Addr), a9.cell? (ao.add 2) = some (.pointer cr) ∧
 ∀ (c2 : World), Ext no a9 c2 →
 Calls Try.prog 9 #[.pointer d5, .pointer cr, .agg #[.int .i64 b2, .int .i64 a1, .int .u64 1, .int .i64 1, .int .i64 b2, .int .i64 a4, .slice a5 a3 a6, .int .u64 0]] c2 fun cu bz => ∃ (bq : Option Addr) (br bo : Nat) (ag : Int), cu = .returned (.tuple #[.slice bq br bo, .int .i64 ag]) ∧
 Keep [be, bs] c2 bz ∧
 ((ag == 0) = (decide (b2 = av ∧ a1 = a2 ∧ a4 = a0)) →
 Calls Try.prog 6 #[] bz fun co d0 => ∃ (b0 : Bool), co = .returned (.bool b0) ∧
 R (.bool b0) d0) ∧
 ((ag == 0) ≠ (decide (b2 = av ∧ a1 = a2 ∧ a4 = a0)) →
 R (.bool false) bz)) ∧
 (a1 ≤ 0 →
 ∃ (d4 : Option Addr), a9.cell? (ao.add 0) = some (.pointer d4) ∧
 ∃ (ck : Option Addr), a9.cell? (ao.add 2) = some (.pointer ck) ∧
 ∀ (bx : World), Ext no a9 bx →
 Calls Try.prog 9 #[.pointer d4, .pointer ck, .agg #[.int .i64 b2, .int .i64 a1, .int .u64 0, .int .i64 1, .int .i64 b2, .int .i64 a4, .slice a5 a3 a6, .int .u64 0]] bx fun cm bw => ∃ (bg : Option Addr) (bn bj : Nat) (ac : Int), cm = .returned (.tuple #[.slice bg bn bj, .int .i64 ac]) ∧
 Keep [be, bs] bx bw ∧
 ((ac == 0) = (decide (b2 = av ∧ a1 = a2 ∧ a4 = a0)) →
 Calls Try.prog 6 #[] bw fun d1 cp => ∃ (ax : Bool), d1 = .returned (.bool ax) ∧
 R (.bool ax) cp) ∧
 ((ac == 0) ≠ (decide (b2 = av ∧ a1 = a2 ∧ a4 = a0)) →
 R (.bool false) bw))))))))))))

theorem Q04.up (am : Option Addr) (al an : Nat) (af a4 a3 : Int) (bp : Option Addr) (b6 b7 : Nat) (ad a5 a8 : Int) {R : RW} {w : World} (h : Q04.N am al an af a4 a3 bp b6 b7 ad a5 a8 R w) : Q04.M am al an af a4 a3 bp b6 b7 ad a5 a8 R w := by
  unfold Q04.M
  unfold Q04.N at h
  refine Q01 fun g9 e9 => ?_
  have a6 := Blk.of_new e9
  have gl := ((Ext.refl no w)).size
  have g5 := (Ext.refl no w).x_alloc e9
  refine Q01 fun ba f5 => ?_
  have a7 := Blk.of_new f5
  have gq := (g5).size
  have g0 := Nat.ne_of_lt a6.lt
  have a6 := a6.x_alloc f5
  have b8 := g5.x_alloc f5
  refine bif_of (fun fm => ?_) (fun fm => ?_)
  ·have h := h.1 (of_decide_eq_true fm)
   have h := h ba b8
   refine h.mono fun gt gj h => ?_
   obtain ⟨bz, he, h⟩ := h
   refine ⟨bz, he, ?_⟩
   exact h
  have h := h.2 (Int.not_lt.1 (of_decide_eq_false fm))
  refine bif_of (fun eq => ?_) (fun eq => ?_)
  ·have h := h.1 (of_decide_eq_true eq)
   have h := h ba b8
   refine h.mono fun gf gp h => ?_
   obtain ⟨c5, he, h⟩ := h
   refine ⟨c5, he, ?_⟩
   exact h
  have h := h.2 (Int.not_lt.1 (of_decide_eq_false eq))
  refine ⟨a3, a6.celli 2 rfl rfl, ?_⟩
  refine bif_of (fun ef => ?_) (fun ef => ?_)
  ·have h := h.1 (of_decide_eq_true ef)
   have h := h ba b8
   refine h.mono fun ga gc h => ?_
   obtain ⟨c7, he, h⟩ := h
   refine ⟨c7, he, ?_⟩
   exact h
  have h := h.2 (Int.not_lt.1 (of_decide_eq_false ef))
  refine ⟨a3, a6.celli 2 rfl rfl, ?_⟩
  refine bif_of (fun ea => ?_) (fun ea => ?_)
  ·have h := h.1 (of_decide_eq_true ea)
   have h := h ba b8
   refine h.mono fun gr ge h => ?_
   obtain ⟨c0, he, h⟩ := h
   refine ⟨c0, he, ?_⟩
   exact h
  have h := h.2 (Int.not_lt.1 (of_decide_eq_false ea))
  unfold Q04.J6
  have h := h ba (w.heap.size) (g9.heap.size) b8 (Priv.cons gl a6.lt (Priv.cons gq a7.lt Priv.nil))
  refine h.mono fun gy ey h => ?_
  obtain ⟨b3, he, hk, h⟩ := h
  refine ⟨b3, he, ?_⟩
  have a6 := hk.blk a6 (by simp)
  have a7 := hk.blk a7 (by simp)
  refine bif_of (fun f6 => ?_) (fun f6 => ?_)
  ·have h := h.1 (Q1y f6)
   exact h
  have h := h.2 (Q1w f6)
  unfold Q04.J5
  refine Q01 fun ex fe => ?_
  have cq := (Ext.refl no ey).x_drew fe
  have a6 := a6.x_drew fe
  have a7 := a7.x_drew fe
  obtain ⟨i4, ae, h⟩ := h
  refine Q06 ae ?_
  obtain ⟨gz, e5, h⟩ := h
  refine ⟨gz, (cq).cell e5 id, ?_⟩
  refine Q06 ae ?_
  obtain ⟨i0, eo, h⟩ := h
  refine ⟨i0, (cq).cell eo id, ?_⟩
  refine ⟨af, a6.celli 0 rfl rfl, ?_⟩
  refine ⟨a4, a6.celli 1 rfl rfl, ?_⟩
  refine ⟨a3, a6.celli 2 rfl rfl, ?_⟩
  have h := h ex cq
  refine h.mono fun gd ak h => ?_
  obtain ⟨a0, a2, a1, cb, he, hk, h⟩ := h
  refine ⟨a0, a2, a1, cb, he, ?_⟩
  have a6 := hk.blk a6 (by simp)
  have a7 := hk.blk a7 (by simp)
  refine bif_of (fun f4 => ?_) (fun f4 => ?_)
  ·have h := h.1 (bne_t f4)
   refine bif_fo (fun fo => ?_) (fun fo => ?_)
   ·have h := h.2 (beq_f fo)
    exact h
   have h := h.1 (beq_t fo)
   refine h.mono fun gn i2 h => ?_
   obtain ⟨cc, he, h⟩ := h
   refine ⟨cc, he, ?_⟩
   exact h
  have h := h.2 (bne_f f4)
  unfold Q04.J4
  refine ⟨af, a6.celli 0 rfl rfl, ?_⟩
  refine ⟨a4, a6.celli 1 rfl rfl, ?_⟩
  refine ⟨af, a6.celli 0 rfl rfl, ?_⟩
  refine ⟨a3, a6.celli 2 rfl rfl, ?_⟩
  refine Q01 fun gs dx => ?_
  have aa := Blk.of_new dx
  have dq := ((Ext.refl no ak)).size
  have cg := Nat.ne_of_lt a6.lt
  have a6 := a6.x_alloc dx
  have cf := Nat.ne_of_lt a7.lt
  have a7 := a7.x_alloc dx
  have ei := (Ext.refl no ak).x_alloc dx
  refine Q0p (k := 0) (j := 0) aa (Nat.le_of_ble_eq_true rfl) fun em ed g8 => ?_
  have d2 := ei.x_puts ed (.inr dq)
  have a6 := a6.x_puts ed cg
  have a7 := a7.x_puts ed cf
  have aa : Blk em ak.heap.size 42 [.int .i64 af, .int .i64 a4, .int .u64 0, .int .i64 1, .int .i64 af, .int .i64 a3, .slice a0 a2 a1, .int .u64 0] := g8
  refine ⟨a4, a6.celli 1 rfl rfl, ?_⟩
  refine bif_of (fun ek => ?_) (fun ek => ?_)
  have h := h.1 (of_decide_eq_true ek)
  refine ⟨aa.cani 2 rfl rfl, Q01 fun fh dr => ?_⟩
  have e3 := d2.x_set (q := ak.heap.size) (i := 2) rfl (.inr dq) dr
  have a6 := a6.oth (q := ak.heap.size) (i := 2) rfl cg dr
  have a7 := a7.oth (q := ak.heap.size) (i := 2) rfl cf dr
  have aa : Blk fh ak.heap.size 42 [.int .i64 af, .int .i64 a4, .int .u64 1, .int .i64 1, .int .i64 af, .int .i64 a3, .slice a0 a2 a1, .int .u64 0] := aa.seti 2 rfl dr
  unfold Q04.J3
  refine Q01 fun f3 dy => ?_
  have cj := e3.x_drew dy
  have a6 := a6.x_drew dy
  have a7 := a7.x_drew dy
  have aa := aa.x_drew dy
  refine Q06 ae ?_
  obtain ⟨gx, ep, h⟩ := h
  refine ⟨gx, (cj).cell ep id, ?_⟩
  refine Q06 ae ?_
  obtain ⟨gi, ej, h⟩ := h
  refine ⟨gi, (cj).cell ej id, ?_⟩
  refine ⟨af, a4, 1, 1, af, a3, a0, a2, a1, 0, ⟨aa.celli 0 rfl rfl, aa.celli 1 rfl rfl, aa.celli 2 rfl rfl, aa.celli 3 rfl rfl, aa.celli 4 rfl rfl, aa.celli 5 rfl rfl, aa.celli 6 rfl rfl, aa.celli 7 rfl rfl, trivial⟩, ?_⟩
  have h := h f3 (ak.heap.size) cj (Priv.cons dq aa.lt Priv.nil)
  refine h.mono fun gb er h => ?_
  obtain ⟨bd, br, bo, c9, he, hk, h⟩ := h
  refine ⟨bd, br, bo, c9, he, ?_⟩
  have a6 := hk.blk a6 (by simp)
  have a7 := hk.blk a7 (by simp)
  have aa := hk.blk aa (by simp)
  refine Q01 fun en e2 => ?_
  have co := (Ext.refl no er).x_drew e2
  have a6 := a6.x_drew e2
  have a7 := a7.x_drew e2
  have aa := aa.x_drew e2
  refine Q06 ae ?_
  obtain ⟨gm, fk, h⟩ := h
  refine ⟨gm, (co).cell fk id, ?_⟩
  refine Q06 ae ?_
  obtain ⟨gu, f9, h⟩ := h
  refine ⟨gu, (co).cell f9 id, ?_⟩
  refine ⟨af, a4, 1, 1, af, a3, a0, a2, a1, 0, ⟨aa.celli 0 rfl rfl, aa.celli 1 rfl rfl, aa.celli 2 rfl rfl, aa.celli 3 rfl rfl, aa.celli 4 rfl rfl, aa.celli 5 rfl rfl, aa.celli 6 rfl rfl, aa.celli 7 rfl rfl, trivial⟩, ?_⟩
  have h := h en co
  refine h.mono fun i1 gv h => ?_
  obtain ⟨bg, bn, bm, bt, he, hk, h⟩ := h
  refine ⟨bg, bn, bm, bt, he, ?_⟩
  have a6 := hk.blk a6 (by simp)
  have a7 := hk.blk a7 (by simp)
  have aa := hk.blk aa (by simp)
  refine bif_of (fun fl => ?_) (fun fl => ?_)
  ·have h := h.1 (bne_t fl)
   exact h
  have h := h.2 (bne_f fl)
  refine h.mono fun gk ac h => ?_
  obtain ⟨cn, he, hk, h⟩ := h
  refine ⟨cn, he, ?_⟩
  have a6 := hk.blk a6 (by simp)
  have a7 := hk.blk a7 (by simp)
  have aa := hk.blk aa (by simp)
  refine bif_of (fun e8 => ?_) (fun e8 => ?_)
  ·have h := h.1 (not_t e8)
   exact h
  have h := h.2 (not_f e8)
  refine bif_of (fun f1 => ?_) (fun f1 => ?_)
  ·have h := h.1 (bne_t f1)
   exact h
  have h := h.2 (bne_f f1)
  unfold Q04.J2
  refine ⟨af, a4, 1, 1, af, a3, a0, a2, a1, 0, ⟨aa.celli 0 rfl rfl, aa.celli 1 rfl rfl, aa.celli 2 rfl rfl, aa.celli 3 rfl rfl, aa.celli 4 rfl rfl, aa.celli 5 rfl rfl, aa.celli 6 rfl rfl, aa.celli 7 rfl rfl, trivial⟩, ?_⟩
  refine Q01 fun gg dz => ?_
  have ab := Blk.of_new dz
  have ct := ((Ext.refl no ac)).size
  have ah := Nat.ne_of_lt a6.lt
  have a6 := a6.x_alloc dz
  have ai := Nat.ne_of_lt a7.lt
  have a7 := a7.x_alloc dz
  have fc := (Ext.refl no ac).x_alloc dz
  refine Q0p (k := 0) (j := 0) ab (Nat.le_of_ble_eq_true rfl) fun et ev gw => ?_
  have el := fc.x_puts ev (.inr ct)
  have a6 := a6.x_puts ev ah
  have a7 := a7.x_puts ev ai
  have ab : Blk et ac.heap.size 42 [.int .i64 af, .int .i64 a4, .int .u64 1, .int .i64 1, .int .i64 af, .int .i64 a3, .slice a0 a2 a1, .int .u64 0] := gw
  refine ⟨ad, a7.celli 0 rfl rfl, ?_⟩
  refine ⟨ab.cani 0 rfl rfl, Q01 fun f8 dw => ?_⟩
  have ec := el.x_set (q := ac.heap.size) (i := 0) rfl (.inr ct) dw
  have a6 := a6.oth (q := ac.heap.size) (i := 0) rfl ah dw
  have a7 := a7.oth (q := ac.heap.size) (i := 0) rfl ai dw
  have ab : Blk f8 ac.heap.size 42 [.int .i64 ad, .int .i64 a4, .int .u64 1, .int .i64 1, .int .i64 af, .int .i64 a3, .slice a0 a2 a1, .int .u64 0] := ab.seti 0 rfl dw
  refine ⟨ad, a7.celli 0 rfl rfl, ?_⟩
  refine ⟨ab.cani 4 rfl rfl, Q01 fun fa e0 => ?_⟩
  have f2 := ec.x_set (q := ac.heap.size) (i := 4) rfl (.inr ct) e0
  have a6 := a6.oth (q := ac.heap.size) (i := 4) rfl ah e0
  have a7 := a7.oth (q := ac.heap.size) (i := 4) rfl ai e0
  have ab : Blk fa ac.heap.size 42 [.int .i64 ad, .int .i64 a4, .int .u64 1, .int .i64 1, .int .i64 ad, .int .i64 a3, .slice a0 a2 a1, .int .u64 0] := ab.seti 4 rfl e0
  refine ⟨a5, a7.celli 1 rfl rfl, ?_⟩
  refine ⟨ab.cani 1 rfl rfl, Q01 fun fi dt => ?_⟩
  have e4 := f2.x_set (q := ac.heap.size) (i := 1) rfl (.inr ct) dt
  have a6 := a6.oth (q := ac.heap.size) (i := 1) rfl ah dt
  have a7 := a7.oth (q := ac.heap.size) (i := 1) rfl ai dt
  have ab : Blk fi ac.heap.size 42 [.int .i64 ad, .int .i64 a5, .int .u64 1, .int .i64 1, .int .i64 ad, .int .i64 a3, .slice a0 a2 a1, .int .u64 0] := ab.seti 1 rfl dt
  refine ⟨a8, a7.celli 2 rfl rfl, ?_⟩
  refine ⟨ab.cani 5 rfl rfl, Q01 fun fd ds => ?_⟩
  have eu := e4.x_set (q := ac.heap.size) (i := 5) rfl (.inr ct) ds
  have a6 := a6.oth (q := ac.heap.size) (i := 5) rfl ah ds
  have a7 := a7.oth (q := ac.heap.size) (i := 5) rfl ai ds
  have ab : Blk fd ac.heap.size 42 [.int .i64 ad, .int .i64 a5, .int .u64 1, .int .i64 1, .int .i64 ad, .int .i64 a8, .slice a0 a2 a1, .int .u64 0] := ab.seti 5 rfl ds
  refine ⟨ab.cani 2 rfl rfl, Q01 fun eb du => ?_⟩
  have dn := eu.x_set (q := ac.heap.size) (i := 2) rfl (.inr ct) du
  have a6 := a6.oth (q := ac.heap.size) (i := 2) rfl ah du
  have a7 := a7.oth (q := ac.heap.size) (i := 2) rfl ai du
  have ab : Blk eb ac.heap.size 42 [.int .i64 ad, .int .i64 a5, .int .u64 0, .int .i64 1, .int .i64 ad, .int .i64 a8, .slice a0 a2 a1, .int .u64 0] := ab.seti 2 rfl du
  refine ⟨a5, a7.celli 1 rfl rfl, ?_⟩
  refine bif_fo (fun fg => ?_) (fun fg => ?_)
  ·have h := h.2 (Int.not_lt.1 (of_decide_eq_false fg))
   unfold Q04.J1
   refine Q01 fun dl cd => ?_
   have bs := dn.x_drew cd
   have a6 := a6.x_drew cd
   have a7 := a7.x_drew cd
   have ab := ab.x_drew cd
   refine Q06 ae ?_
   obtain ⟨ee, dd, h⟩ := h
   refine ⟨ee, (bs).cell dd id, ?_⟩
   refine Q06 ae ?_
   obtain ⟨f7, de, h⟩ := h
   refine ⟨f7, (bs).cell de id, ?_⟩
   refine ⟨ad, a5, 0, 1, ad, a8, a0, a2, a1, 0, ⟨ab.celli 0 rfl rfl, ab.celli 1 rfl rfl, ab.celli 2 rfl rfl, ab.celli 3 rfl rfl, ab.celli 4 rfl rfl, ab.celli 5 rfl rfl, ab.celli 6 rfl rfl, ab.celli 7 rfl rfl, trivial⟩, ?_⟩
   have h := h dl bs
   refine h.mono fun g3 g6 h => ?_
   obtain ⟨b4, ao, az, bf, he, hk, h⟩ := h
   refine ⟨b4, ao, az, bf, he, ?_⟩
   have a6 := hk.blk a6 (by simp)
   have a7 := hk.blk a7 (by simp)
   refine ⟨ad, a5, a8, ⟨a7.celli 0 rfl rfl, a7.celli 1 rfl rfl, a7.celli 2 rfl rfl, trivial⟩, ?_⟩
   refine ⟨af, a4, a3, ⟨a6.celli 0 rfl rfl, a6.celli 1 rfl rfl, a6.celli 2 rfl rfl, trivial⟩, ?_⟩
   refine ⟨_, Q47 ad a5 a8 af a4 a3 _, ?_⟩
   refine bif_fo (fun cs => ?_) (fun cs => ?_)
   ·have h := h.2 (bbeq_f cs)
    exact h
   have h := h.1 (bbeq_t cs)
   refine h.mono fun g4 fq h => ?_
   obtain ⟨bl, he, h⟩ := h
   refine ⟨bl, he, ?_⟩
   exact h
  have h := h.1 (of_decide_eq_true fg)
  refine ⟨ab.cani 2 rfl rfl, Q01 fun eh dv => ?_⟩
  have cz := dn.x_set (q := ac.heap.size) (i := 2) rfl (.inr ct) dv
  have a6 := a6.oth (q := ac.heap.size) (i := 2) rfl ah dv
  have a7 := a7.oth (q := ac.heap.size) (i := 2) rfl ai dv
  have ab : Blk eh ac.heap.size 42 [.int .i64 ad, .int .i64 a5, .int .u64 1, .int .i64 1, .int .i64 ad, .int .i64 a8, .slice a0 a2 a1, .int .u64 0] := ab.seti 2 rfl dv
  rotate_left
  have h := h.2 (Int.not_lt.1 (of_decide_eq_false ek))
  unfold Q04.J3
  refine Q01 fun d9 c4 => ?_
  have be := d2.x_drew c4
  have a6 := a6.x_drew c4
  have a7 := a7.x_drew c4
  have aa := aa.x_drew c4
  refine Q06 ae ?_
  obtain ⟨fb, dh, h⟩ := h
  refine ⟨fb, (be).cell dh id, ?_⟩
  refine Q06 ae ?_
  obtain ⟨ew, d7, h⟩ := h
  refine ⟨ew, (be).cell d7 id, ?_⟩
  refine ⟨af, a4, 0, 1, af, a3, a0, a2, a1, 0, ⟨aa.celli 0 rfl rfl, aa.celli 1 rfl rfl, aa.celli 2 rfl rfl, aa.celli 3 rfl rfl, aa.celli 4 rfl rfl, aa.celli 5 rfl rfl, aa.celli 6 rfl rfl, aa.celli 7 rfl rfl, trivial⟩, ?_⟩
  have h := h d9 (ak.heap.size) be (Priv.cons dq aa.lt Priv.nil)
  refine h.mono fun g2 dp h => ?_
  obtain ⟨au, ar, b2, b9, he, hk, h⟩ := h
  refine ⟨au, ar, b2, b9, he, ?_⟩
  have a6 := hk.blk a6 (by simp)
  have a7 := hk.blk a7 (by simp)
  have aa := hk.blk aa (by simp)
  refine Q01 fun dj bw => ?_
  have bh := (Ext.refl no dp).x_drew bw
  have a6 := a6.x_drew bw
  have a7 := a7.x_drew bw
  have aa := aa.x_drew bw
  refine Q06 ae ?_
  obtain ⟨es, db, h⟩ := h
  refine ⟨es, (bh).cell db id, ?_⟩
  refine Q06 ae ?_
  obtain ⟨f0, d3, h⟩ := h
  refine ⟨f0, (bh).cell d3 id, ?_⟩
  refine ⟨af, a4, 0, 1, af, a3, a0, a2, a1, 0, ⟨aa.celli 0 rfl rfl, aa.celli 1 rfl rfl, aa.celli 2 rfl rfl, aa.celli 3 rfl rfl, aa.celli 4 rfl rfl, aa.celli 5 rfl rfl, aa.celli 6 rfl rfl, aa.celli 7 rfl rfl, trivial⟩, ?_⟩
  have h := h dj bh
  refine h.mono fun g1 fz h => ?_
  obtain ⟨ax, b5, av, bc, he, hk, h⟩ := h
  refine ⟨ax, b5, av, bc, he, ?_⟩
  have a6 := hk.blk a6 (by simp)
  have a7 := hk.blk a7 (by simp)
  have aa := hk.blk aa (by simp)
  refine bif_of (fun cm => ?_) (fun cm => ?_)
  ·have h := h.1 (bne_t cm)
   exact h
  have h := h.2 (bne_f cm)
  refine h.mono fun fu a9 h => ?_
  obtain ⟨bu, he, hk, h⟩ := h
  refine ⟨bu, he, ?_⟩
  have a6 := hk.blk a6 (by simp)
  have a7 := hk.blk a7 (by simp)
  have aa := hk.blk aa (by simp)
  refine bif_of (fun cr => ?_) (fun cr => ?_)
  ·have h := h.1 (not_t cr)
   exact h
  have h := h.2 (not_f cr)
  refine bif_of (fun cp => ?_) (fun cp => ?_)
  ·have h := h.1 (bne_t cp)
   exact h
  have h := h.2 (bne_f cp)
  unfold Q04.J2
  refine ⟨af, a4, 0, 1, af, a3, a0, a2, a1, 0, ⟨aa.celli 0 rfl rfl, aa.celli 1 rfl rfl, aa.celli 2 rfl rfl, aa.celli 3 rfl rfl, aa.celli 4 rfl rfl, aa.celli 5 rfl rfl, aa.celli 6 rfl rfl, aa.celli 7 rfl rfl, trivial⟩, ?_⟩
  refine Q01 fun fx c1 => ?_
  have ab := Blk.of_new c1
  have ch := ((Ext.refl no a9)).size
  have ag := Nat.ne_of_lt a6.lt
  have a6 := a6.x_alloc c1
  have aj := Nat.ne_of_lt a7.lt
  have a7 := a7.x_alloc c1
  have d1 := (Ext.refl no a9).x_alloc c1
  refine Q0p (k := 0) (j := 0) ab (Nat.le_of_ble_eq_true rfl) fun d6 ck ff => ?_
  have cy := d1.x_puts ck (.inr ch)
  have a6 := a6.x_puts ck ag
  have a7 := a7.x_puts ck aj
  have ab : Blk d6 a9.heap.size 42 [.int .i64 af, .int .i64 a4, .int .u64 0, .int .i64 1, .int .i64 af, .int .i64 a3, .slice a0 a2 a1, .int .u64 0] := ff
  refine ⟨ad, a7.celli 0 rfl rfl, ?_⟩
  refine ⟨ab.cani 0 rfl rfl, Q01 fun dg c2 => ?_⟩
  have d8 := cy.x_set (q := a9.heap.size) (i := 0) rfl (.inr ch) c2
  have a6 := a6.oth (q := a9.heap.size) (i := 0) rfl ag c2
  have a7 := a7.oth (q := a9.heap.size) (i := 0) rfl aj c2
  have ab : Blk dg a9.heap.size 42 [.int .i64 ad, .int .i64 a4, .int .u64 0, .int .i64 1, .int .i64 af, .int .i64 a3, .slice a0 a2 a1, .int .u64 0] := ab.seti 0 rfl c2
  refine ⟨ad, a7.celli 0 rfl rfl, ?_⟩
  refine ⟨ab.cani 4 rfl rfl, Q01 fun dk c8 => ?_⟩
  have cx := d8.x_set (q := a9.heap.size) (i := 4) rfl (.inr ch) c8
  have a6 := a6.oth (q := a9.heap.size) (i := 4) rfl ag c8
  have a7 := a7.oth (q := a9.heap.size) (i := 4) rfl aj c8
  have ab : Blk dk a9.heap.size 42 [.int .i64 ad, .int .i64 a4, .int .u64 0, .int .i64 1, .int .i64 ad, .int .i64 a3, .slice a0 a2 a1, .int .u64 0] := ab.seti 4 rfl c8
  refine ⟨a5, a7.celli 1 rfl rfl, ?_⟩
  refine ⟨ab.cani 1 rfl rfl, Q01 fun d5 ca => ?_⟩
  have dc := cx.x_set (q := a9.heap.size) (i := 1) rfl (.inr ch) ca
  have a6 := a6.oth (q := a9.heap.size) (i := 1) rfl ag ca
  have a7 := a7.oth (q := a9.heap.size) (i := 1) rfl aj ca
  have ab : Blk d5 a9.heap.size 42 [.int .i64 ad, .int .i64 a5, .int .u64 0, .int .i64 1, .int .i64 ad, .int .i64 a3, .slice a0 a2 a1, .int .u64 0] := ab.seti 1 rfl ca
  refine ⟨a8, a7.celli 2 rfl rfl, ?_⟩
  refine ⟨ab.cani 5 rfl rfl, Q01 fun dm c6 => ?_⟩
  have di := dc.x_set (q := a9.heap.size) (i := 5) rfl (.inr ch) c6
  have a6 := a6.oth (q := a9.heap.size) (i := 5) rfl ag c6
  have a7 := a7.oth (q := a9.heap.size) (i := 5) rfl aj c6
  have ab : Blk dm a9.heap.size 42 [.int .i64 ad, .int .i64 a5, .int .u64 0, .int .i64 1, .int .i64 ad, .int .i64 a8, .slice a0 a2 a1, .int .u64 0] := ab.seti 5 rfl c6
  refine ⟨ab.cani 2 rfl rfl, Q01 fun df bv => ?_⟩
  have ce := di.x_set (q := a9.heap.size) (i := 2) rfl (.inr ch) bv
  have a6 := a6.oth (q := a9.heap.size) (i := 2) rfl ag bv
  have a7 := a7.oth (q := a9.heap.size) (i := 2) rfl aj bv
  have ab : Blk df a9.heap.size 42 [.int .i64 ad, .int .i64 a5, .int .u64 0, .int .i64 1, .int .i64 ad, .int .i64 a8, .slice a0 a2 a1, .int .u64 0] := ab.seti 2 rfl bv
  refine ⟨a5, a7.celli 1 rfl rfl, ?_⟩
  refine bif_fo (fun cl => ?_) (fun cl => ?_)
  ·have h := h.2 (Int.not_lt.1 (of_decide_eq_false cl))
   unfold Q04.J1
   refine Q01 fun d0 c3 => ?_
   have bq := ce.x_drew c3
   have a6 := a6.x_drew c3
   have a7 := a7.x_drew c3
   have ab := ab.x_drew c3
   refine Q06 ae ?_
   obtain ⟨fj, d4, h⟩ := h
   refine ⟨fj, (bq).cell d4 id, ?_⟩
   refine Q06 ae ?_
   obtain ⟨e7, da, h⟩ := h
   refine ⟨e7, (bq).cell da id, ?_⟩
   refine ⟨ad, a5, 0, 1, ad, a8, a0, a2, a1, 0, ⟨ab.celli 0 rfl rfl, ab.celli 1 rfl rfl, ab.celli 2 rfl rfl, ab.celli 3 rfl rfl, ab.celli 4 rfl rfl, ab.celli 5 rfl rfl, ab.celli 6 rfl rfl, ab.celli 7 rfl rfl, trivial⟩, ?_⟩
   have h := h d0 bq
   refine h.mono fun fv fs h => ?_
   obtain ⟨ap, b0, aw, bb, he, hk, h⟩ := h
   refine ⟨ap, b0, aw, bb, he, ?_⟩
   have a6 := hk.blk a6 (by simp)
   have a7 := hk.blk a7 (by simp)
   refine ⟨ad, a5, a8, ⟨a7.celli 0 rfl rfl, a7.celli 1 rfl rfl, a7.celli 2 rfl rfl, trivial⟩, ?_⟩
   refine ⟨af, a4, a3, ⟨a6.celli 0 rfl rfl, a6.celli 1 rfl rfl, a6.celli 2 rfl rfl, trivial⟩, ?_⟩
   refine ⟨_, Q47 ad a5 a8 af a4 a3 _, ?_⟩
   refine bif_fo (fun cu => ?_) (fun cu => ?_)
   ·have h := h.2 (bbeq_f cu)
    exact h
   have h := h.1 (bbeq_t cu)
   refine h.mono fun g7 fy h => ?_
   obtain ⟨bj, he, h⟩ := h
   refine ⟨bj, he, ?_⟩
   exact h
  have h := h.1 (of_decide_eq_true cl)
  refine ⟨ab.cani 2 rfl rfl, Q01 fun cw bx => ?_⟩
  have cz := ce.x_set (q := a9.heap.size) (i := 2) rfl (.inr ch) bx
  have a6 := a6.oth (q := a9.heap.size) (i := 2) rfl ag bx
  have a7 := a7.oth (q := a9.heap.size) (i := 2) rfl aj bx
  have ab : Blk cw a9.heap.size 42 [.int .i64 ad, .int .i64 a5, .int .u64 1, .int .i64 1, .int .i64 ad, .int .i64 a8, .slice a0 a2 a1, .int .u64 0] := ab.seti 2 rfl bx
  rotate_left
  all_goals
   unfold Q04.J1
   refine Q01 fun e6 e1 => ?_
   have cv := cz.x_drew e1
   have a6 := a6.x_drew e1
   have a7 := a7.x_drew e1
   have ab := ab.x_drew e1
   refine Q06 ae ?_
   obtain ⟨gh, ez, h⟩ := h
   refine ⟨gh, (cv).cell ez id, ?_⟩
   refine Q06 ae ?_
   obtain ⟨i3, eg, h⟩ := h
   refine ⟨i3, (cv).cell eg id, ?_⟩
   refine ⟨ad, a5, 1, 1, ad, a8, a0, a2, a1, 0, ⟨ab.celli 0 rfl rfl, ab.celli 1 rfl rfl, ab.celli 2 rfl rfl, ab.celli 3 rfl rfl, ab.celli 4 rfl rfl, ab.celli 5 rfl rfl, ab.celli 6 rfl rfl, ab.celli 7 rfl rfl, trivial⟩, ?_⟩
   have h := h e6 cv
   refine h.mono fun ft fr h => ?_
   obtain ⟨aq, ay, b1, bk, he, hk, h⟩ := h
   refine ⟨aq, ay, b1, bk, he, ?_⟩
   have a6 := hk.blk a6 (by simp)
   have a7 := hk.blk a7 (by simp)
   refine ⟨ad, a5, a8, ⟨a7.celli 0 rfl rfl, a7.celli 1 rfl rfl, a7.celli 2 rfl rfl, trivial⟩, ?_⟩
   refine ⟨af, a4, a3, ⟨a6.celli 0 rfl rfl, a6.celli 1 rfl rfl, a6.celli 2 rfl rfl, trivial⟩, ?_⟩
   refine ⟨_, Q47 ad a5 a8 af a4 a3 _, ?_⟩
   refine bif_fo (fun ci => ?_) (fun ci => ?_)
   ·have h := h.2 (bbeq_f ci)
    exact h
   have h := h.1 (bbeq_t ci)
   refine h.mono fun fw fp h => ?_
   obtain ⟨bi, he, h⟩ := h
   refine ⟨bi, he, ?_⟩
   exact h

theorem Q04.go (a4 : Option Addr) (a0 a5 : Nat) (aa a3 a6 : Int) (a8 : Option Addr) (a7 a9 : Nat) (ab a2 a1 : Int) {R : RW} {w : World} (h : Q04.N a4 a0 a5 aa a3 a6 a8 a7 a9 ab a2 a1 R w) : Calls Try.prog 3 #[.slice a4 a0 a5, .agg #[.int .i64 aa, .int .i64 a3, .int .i64 a6], .slice a8 a7 a9, .agg #[.int .i64 ab, .int .i64 a2, .int .i64 a1]] w fun e w' => ∃ v, e = .returned v ∧ R v w' := Q04.ok a4 a0 a5 aa a3 a6 a8 a7 a9 ab a2 a1 (Q04.up a4 a0 a5 aa a3 a6 a8 a7 a9 ab a2 a1 h)
abbrev Q0h.J1 (bc bd b6 : Option Addr) (az b5 : Nat) (bb : Option Addr) (ba b3 : Nat) (av ay : Int) (R : RW) (b1 : World) : Prop :=
 thenW (b1.drew) fun ae =>
 bd.elim False fun b8 =>
 ∃ (ao : Option Addr), ae.cell? (b8.add 0) = some (.pointer ao) ∧
 bd.elim False fun b4 =>
 ∃ (b2 : Option Addr), ae.cell? (b4.add 2) = some (.pointer b2) ∧
 Calls Try.prog 8 #[.pointer ao, .pointer b2, .int .i64 av, .int .i64 ay, .int .i64 0, .slice b6 az b5] ae fun b0 au => ∃ (a1 : Option Addr) (a2 a0 : Nat) (a3 : Int), b0 = .returned (.tuple #[.slice a1 a2 a0, .int .i64 a3]) ∧
 thenW (au.drew) fun af =>
 bc.elim False fun b9 =>
 ∃ (aq : Option Addr), af.cell? (b9.add 0) = some (.pointer aq) ∧
 bc.elim False fun b7 =>
 ∃ (an : Option Addr), af.cell? (b7.add 2) = some (.pointer an) ∧
 Calls Try.prog 8 #[.pointer aq, .pointer an, .int .i64 av, .int .i64 ay, .int .i64 0, .slice bb ba b3] af fun ak al => ∃ (a5 : Option Addr) (a8 a6 : Nat) (a9 : Int), ak = .returned (.tuple #[.slice a5 a8 a6, .int .i64 a9]) ∧
 Calls Try.prog 10 #[.slice a1 a2 a0, .slice a5 a8 a6] al fun ai ac => ∃ (ad : Bool), ai = .returned (.bool ad) ∧
 bif ad then (
 bif a3 == a9 then (
 bif a3 != 0 then (
 Calls Try.prog 6 #[] ac fun ap ah => ∃ (aa : Bool), ap = .returned (.bool aa) ∧
 R (.bool aa) ah) else (
 Calls Try.prog 12 #[.agg #[.int .i64 0, .int .i64 0, .int .u64 0, .int .i64 0, .int .i64 0, .int .i64 0, .slice a1 a2 a0, .int .u64 0]] ac fun am aw => ∃ (a4 : Int), am = .returned (.int .i64 a4) ∧
 Calls Try.prog 13 #[.int .i64 (az : Int)] aw fun aj ag => ∃ (a7 : Int), aj = .returned (.int .i64 a7) ∧
 bif a4 == a7 then (
 Calls Try.prog 6 #[] ag fun ax ar => ∃ (ab : Bool), ax = .returned (.bool ab) ∧
 R (.bool ab) ar) else (
 R (.bool false) ag))) else (
 R (.bool false) ac)) else (
 R (.bool false) ac)

abbrev Q0h.J2 (a7 : Option Addr) (a8 a9 : Nat) (ad : Option Addr) (af ab : Nat) (ah : Option Addr) (ac aa : Nat) (ag ae : Int) (R : RW) (a3 : World) : Prop :=
 Calls Try.prog 7 #[.slice a7 a8 a9, .int .i64 1] a3 fun a6 a5 => ∃ (a1 : Option Addr), a6 = .returned (.pointer a1) ∧
 Calls Try.prog 7 #[.slice a7 a8 a9, .int .i64 1] a5 fun a4 a2 => ∃ (a0 : Option Addr), a4 = .returned (.pointer a0) ∧
 bif Option.isNone a1 then (
 R (.bool false) a2) else (
 bif Option.isNone a0 then (
 R (.bool false) a2) else (
 Q0h.J1 a0 a1 ad af ab ah ac aa ag ae R a2))

def Q0h.M (a6 : Option Addr) (a3 a7 : Nat) (ak : Option Addr) (ab aj : Nat) (am : Option Addr) (aa al : Nat) (ao a8 : Int) (R : RW) (w : World) : Prop :=
 bif decide ((a3 : Int) > 50) then (
 Calls Try.prog 6 #[] w fun ap an => ∃ (a4 : Bool), ap = .returned (.bool a4) ∧
 R (.bool a4) an) else (
 bif decide ((ab : Int) > 1500) then (
 Calls Try.prog 6 #[] w fun ac ad => ∃ (a5 : Bool), ac = .returned (.bool a5) ∧
 R (.bool a5) ad) else (
 bif decide ((aa : Int) > 1500) then (
 Calls Try.prog 6 #[] w fun af ah => ∃ (a2 : Bool), af = .returned (.bool a2) ∧
 R (.bool a2) ah) else (
 Calls Try.prog 11 #[.slice ak ab aj, .slice am aa al] w fun ae a9 => ∃ (a0 : Bool), ae = .returned (.bool a0) ∧
 bif !a0 then (
 Calls Try.prog 6 #[] a9 fun ag ai => ∃ (a1 : Bool), ag = .returned (.bool a1) ∧
 R (.bool a1) ai) else (
 Q0h.J2 a6 a3 a7 ak ab aj am aa al ao a8 R a9))))

theorem Q0h.ok (a2 : Option Addr) (a0 a3 : Nat) (aa : Option Addr) (a4 a7 : Nat) (a8 : Option Addr) (a6 a5 : Nat) (a9 a1 : Int) {R : RW} {w : World} (h : Q0h.M a2 a0 a3 aa a4 a7 a8 a6 a5 a9 a1 R w) : Calls Try.prog 4 #[.slice a2 a0 a3, .slice aa a4 a7, .slice a8 a6 a5, .int .i64 a9, .int .i64 a1] w fun e w' => ∃ v, e = .returned v ∧ R v w' :=
  Q0i follows (H := []) (args := [.slice a2 a0 a3, .slice aa a4 a7, .slice a8 a6 a5, .int .i64 a9, .int .i64 a1]) (cast (by kernel_rfl) h)

def Q0h.N (ag : Option Addr) (a3 ah : Nat) (bo : Option Addr) (aw bm : Nat) (br : Option Addr) (ay bq : Nat) (bs ak : Int) (R : RW) (w : World) : Prop :=
 ((a3 : Int) > 50 →
 Calls Try.prog 6 #[] w fun bw bv => ∃ (an : Bool), bw = .returned (.bool an) ∧
 R (.bool an) bv) ∧
 ((a3 : Int) ≤ 50 →
 ((aw : Int) > 1500 →
 Calls Try.prog 6 #[] w fun az b7 => ∃ (al : Bool), az = .returned (.bool al) ∧
 R (.bool al) b7) ∧
 ((aw : Int) ≤ 1500 →
 ((ay : Int) > 1500 →
 Calls Try.prog 6 #[] w fun bb be => ∃ (af : Bool), bb = .returned (.bool af) ∧
 R (.bool af) be) ∧
 ((ay : Int) ≤ 1500 →
 Calls Try.prog 11 #[.slice bo aw bm, .slice br ay bq] w fun bf ax => ∃ (aa : Bool), bf = .returned (.bool aa) ∧
 (aa = false →
 Calls Try.prog 6 #[] ax fun b0 b2 => ∃ (am : Bool), b0 = .returned (.bool am) ∧
 R (.bool am) b2) ∧
 (aa = true →
 Calls Try.prog 7 #[.slice ag a3 ah, .int .i64 1] ax fun b3 b6 => ∃ (a1 : Option Addr), b3 = .returned (.pointer a1) ∧
 Calls Try.prog 7 #[.slice ag a3 ah, .int .i64 1] b6 fun b8 ao => ∃ (a0 : Option Addr), b8 = .returned (.pointer a0) ∧
 (a1 = none →
 R (.bool false) ao) ∧
 (a1 ≠ none →
 (a0 = none →
 R (.bool false) ao) ∧
 (a0 ≠ none →
 ∃ bk : Addr, a1 = some bk ∧
 ∃ (bn : Option Addr), ao.cell? (bk.add 0) = some (.pointer bn) ∧
 ∃ (bp : Option Addr), ao.cell? (bk.add 2) = some (.pointer bp) ∧
 ∀ (au : World), Ext no ao au →
 Calls Try.prog 8 #[.pointer bn, .pointer bp, .int .i64 bs, .int .i64 ak, .int .i64 0, .slice bo aw bm] au fun b9 aq => ∃ (a6 : Option Addr) (a8 a7 : Nat) (a2 : Int), b9 = .returned (.tuple #[.slice a6 a8 a7, .int .i64 a2]) ∧
 ∃ bc : Addr, a0 = some bc ∧
 ∃ (bu : Option Addr), aq.cell? (bc.add 0) = some (.pointer bu) ∧
 ∃ (bt : Option Addr), aq.cell? (bc.add 2) = some (.pointer bt) ∧
 ∀ (av : World), Ext no aq av →
 Calls Try.prog 8 #[.pointer bu, .pointer bt, .int .i64 bs, .int .i64 ak, .int .i64 0, .slice br ay bq] av fun ba bi => ∃ (ab : Option Addr) (ac ad : Nat) (a9 : Int), ba = .returned (.tuple #[.slice ab ac ad, .int .i64 a9]) ∧
 Calls Try.prog 10 #[.slice a6 a8 a7, .slice ab ac ad] bi fun bl ap => ∃ (ae : Bool), bl = .returned (.bool ae) ∧
 (ae = true →
 (a2 = a9 →
 (a2 ≠ 0 →
 Calls Try.prog 6 #[] ap fun bj b5 => ∃ (ai : Bool), bj = .returned (.bool ai) ∧
 R (.bool ai) b5) ∧
 (a2 = 0 →
 Calls Try.prog 12 #[.agg #[.int .i64 0, .int .i64 0, .int .u64 0, .int .i64 0, .int .i64 0, .int .i64 0, .slice a6 a8 a7, .int .u64 0]] ap fun b1 bg => ∃ (a5 : Int), b1 = .returned (.int .i64 a5) ∧
 Calls Try.prog 13 #[.int .i64 (aw : Int)] bg fun bh ar => ∃ (a4 : Int), bh = .returned (.int .i64 a4) ∧
 (a5 = a4 →
 Calls Try.prog 6 #[] ar fun b4 bd => ∃ (aj : Bool), b4 = .returned (.bool aj) ∧
 R (.bool aj) bd) ∧
 (a5 ≠ a4 →
 R (.bool false) ar))) ∧
 (a2 ≠ a9 →
 R (.bool false) ap)) ∧
 (ae = false →
 R (.bool false) ap)))))))

theorem Q0h.up (a1 : Option Addr) (a0 a2 : Nat) (bc : Option Addr) (bb bh : Nat) (bf : Option Addr) (bg be : Nat) (bd a3 : Int) {R : RW} {w : World} (h : Q0h.N a1 a0 a2 bc bb bh bf bg be bd a3 R w) : Q0h.M a1 a0 a2 bc bb bh bf bg be bd a3 R w := by
  unfold Q0h.M
  unfold Q0h.N at h
  refine bif_of (fun c6 => ?_) (fun c6 => ?_)
  ·have h := h.1 (of_decide_eq_true c6)
   refine h.mono fun cf ce h => ?_
   obtain ⟨ao, he, h⟩ := h
   refine ⟨ao, he, ?_⟩
   exact h
  have h := h.2 (Int.not_lt.1 (of_decide_eq_false c6))
  refine bif_of (fun b6 => ?_) (fun b6 => ?_)
  ·have h := h.1 (of_decide_eq_true b6)
   refine h.mono fun bq c3 h => ?_
   obtain ⟨ak, he, h⟩ := h
   refine ⟨ak, he, ?_⟩
   exact h
  have h := h.2 (Int.not_lt.1 (of_decide_eq_false b6))
  refine bif_of (fun b8 => ?_) (fun b8 => ?_)
  ·have h := h.1 (of_decide_eq_true b8)
   refine h.mono fun bs c4 h => ?_
   obtain ⟨ag, he, h⟩ := h
   refine ⟨ag, he, ?_⟩
   exact h
  have h := h.2 (Int.not_lt.1 (of_decide_eq_false b8))
  refine h.mono fun bu bn h => ?_
  obtain ⟨af, he, h⟩ := h
  refine ⟨af, he, ?_⟩
  refine bif_of (fun b7 => ?_) (fun b7 => ?_)
  ·have h := h.1 (not_t b7)
   refine h.mono fun c0 bj h => ?_
   obtain ⟨al, he, h⟩ := h
   refine ⟨al, he, ?_⟩
   exact h
  have h := h.2 (not_f b7)
  unfold Q0h.J2
  refine h.mono fun c7 c2 h => ?_
  obtain ⟨a5, he, h⟩ := h
  refine ⟨a5, he, ?_⟩
  refine h.mono fun ca aw h => ?_
  obtain ⟨a4, he, h⟩ := h
  refine ⟨a4, he, ?_⟩
  refine bif_of (fun b9 => ?_) (fun b9 => ?_)
  ·have h := h.1 (Q1y b9)
   exact h
  have h := h.2 (Q1w b9)
  refine bif_of (fun ax => ?_) (fun ax => ?_)
  ·have h := h.1 (Q1y ax)
   exact h
  have h := h.2 (Q1w ax)
  unfold Q0h.J1
  refine Q01 fun b4 c8 => ?_
  have ap := (Ext.refl no aw).x_drew c8
  obtain ⟨cg, aq, h⟩ := h
  refine Q06 aq ?_
  obtain ⟨br, b2, h⟩ := h
  refine ⟨br, (ap).cell b2 id, ?_⟩
  refine Q06 aq ?_
  obtain ⟨bk, b3, h⟩ := h
  refine ⟨bk, (ap).cell b3 id, ?_⟩
  have h := h b4 ap
  refine h.mono fun cb av h => ?_
  obtain ⟨a9, a8, aa, ai, he, h⟩ := h
  refine ⟨a9, a8, aa, ai, he, ?_⟩
  refine Q01 fun b5 c5 => ?_
  have an := (Ext.refl no av).x_drew c5
  obtain ⟨ch, ar, h⟩ := h
  refine Q06 ar ?_
  obtain ⟨bo, b1, h⟩ := h
  refine ⟨bo, (an).cell b1 id, ?_⟩
  refine Q06 ar ?_
  obtain ⟨bl, ba, h⟩ := h
  refine ⟨bl, (an).cell ba id, ?_⟩
  have h := h b5 an
  refine h.mono fun bt cc h => ?_
  obtain ⟨a7, ad, ab, ah, he, h⟩ := h
  refine ⟨a7, ad, ab, ah, he, ?_⟩
  refine h.mono fun bz cd h => ?_
  obtain ⟨am, he, h⟩ := h
  refine ⟨am, he, ?_⟩
  refine bif_fo (fun ay => ?_) (fun ay => ?_)
  ·have h := h.2 ay
   exact h
  have h := h.1 ay
  refine bif_fo (fun au => ?_) (fun au => ?_)
  ·have h := h.2 (beq_f au)
   exact h
  have h := h.1 (beq_t au)
  refine bif_of (fun az => ?_) (fun az => ?_)
  ·have h := h.1 (bne_t az)
   refine h.mono fun bx c9 h => ?_
   obtain ⟨ae, he, h⟩ := h
   refine ⟨ae, he, ?_⟩
   exact h
  have h := h.2 (bne_f az)
  refine h.mono fun bi bv h => ?_
  obtain ⟨ac, he, h⟩ := h
  refine ⟨ac, he, ?_⟩
  refine h.mono fun bw bp h => ?_
  obtain ⟨a6, he, h⟩ := h
  refine ⟨a6, he, ?_⟩
  refine bif_fo (fun b0 => ?_) (fun b0 => ?_)
  ·have h := h.2 (beq_f b0)
   exact h
  have h := h.1 (beq_t b0)
  refine h.mono fun c1 bm h => ?_
  obtain ⟨aj, he, h⟩ := h
  refine ⟨aj, he, ?_⟩
  exact h

theorem Q0h.go (a2 : Option Addr) (a0 a3 : Nat) (aa : Option Addr) (a4 a7 : Nat) (a8 : Option Addr) (a6 a5 : Nat) (a9 a1 : Int) {R : RW} {w : World} (h : Q0h.N a2 a0 a3 aa a4 a7 a8 a6 a5 a9 a1 R w) : Calls Try.prog 4 #[.slice a2 a0 a3, .slice aa a4 a7, .slice a8 a6 a5, .int .i64 a9, .int .i64 a1] w fun e w' => ∃ v, e = .returned v ∧ R v w' := Q0h.ok a2 a0 a3 aa a4 a7 a8 a6 a5 a9 a1 (Q0h.up a2 a0 a3 aa a4 a7 a8 a6 a5 a9 a1 h)
set_option maxRecDepth 20000
open W (OwnB sameB_spec)
def PlQ (W : World) (cs : List Value) : Prop := ∃ w i e : Int, cs = [.int .i64 w, .int .i64 i, .int .i64 e]
theorem endE {W w : World} {o : Own} (s : Step no W (fun _ => none) w o) : Ext no W w := s.ext.mono fun b ⟨_, h, _⟩ _ => by cases h
theorem live14 {W w2 : World} {o2 : Own} (s : Step no W (fun _ => none) w2 o2) : Calls Try.prog 6 #[] w2 fun ee ww => ∃ (al : Bool), ee = .returned (.bool al) ∧ (Value.bool al = .bool true ∧ Ext no W ww) :=
  (Q4j s.ok).mono fun x ww ⟨o2, he, s2⟩ => ⟨true, he, rfl, endE (s.trans s2)⟩
theorem SealingBack_walk (W : World) (a0 : Option Addr) (len0 cap0 : Nat) (cs1 : Array Value) (a2 : Option Addr) (len2 cap2 : Nat) (cs3 : Array Value) (o0 : IntsQ .u64 W [.slice a0 len0 cap0]) (o1 : PlQ W cs1.toList) (o2 : BytesQ W [.slice a2 len2 cap2]) (o3 : PlQ W cs3.toList) :
    Calls Try.prog 3 #[.slice a0 len0 cap0, .agg cs1, .slice a2 len2 cap2, .agg cs3] W (Gives (.bool true) fun w' => Ext no W w') := by
  obtain ⟨_, _, d, e, hdc, _, hd, hdw⟩ := o0
  cases e
  obtain ⟨_, _, p, e, hpc, _, hp⟩ := o2
  cases e
  obtain ⟨cs1⟩ := cs1
  obtain ⟨cs3⟩ := cs3
  obtain ⟨pw, pi, pe, e1⟩ := o1
  obtain ⟨qw, qi, qe, e3⟩ := o3
  have e1 : cs1 = _ := e1
  have e3 : cs3 = _ := e3
  subst e1 e3
  have tg0 : Tags W fun _ => none := fun b j _ h => by cases h
  have hd0 : Row W (fun _ => none) a0 (d.map u64V) := ⟨hd, fun _ _ _ => rfl⟩
  have hp0 : Row W (fun _ => none) a2 (bytesV p) := ⟨hp, fun _ _ _ => rfl⟩
  refine (Q04.go a0 d.length cap0 pw pi pe a2 p.length cap2 qw qi qe (R := fun v w' => v = .bool true ∧ Ext no W w') ?_).mono fun x w' ⟨v, he, hv, X⟩ => ⟨by rw [he, hv], X⟩
  unfold Q04.N
  refine ⟨fun _ w10 X => live14 (Step.of_no X tg0), fun hd50 => ⟨fun _ w10 X => live14 (Step.of_no X tg0), fun hp15 => ⟨fun _ w10 X => live14 (Step.of_no X tg0), fun he0 => ⟨fun _ w10 X => live14 (Step.of_no X tg0), fun he2 w10 p1 p2 X10 hp10 => ?_⟩⟩⟩⟩
  obtain ⟨s10, M10⟩ := Step.priv X10 hp10 tg0
  refine (Q1K (d := d) (many := 3) s10.ok (hd0.step s10) hdc (fun x hx => wf_u64 (hdw x hx)) (by omega) (by decide)).mono fun x w39 ⟨q, o39, he, B, X, S, R, K, O, hq, s39, A39, I, hov⟩ => ⟨_, he, M10.keep s39 (fun _ _ => id), fun h => (by cases h), fun _ => ⟨_, rfl, ?_⟩⟩
  subst hq
  have hus := I.used (by decide)
  have M39 := M10.step s39
  have t39 := s10.trans s39
  have hov0 : ∀ {j}, j = B.k → W.heap.size ≤ j := fun h => by have := hov.k; have := s10.size; omega
  refine ⟨_, A39.bk.celli 0 rfl rfl, _, A39.bk.celli 2 rfl rfl, fun w41 X41 => ?_⟩
  have s41 := Step.of_no X41 s39.ok
  have A41 := A39.no s41
  have M41 := M39.step s41
  have hkM : ∀ y ∈ [p1, p2], ¬ y = B.k := fun y hy e => by
    have h1 := (hp10 y hy).2
    have h2 := hov.k
    omega
  refine (Q2e A41.a A41.orc s41.ok I.pi.ki.inv.ok (by omega) pw pi pe ((hp0.step t39).step s41) (by omega)).mono fun x w50 ⟨o50, ba, bc, he, s50, r50, hbc, P50⟩ => ⟨_, _, _, _, he, M41.keep s50 hkM, fun hbad => ?_, fun hgood => ?_⟩
  · have t50 := ((t39.trans s41).trans' s50 fun a ha => .inr (hov0 ha))
    refine ⟨fun _ => live14 t50, fun h => absurd ?_ h⟩
    rw [Q60 hbad]; rfl
  obtain ⟨g1, g2, g3, g4, g5⟩ := Q4e I.pi.ki (by omega) hgood
  have hsh := Q3c (R := R 0) (w := pw) (i := pi) (e := pe) (p := p) I.pi.ki (by omega)
  have hle : (sealP S (R 0) pw pi pe p).1.1.length ≤ 1032 := by
    have := Q1n (classOf p.length); omega
  have A50 := A41.toOrc s50 P50
  have M50 := M41.step s50
  have t50 : Step no W (fun _ => none) w50 o50 := ((t39.trans s41).trans' s50 fun a ha => .inr (hov0 ha))
  have hp50 := ((hp0.step t39).step s41).step s50
  generalize (sealP S (R 0) pw pi pe p).1.1 = b at *
  generalize (sealP S (R 0) pw pi pe p).2 = S2 at *
  have hpl : 0 ≤ pw ∧ pw < 8 ∧ 0 ≤ pi ∧ pi < 200 ∧ 0 ≤ pe ∧ pe < 20 := of_decide_eq_true g1
  have hx : keyK (R 1) pe = (0, 11) := Q5r I.x he0 (by omega)
  -- what is opened where it was sealed
  have oa : ∀ (pv : Int) {w1 : World} {o1 : Own} {Q : World → Own → Prop}, (pv = 0 ↔ pi = 0) → RmG w1 o1 B S2 S (4 + 10 * 3) (R 0) (R 1) (R 0) → Tags w1 o1 → Row w1 o1 ba (bytesV b) →
      Calls Try.prog 9 #[.pointer (some (blk B.k)), .pointer (some (blk B.a)), .agg #[.int .i64 pw, .int .i64 pi, .int .u64 pv, .int .i64 1, .int .i64 pw, .int .i64 pe, .slice ba b.length bc, .int .u64 0]] w1 (Gb no w1 o1 (p, 0) fun _ _ => True) := fun pv w1 o1 Q hpv A ok r => by
    have op1 := Q1R (e := ⟨pw, pi, pv, 1, pw, pe, b, 0⟩) (ec := bc) A.a A.orc ok hsh r (by show b.length < 1000000; omega) hbc
    rw [Q2T g4 g5 g1 hpv g2, if_neg (fun h => h rfl), if_neg (fun h => h rfl)] at op1
    exact op1
  have ox : ∀ (pv : Int) {w1 : World} {o1 : Own}, (pv = 0 ↔ pi = 0) → RmG w1 o1 B S2 S (4 + 10 * 3) (R 0) (R 1) (R 0) → Tags w1 o1 → Row w1 o1 ba (bytesV b) →
      Calls Try.prog 9 #[.pointer (some (blk B.k)), .pointer (some (blk B.x)), .agg #[.int .i64 pw, .int .i64 pi, .int .u64 pv, .int .i64 1, .int .i64 pw, .int .i64 pe, .slice ba b.length bc, .int .u64 0]] w1 (Gb no w1 o1 ([], 11) fun _ _ => True) := fun pv w1 o1 hpv A ok r => by
    have op1 := Q1R (e := ⟨pw, pi, pv, 1, pw, pe, b, 0⟩) (ec := bc) A.x A.orc ok hsh r (by show b.length < 1000000; omega) hbc
    have e1 : openP S2 (R 1) ⟨pw, pi, pv, 1, pw, pe, b, 0⟩ = ([], 11) := by
      have hsz := Q1n (classOf p.length)
      have hr : Q1W ⟨pw, pi, pv, 1, pw, pe, b, 0⟩ = true := decide_eq_true (by
        show _ ∧ _ ∧ _ ∧ _ ∧ _ ∧ _ ∧ _ ∧ _ ∧ _ ∧ _ ∧ (pv = 0 ↔ pi = 0)
        exact ⟨hpl.1, hpl.2.1, hpl.2.2.1, hpl.2.2.2.1, by show (-1 : Int) ≤ pe; omega, hpl.2.2.2.2.2, by show (0 : Int) < 1; decide, by show (1 : Int) ≤ 1099511627776; decide, rfl, by show b.length ≤ 1100; omega, hpv⟩)
      unfold openP
      rw [if_pos hr]
      show (if pe < 0 then _ else if (keyK (R 1) pe).2 ≠ 0 then _ else _) = _
      rw [hx, if_neg (by omega), if_pos (by show (11 : Int) ≠ 0; decide)]
    rw [e1] at op1
    exact op1
  have oq : ∀ (pv : Int) {w1 : World} {o1 : Own}, pv = (if qi > 0 then 1 else 0) → RmG w1 o1 B S2 S (4 + 10 * 3) (R 0) (R 1) (R 0) → Tags w1 o1 → Row w1 o1 ba (bytesV b) →
      Calls Try.prog 9 #[.pointer (some (blk B.k)), .pointer (some (blk B.a)), .agg #[.int .i64 qw, .int .i64 qi, .int .u64 pv, .int .i64 1, .int .i64 qw, .int .i64 qe, .slice ba b.length bc, .int .u64 0]] w1 (fun x w' => ∃ o' a c n k, x = .returned (.tuple #[.slice a n c, .int .i64 k]) ∧ Step no w1 o1 w' o' ∧ (k == 0) = decide (qw = pw ∧ qi = pi ∧ qe = pe)) := fun pv w1 o1 hpv A ok r => by
    refine (Q1R (e := ⟨qw, qi, pv, 1, qw, qe, b, 0⟩) (ec := bc) A.a A.orc ok hsh r (by show b.length < 1000000; omega) hbc).mono fun x w' ⟨o', a, c, he, s, _⟩ => ⟨o', a, c, _, _, he, s, ?_⟩
    subst hpv
    rw [Bool.eq_iff_iff, beq_iff_eq, decide_eq_true_eq]
    exact Q6l g4 g5 g1 g2
  refine ⟨fun hi => ?_, fun hi => ?_⟩
  all_goals
    refine ⟨_, A50.bk.celli 0 rfl rfl, _, A50.bk.celli 2 rfl rfl, fun w60 p3 X60 hp60 => ?_⟩
    obtain ⟨s60, M60'⟩ := Step.priv X60 hp60 s50.ok
    have A60 := A50.no s60
    have M60 : Mine [p1, p2, p3] w60 _ := fun y hy => by
      rcases List.mem_cons.1 hy with rfl | hy
      · exact (M50.step s60) _ (by simp)
      · rcases List.mem_cons.1 hy with rfl | hy
        · exact (M50.step s60) _ (by simp)
        · exact M60' _ hy
    refine (oa _ (Q := fun _ _ => True) (by omega) A60 s60.ok (r50.step s60)).mono fun x w69 ⟨o69, ta, tc, he, s69, r69, htc, _⟩ => ⟨_, _, _, _, he, M60.keep s69 (fun _ _ => id), ?_⟩
    have A69 := A60.no s69
    refine ⟨_, A69.bk.celli 0 rfl rfl, _, A69.bk.celli 3 rfl rfl, fun w70 X70 => ?_⟩
    have s70 := Step.of_no X70 s69.ok
    have M70 := (M60.step s69).step s70
    refine (ox _ (by omega) (A69.no s70) s70.ok (((r50.step s60).step s69).step s70)).mono fun x w78 ⟨o78, xa, xc, he, s78, _⟩ => ⟨_, _, _, _, he, M70.keep s78 (fun _ _ => id), fun h => absurd rfl h, fun _ => ?_⟩
    have hp78 := (((hp50.step s60).step s69).step s70).step s78
    refine (sameB_spec ((r69.step s70).step s78).1 hp78.1 (by show p.length < 1000000; omega)).mono fun x w82 ⟨he, X82⟩ => ⟨_, he, X82.kept, fun h => (by simp at h), fun _ => ⟨fun h => absurd rfl h, fun _ => ?_⟩⟩
    have s82 := Step.of_no X82 s78.ok
    have A82 := ((A69.no s70).no s78).no s82
    have M82 := ((M70.step s78).step s82).sub (M := [p1, p2]) (by simp)
    have r82 := ((((r50.step s60).step s69).step s70).step s78).step s82
    have t82 := ((((t50.trans s60).trans s69).trans s70).trans s78).trans s82
    refine ⟨fun hq => ?_, fun hq => ?_⟩
    all_goals
      refine ⟨_, A82.bk.celli 0 rfl rfl, _, A82.bk.celli 2 rfl rfl, fun w94 X94 => ?_⟩
      have s94 := Step.of_no X94 s82.ok
      refine (oq _ (by first | rw [if_pos hq] | rw [if_neg (by omega)]) (A82.no s94) s94.ok (r82.step s94)).mono fun x w103 ⟨o103, a, c, n, k, he, s103, hk⟩ => ⟨_, _, _, _, he, (M82.step s94).keep s103 (fun _ _ => id), fun _ => live14 ((t82.trans s94).trans s103), fun h => absurd hk h⟩
theorem Q5N {n m : Nat} (h : classOf n = classOf m) (S : OS) (R : Rng) (w i e : Int) (a b : List UInt8) (ha : a.length = n) (hb : b.length = m) : (sealP S R w i e a).1 = (sealP S R w i e b).1 := by
  unfold sealP
  split
  · split
    · rfl
    · unfold sealOf
      rw [ha, hb, h]
      split
      · split <;> rfl
      · rfl
  · rfl
theorem SealingBlind_walk (W : World) (a0 : Option Addr) (len0 cap0 : Nat) (a1 : Option Addr) (len1 cap1 : Nat) (a2 : Option Addr) (len2 cap2 : Nat) (n3 n4 : Int) (o0 : IntsQ .u64 W [.slice a0 len0 cap0]) (o1 : BytesQ W [.slice a1 len1 cap1]) (o2 : BytesQ W [.slice a2 len2 cap2]) (w3 : (Lit.int .i64 n3).wf = true) (w4 : (Lit.int .i64 n4).wf = true) :
    Calls Try.prog 4 #[.slice a0 len0 cap0, .slice a1 len1 cap1, .slice a2 len2 cap2, .int .i64 n3, .int .i64 n4] W (Gives (.bool true) fun w' => Ext no W w') := by
  obtain ⟨_, _, d, e, hdc, _, hd, hdw⟩ := o0
  cases e
  obtain ⟨_, _, p, e, hpc, _, hp⟩ := o1
  cases e
  obtain ⟨_, _, p', e, hpc', _, hp'⟩ := o2
  cases e
  have tg0 : Tags W fun _ => none := fun b j _ h => by cases h
  have hd0 : Row W (fun _ => none) a0 (d.map u64V) := ⟨hd, fun _ _ _ => rfl⟩
  have hp0 : Row W (fun _ => none) a1 (bytesV p) := ⟨hp, fun _ _ _ => rfl⟩
  have hp0' : Row W (fun _ => none) a2 (bytesV p') := ⟨hp', fun _ _ _ => rfl⟩
  refine (Q0h.go a0 d.length cap0 a1 p.length cap1 a2 p'.length cap2 n3 n4 (R := fun v w' => v = .bool true ∧ Ext no W w') ?_).mono fun x w' ⟨v, he, hv, X⟩ => ⟨by rw [he, hv], X⟩
  unfold Q0h.N
  have s0 : Step no W (fun _ => none) W (fun _ => none) := Step.refl _ tg0
  refine ⟨fun _ => live14 s0, fun hd50 => ⟨fun _ => live14 s0, fun hp15 => ⟨fun _ => live14 s0, fun hp15' => ?_⟩⟩⟩
  refine Q5u.mono fun x w20 ⟨he, hw⟩ => ⟨_, he, fun _ => (by rw [hw]; exact live14 s0), fun hal => ?_⟩
  subst hw
  have hal : classOf p.length = classOf p'.length := by simpa using hal
  refine (Q1K (d := d) (many := 1) s0.ok hd0 hdc (fun x hx => wf_u64 (hdw x hx)) (by omega) (by decide)).mono fun x w27 ⟨q, o27, he, B, X, S, R, K, O, hq, s27, A27, I, hov⟩ => ⟨_, he, ?_⟩
  subst hq
  refine (Q1K (d := d) (many := 1) s27.ok (hd0.step s27) hdc (fun x hx => wf_u64 (hdw x hx)) (by omega) (by decide)).mono fun x w30 ⟨q2, o30, he, B2, X2, S2, R2, K2, O2, hq2, s30, A30, I2, hov2⟩ => ⟨_, he, fun h => (by cases h), fun _ => ⟨fun h => (by cases h), fun _ => ⟨_, rfl, ?_⟩⟩⟩
  subst hq2
  have hus := I.used (by decide)
  have hus2 := I2.used (by decide)
  have hdet := I.det.symm.trans I2.det
  have hSS : S = S2 := congrArg Prod.fst hdet
  have hKK : K = K2 := congrArg (fun x => x.2.2.2) hdet
  have z27 := s27.size
  have B1 := A27.no s30
  refine ⟨_, B1.bk.celli 0 rfl rfl, _, B1.bk.celli 2 rfl rfl, fun w33 X33 => ?_⟩
  have s33 := Step.of_no X33 s30.ok
  have C1 := B1.no s33
  have t33 := (s27.trans s30).trans s33
  have hS1 := Q2e C1.a C1.orc s33.ok I.pi.ki.inv.ok (by omega) n3 n4 0 (pc := cap1) (hp0.step t33) (by omega)
  refine hS1.mono fun x w42 ⟨o42, ba, bc, he, s42, r42, hbc, P42⟩ => ⟨_, _, _, _, he, ?_⟩
  have u27 := A27.under
  have D2 : RmG w42 o42 B2 S2 S2 (4 + 10 * 1) (R2 0) (R2 1) (R2 0) := (A30.no s33).step s42 (by have := hov2.q; have := u27.k; omega) (by have := hov2.k; have := u27.k; omega) (by have := hov2.j; have := u27.k; omega) (by have := hov2.a; have := u27.k; omega) (by have := hov2.x; have := u27.k; omega) (by have := hov2.b; have := u27.k; omega)
  refine ⟨_, rfl, _, D2.bk.celli 0 rfl rfl, _, D2.bk.celli 2 rfl rfl, fun w43 X43 => ?_⟩
  have s43 := Step.of_no X43 s42.ok
  have E2 := D2.no s43
  have t43 : Step no w20 (fun _ => none) w43 _ := (t33.trans' s42 fun a ha => .inr (by rw [ha]; exact hov.k)).trans s43
  have hS2 := Q2e E2.a E2.orc s43.ok I2.pi.ki.inv.ok (by omega) n3 n4 0 (pc := cap2) (hp0'.step t43) (by omega)
  refine hS2.mono fun x w52 ⟨o52, ba2, bc2, he, s52, r52, hbc2, P52⟩ => ⟨_, _, _, _, he, ?_⟩
  have t52 : Step no w20 (fun _ => none) w52 o52 := t43.trans' s52 fun a ha => .inr (by rw [ha]; have := hov2.k; omega)
  have hkeq : keyK (R2 0) 0 = keyK (R 0) 0 := by
    have k1 := I.key (e := 0) (by decide)
    have k2 := I2.key (e := 0) (by decide)
    rw [← hKK] at k2
    exact k2.trans k1.symm
  have hsame : (sealP S2 (R2 0) n3 n4 0 p').1 = (sealP S (R 0) n3 n4 0 p).1 := by
    have e1 : sealP S2 (R2 0) n3 n4 0 p' = sealP S (R 0) n3 n4 0 p' := by unfold sealP; rw [hkeq, hSS]
    rw [e1]
    exact Q5N hal.symm S (R 0) n3 n4 0 p' p rfl rfl
  have r42' := (r42.step s43).step s52
  have hle : (sealP S (R 0) n3 n4 0 p).1.1.length ≤ 1032 := Q6s fun _ => trivial
  rw [hsame] at r52 ⊢
  refine (sameB_spec r42'.1 r52.1 (by omega)).mono fun x w55 ⟨he, X55⟩ => ⟨_, he, fun _ => ⟨fun _ => ?_, fun h => absurd rfl h⟩, fun h => (by simp at h)⟩
  have s55 := Step.of_no X55 t52.ok
  refine ⟨fun _ => live14 (t52.trans s55), fun hgood => ?_⟩
  obtain ⟨g1, g2, g3, g4, g5⟩ := Q4e I.pi.ki (by omega) hgood
  refine (Q3d ⟨0, 0, 0, 0, 0, 0, (sealP S (R 0) n3 n4 0 p).1.1, 0⟩ ba bc w55).mono fun x w64 ⟨he, X64⟩ => ⟨_, he, ?_⟩
  have s64 := Step.of_no X64 s55.ok
  refine (Q1C p.length).mono fun x w67 ⟨he, hw⟩ => ⟨_, he, fun _ => (by rw [hw]; exact live14 ((t52.trans s55).trans s64)), fun h => absurd ?_ h⟩
  show classS (sealP S (R 0) n3 n4 0 p).1.1.length = classOf p.length
  rw [g4]
  exact Q5V g3 (Q2r p.length).2
section
variable {w w' : World} {o o' : Own} {q k : Nat} {S : OS} {R : Rng}
end
end Go.Proofs.Ytgeakpldocfccaa