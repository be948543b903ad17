/- ForkcheckFinds. -/
import Derived.Test.YtfmdpjhkojbocaaZC
import Derived.Test.YtfmdpjhkojbocaaZB
import Derived.ArgAppend
set_option linter.unusedVariables false
set_option linter.unusedSimpArgs false
set_option maxRecDepth 20000
set_option maxHeartbeats 2000000
namespace Go.Proofs.Ytfmdpjhkojbocaa
open Go Go.Mx Go.Proofs
open W (OwnB GivesW numR countR doneR zig unzig intR)
/-- forkcheck.Find -/
def forkcheck_Find.M (eq : Option Addr) (ek : Nat) (ew : Nat) (er : Option Addr) (el : Nat) (ex : Nat) (R : Value → World → Prop) (w : World) : Prop :=
 thenW (w.alloc (.cells #[.int .i64 0, .int .i64 0, .int .u64 0, .int .i64 0, .int .i64 0, .int .i64 0, .slice none 0 0, .int .u64 0, .int .i64 0, .int .i64 0, .int .u64 0, .int .i64 0, .int .i64 0, .int .i64 0, .slice none 0 0, .int .u64 0] 44)) fun ev =>
 ∃ (I0 : Nat → List Value → World → Prop) (m5 : Nat), I0 m5 [.int .i64 0] ev ∧ ∀ (m6 : Nat) (eh : World) (t4 : Int), I0 m6 [.int .i64 t4] eh →
 bif decide (t4 < (if ((el : Int) : Int) < (ek : Int) then (el : Int) else (ek : Int))) then (
 thenW (eh.drew) fun em =>
 eq.elim False fun a9 =>
 0 ≤ (t4 : Int) ∧ (t4 : Int) < (ek : Int) ∧
 ∃ (bk : Int) (ce : Int) (cs : Int) (d4 : Int) (d8 : Int) (c4 : Int) (c3 : Option Addr) (c6 : Nat) (cb : Nat) (d6 : Int), cellsAt em (a9.add (Int.toNat t4 * 8)) [.int .i64 bk, .int .i64 ce, .int .u64 cs, .int .i64 d4, .int .i64 d8, .int .i64 c4, .slice c3 c6 cb, .int .u64 d6] 0 ∧
 er.elim False fun et =>
 0 ≤ (t4 : Int) ∧ (t4 : Int) < (el : Int) ∧
 ∃ (bn : Int) (c9 : Int) (cy : Int) (d9 : Int) (d1 : Int) (c8 : Int) (bv : Option Addr) (cd : Nat) (ch : Nat) (d7 : Int), cellsAt em (et.add (Int.toNat t4 * 8)) [.int .i64 bn, .int .i64 c9, .int .u64 cy, .int .i64 d9, .int .i64 d1, .int .i64 c8, .slice bv cd ch, .int .u64 d7] 0 ∧
 Calls Try.prog 38 #[.agg #[.int .i64 bk, .int .i64 ce, .int .u64 cs, .int .i64 d4, .int .i64 d8, .int .i64 c4, .slice c3 c6 cb, .int .u64 d6], .agg #[.int .i64 bn, .int .i64 c9, .int .u64 cy, .int .i64 d9, .int .i64 d1, .int .i64 c8, .slice bv cd ch, .int .u64 d7]] em fun en e4 => ∃ (cz : Bool), en = .returned (.bool cz) ∧
 bif !cz then (
 thenW (e4.drew) fun dy =>
 eq.elim False fun eu =>
 0 ≤ (t4 : Int) ∧ (t4 : Int) < (ek : Int) ∧
 ∃ (br : Int) (cc : Int) (cm : Int) (da : Int) (d2 : Int) (c2 : Int) (c5 : Option Addr) (cg : Nat) (c0 : Nat) (d0 : Int), cellsAt dy (eu.add (Int.toNat t4 * 8)) [.int .i64 br, .int .i64 cc, .int .u64 cm, .int .i64 da, .int .i64 d2, .int .i64 c2, .slice c5 cg c0, .int .u64 d0] 0 ∧
 er.elim False fun es =>
 0 ≤ (t4 : Int) ∧ (t4 : Int) < (el : Int) ∧
 ∃ (af : Int) (bj : Int) (bu : Int) (cj : Int) (ck : Int) (b8 : Int) (aw : Option Addr) (b3 : Nat) (ax : Nat) (cl : Int), cellsAt dy (es.add (Int.toNat t4 * 8)) [.int .i64 af, .int .i64 bj, .int .u64 bu, .int .i64 cj, .int .i64 ck, .int .i64 b8, .slice aw b3 ax, .int .u64 cl] 0 ∧
 Calls Try.prog 39 #[.agg #[.int .i64 br, .int .i64 cc, .int .u64 cm, .int .i64 da, .int .i64 d2, .int .i64 c2, .slice c5 cg c0, .int .u64 d0]] dy fun ep ed => ∃ (cf : Int) (cq : Int) (d3 : Int) (db : Int) (ds : Int) (cr : Int) (cw : Option Addr) (co : Nat) (cx : Nat) (dr : Int), ep = .returned (.agg #[.int .i64 cf, .int .i64 cq, .int .u64 d3, .int .i64 db, .int .i64 ds, .int .i64 cr, .slice cw co cx, .int .u64 dr]) ∧
 cellsAt ed (es.add (Int.toNat t4 * 8)) [.int .i64 af, .int .i64 bj, .int .u64 bu, .int .i64 cj, .int .i64 ck, .int .i64 b8, .slice aw b3 ax, .int .u64 cl] 0 ∧
 Calls Try.prog 39 #[.agg #[.int .i64 af, .int .i64 bj, .int .u64 bu, .int .i64 cj, .int .i64 ck, .int .i64 b8, .slice aw b3 ax, .int .u64 cl]] ed fun eo ec => ∃ (ca : Int) (cv : Int) (d5 : Int) (dv : Int) (dh : Int) (cu : Int) (cp : Option Addr) (cn : Nat) (ct : Nat) (dt : Int), eo = .returned (.agg #[.int .i64 ca, .int .i64 cv, .int .u64 d5, .int .i64 dv, .int .i64 dh, .int .i64 cu, .slice cp cn ct, .int .u64 dt]) ∧
 canStore ec ((blk w.heap.size).add 0) ∧
 thenW (ec.setCell ((blk w.heap.size).add 0) (.int .i64 cf)) fun e2 =>
 canStore e2 ((blk w.heap.size).add 1) ∧
 thenW (e2.setCell ((blk w.heap.size).add 1) (.int .i64 cq)) fun ea =>
 canStore ea ((blk w.heap.size).add 2) ∧
 thenW (ea.setCell ((blk w.heap.size).add 2) (.int .u64 d3)) fun ef =>
 canStore ef ((blk w.heap.size).add 3) ∧
 thenW (ef.setCell ((blk w.heap.size).add 3) (.int .i64 db)) fun e7 =>
 canStore e7 ((blk w.heap.size).add 4) ∧
 thenW (e7.setCell ((blk w.heap.size).add 4) (.int .i64 ds)) fun e6 =>
 canStore e6 ((blk w.heap.size).add 5) ∧
 thenW (e6.setCell ((blk w.heap.size).add 5) (.int .i64 cr)) fun e5 =>
 canStore e5 ((blk w.heap.size).add 6) ∧
 thenW (e5.setCell ((blk w.heap.size).add 6) (.slice cw co cx)) fun e3 =>
 canStore e3 ((blk w.heap.size).add 7) ∧
 thenW (e3.setCell ((blk w.heap.size).add 7) (.int .u64 dr)) fun e9 =>
 canStore e9 ((blk w.heap.size).add 8) ∧
 thenW (e9.setCell ((blk w.heap.size).add 8) (.int .i64 ca)) fun e0 =>
 canStore e0 ((blk w.heap.size).add 9) ∧
 thenW (e0.setCell ((blk w.heap.size).add 9) (.int .i64 cv)) fun dz =>
 canStore dz ((blk w.heap.size).add 10) ∧
 thenW (dz.setCell ((blk w.heap.size).add 10) (.int .u64 d5)) fun e1 =>
 canStore e1 ((blk w.heap.size).add 11) ∧
 thenW (e1.setCell ((blk w.heap.size).add 11) (.int .i64 dv)) fun ei =>
 canStore ei ((blk w.heap.size).add 12) ∧
 thenW (ei.setCell ((blk w.heap.size).add 12) (.int .i64 dh)) fun eb =>
 canStore eb ((blk w.heap.size).add 13) ∧
 thenW (eb.setCell ((blk w.heap.size).add 13) (.int .i64 cu)) fun ej =>
 canStore ej ((blk w.heap.size).add 14) ∧
 thenW (ej.setCell ((blk w.heap.size).add 14) (.slice cp cn ct)) fun e8 =>
 canStore e8 ((blk w.heap.size).add 15) ∧
 thenW (e8.setCell ((blk w.heap.size).add 15) (.int .u64 dt)) fun eg =>
 ∃ (a4 : Int) (av : Int) (bh : Int) (bo : Int) (bl : Int) (ah : Int) (al : Option Addr) (ao : Nat) (ag : Nat) (bt : Int) (ad : Int) (ai : Int) (b9 : Int) (bp : Int) (bq : Int) (an : Int) (am : Option Addr) (au : Nat) (ar : Nat) (bd : Int), cellsAt eg (blk w.heap.size) [.int .i64 a4, .int .i64 av, .int .u64 bh, .int .i64 bo, .int .i64 bl, .int .i64 ah, .slice al ao ag, .int .u64 bt, .int .i64 ad, .int .i64 ai, .int .u64 b9, .int .i64 bp, .int .i64 bq, .int .i64 an, .slice am au ar, .int .u64 bd] 0 ∧
 R (.tuple #[.agg #[.int .i64 a4, .int .i64 av, .int .u64 bh, .int .i64 bo, .int .i64 bl, .int .i64 ah, .slice al ao ag, .int .u64 bt, .int .i64 ad, .int .i64 ai, .int .u64 b9, .int .i64 bp, .int .i64 bq, .int .i64 an, .slice am au ar, .int .u64 bd], .bool true]) eg) else (
 ∃ ee, ee < m6 ∧ I0 ee [.int .i64 (IntKind.i64.wrap (t4 + 1))] e4)) else (
 ∃ (aj : Int) (bb : Int) (bs : Int) (bw : Int) (bz : Int) (b0 : Int) (b1 : Option Addr) (b4 : Nat) (bc : Nat) (c1 : Int) (ap : Int) (ba : Int) (bm : Int) (c7 : Int) (bx : Int) (az : Int) (bi : Option Addr) (be : Nat) (b6 : Nat) (ci : Int), cellsAt eh (blk w.heap.size) [.int .i64 aj, .int .i64 bb, .int .u64 bs, .int .i64 bw, .int .i64 bz, .int .i64 b0, .slice b1 b4 bc, .int .u64 c1, .int .i64 ap, .int .i64 ba, .int .u64 bm, .int .i64 c7, .int .i64 bx, .int .i64 az, .slice bi be b6, .int .u64 ci] 0 ∧
 canStore eh ((blk w.heap.size).add 0) ∧
 thenW (eh.setCell ((blk w.heap.size).add 0) (.int .i64 aj)) fun dq =>
 canStore dq ((blk w.heap.size).add 1) ∧
 thenW (dq.setCell ((blk w.heap.size).add 1) (.int .i64 bb)) fun dd =>
 canStore dd ((blk w.heap.size).add 2) ∧
 thenW (dd.setCell ((blk w.heap.size).add 2) (.int .u64 bs)) fun dj =>
 canStore dj ((blk w.heap.size).add 3) ∧
 thenW (dj.setCell ((blk w.heap.size).add 3) (.int .i64 bw)) fun dm =>
 canStore dm ((blk w.heap.size).add 4) ∧
 thenW (dm.setCell ((blk w.heap.size).add 4) (.int .i64 bz)) fun dc =>
 canStore dc ((blk w.heap.size).add 5) ∧
 thenW (dc.setCell ((blk w.heap.size).add 5) (.int .i64 b0)) fun df =>
 canStore df ((blk w.heap.size).add 6) ∧
 thenW (df.setCell ((blk w.heap.size).add 6) (.slice b1 b4 bc)) fun di =>
 canStore di ((blk w.heap.size).add 7) ∧
 thenW (di.setCell ((blk w.heap.size).add 7) (.int .u64 c1)) fun du =>
 canStore du ((blk w.heap.size).add 8) ∧
 thenW (du.setCell ((blk w.heap.size).add 8) (.int .i64 ap)) fun dp =>
 canStore dp ((blk w.heap.size).add 9) ∧
 thenW (dp.setCell ((blk w.heap.size).add 9) (.int .i64 ba)) fun dl =>
 canStore dl ((blk w.heap.size).add 10) ∧
 thenW (dl.setCell ((blk w.heap.size).add 10) (.int .u64 bm)) fun dx =>
 canStore dx ((blk w.heap.size).add 11) ∧
 thenW (dx.setCell ((blk w.heap.size).add 11) (.int .i64 c7)) fun dn =>
 canStore dn ((blk w.heap.size).add 12) ∧
 thenW (dn.setCell ((blk w.heap.size).add 12) (.int .i64 bx)) fun de =>
 canStore de ((blk w.heap.size).add 13) ∧
 thenW (de.setCell ((blk w.heap.size).add 13) (.int .i64 az)) fun dw =>
 canStore dw ((blk w.heap.size).add 14) ∧
 thenW (dw.setCell ((blk w.heap.size).add 14) (.slice bi be b6)) fun dk =>
 canStore dk ((blk w.heap.size).add 15) ∧
 thenW (dk.setCell ((blk w.heap.size).add 15) (.int .u64 ci)) fun dg =>
 ∃ (a1 : Int) (aa : Int) (ak : Int) (bg : Int) (b7 : Int) (a6 : Int) (a2 : Option Addr) (a3 : Nat) (ab : Nat) (b2 : Int) (a0 : Int) (ac : Int) (aq : Int) (b5 : Int) (ay : Int) (a8 : Int) (a7 : Option Addr) (ae : Nat) (a5 : Nat) (bf : Int), cellsAt dg (blk w.heap.size) [.int .i64 a1, .int .i64 aa, .int .u64 ak, .int .i64 bg, .int .i64 b7, .int .i64 a6, .slice a2 a3 ab, .int .u64 b2, .int .i64 a0, .int .i64 ac, .int .u64 aq, .int .i64 b5, .int .i64 ay, .int .i64 a8, .slice a7 ae a5, .int .u64 bf] 0 ∧
 R (.tuple #[.agg #[.int .i64 a1, .int .i64 aa, .int .u64 ak, .int .i64 bg, .int .i64 b7, .int .i64 a6, .slice a2 a3 ab, .int .u64 b2, .int .i64 a0, .int .i64 ac, .int .u64 aq, .int .i64 b5, .int .i64 ay, .int .i64 a8, .slice a7 ae a5, .int .u64 bf], .bool false]) dg)

theorem forkcheck_Find.eq (a1a : Option Addr) (a1n : Nat) (a1c : Nat) (b2a : Option Addr) (b2n : Nat) (b2c : Nat) (R : Value → World → Prop) (w : World) : mfunc Try.prog [(0, [0, 1, 4, 11], [(12, (.one (.int .i64)))])] 11 [.slice a1a a1n a1c, .slice b2a b2n b2c] R w = forkcheck_Find.M a1a a1n a1c b2a b2n b2c R w := by kernel_rfl
theorem forkcheck_Find.ok (a0 : Option Addr) (a2 : Nat) (a3 : Nat) (a4 : Option Addr) (a1 : Nat) (a5 : Nat) {R : Value → World → Prop} {w : World} (h : forkcheck_Find.M a0 a2 a3 a4 a1 a5 R w) : Calls Try.prog 11 #[.slice a0 a2 a3, .slice a4 a1 a5] w fun e w' => ∃ v, e = .returned v ∧ R v w' :=
  mfunc_ok follows (H := [(0, [0, 1, 4, 11], [(12, (.one (.int .i64)))])]) (args := [.slice a0 a2 a3, .slice a4 a1 a5]) (by rw [forkcheck_Find.eq]; exact h)

def forkcheck_Find.N (cu : Option Addr) (cj : Nat) (cx : Nat) (cv : Option Addr) (ck : Nat) (cy : Nat) (R : Value → World → Prop) (w : World) : Prop :=
 ∀ (cq : World) (p4 : Nat), Ext no w cq → Priv w cq [p4] →
 ∃ (I0 : Nat → List Value → World → Prop) (cw : Nat), I0 cw [.int .i64 0, .int .i64 0, .int .i64 0, .int .u64 0, .int .i64 0, .int .i64 0, .int .i64 0, .slice none 0 0, .int .u64 0, .int .i64 0, .int .i64 0, .int .u64 0, .int .i64 0, .int .i64 0, .int .i64 0, .slice none 0 0, .int .u64 0] cq ∧ ∀ (ct : Nat) (c1 : World) (t5 : Int) (ad : Int) (al : Int) (ba : Int) (bw : Int) (b6 : Int) (a6 : Int) (a7 : Option Addr) (ac : Nat) (a2 : Nat) (b8 : Int) (a1 : Int) (ag : Int) (ak : Int) (bb : Int) (bd : Int) (ae : Int) (ab : Option Addr) (a9 : Nat) (af : Nat) (b9 : Int), I0 ct [.int .i64 t5, .int .i64 ad, .int .i64 al, .int .u64 ba, .int .i64 bw, .int .i64 b6, .int .i64 a6, .slice a7 ac a2, .int .u64 b8, .int .i64 a1, .int .i64 ag, .int .u64 ak, .int .i64 bb, .int .i64 bd, .int .i64 ae, .slice ab a9 af, .int .u64 b9] c1 →
 (t5 < (if ((ck : Int) : Int) < (cj : Int) then (ck : Int) else (cj : Int)) →
 ∃ cp : Addr, cu = some cp ∧
 0 ≤ (t5 : Int) ∧ (t5 : Int) < (cj : Int) ∧
 ∃ (ah : Int) (aq : Int) (bj : Int) (c7 : Int) (bt : Int) (b0 : Int) (an : Option Addr) (ap : Nat) (b1 : Nat) (c2 : Int), cellsAt c1 (cp.add (Int.toNat t5 * 8)) [.int .i64 ah, .int .i64 aq, .int .u64 bj, .int .i64 c7, .int .i64 bt, .int .i64 b0, .slice an ap b1, .int .u64 c2] 0 ∧
 ∃ cn : Addr, cv = some cn ∧
 0 ≤ (t5 : Int) ∧ (t5 : Int) < (ck : Int) ∧
 ∃ (ai : Int) (aw : Int) (bo : Int) (bu : Int) (bx : Int) (b4 : Int) (ar : Option Addr) (av : Nat) (az : Nat) (c4 : Int), cellsAt c1 (cn.add (Int.toNat t5 * 8)) [.int .i64 ai, .int .i64 aw, .int .u64 bo, .int .i64 bu, .int .i64 bx, .int .i64 b4, .slice ar av az, .int .u64 c4] 0 ∧
 ∀ (ch : World), Ext no c1 ch →
 Calls Try.prog 38 #[.agg #[.int .i64 ah, .int .i64 aq, .int .u64 bj, .int .i64 c7, .int .i64 bt, .int .i64 b0, .slice an ap b1, .int .u64 c2], .agg #[.int .i64 ai, .int .i64 aw, .int .u64 bo, .int .i64 bu, .int .i64 bx, .int .i64 b4, .slice ar av az, .int .u64 c4]] ch fun cs bv => ∃ (bf : Bool), cs = .returned (.bool bf) ∧
 Keep [p4] ch bv ∧
 (bf = false →
 0 ≤ (t5 : Int) ∧ (t5 : Int) < (cj : Int) ∧
 ∃ (aj : Int) (b5 : Int) (bk : Int) (c5 : Int) (c0 : Int) (b2 : Int) (ao : Option Addr) (ay : Nat) (ax : Nat) (bz : Int), cellsAt bv (cp.add (Int.toNat t5 * 8)) [.int .i64 aj, .int .i64 b5, .int .u64 bk, .int .i64 c5, .int .i64 c0, .int .i64 b2, .slice ao ay ax, .int .u64 bz] 0 ∧
 0 ≤ (t5 : Int) ∧ (t5 : Int) < (ck : Int) ∧
 ∃ (a0 : Int) (a4 : Int) (am : Int) (bc : Int) (be : Int) (a3 : Int) (a5 : Option Addr) (a8 : Nat) (aa : Nat) (b7 : Int), cellsAt bv (cn.add (Int.toNat t5 * 8)) [.int .i64 a0, .int .i64 a4, .int .u64 am, .int .i64 bc, .int .i64 be, .int .i64 a3, .slice a5 a8 aa, .int .u64 b7] 0 ∧
 ∀ (ci : World), Ext no bv ci →
 Calls Try.prog 39 #[.agg #[.int .i64 aj, .int .i64 b5, .int .u64 bk, .int .i64 c5, .int .i64 c0, .int .i64 b2, .slice ao ay ax, .int .u64 bz]] ci fun co c8 => ∃ (b3 : Int) (br : Int) (c6 : Int) (ca : Int) (ce : Int) (bi : Int) (bl : Option Addr) (bg : Nat) (bp : Nat) (cb : Int), co = .returned (.agg #[.int .i64 b3, .int .i64 br, .int .u64 c6, .int .i64 ca, .int .i64 ce, .int .i64 bi, .slice bl bg bp, .int .u64 cb]) ∧
 Keep [p4] ci c8 ∧
 cellsAt c8 (cn.add (Int.toNat t5 * 8)) [.int .i64 a0, .int .i64 a4, .int .u64 am, .int .i64 bc, .int .i64 be, .int .i64 a3, .slice a5 a8 aa, .int .u64 b7] 0 ∧
 Calls Try.prog 39 #[.agg #[.int .i64 a0, .int .i64 a4, .int .u64 am, .int .i64 bc, .int .i64 be, .int .i64 a3, .slice a5 a8 aa, .int .u64 b7]] c8 fun cr cm => ∃ (au : Int) (bh : Int) (c3 : Int) (c9 : Int) (cg : Int) (bs : Int) (bq : Option Addr) (bm : Nat) (bn : Nat) (cf : Int), cr = .returned (.agg #[.int .i64 au, .int .i64 bh, .int .u64 c3, .int .i64 c9, .int .i64 cg, .int .i64 bs, .slice bq bm bn, .int .u64 cf]) ∧
 Keep [p4] c8 cm ∧
 ∀ (cd : World), Ext (fun b => b = p4) cm cd →
 R (.tuple #[.agg #[.int .i64 b3, .int .i64 br, .int .u64 c6, .int .i64 ca, .int .i64 ce, .int .i64 bi, .slice bl bg bp, .int .u64 cb, .int .i64 au, .int .i64 bh, .int .u64 c3, .int .i64 c9, .int .i64 cg, .int .i64 bs, .slice bq bm bn, .int .u64 cf], .bool true]) cd) ∧
 (bf = true →
 (-9223372036854775808 : Int) ≤ (t5 + 1) ∧ (t5 + 1) < 9223372036854775808 ∧
 ∃ cl, cl < ct ∧ I0 cl [.int .i64 (t5 + 1), .int .i64 ad, .int .i64 al, .int .u64 ba, .int .i64 bw, .int .i64 b6, .int .i64 a6, .slice a7 ac a2, .int .u64 b8, .int .i64 a1, .int .i64 ag, .int .u64 ak, .int .i64 bb, .int .i64 bd, .int .i64 ae, .slice ab a9 af, .int .u64 b9] bv)) ∧
 ((if ((ck : Int) : Int) < (cj : Int) then (ck : Int) else (cj : Int)) ≤ t5 →
 ∀ (cc : World), Ext (fun b => b = p4) c1 cc →
 R (.tuple #[.agg #[.int .i64 ad, .int .i64 al, .int .u64 ba, .int .i64 bw, .int .i64 b6, .int .i64 a6, .slice a7 ac a2, .int .u64 b8, .int .i64 a1, .int .i64 ag, .int .u64 ak, .int .i64 bb, .int .i64 bd, .int .i64 ae, .slice ab a9 af, .int .u64 b9], .bool false]) cc)

theorem forkcheck_Find.up (fh : Option Addr) (fg : Nat) (fr : Nat) (fl : Option Addr) (fq : Nat) (ft : Nat) {R : Value → World → Prop} {w : World} (h : forkcheck_Find.N fh fg fr fl fq ft R w) : forkcheck_Find.M fh fg fr fl fq ft R w := by
  unfold forkcheck_Find.M
  unfold forkcheck_Find.N at h
  refine thenW_in fun g4 e3 => ?_
  have ab := Blk.of_new e3
  have g0 := ((Ext.refl no w)).size
  have g6 := (Ext.refl no w).x_alloc e3
  have h := h g4 (w.heap.size) g6 (Priv.cons g0 ab.lt Priv.nil)
  obtain ⟨I0, g2, h0, h⟩ := h
  refine ⟨fun k vs ww => ∃ (ad : Int) (ag : Int) (ak : Int) (am : Int) (aj : Int) (a9 : Int) (a7 : Option Addr) (a8 : Nat) (a6 : Nat) (ah : Int) (a3 : Int) (a5 : Int) (aa : Int) (af : Int) (ae : Int) (a4 : Int) (a1 : Option Addr) (a0 : Nat) (a2 : Nat) (ac : Int), Blk ww w.heap.size 44 [.int .i64 ad, .int .i64 ag, .int .u64 ak, .int .i64 am, .int .i64 aj, .int .i64 a9, .slice a7 a8 a6, .int .u64 ah, .int .i64 a3, .int .i64 a5, .int .u64 aa, .int .i64 af, .int .i64 ae, .int .i64 a4, .slice a1 a0 a2, .int .u64 ac] ∧ I0 k (vs ++ [.int .i64 ad, .int .i64 ag, .int .u64 ak, .int .i64 am, .int .i64 aj, .int .i64 a9, .slice a7 a8 a6, .int .u64 ah, .int .i64 a3, .int .i64 a5, .int .u64 aa, .int .i64 af, .int .i64 ae, .int .i64 a4, .slice a1 a0 a2, .int .u64 ac]) ww, g2, ⟨0, 0, 0, 0, 0, 0, none, 0, 0, 0, 0, 0, 0, 0, 0, 0, none, 0, 0, 0, ab, h0⟩, fun fy bm t5 hI => ?_⟩
  obtain ⟨ad, ag, ak, am, aj, a9, a7, a8, a6, ah, a3, a5, aa, af, ae, a4, a1, a0, a2, ac, ab, hI⟩ := hI
  have h := h fy bm t5 ad ag ak am aj a9 a7 a8 a6 ah a3 a5 aa af ae a4 a1 a0 a2 ac hI
  refine bif_of (fun fc => ?_) (fun fc => ?_)
  · have h := h.1 (of_decide_eq_true fc)
    refine thenW_in fun ew fi => ?_
    have ce := (Ext.refl no bm).x_drew fi
    have ab := ab.x_drew fi
    obtain ⟨g8, cm, h⟩ := h
    refine elim_some cm ?_
    obtain ⟨ck, c7, h⟩ := h
    refine ⟨ck, c7, ?_⟩
    obtain ⟨b7, bg, bw, cj, c3, bq, bc, bf, br, cb, fb, h⟩ := h
    refine ⟨b7, bg, bw, cj, c3, bq, bc, bf, br, cb, cellsAt_no (ce) fb, ?_⟩
    obtain ⟨g9, cs, h⟩ := h
    refine elim_some cs ?_
    obtain ⟨ck, c7, h⟩ := h
    refine ⟨ck, c7, ?_⟩
    obtain ⟨b8, bj, bz, c4, c8, bu, bh, bi, bp, ch, f4, h⟩ := h
    refine ⟨b8, bj, bz, c4, c8, bu, bh, bi, bp, ch, cellsAt_no (ce) f4, ?_⟩
    have h := h ew ce
    refine h.mono fun g7 ev h => ?_
    obtain ⟨cg, he, hk, h⟩ := h
    refine ⟨cg, he, ?_⟩
    have ab := hk.blk ab (by simp)
    refine bif_of (fun er => ?_) (fun er => ?_)
    · have h := h.1 (not_t er)
      refine thenW_in fun fe fm => ?_
      have cd := (Ext.refl no ev).x_drew fm
      have ab := ab.x_drew fm
      refine elim_some cm ?_
      obtain ⟨ck, c7, h⟩ := h
      refine ⟨ck, c7, ?_⟩
      obtain ⟨b9, bv, bx, ci, ca, bs, be, bo, bk, c9, eq, h⟩ := h
      refine ⟨b9, bv, bx, ci, ca, bs, be, bo, bk, c9, cellsAt_no (cd) eq, ?_⟩
      refine elim_some cs ?_
      obtain ⟨ck, c7, h⟩ := h
      refine ⟨ck, c7, ?_⟩
      obtain ⟨b6, bb, c0, cc, cf, ba, bd, bl, bn, c5, ex, h⟩ := h
      refine ⟨b6, bb, c0, cc, cf, ba, bd, bl, bn, c5, cellsAt_no (cd) ex, ?_⟩
      have h := h fe cd
      refine h.mono fun fx fz h => ?_
      obtain ⟨ai, al, ao, aw, ax, an, ar, aq, au, ay, he, hk, h⟩ := h
      refine ⟨ai, al, ao, aw, ax, an, ar, aq, au, ay, he, ?_⟩
      have ab := hk.blk ab (by simp)
      obtain ⟨eo, h⟩ := h
      refine ⟨eo, ?_⟩
      refine h.mono fun g5 c6 h => ?_
      obtain ⟨ap, av, az, b4, b5, b0, b3, b1, b2, bt, he, hk, h⟩ := h
      refine ⟨ap, av, az, b4, b5, b0, b3, b1, b2, bt, he, ?_⟩
      have ab := hk.blk ab (by simp)
      have e7 : Ext (fun b => b = w.heap.size) c6 c6 := ((Ext.refl no c6)).none
      refine ⟨ab.cani 0 rfl rfl, thenW_in fun f9 fk => ?_⟩
      have ep := e7.x_set (q := w.heap.size) (i := 0) rfl (.inl rfl) fk
      have ab : Blk f9 w.heap.size 44 [.int .i64 ai, .int .i64 ag, .int .u64 ak, .int .i64 am, .int .i64 aj, .int .i64 a9, .slice a7 a8 a6, .int .u64 ah, .int .i64 a3, .int .i64 a5, .int .u64 aa, .int .i64 af, .int .i64 ae, .int .i64 a4, .slice a1 a0 a2, .int .u64 ac] := ab.seti 0 rfl fk
      refine ⟨ab.cani 1 rfl rfl, thenW_in fun f7 fo => ?_⟩
      have en := ep.x_set (q := w.heap.size) (i := 1) rfl (.inl rfl) fo
      have ab : Blk f7 w.heap.size 44 [.int .i64 ai, .int .i64 al, .int .u64 ak, .int .i64 am, .int .i64 aj, .int .i64 a9, .slice a7 a8 a6, .int .u64 ah, .int .i64 a3, .int .i64 a5, .int .u64 aa, .int .i64 af, .int .i64 ae, .int .i64 a4, .slice a1 a0 a2, .int .u64 ac] := ab.seti 1 rfl fo
      refine ⟨ab.cani 2 rfl rfl, thenW_in fun ez ff => ?_⟩
      have f1 := en.x_set (q := w.heap.size) (i := 2) rfl (.inl rfl) ff
      have ab : Blk ez w.heap.size 44 [.int .i64 ai, .int .i64 al, .int .u64 ao, .int .i64 am, .int .i64 aj, .int .i64 a9, .slice a7 a8 a6, .int .u64 ah, .int .i64 a3, .int .i64 a5, .int .u64 aa, .int .i64 af, .int .i64 ae, .int .i64 a4, .slice a1 a0 a2, .int .u64 ac] := ab.seti 2 rfl ff
      refine ⟨ab.cani 3 rfl rfl, thenW_in fun ey fw => ?_⟩
      have em := f1.x_set (q := w.heap.size) (i := 3) rfl (.inl rfl) fw
      have ab : Blk ey w.heap.size 44 [.int .i64 ai, .int .i64 al, .int .u64 ao, .int .i64 aw, .int .i64 aj, .int .i64 a9, .slice a7 a8 a6, .int .u64 ah, .int .i64 a3, .int .i64 a5, .int .u64 aa, .int .i64 af, .int .i64 ae, .int .i64 a4, .slice a1 a0 a2, .int .u64 ac] := ab.seti 3 rfl fw
      refine ⟨ab.cani 4 rfl rfl, thenW_in fun f5 fp => ?_⟩
      have f8 := em.x_set (q := w.heap.size) (i := 4) rfl (.inl rfl) fp
      have ab : Blk f5 w.heap.size 44 [.int .i64 ai, .int .i64 al, .int .u64 ao, .int .i64 aw, .int .i64 ax, .int .i64 a9, .slice a7 a8 a6, .int .u64 ah, .int .i64 a3, .int .i64 a5, .int .u64 aa, .int .i64 af, .int .i64 ae, .int .i64 a4, .slice a1 a0 a2, .int .u64 ac] := ab.seti 4 rfl fp
      refine ⟨ab.cani 5 rfl rfl, thenW_in fun fa fj => ?_⟩
      have f2 := f8.x_set (q := w.heap.size) (i := 5) rfl (.inl rfl) fj
      have ab : Blk fa w.heap.size 44 [.int .i64 ai, .int .i64 al, .int .u64 ao, .int .i64 aw, .int .i64 ax, .int .i64 an, .slice a7 a8 a6, .int .u64 ah, .int .i64 a3, .int .i64 a5, .int .u64 aa, .int .i64 af, .int .i64 ae, .int .i64 a4, .slice a1 a0 a2, .int .u64 ac] := ab.seti 5 rfl fj
      refine ⟨ab.cani 6 rfl rfl, thenW_in fun fd fv => ?_⟩
      have f6 := f2.x_set (q := w.heap.size) (i := 6) rfl (.inl rfl) fv
      have ab : Blk fd w.heap.size 44 [.int .i64 ai, .int .i64 al, .int .u64 ao, .int .i64 aw, .int .i64 ax, .int .i64 an, .slice ar aq au, .int .u64 ah, .int .i64 a3, .int .i64 a5, .int .u64 aa, .int .i64 af, .int .i64 ae, .int .i64 a4, .slice a1 a0 a2, .int .u64 ac] := ab.seti 6 rfl fv
      refine ⟨ab.cani 7 rfl rfl, thenW_in fun f0 fu => ?_⟩
      have f3 := f6.x_set (q := w.heap.size) (i := 7) rfl (.inl rfl) fu
      have ab : Blk f0 w.heap.size 44 [.int .i64 ai, .int .i64 al, .int .u64 ao, .int .i64 aw, .int .i64 ax, .int .i64 an, .slice ar aq au, .int .u64 ay, .int .i64 a3, .int .i64 a5, .int .u64 aa, .int .i64 af, .int .i64 ae, .int .i64 a4, .slice a1 a0 a2, .int .u64 ac] := ab.seti 7 rfl fu
      refine ⟨ab.cani 8 rfl rfl, thenW_in fun es fs => ?_⟩
      have et := f3.x_set (q := w.heap.size) (i := 8) rfl (.inl rfl) fs
      have ab : Blk es w.heap.size 44 [.int .i64 ai, .int .i64 al, .int .u64 ao, .int .i64 aw, .int .i64 ax, .int .i64 an, .slice ar aq au, .int .u64 ay, .int .i64 ap, .int .i64 a5, .int .u64 aa, .int .i64 af, .int .i64 ae, .int .i64 a4, .slice a1 a0 a2, .int .u64 ac] := ab.seti 8 rfl fs
      refine ⟨ab.cani 9 rfl rfl, thenW_in fun eh ds => ?_⟩
      have di := et.x_set (q := w.heap.size) (i := 9) rfl (.inl rfl) ds
      have ab : Blk eh w.heap.size 44 [.int .i64 ai, .int .i64 al, .int .u64 ao, .int .i64 aw, .int .i64 ax, .int .i64 an, .slice ar aq au, .int .u64 ay, .int .i64 ap, .int .i64 av, .int .u64 aa, .int .i64 af, .int .i64 ae, .int .i64 a4, .slice a1 a0 a2, .int .u64 ac] := ab.seti 9 rfl ds
      refine ⟨ab.cani 10 rfl rfl, thenW_in fun cp cv => ?_⟩
      have d0 := di.x_set (q := w.heap.size) (i := 10) rfl (.inl rfl) cv
      have ab : Blk cp w.heap.size 44 [.int .i64 ai, .int .i64 al, .int .u64 ao, .int .i64 aw, .int .i64 ax, .int .i64 an, .slice ar aq au, .int .u64 ay, .int .i64 ap, .int .i64 av, .int .u64 az, .int .i64 af, .int .i64 ae, .int .i64 a4, .slice a1 a0 a2, .int .u64 ac] := ab.seti 10 rfl cv
      refine ⟨ab.cani 11 rfl rfl, thenW_in fun d5 d4 => ?_⟩
      have ei := d0.x_set (q := w.heap.size) (i := 11) rfl (.inl rfl) d4
      have ab : Blk d5 w.heap.size 44 [.int .i64 ai, .int .i64 al, .int .u64 ao, .int .i64 aw, .int .i64 ax, .int .i64 an, .slice ar aq au, .int .u64 ay, .int .i64 ap, .int .i64 av, .int .u64 az, .int .i64 b4, .int .i64 ae, .int .i64 a4, .slice a1 a0 a2, .int .u64 ac] := ab.seti 11 rfl d4
      refine ⟨ab.cani 12 rfl rfl, thenW_in fun e9 dc => ?_⟩
      have dm := ei.x_set (q := w.heap.size) (i := 12) rfl (.inl rfl) dc
      have ab : Blk e9 w.heap.size 44 [.int .i64 ai, .int .i64 al, .int .u64 ao, .int .i64 aw, .int .i64 ax, .int .i64 an, .slice ar aq au, .int .u64 ay, .int .i64 ap, .int .i64 av, .int .u64 az, .int .i64 b4, .int .i64 b5, .int .i64 a4, .slice a1 a0 a2, .int .u64 ac] := ab.seti 12 rfl dc
      refine ⟨ab.cani 13 rfl rfl, thenW_in fun dt dy => ?_⟩
      have e6 := dm.x_set (q := w.heap.size) (i := 13) rfl (.inl rfl) dy
      have ab : Blk dt w.heap.size 44 [.int .i64 ai, .int .i64 al, .int .u64 ao, .int .i64 aw, .int .i64 ax, .int .i64 an, .slice ar aq au, .int .u64 ay, .int .i64 ap, .int .i64 av, .int .u64 az, .int .i64 b4, .int .i64 b5, .int .i64 b0, .slice a1 a0 a2, .int .u64 ac] := ab.seti 13 rfl dy
      refine ⟨ab.cani 14 rfl rfl, thenW_in fun d6 dz => ?_⟩
      have cl := e6.x_set (q := w.heap.size) (i := 14) rfl (.inl rfl) dz
      have ab : Blk d6 w.heap.size 44 [.int .i64 ai, .int .i64 al, .int .u64 ao, .int .i64 aw, .int .i64 ax, .int .i64 an, .slice ar aq au, .int .u64 ay, .int .i64 ap, .int .i64 av, .int .u64 az, .int .i64 b4, .int .i64 b5, .int .i64 b0, .slice b3 b1 b2, .int .u64 ac] := ab.seti 14 rfl dz
      refine ⟨ab.cani 15 rfl rfl, thenW_in fun c2 el => ?_⟩
      have cq := cl.x_set (q := w.heap.size) (i := 15) rfl (.inl rfl) el
      have ab : Blk c2 w.heap.size 44 [.int .i64 ai, .int .i64 al, .int .u64 ao, .int .i64 aw, .int .i64 ax, .int .i64 an, .slice ar aq au, .int .u64 ay, .int .i64 ap, .int .i64 av, .int .u64 az, .int .i64 b4, .int .i64 b5, .int .i64 b0, .slice b3 b1 b2, .int .u64 bt] := ab.seti 15 rfl el
      refine ⟨ai, al, ao, aw, ax, an, ar, aq, au, ay, ap, av, az, b4, b5, b0, b3, b1, b2, bt, ⟨ab.celli 0 rfl rfl, ab.celli 1 rfl rfl, ab.celli 2 rfl rfl, ab.celli 3 rfl rfl, ab.celli 4 rfl rfl, ab.celli 5 rfl rfl, ab.celli 6 rfl rfl, ab.celli 7 rfl rfl, ab.celli 8 rfl rfl, ab.celli 9 rfl rfl, ab.celli 10 rfl rfl, ab.celli 11 rfl rfl, ab.celli 12 rfl rfl, ab.celli 13 rfl rfl, ab.celli 14 rfl rfl, ab.celli 15 rfl rfl, trivial⟩, ?_⟩
      have h := h c2 cq
      exact h
    · have h := h.2 (not_f er)
      obtain ⟨g1, g3, h⟩ := h
      try rw [w64 g1 g3]
      obtain ⟨eu, hk, h⟩ := h
      exact ⟨eu, hk, ad, ag, ak, am, aj, a9, a7, a8, a6, ah, a3, a5, aa, af, ae, a4, a1, a0, a2, ac, ab, h⟩
  · have h := h.2 (Int.not_lt.1 (of_decide_eq_false fc))
    refine ⟨ad, ag, ak, am, aj, a9, a7, a8, a6, ah, a3, a5, aa, af, ae, a4, a1, a0, a2, ac, ⟨ab.celli 0 rfl rfl, ab.celli 1 rfl rfl, ab.celli 2 rfl rfl, ab.celli 3 rfl rfl, ab.celli 4 rfl rfl, ab.celli 5 rfl rfl, ab.celli 6 rfl rfl, ab.celli 7 rfl rfl, ab.celli 8 rfl rfl, ab.celli 9 rfl rfl, ab.celli 10 rfl rfl, ab.celli 11 rfl rfl, ab.celli 12 rfl rfl, ab.celli 13 rfl rfl, ab.celli 14 rfl rfl, ab.celli 15 rfl rfl, trivial⟩, ?_⟩
    have eb : Ext (fun b => b = w.heap.size) bm bm := ((Ext.refl no bm)).none
    refine ⟨ab.cani 0 rfl rfl, thenW_in fun dj e5 => ?_⟩
    have df := eb.x_set (q := w.heap.size) (i := 0) rfl (.inl rfl) e5
    have ab : Blk dj w.heap.size 44 [.int .i64 ad, .int .i64 ag, .int .u64 ak, .int .i64 am, .int .i64 aj, .int .i64 a9, .slice a7 a8 a6, .int .u64 ah, .int .i64 a3, .int .i64 a5, .int .u64 aa, .int .i64 af, .int .i64 ae, .int .i64 a4, .slice a1 a0 a2, .int .u64 ac] := ab.seti 0 rfl e5
    refine ⟨ab.cani 1 rfl rfl, thenW_in fun cu d9 => ?_⟩
    have dg := df.x_set (q := w.heap.size) (i := 1) rfl (.inl rfl) d9
    have ab : Blk cu w.heap.size 44 [.int .i64 ad, .int .i64 ag, .int .u64 ak, .int .i64 am, .int .i64 aj, .int .i64 a9, .slice a7 a8 a6, .int .u64 ah, .int .i64 a3, .int .i64 a5, .int .u64 aa, .int .i64 af, .int .i64 ae, .int .i64 a4, .slice a1 a0 a2, .int .u64 ac] := ab.seti 1 rfl d9
    refine ⟨ab.cani 2 rfl rfl, thenW_in fun ea e4 => ?_⟩
    have dk := dg.x_set (q := w.heap.size) (i := 2) rfl (.inl rfl) e4
    have ab : Blk ea w.heap.size 44 [.int .i64 ad, .int .i64 ag, .int .u64 ak, .int .i64 am, .int .i64 aj, .int .i64 a9, .slice a7 a8 a6, .int .u64 ah, .int .i64 a3, .int .i64 a5, .int .u64 aa, .int .i64 af, .int .i64 ae, .int .i64 a4, .slice a1 a0 a2, .int .u64 ac] := ab.seti 2 rfl e4
    refine ⟨ab.cani 3 rfl rfl, thenW_in fun ef d7 => ?_⟩
    have dd := dk.x_set (q := w.heap.size) (i := 3) rfl (.inl rfl) d7
    have ab : Blk ef w.heap.size 44 [.int .i64 ad, .int .i64 ag, .int .u64 ak, .int .i64 am, .int .i64 aj, .int .i64 a9, .slice a7 a8 a6, .int .u64 ah, .int .i64 a3, .int .i64 a5, .int .u64 aa, .int .i64 af, .int .i64 ae, .int .i64 a4, .slice a1 a0 a2, .int .u64 ac] := ab.seti 3 rfl d7
    refine ⟨ab.cani 4 rfl rfl, thenW_in fun de db => ?_⟩
    have dr := dd.x_set (q := w.heap.size) (i := 4) rfl (.inl rfl) db
    have ab : Blk de w.heap.size 44 [.int .i64 ad, .int .i64 ag, .int .u64 ak, .int .i64 am, .int .i64 aj, .int .i64 a9, .slice a7 a8 a6, .int .u64 ah, .int .i64 a3, .int .i64 a5, .int .u64 aa, .int .i64 af, .int .i64 ae, .int .i64 a4, .slice a1 a0 a2, .int .u64 ac] := ab.seti 4 rfl db
    refine ⟨ab.cani 5 rfl rfl, thenW_in fun e0 e8 => ?_⟩
    have d1 := dr.x_set (q := w.heap.size) (i := 5) rfl (.inl rfl) e8
    have ab : Blk e0 w.heap.size 44 [.int .i64 ad, .int .i64 ag, .int .u64 ak, .int .i64 am, .int .i64 aj, .int .i64 a9, .slice a7 a8 a6, .int .u64 ah, .int .i64 a3, .int .i64 a5, .int .u64 aa, .int .i64 af, .int .i64 ae, .int .i64 a4, .slice a1 a0 a2, .int .u64 ac] := ab.seti 5 rfl e8
    refine ⟨ab.cani 6 rfl rfl, thenW_in fun ct dq => ?_⟩
    have ec := d1.x_set (q := w.heap.size) (i := 6) rfl (.inl rfl) dq
    have ab : Blk ct w.heap.size 44 [.int .i64 ad, .int .i64 ag, .int .u64 ak, .int .i64 am, .int .i64 aj, .int .i64 a9, .slice a7 a8 a6, .int .u64 ah, .int .i64 a3, .int .i64 a5, .int .u64 aa, .int .i64 af, .int .i64 ae, .int .i64 a4, .slice a1 a0 a2, .int .u64 ac] := ab.seti 6 rfl dq
    refine ⟨ab.cani 7 rfl rfl, thenW_in fun ej da => ?_⟩
    have d8 := ec.x_set (q := w.heap.size) (i := 7) rfl (.inl rfl) da
    have ab : Blk ej w.heap.size 44 [.int .i64 ad, .int .i64 ag, .int .u64 ak, .int .i64 am, .int .i64 aj, .int .i64 a9, .slice a7 a8 a6, .int .u64 ah, .int .i64 a3, .int .i64 a5, .int .u64 aa, .int .i64 af, .int .i64 ae, .int .i64 a4, .slice a1 a0 a2, .int .u64 ac] := ab.seti 7 rfl da
    refine ⟨ab.cani 8 rfl rfl, thenW_in fun cz eg => ?_⟩
    have co := d8.x_set (q := w.heap.size) (i := 8) rfl (.inl rfl) eg
    have ab : Blk cz w.heap.size 44 [.int .i64 ad, .int .i64 ag, .int .u64 ak, .int .i64 am, .int .i64 aj, .int .i64 a9, .slice a7 a8 a6, .int .u64 ah, .int .i64 a3, .int .i64 a5, .int .u64 aa, .int .i64 af, .int .i64 ae, .int .i64 a4, .slice a1 a0 a2, .int .u64 ac] := ab.seti 8 rfl eg
    refine ⟨ab.cani 9 rfl rfl, thenW_in fun ek dw => ?_⟩
    have d2 := co.x_set (q := w.heap.size) (i := 9) rfl (.inl rfl) dw
    have ab : Blk ek w.heap.size 44 [.int .i64 ad, .int .i64 ag, .int .u64 ak, .int .i64 am, .int .i64 aj, .int .i64 a9, .slice a7 a8 a6, .int .u64 ah, .int .i64 a3, .int .i64 a5, .int .u64 aa, .int .i64 af, .int .i64 ae, .int .i64 a4, .slice a1 a0 a2, .int .u64 ac] := ab.seti 9 rfl dw
    refine ⟨ab.cani 10 rfl rfl, thenW_in fun du dv => ?_⟩
    have e1 := d2.x_set (q := w.heap.size) (i := 10) rfl (.inl rfl) dv
    have ab : Blk du w.heap.size 44 [.int .i64 ad, .int .i64 ag, .int .u64 ak, .int .i64 am, .int .i64 aj, .int .i64 a9, .slice a7 a8 a6, .int .u64 ah, .int .i64 a3, .int .i64 a5, .int .u64 aa, .int .i64 af, .int .i64 ae, .int .i64 a4, .slice a1 a0 a2, .int .u64 ac] := ab.seti 10 rfl dv
    refine ⟨ab.cani 11 rfl rfl, thenW_in fun cx d3 => ?_⟩
    have cw := e1.x_set (q := w.heap.size) (i := 11) rfl (.inl rfl) d3
    have ab : Blk cx w.heap.size 44 [.int .i64 ad, .int .i64 ag, .int .u64 ak, .int .i64 am, .int .i64 aj, .int .i64 a9, .slice a7 a8 a6, .int .u64 ah, .int .i64 a3, .int .i64 a5, .int .u64 aa, .int .i64 af, .int .i64 ae, .int .i64 a4, .slice a1 a0 a2, .int .u64 ac] := ab.seti 11 rfl d3
    refine ⟨ab.cani 12 rfl rfl, thenW_in fun dh cy => ?_⟩
    have e2 := cw.x_set (q := w.heap.size) (i := 12) rfl (.inl rfl) cy
    have ab : Blk dh w.heap.size 44 [.int .i64 ad, .int .i64 ag, .int .u64 ak, .int .i64 am, .int .i64 aj, .int .i64 a9, .slice a7 a8 a6, .int .u64 ah, .int .i64 a3, .int .i64 a5, .int .u64 aa, .int .i64 af, .int .i64 ae, .int .i64 a4, .slice a1 a0 a2, .int .u64 ac] := ab.seti 12 rfl cy
    refine ⟨ab.cani 13 rfl rfl, thenW_in fun dl ee => ?_⟩
    have dn := e2.x_set (q := w.heap.size) (i := 13) rfl (.inl rfl) ee
    have ab : Blk dl w.heap.size 44 [.int .i64 ad, .int .i64 ag, .int .u64 ak, .int .i64 am, .int .i64 aj, .int .i64 a9, .slice a7 a8 a6, .int .u64 ah, .int .i64 a3, .int .i64 a5, .int .u64 aa, .int .i64 af, .int .i64 ae, .int .i64 a4, .slice a1 a0 a2, .int .u64 ac] := ab.seti 13 rfl ee
    refine ⟨ab.cani 14 rfl rfl, thenW_in fun cn dx => ?_⟩
    have ed := dn.x_set (q := w.heap.size) (i := 14) rfl (.inl rfl) dx
    have ab : Blk cn w.heap.size 44 [.int .i64 ad, .int .i64 ag, .int .u64 ak, .int .i64 am, .int .i64 aj, .int .i64 a9, .slice a7 a8 a6, .int .u64 ah, .int .i64 a3, .int .i64 a5, .int .u64 aa, .int .i64 af, .int .i64 ae, .int .i64 a4, .slice a1 a0 a2, .int .u64 ac] := ab.seti 14 rfl dx
    refine ⟨ab.cani 15 rfl rfl, thenW_in fun c1 cr => ?_⟩
    have dp := ed.x_set (q := w.heap.size) (i := 15) rfl (.inl rfl) cr
    have ab : Blk c1 w.heap.size 44 [.int .i64 ad, .int .i64 ag, .int .u64 ak, .int .i64 am, .int .i64 aj, .int .i64 a9, .slice a7 a8 a6, .int .u64 ah, .int .i64 a3, .int .i64 a5, .int .u64 aa, .int .i64 af, .int .i64 ae, .int .i64 a4, .slice a1 a0 a2, .int .u64 ac] := ab.seti 15 rfl cr
    refine ⟨ad, ag, ak, am, aj, a9, a7, a8, a6, ah, a3, a5, aa, af, ae, a4, a1, a0, a2, ac, ⟨ab.celli 0 rfl rfl, ab.celli 1 rfl rfl, ab.celli 2 rfl rfl, ab.celli 3 rfl rfl, ab.celli 4 rfl rfl, ab.celli 5 rfl rfl, ab.celli 6 rfl rfl, ab.celli 7 rfl rfl, ab.celli 8 rfl rfl, ab.celli 9 rfl rfl, ab.celli 10 rfl rfl, ab.celli 11 rfl rfl, ab.celli 12 rfl rfl, ab.celli 13 rfl rfl, ab.celli 14 rfl rfl, ab.celli 15 rfl rfl, trivial⟩, ?_⟩
    have h := h c1 dp
    exact h

theorem forkcheck_Find.go (a0 : Option Addr) (a2 : Nat) (a3 : Nat) (a4 : Option Addr) (a1 : Nat) (a5 : Nat) {R : Value → World → Prop} {w : World} (h : forkcheck_Find.N a0 a2 a3 a4 a1 a5 R w) : Calls Try.prog 11 #[.slice a0 a2 a3, .slice a4 a1 a5] w fun e w' => ∃ v, e = .returned v ∧ R v w' := forkcheck_Find.ok a0 a2 a3 a4 a1 a5 (forkcheck_Find.up a0 a2 a3 a4 a1 a5 h)
/-- cachetteref23.Same -/
def cachetteref23_Same.M (b0 : Int) (bq : Int) (c5 : Int) (cb : Int) (cc : Int) (bw : Int) (bt : Option Addr) (bf : Nat) (bi : Nat) (cd : Int) (b7 : Int) (aw : Int) (bn : Int) (c2 : Int) (c4 : Int) (az : Int) (b1 : Option Addr) (b5 : Nat) (bb : Nat) (c6 : Int) (ap : Int) (b8 : Int) (bu : Int) (c9 : Int) (c8 : Int) (bc : Int) (b4 : Option Addr) (ay : Nat) (b3 : Nat) (c3 : Int) (ao : Int) (b2 : Int) (br : Int) (c1 : Int) (ca : Int) (b6 : Int) (ax : Option Addr) (b9 : Nat) (ba : Nat) (c0 : Int) (R : Value → World → Prop) (w : World) : Prop :=
 thenW (w.alloc (.cells #[.int .i64 b0, .int .i64 bq, .int .u64 c5, .int .i64 cb, .int .i64 cc, .int .i64 bw, .slice bt bf bi, .int .u64 cd, .int .i64 b7, .int .i64 aw, .int .u64 bn, .int .i64 c2, .int .i64 c4, .int .i64 az, .slice b1 b5 bb, .int .u64 c6] 52)) fun ce =>
 thenW (ce.alloc (.cells #[.int .i64 ap, .int .i64 b8, .int .u64 bu, .int .i64 c9, .int .i64 c8, .int .i64 bc, .slice b4 ay b3, .int .u64 c3, .int .i64 ao, .int .i64 b2, .int .u64 br, .int .i64 c1, .int .i64 ca, .int .i64 b6, .slice ax b9 ba, .int .u64 c0] 52)) fun cf =>
 ∃ (a1 : Int) (a5 : Int) (ar : Int) (bg : Int) (bl : Int) (an : Int) (a4 : Option Addr) (ai : Nat) (ae : Nat) (bo : Int), cellsAt cf ((blk w.heap.size).add 0) [.int .i64 a1, .int .i64 a5, .int .u64 ar, .int .i64 bg, .int .i64 bl, .int .i64 an, .slice a4 ai ae, .int .u64 bo] 0 ∧
 ∃ (a2 : Int) (ad : Int) (aq : Int) (bm : Int) (bj : Int) (ag : Int) (a6 : Option Addr) (aj : Nat) (a8 : Nat) (bp : Int), cellsAt cf ((blk ce.heap.size).add 0) [.int .i64 a2, .int .i64 ad, .int .u64 aq, .int .i64 bm, .int .i64 bj, .int .i64 ag, .slice a6 aj a8, .int .u64 bp] 0 ∧
 Calls Try.prog 46 #[.agg #[.int .i64 a1, .int .i64 a5, .int .u64 ar, .int .i64 bg, .int .i64 bl, .int .i64 an, .slice a4 ai ae, .int .u64 bo], .agg #[.int .i64 a2, .int .i64 ad, .int .u64 aq, .int .i64 bm, .int .i64 bj, .int .i64 ag, .slice a6 aj a8, .int .u64 bp]] cf fun cg c7 => ∃ (bx : Bool), cg = .returned (.bool bx) ∧
 bif bx then (
 ∃ (a3 : Int) (ak : Int) (au : Int) (bv : Int) (bz : Int) (a7 : Int) (al : Option Addr) (ac : Nat) (ab : Nat) (bh : Int), cellsAt c7 ((blk w.heap.size).add 8) [.int .i64 a3, .int .i64 ak, .int .u64 au, .int .i64 bv, .int .i64 bz, .int .i64 a7, .slice al ac ab, .int .u64 bh] 0 ∧
 ∃ (a0 : Int) (ah : Int) (av : Int) (bk : Int) (be : Int) (a9 : Int) (af : Option Addr) (aa : Nat) (am : Nat) (bd : Int), cellsAt c7 ((blk ce.heap.size).add 8) [.int .i64 a0, .int .i64 ah, .int .u64 av, .int .i64 bk, .int .i64 be, .int .i64 a9, .slice af aa am, .int .u64 bd] 0 ∧
 Calls Try.prog 46 #[.agg #[.int .i64 a3, .int .i64 ak, .int .u64 au, .int .i64 bv, .int .i64 bz, .int .i64 a7, .slice al ac ab, .int .u64 bh], .agg #[.int .i64 a0, .int .i64 ah, .int .u64 av, .int .i64 bk, .int .i64 be, .int .i64 a9, .slice af aa am, .int .u64 bd]] c7 fun ci ch => ∃ (bs : Bool), ci = .returned (.bool bs) ∧
 R (.bool bs) ch) else (
 R (.bool false) c7)

theorem cachetteref23_Same.eq (aAWriter1 : Int) (aAIndex2 : Int) (aAPrev3 : Int) (aAAtT4 : Int) (aAAtW5 : Int) (aAEpoch6 : Int) (aABody7a : Option Addr) (aABody7n : Nat) (aABody7c : Nat) (aASig8 : Int) (aBWriter9 : Int) (aBIndex10 : Int) (aBPrev11 : Int) (aBAtT12 : Int) (aBAtW13 : Int) (aBEpoch14 : Int) (aBBody15a : Option Addr) (aBBody15n : Nat) (aBBody15c : Nat) (aBSig16 : Int) (bAWriter17 : Int) (bAIndex18 : Int) (bAPrev19 : Int) (bAAtT20 : Int) (bAAtW21 : Int) (bAEpoch22 : Int) (bABody23a : Option Addr) (bABody23n : Nat) (bABody23c : Nat) (bASig24 : Int) (bBWriter25 : Int) (bBIndex26 : Int) (bBPrev27 : Int) (bBAtT28 : Int) (bBAtW29 : Int) (bBEpoch30 : Int) (bBBody31a : Option Addr) (bBBody31n : Nat) (bBBody31c : Nat) (bBSig32 : Int) (R : Value → World → Prop) (w : World) : mfunc Try.prog [] 15 [.agg #[.int .i64 aAWriter1, .int .i64 aAIndex2, .int .u64 aAPrev3, .int .i64 aAAtT4, .int .i64 aAAtW5, .int .i64 aAEpoch6, .slice aABody7a aABody7n aABody7c, .int .u64 aASig8, .int .i64 aBWriter9, .int .i64 aBIndex10, .int .u64 aBPrev11, .int .i64 aBAtT12, .int .i64 aBAtW13, .int .i64 aBEpoch14, .slice aBBody15a aBBody15n aBBody15c, .int .u64 aBSig16], .agg #[.int .i64 bAWriter17, .int .i64 bAIndex18, .int .u64 bAPrev19, .int .i64 bAAtT20, .int .i64 bAAtW21, .int .i64 bAEpoch22, .slice bABody23a bABody23n bABody23c, .int .u64 bASig24, .int .i64 bBWriter25, .int .i64 bBIndex26, .int .u64 bBPrev27, .int .i64 bBAtT28, .int .i64 bBAtW29, .int .i64 bBEpoch30, .slice bBBody31a bBBody31n bBBody31c, .int .u64 bBSig32]] R w = cachetteref23_Same.M aAWriter1 aAIndex2 aAPrev3 aAAtT4 aAAtW5 aAEpoch6 aABody7a aABody7n aABody7c aASig8 aBWriter9 aBIndex10 aBPrev11 aBAtT12 aBAtW13 aBEpoch14 aBBody15a aBBody15n aBBody15c aBSig16 bAWriter17 bAIndex18 bAPrev19 bAAtT20 bAAtW21 bAEpoch22 bABody23a bABody23n bABody23c bASig24 bBWriter25 bBIndex26 bBPrev27 bBAtT28 bBAtW29 bBEpoch30 bBBody31a bBBody31n bBBody31c bBSig32 R w := by kernel_rfl
theorem cachetteref23_Same.ok (ad : Int) (aq : Int) (av : Int) (b4 : Int) (b3 : Int) (ap : Int) (an : Option Addr) (am : Nat) (al : Nat) (b5 : Int) (a8 : Int) (a2 : Int) (ak : Int) (au : Int) (ax : Int) (aa : Int) (ag : Option Addr) (a4 : Nat) (ai : Nat) (ay : Int) (a0 : Int) (ab : Int) (ao : Int) (az : Int) (b0 : Int) (ah : Int) (ac : Option Addr) (a7 : Nat) (a9 : Nat) (aw : Int) (a1 : Int) (a3 : Int) (aj : Int) (b1 : Int) (b2 : Int) (a5 : Int) (a6 : Option Addr) (ae : Nat) (af : Nat) (ar : Int) {R : Value → World → Prop} {w : World} (h : cachetteref23_Same.M ad aq av b4 b3 ap an am al b5 a8 a2 ak au ax aa ag a4 ai ay a0 ab ao az b0 ah ac a7 a9 aw a1 a3 aj b1 b2 a5 a6 ae af ar R w) : Calls Try.prog 15 #[.agg #[.int .i64 ad, .int .i64 aq, .int .u64 av, .int .i64 b4, .int .i64 b3, .int .i64 ap, .slice an am al, .int .u64 b5, .int .i64 a8, .int .i64 a2, .int .u64 ak, .int .i64 au, .int .i64 ax, .int .i64 aa, .slice ag a4 ai, .int .u64 ay], .agg #[.int .i64 a0, .int .i64 ab, .int .u64 ao, .int .i64 az, .int .i64 b0, .int .i64 ah, .slice ac a7 a9, .int .u64 aw, .int .i64 a1, .int .i64 a3, .int .u64 aj, .int .i64 b1, .int .i64 b2, .int .i64 a5, .slice a6 ae af, .int .u64 ar]] w fun e w' => ∃ v, e = .returned v ∧ R v w' :=
  mfunc_ok follows (H := []) (args := [.agg #[.int .i64 ad, .int .i64 aq, .int .u64 av, .int .i64 b4, .int .i64 b3, .int .i64 ap, .slice an am al, .int .u64 b5, .int .i64 a8, .int .i64 a2, .int .u64 ak, .int .i64 au, .int .i64 ax, .int .i64 aa, .slice ag a4 ai, .int .u64 ay], .agg #[.int .i64 a0, .int .i64 ab, .int .u64 ao, .int .i64 az, .int .i64 b0, .int .i64 ah, .slice ac a7 a9, .int .u64 aw, .int .i64 a1, .int .i64 a3, .int .u64 aj, .int .i64 b1, .int .i64 b2, .int .i64 a5, .slice a6 ae af, .int .u64 ar]]) (by rw [cachetteref23_Same.eq]; exact h)

def cachetteref23_Same.N (ae : Int) (au : Int) (ay : Int) (b8 : Int) (b7 : Int) (ar : Int) (ap : Option Addr) (ao : Nat) (am : Nat) (b9 : Int) (a9 : Int) (a3 : Int) (al : Int) (ax : Int) (b0 : Int) (ab : Int) (ah : Option Addr) (a5 : Nat) (aj : Nat) (b1 : Int) (a1 : Int) (ac : Int) (aq : Int) (b2 : Int) (b3 : Int) (ai : Int) (ad : Option Addr) (a8 : Nat) (aa : Nat) (az : Int) (a2 : Int) (a4 : Int) (ak : Int) (b4 : Int) (b5 : Int) (a6 : Int) (a7 : Option Addr) (af : Nat) (ag : Nat) (av : Int) (R : Value → World → Prop) (w : World) : Prop :=
 ∀ (aw : World) (be : Nat) (bd : Nat), Ext no w aw → Priv w aw [be, bd] →
 Calls Try.prog 46 #[.agg #[.int .i64 ae, .int .i64 au, .int .u64 ay, .int .i64 b8, .int .i64 b7, .int .i64 ar, .slice ap ao am, .int .u64 b9], .agg #[.int .i64 a1, .int .i64 ac, .int .u64 aq, .int .i64 b2, .int .i64 b3, .int .i64 ai, .slice ad a8 aa, .int .u64 az]] aw fun bc b6 => ∃ (a0 : Bool), bc = .returned (.bool a0) ∧
 Keep [be, bd] aw b6 ∧
 (a0 = true →
 Calls Try.prog 46 #[.agg #[.int .i64 a9, .int .i64 a3, .int .u64 al, .int .i64 ax, .int .i64 b0, .int .i64 ab, .slice ah a5 aj, .int .u64 b1], .agg #[.int .i64 a2, .int .i64 a4, .int .u64 ak, .int .i64 b4, .int .i64 b5, .int .i64 a6, .slice a7 af ag, .int .u64 av]] b6 fun ba bb => ∃ (an : Bool), ba = .returned (.bool an) ∧
 R (.bool an) bb) ∧
 (a0 = false →
 R (.bool false) b6)

theorem cachetteref23_Same.up (ad : Int) (aq : Int) (aw : Int) (b6 : Int) (b5 : Int) (ap : Int) (an : Option Addr) (am : Nat) (al : Nat) (b7 : Int) (a8 : Int) (a2 : Int) (ak : Int) (av : Int) (az : Int) (aa : Int) (ag : Option Addr) (a4 : Nat) (ai : Nat) (b0 : Int) (a0 : Int) (ab : Int) (ao : Int) (b1 : Int) (b2 : Int) (ah : Int) (ac : Option Addr) (a7 : Nat) (a9 : Nat) (ay : Int) (a1 : Int) (a3 : Int) (aj : Int) (b3 : Int) (b4 : Int) (a5 : Int) (a6 : Option Addr) (ae : Nat) (af : Nat) (au : Int) {R : Value → World → Prop} {w : World} (h : cachetteref23_Same.N ad aq aw b6 b5 ap an am al b7 a8 a2 ak av az aa ag a4 ai b0 a0 ab ao b1 b2 ah ac a7 a9 ay a1 a3 aj b3 b4 a5 a6 ae af au R w) : cachetteref23_Same.M ad aq aw b6 b5 ap an am al b7 a8 a2 ak av az aa ag a4 ai b0 a0 ab ao b1 b2 ah ac a7 a9 ay a1 a3 aj b3 b4 a5 a6 ae af au R w := by
  unfold cachetteref23_Same.M
  unfold cachetteref23_Same.N at h
  refine thenW_in fun bc bh => ?_
  have ar := Blk.of_new bh
  have bj := ((Ext.refl no w)).size
  have ba := (Ext.refl no w).x_alloc bh
  refine thenW_in fun bb bf => ?_
  have ax := Blk.of_new bf
  have bl := (ba).size
  have bg := Nat.ne_of_lt ar.lt
  have ar := ar.x_alloc bf
  have be := ba.x_alloc bf
  refine ⟨ad, aq, aw, b6, b5, ap, an, am, al, b7, ⟨ar.celli 0 rfl rfl, ar.celli 1 rfl rfl, ar.celli 2 rfl rfl, ar.celli 3 rfl rfl, ar.celli 4 rfl rfl, ar.celli 5 rfl rfl, ar.celli 6 rfl rfl, ar.celli 7 rfl rfl, trivial⟩, ?_⟩
  refine ⟨a0, ab, ao, b1, b2, ah, ac, a7, a9, ay, ⟨ax.celli 0 rfl rfl, ax.celli 1 rfl rfl, ax.celli 2 rfl rfl, ax.celli 3 rfl rfl, ax.celli 4 rfl rfl, ax.celli 5 rfl rfl, ax.celli 6 rfl rfl, ax.celli 7 rfl rfl, trivial⟩, ?_⟩
  have h := h bb (w.heap.size) (bc.heap.size) be (Priv.cons bj ar.lt (Priv.cons bl ax.lt Priv.nil))
  refine h.mono fun bn bi h => ?_
  obtain ⟨b9, he, hk, h⟩ := h
  refine ⟨b9, he, ?_⟩
  have ar := hk.blk ar (by simp)
  have ax := hk.blk ax (by simp)
  refine bif_of (fun bd => ?_) (fun bd => ?_)
  · have h := h.1 bd
    refine ⟨a8, a2, ak, av, az, aa, ag, a4, ai, b0, ⟨ar.celli 8 rfl rfl, ar.celli 9 rfl rfl, ar.celli 10 rfl rfl, ar.celli 11 rfl rfl, ar.celli 12 rfl rfl, ar.celli 13 rfl rfl, ar.celli 14 rfl rfl, ar.celli 15 rfl rfl, trivial⟩, ?_⟩
    refine ⟨a1, a3, aj, b3, b4, a5, a6, ae, af, au, ⟨ax.celli 8 rfl rfl, ax.celli 9 rfl rfl, ax.celli 10 rfl rfl, ax.celli 11 rfl rfl, ax.celli 12 rfl rfl, ax.celli 13 rfl rfl, ax.celli 14 rfl rfl, ax.celli 15 rfl rfl, trivial⟩, ?_⟩
    refine h.mono fun bk bm h => ?_
    obtain ⟨b8, he, h⟩ := h
    refine ⟨b8, he, ?_⟩
    exact h
  · have h := h.2 bd
    exact h

theorem cachetteref23_Same.go (ad : Int) (aq : Int) (av : Int) (b4 : Int) (b3 : Int) (ap : Int) (an : Option Addr) (am : Nat) (al : Nat) (b5 : Int) (a8 : Int) (a2 : Int) (ak : Int) (au : Int) (ax : Int) (aa : Int) (ag : Option Addr) (a4 : Nat) (ai : Nat) (ay : Int) (a0 : Int) (ab : Int) (ao : Int) (az : Int) (b0 : Int) (ah : Int) (ac : Option Addr) (a7 : Nat) (a9 : Nat) (aw : Int) (a1 : Int) (a3 : Int) (aj : Int) (b1 : Int) (b2 : Int) (a5 : Int) (a6 : Option Addr) (ae : Nat) (af : Nat) (ar : Int) {R : Value → World → Prop} {w : World} (h : cachetteref23_Same.N ad aq av b4 b3 ap an am al b5 a8 a2 ak au ax aa ag a4 ai ay a0 ab ao az b0 ah ac a7 a9 aw a1 a3 aj b1 b2 a5 a6 ae af ar R w) : Calls Try.prog 15 #[.agg #[.int .i64 ad, .int .i64 aq, .int .u64 av, .int .i64 b4, .int .i64 b3, .int .i64 ap, .slice an am al, .int .u64 b5, .int .i64 a8, .int .i64 a2, .int .u64 ak, .int .i64 au, .int .i64 ax, .int .i64 aa, .slice ag a4 ai, .int .u64 ay], .agg #[.int .i64 a0, .int .i64 ab, .int .u64 ao, .int .i64 az, .int .i64 b0, .int .i64 ah, .slice ac a7 a9, .int .u64 aw, .int .i64 a1, .int .i64 a3, .int .u64 aj, .int .i64 b1, .int .i64 b2, .int .i64 a5, .slice a6 ae af, .int .u64 ar]] w fun e w' => ∃ v, e = .returned v ∧ R v w' := cachetteref23_Same.ok ad aq av b4 b3 ap an am al b5 a8 a2 ak au ax aa ag a4 ai ay a0 ab ao az b0 ah ac a7 a9 aw a1 a3 aj b1 b2 a5 a6 ae af ar (cachetteref23_Same.up ad aq av b4 b3 ap an am al b5 a8 a2 ak au ax aa ag a4 ai ay a0 ab ao az b0 ah ac a7 a9 aw a1 a3 aj b1 b2 a5 a6 ae af ar h)
theorem cachetteref23_Same.run (ad : Int) (aq : Int) (av : Int) (b4 : Int) (b3 : Int) (ap : Int) (an : Option Addr) (am : Nat) (al : Nat) (b5 : Int) (a8 : Int) (a2 : Int) (ak : Int) (au : Int) (ax : Int) (aa : Int) (ag : Option Addr) (a4 : Nat) (ai : Nat) (ay : Int) (a0 : Int) (ab : Int) (ao : Int) (az : Int) (b0 : Int) (ah : Int) (ac : Option Addr) (a7 : Nat) (a9 : Nat) (aw : Int) (a1 : Int) (a3 : Int) (aj : Int) (b1 : Int) (b2 : Int) (a5 : Int) (a6 : Option Addr) (ae : Nat) (af : Nat) (ar : Int) {V : Value} {Q : World → Prop} {w : World} (h : cachetteref23_Same.N ad aq av b4 b3 ap an am al b5 a8 a2 ak au ax aa ag a4 ai ay a0 ab ao az b0 ah ac a7 a9 aw a1 a3 aj b1 b2 a5 a6 ae af ar (fun v w' => v = V ∧ Q w') w) : Calls Try.prog 15 #[.agg #[.int .i64 ad, .int .i64 aq, .int .u64 av, .int .i64 b4, .int .i64 b3, .int .i64 ap, .slice an am al, .int .u64 b5, .int .i64 a8, .int .i64 a2, .int .u64 ak, .int .i64 au, .int .i64 ax, .int .i64 aa, .slice ag a4 ai, .int .u64 ay], .agg #[.int .i64 a0, .int .i64 ab, .int .u64 ao, .int .i64 az, .int .i64 b0, .int .i64 ah, .slice ac a7 a9, .int .u64 aw, .int .i64 a1, .int .i64 a3, .int .u64 aj, .int .i64 b1, .int .i64 b2, .int .i64 a5, .slice a6 ae af, .int .u64 ar]] w (Ret V Q) := (cachetteref23_Same.go ad aq av b4 b3 ap an am al b5 a8 a2 ak au ax aa ag a4 ai ay a0 ab ao az b0 ah ac a7 a9 aw a1 a3 aj b1 b2 a5 a6 ae af ar h).mono fun e w' ⟨v, he, hv, hq⟩ => ⟨by rw [he, hv], hq⟩

/-- cachettelaw23.back -/
def cachettelaw23_back.M (b2 : Int) (be : Int) (bn : Int) (br : Int) (bp : Int) (bg : Int) (b8 : Option Addr) (bd : Nat) (bi : Nat) (bq : Int) (b7 : Int) (b6 : Int) (bb : Int) (bk : Int) (bo : Int) (b5 : Int) (b3 : Option Addr) (b1 : Nat) (b4 : Nat) (bm : Int) (R : Value → World → Prop) (w : World) : Prop :=
 thenW (w.alloc (.cells #[.int .i64 b2, .int .i64 be, .int .u64 bn, .int .i64 br, .int .i64 bp, .int .i64 bg, .slice b8 bd bi, .int .u64 bq, .int .i64 b7, .int .i64 b6, .int .u64 bb, .int .i64 bk, .int .i64 bo, .int .i64 b5, .slice b3 b1 b4, .int .u64 bm] 44)) fun a0 =>
 thenW (a0.alloc (.cells #[.int .i64 0, .int .i64 0, .int .u64 0, .int .i64 0, .int .i64 0, .int .i64 0, .slice none 0 0, .int .u64 0, .int .i64 0, .int .i64 0, .int .u64 0, .int .i64 0, .int .i64 0, .int .i64 0, .slice none 0 0, .int .u64 0] 52)) fun bl =>
 ∃ (ak : Int) (av : Int) (b0 : Int) (b9 : Int) (bc : Int) (aq : Int) (ap : Option Addr) (au : Nat) (ar : Nat) (bf : Int), cellsAt bl ((blk w.heap.size).add 0) [.int .i64 ak, .int .i64 av, .int .u64 b0, .int .i64 b9, .int .i64 bc, .int .i64 aq, .slice ap au ar, .int .u64 bf] 0 ∧
 ∃ (ai : Int) (ay : Int) (az : Int) (ba : Int) (bh : Int) (aw : Int) (ao : Option Addr) (an : Nat) (ax : Nat) (bj : Int), cellsAt bl ((blk w.heap.size).add 8) [.int .i64 ai, .int .i64 ay, .int .u64 az, .int .i64 ba, .int .i64 bh, .int .i64 aw, .slice ao an ax, .int .u64 bj] 0 ∧
 canStore bl ((blk a0.heap.size).add 0) ∧
 thenW (bl.setCell ((blk a0.heap.size).add 0) (.int .i64 ak)) fun bx =>
 canStore bx ((blk a0.heap.size).add 1) ∧
 thenW (bx.setCell ((blk a0.heap.size).add 1) (.int .i64 av)) fun c0 =>
 canStore c0 ((blk a0.heap.size).add 2) ∧
 thenW (c0.setCell ((blk a0.heap.size).add 2) (.int .u64 b0)) fun c2 =>
 canStore c2 ((blk a0.heap.size).add 3) ∧
 thenW (c2.setCell ((blk a0.heap.size).add 3) (.int .i64 b9)) fun c6 =>
 canStore c6 ((blk a0.heap.size).add 4) ∧
 thenW (c6.setCell ((blk a0.heap.size).add 4) (.int .i64 bc)) fun bs =>
 canStore bs ((blk a0.heap.size).add 5) ∧
 thenW (bs.setCell ((blk a0.heap.size).add 5) (.int .i64 aq)) fun c8 =>
 canStore c8 ((blk a0.heap.size).add 6) ∧
 thenW (c8.setCell ((blk a0.heap.size).add 6) (.slice ap au ar)) fun c3 =>
 canStore c3 ((blk a0.heap.size).add 7) ∧
 thenW (c3.setCell ((blk a0.heap.size).add 7) (.int .u64 bf)) fun c1 =>
 canStore c1 ((blk a0.heap.size).add 8) ∧
 thenW (c1.setCell ((blk a0.heap.size).add 8) (.int .i64 ai)) fun bz =>
 canStore bz ((blk a0.heap.size).add 9) ∧
 thenW (bz.setCell ((blk a0.heap.size).add 9) (.int .i64 ay)) fun bt =>
 canStore bt ((blk a0.heap.size).add 10) ∧
 thenW (bt.setCell ((blk a0.heap.size).add 10) (.int .u64 az)) fun bv =>
 canStore bv ((blk a0.heap.size).add 11) ∧
 thenW (bv.setCell ((blk a0.heap.size).add 11) (.int .i64 ba)) fun c5 =>
 canStore c5 ((blk a0.heap.size).add 12) ∧
 thenW (c5.setCell ((blk a0.heap.size).add 12) (.int .i64 bh)) fun c4 =>
 canStore c4 ((blk a0.heap.size).add 13) ∧
 thenW (c4.setCell ((blk a0.heap.size).add 13) (.int .i64 aw)) fun bu =>
 canStore bu ((blk a0.heap.size).add 14) ∧
 thenW (bu.setCell ((blk a0.heap.size).add 14) (.slice ao an ax)) fun bw =>
 canStore bw ((blk a0.heap.size).add 15) ∧
 thenW (bw.setCell ((blk a0.heap.size).add 15) (.int .u64 bj)) fun c7 =>
 ∃ (a1 : Int) (a6 : Int) (ae : Int) (aj : Int) (ag : Int) (ab : Int) (ac : Option Addr) (a3 : Nat) (a7 : Nat) (al : Int) (a2 : Int) (a8 : Int) (ad : Int) (af : Int) (ah : Int) (a5 : Int) (aa : Option Addr) (a9 : Nat) (a4 : Nat) (am : Int), cellsAt c7 (blk a0.heap.size) [.int .i64 a1, .int .i64 a6, .int .u64 ae, .int .i64 aj, .int .i64 ag, .int .i64 ab, .slice ac a3 a7, .int .u64 al, .int .i64 a2, .int .i64 a8, .int .u64 ad, .int .i64 af, .int .i64 ah, .int .i64 a5, .slice aa a9 a4, .int .u64 am] 0 ∧
 R (.agg #[.int .i64 a1, .int .i64 a6, .int .u64 ae, .int .i64 aj, .int .i64 ag, .int .i64 ab, .slice ac a3 a7, .int .u64 al, .int .i64 a2, .int .i64 a8, .int .u64 ad, .int .i64 af, .int .i64 ah, .int .i64 a5, .slice aa a9 a4, .int .u64 am]) c7

theorem cachettelaw23_back.eq (pAWriter1 : Int) (pAIndex2 : Int) (pAPrev3 : Int) (pAAtT4 : Int) (pAAtW5 : Int) (pAEpoch6 : Int) (pABody7a : Option Addr) (pABody7n : Nat) (pABody7c : Nat) (pASig8 : Int) (pBWriter9 : Int) (pBIndex10 : Int) (pBPrev11 : Int) (pBAtT12 : Int) (pBAtW13 : Int) (pBEpoch14 : Int) (pBBody15a : Option Addr) (pBBody15n : Nat) (pBBody15c : Nat) (pBSig16 : Int) (R : Value → World → Prop) (w : World) : mfunc Try.prog [] 16 [.agg #[.int .i64 pAWriter1, .int .i64 pAIndex2, .int .u64 pAPrev3, .int .i64 pAAtT4, .int .i64 pAAtW5, .int .i64 pAEpoch6, .slice pABody7a pABody7n pABody7c, .int .u64 pASig8, .int .i64 pBWriter9, .int .i64 pBIndex10, .int .u64 pBPrev11, .int .i64 pBAtT12, .int .i64 pBAtW13, .int .i64 pBEpoch14, .slice pBBody15a pBBody15n pBBody15c, .int .u64 pBSig16]] R w = cachettelaw23_back.M pAWriter1 pAIndex2 pAPrev3 pAAtT4 pAAtW5 pAEpoch6 pABody7a pABody7n pABody7c pASig8 pBWriter9 pBIndex10 pBPrev11 pBAtT12 pBAtW13 pBEpoch14 pBBody15a pBBody15n pBBody15c pBSig16 R w := by kernel_rfl
theorem cachettelaw23_back.ok (a6 : Int) (a8 : Int) (ae : Int) (aj : Int) (ah : Int) (ac : Int) (a9 : Option Addr) (a7 : Nat) (aa : Nat) (ai : Int) (a3 : Int) (a5 : Int) (ab : Int) (ag : Int) (af : Int) (a4 : Int) (a0 : Option Addr) (a1 : Nat) (a2 : Nat) (ad : Int) {R : Value → World → Prop} {w : World} (h : cachettelaw23_back.M a6 a8 ae aj ah ac a9 a7 aa ai a3 a5 ab ag af a4 a0 a1 a2 ad R w) : Calls Try.prog 16 #[.agg #[.int .i64 a6, .int .i64 a8, .int .u64 ae, .int .i64 aj, .int .i64 ah, .int .i64 ac, .slice a9 a7 aa, .int .u64 ai, .int .i64 a3, .int .i64 a5, .int .u64 ab, .int .i64 ag, .int .i64 af, .int .i64 a4, .slice a0 a1 a2, .int .u64 ad]] w fun e w' => ∃ v, e = .returned v ∧ R v w' :=
  mfunc_ok follows (H := []) (args := [.agg #[.int .i64 a6, .int .i64 a8, .int .u64 ae, .int .i64 aj, .int .i64 ah, .int .i64 ac, .slice a9 a7 aa, .int .u64 ai, .int .i64 a3, .int .i64 a5, .int .u64 ab, .int .i64 ag, .int .i64 af, .int .i64 a4, .slice a0 a1 a2, .int .u64 ad]]) (by rw [cachettelaw23_back.eq]; exact h)

def cachettelaw23_back.N (a6 : Int) (a8 : Int) (ae : Int) (aj : Int) (ah : Int) (ac : Int) (a9 : Option Addr) (a7 : Nat) (aa : Nat) (ai : Int) (a3 : Int) (a5 : Int) (ab : Int) (ag : Int) (af : Int) (a4 : Int) (a0 : Option Addr) (a1 : Nat) (a2 : Nat) (ad : Int) (R : Value → World → Prop) (w : World) : Prop :=
 ∀ (ak : World), Ext no w ak →
 R (.agg #[.int .i64 a6, .int .i64 a8, .int .u64 ae, .int .i64 aj, .int .i64 ah, .int .i64 ac, .slice a9 a7 aa, .int .u64 ai, .int .i64 a3, .int .i64 a5, .int .u64 ab, .int .i64 ag, .int .i64 af, .int .i64 a4, .slice a0 a1 a2, .int .u64 ad]) ak

theorem cachettelaw23_back.up (a0 : Int) (a1 : Int) (a3 : Int) (a9 : Int) (aa : Int) (a2 : Int) (a5 : Option Addr) (a6 : Nat) (a7 : Nat) (ae : Int) (a4 : Int) (a8 : Int) (ab : Int) (ag : Int) (ak : Int) (af : Int) (ai : Option Addr) (ah : Nat) (aj : Nat) (al : Int) {R : Value → World → Prop} {w : World} (h : cachettelaw23_back.N a0 a1 a3 a9 aa a2 a5 a6 a7 ae a4 a8 ab ag ak af ai ah aj al R w) : cachettelaw23_back.M a0 a1 a3 a9 aa a2 a5 a6 a7 ae a4 a8 ab ag ak af ai ah aj al R w := by
  unfold cachettelaw23_back.M
  unfold cachettelaw23_back.N at h
  refine thenW_in fun ac bt => ?_
  have am := Blk.of_new bt
  have c9 := ((Ext.refl no w)).size
  have ao := (Ext.refl no w).x_alloc bt
  refine thenW_in fun c8 au => ?_
  have ad := Blk.of_new au
  have an := (ao).size
  have bp := Nat.ne_of_lt am.lt
  have am := am.x_alloc au
  have b1 := ao.x_alloc au
  refine ⟨a0, a1, a3, a9, aa, a2, a5, a6, a7, ae, ⟨am.celli 0 rfl rfl, am.celli 1 rfl rfl, am.celli 2 rfl rfl, am.celli 3 rfl rfl, am.celli 4 rfl rfl, am.celli 5 rfl rfl, am.celli 6 rfl rfl, am.celli 7 rfl rfl, trivial⟩, ?_⟩
  refine ⟨a4, a8, ab, ag, ak, af, ai, ah, aj, al, ⟨am.celli 8 rfl rfl, am.celli 9 rfl rfl, am.celli 10 rfl rfl, am.celli 11 rfl rfl, am.celli 12 rfl rfl, am.celli 13 rfl rfl, am.celli 14 rfl rfl, am.celli 15 rfl rfl, trivial⟩, ?_⟩
  refine ⟨ad.cani 0 rfl rfl, thenW_in fun b2 c0 => ?_⟩
  have bm := b1.x_set (q := ac.heap.size) (i := 0) rfl (.inr an) c0
  have ad : Blk b2 ac.heap.size 52 [.int .i64 a0, .int .i64 0, .int .u64 0, .int .i64 0, .int .i64 0, .int .i64 0, .slice none 0 0, .int .u64 0, .int .i64 0, .int .i64 0, .int .u64 0, .int .i64 0, .int .i64 0, .int .i64 0, .slice none 0 0, .int .u64 0] := ad.seti 0 rfl c0
  refine ⟨ad.cani 1 rfl rfl, thenW_in fun bi br => ?_⟩
  have aw := bm.x_set (q := ac.heap.size) (i := 1) rfl (.inr an) br
  have ad : Blk bi ac.heap.size 52 [.int .i64 a0, .int .i64 a1, .int .u64 0, .int .i64 0, .int .i64 0, .int .i64 0, .slice none 0 0, .int .u64 0, .int .i64 0, .int .i64 0, .int .u64 0, .int .i64 0, .int .i64 0, .int .i64 0, .slice none 0 0, .int .u64 0] := ad.seti 1 rfl br
  refine ⟨ad.cani 2 rfl rfl, thenW_in fun bl bw => ?_⟩
  have az := aw.x_set (q := ac.heap.size) (i := 2) rfl (.inr an) bw
  have ad : Blk bl ac.heap.size 52 [.int .i64 a0, .int .i64 a1, .int .u64 a3, .int .i64 0, .int .i64 0, .int .i64 0, .slice none 0 0, .int .u64 0, .int .i64 0, .int .i64 0, .int .u64 0, .int .i64 0, .int .i64 0, .int .i64 0, .slice none 0 0, .int .u64 0] := ad.seti 2 rfl bw
  refine ⟨ad.cani 3 rfl rfl, thenW_in fun bh c5 => ?_⟩
  have b7 := az.x_set (q := ac.heap.size) (i := 3) rfl (.inr an) c5
  have ad : Blk bh ac.heap.size 52 [.int .i64 a0, .int .i64 a1, .int .u64 a3, .int .i64 a9, .int .i64 0, .int .i64 0, .slice none 0 0, .int .u64 0, .int .i64 0, .int .i64 0, .int .u64 0, .int .i64 0, .int .i64 0, .int .i64 0, .slice none 0 0, .int .u64 0] := ad.seti 3 rfl c5
  refine ⟨ad.cani 4 rfl rfl, thenW_in fun bk c2 => ?_⟩
  have av := b7.x_set (q := ac.heap.size) (i := 4) rfl (.inr an) c2
  have ad : Blk bk ac.heap.size 52 [.int .i64 a0, .int .i64 a1, .int .u64 a3, .int .i64 a9, .int .i64 aa, .int .i64 0, .slice none 0 0, .int .u64 0, .int .i64 0, .int .i64 0, .int .u64 0, .int .i64 0, .int .i64 0, .int .i64 0, .slice none 0 0, .int .u64 0] := ad.seti 4 rfl c2
  refine ⟨ad.cani 5 rfl rfl, thenW_in fun b6 c1 => ?_⟩
  have b5 := av.x_set (q := ac.heap.size) (i := 5) rfl (.inr an) c1
  have ad : Blk b6 ac.heap.size 52 [.int .i64 a0, .int .i64 a1, .int .u64 a3, .int .i64 a9, .int .i64 aa, .int .i64 a2, .slice none 0 0, .int .u64 0, .int .i64 0, .int .i64 0, .int .u64 0, .int .i64 0, .int .i64 0, .int .i64 0, .slice none 0 0, .int .u64 0] := ad.seti 5 rfl c1
  refine ⟨ad.cani 6 rfl rfl, thenW_in fun b3 c7 => ?_⟩
  have b4 := b5.x_set (q := ac.heap.size) (i := 6) rfl (.inr an) c7
  have ad : Blk b3 ac.heap.size 52 [.int .i64 a0, .int .i64 a1, .int .u64 a3, .int .i64 a9, .int .i64 aa, .int .i64 a2, .slice a5 a6 a7, .int .u64 0, .int .i64 0, .int .i64 0, .int .u64 0, .int .i64 0, .int .i64 0, .int .i64 0, .slice none 0 0, .int .u64 0] := ad.seti 6 rfl c7
  refine ⟨ad.cani 7 rfl rfl, thenW_in fun b0 bu => ?_⟩
  have bc := b4.x_set (q := ac.heap.size) (i := 7) rfl (.inr an) bu
  have ad : Blk b0 ac.heap.size 52 [.int .i64 a0, .int .i64 a1, .int .u64 a3, .int .i64 a9, .int .i64 aa, .int .i64 a2, .slice a5 a6 a7, .int .u64 ae, .int .i64 0, .int .i64 0, .int .u64 0, .int .i64 0, .int .i64 0, .int .i64 0, .slice none 0 0, .int .u64 0] := ad.seti 7 rfl bu
  refine ⟨ad.cani 8 rfl rfl, thenW_in fun bn bx => ?_⟩
  have ar := bc.x_set (q := ac.heap.size) (i := 8) rfl (.inr an) bx
  have ad : Blk bn ac.heap.size 52 [.int .i64 a0, .int .i64 a1, .int .u64 a3, .int .i64 a9, .int .i64 aa, .int .i64 a2, .slice a5 a6 a7, .int .u64 ae, .int .i64 a4, .int .i64 0, .int .u64 0, .int .i64 0, .int .i64 0, .int .i64 0, .slice none 0 0, .int .u64 0] := ad.seti 8 rfl bx
  refine ⟨ad.cani 9 rfl rfl, thenW_in fun bg c3 => ?_⟩
  have bd := ar.x_set (q := ac.heap.size) (i := 9) rfl (.inr an) c3
  have ad : Blk bg ac.heap.size 52 [.int .i64 a0, .int .i64 a1, .int .u64 a3, .int .i64 a9, .int .i64 aa, .int .i64 a2, .slice a5 a6 a7, .int .u64 ae, .int .i64 a4, .int .i64 a8, .int .u64 0, .int .i64 0, .int .i64 0, .int .i64 0, .slice none 0 0, .int .u64 0] := ad.seti 9 rfl c3
  refine ⟨ad.cani 10 rfl rfl, thenW_in fun ax bv => ?_⟩
  have bj := bd.x_set (q := ac.heap.size) (i := 10) rfl (.inr an) bv
  have ad : Blk ax ac.heap.size 52 [.int .i64 a0, .int .i64 a1, .int .u64 a3, .int .i64 a9, .int .i64 aa, .int .i64 a2, .slice a5 a6 a7, .int .u64 ae, .int .i64 a4, .int .i64 a8, .int .u64 ab, .int .i64 0, .int .i64 0, .int .i64 0, .slice none 0 0, .int .u64 0] := ad.seti 10 rfl bv
  refine ⟨ad.cani 11 rfl rfl, thenW_in fun ba bq => ?_⟩
  have be := bj.x_set (q := ac.heap.size) (i := 11) rfl (.inr an) bq
  have ad : Blk ba ac.heap.size 52 [.int .i64 a0, .int .i64 a1, .int .u64 a3, .int .i64 a9, .int .i64 aa, .int .i64 a2, .slice a5 a6 a7, .int .u64 ae, .int .i64 a4, .int .i64 a8, .int .u64 ab, .int .i64 ag, .int .i64 0, .int .i64 0, .slice none 0 0, .int .u64 0] := ad.seti 11 rfl bq
  refine ⟨ad.cani 12 rfl rfl, thenW_in fun bb bz => ?_⟩
  have bf := be.x_set (q := ac.heap.size) (i := 12) rfl (.inr an) bz
  have ad : Blk bb ac.heap.size 52 [.int .i64 a0, .int .i64 a1, .int .u64 a3, .int .i64 a9, .int .i64 aa, .int .i64 a2, .slice a5 a6 a7, .int .u64 ae, .int .i64 a4, .int .i64 a8, .int .u64 ab, .int .i64 ag, .int .i64 ak, .int .i64 0, .slice none 0 0, .int .u64 0] := ad.seti 12 rfl bz
  refine ⟨ad.cani 13 rfl rfl, thenW_in fun aq c4 => ?_⟩
  have b9 := bf.x_set (q := ac.heap.size) (i := 13) rfl (.inr an) c4
  have ad : Blk aq ac.heap.size 52 [.int .i64 a0, .int .i64 a1, .int .u64 a3, .int .i64 a9, .int .i64 aa, .int .i64 a2, .slice a5 a6 a7, .int .u64 ae, .int .i64 a4, .int .i64 a8, .int .u64 ab, .int .i64 ag, .int .i64 ak, .int .i64 af, .slice none 0 0, .int .u64 0] := ad.seti 13 rfl c4
  refine ⟨ad.cani 14 rfl rfl, thenW_in fun b8 c6 => ?_⟩
  have bo := b9.x_set (q := ac.heap.size) (i := 14) rfl (.inr an) c6
  have ad : Blk b8 ac.heap.size 52 [.int .i64 a0, .int .i64 a1, .int .u64 a3, .int .i64 a9, .int .i64 aa, .int .i64 a2, .slice a5 a6 a7, .int .u64 ae, .int .i64 a4, .int .i64 a8, .int .u64 ab, .int .i64 ag, .int .i64 ak, .int .i64 af, .slice ai ah aj, .int .u64 0] := ad.seti 14 rfl c6
  refine ⟨ad.cani 15 rfl rfl, thenW_in fun ap bs => ?_⟩
  have ay := bo.x_set (q := ac.heap.size) (i := 15) rfl (.inr an) bs
  have ad : Blk ap ac.heap.size 52 [.int .i64 a0, .int .i64 a1, .int .u64 a3, .int .i64 a9, .int .i64 aa, .int .i64 a2, .slice a5 a6 a7, .int .u64 ae, .int .i64 a4, .int .i64 a8, .int .u64 ab, .int .i64 ag, .int .i64 ak, .int .i64 af, .slice ai ah aj, .int .u64 al] := ad.seti 15 rfl bs
  refine ⟨a0, a1, a3, a9, aa, a2, a5, a6, a7, ae, a4, a8, ab, ag, ak, af, ai, ah, aj, al, ⟨ad.celli 0 rfl rfl, ad.celli 1 rfl rfl, ad.celli 2 rfl rfl, ad.celli 3 rfl rfl, ad.celli 4 rfl rfl, ad.celli 5 rfl rfl, ad.celli 6 rfl rfl, ad.celli 7 rfl rfl, ad.celli 8 rfl rfl, ad.celli 9 rfl rfl, ad.celli 10 rfl rfl, ad.celli 11 rfl rfl, ad.celli 12 rfl rfl, ad.celli 13 rfl rfl, ad.celli 14 rfl rfl, ad.celli 15 rfl rfl, trivial⟩, ?_⟩
  have h := h ap ay
  exact h

theorem cachettelaw23_back.go (a6 : Int) (a8 : Int) (ae : Int) (aj : Int) (ah : Int) (ac : Int) (a9 : Option Addr) (a7 : Nat) (aa : Nat) (ai : Int) (a3 : Int) (a5 : Int) (ab : Int) (ag : Int) (af : Int) (a4 : Int) (a0 : Option Addr) (a1 : Nat) (a2 : Nat) (ad : Int) {R : Value → World → Prop} {w : World} (h : cachettelaw23_back.N a6 a8 ae aj ah ac a9 a7 aa ai a3 a5 ab ag af a4 a0 a1 a2 ad R w) : Calls Try.prog 16 #[.agg #[.int .i64 a6, .int .i64 a8, .int .u64 ae, .int .i64 aj, .int .i64 ah, .int .i64 ac, .slice a9 a7 aa, .int .u64 ai, .int .i64 a3, .int .i64 a5, .int .u64 ab, .int .i64 ag, .int .i64 af, .int .i64 a4, .slice a0 a1 a2, .int .u64 ad]] w fun e w' => ∃ v, e = .returned v ∧ R v w' := cachettelaw23_back.ok a6 a8 ae aj ah ac a9 a7 aa ai a3 a5 ab ag af a4 a0 a1 a2 ad (cachettelaw23_back.up a6 a8 ae aj ah ac a9 a7 aa ai a3 a5 ab ag af a4 a0 a1 a2 ad h)
theorem cachettelaw23_back.run (a6 : Int) (a8 : Int) (ae : Int) (aj : Int) (ah : Int) (ac : Int) (a9 : Option Addr) (a7 : Nat) (aa : Nat) (ai : Int) (a3 : Int) (a5 : Int) (ab : Int) (ag : Int) (af : Int) (a4 : Int) (a0 : Option Addr) (a1 : Nat) (a2 : Nat) (ad : Int) {V : Value} {Q : World → Prop} {w : World} (h : cachettelaw23_back.N a6 a8 ae aj ah ac a9 a7 aa ai a3 a5 ab ag af a4 a0 a1 a2 ad (fun v w' => v = V ∧ Q w') w) : Calls Try.prog 16 #[.agg #[.int .i64 a6, .int .i64 a8, .int .u64 ae, .int .i64 aj, .int .i64 ah, .int .i64 ac, .slice a9 a7 aa, .int .u64 ai, .int .i64 a3, .int .i64 a5, .int .u64 ab, .int .i64 ag, .int .i64 af, .int .i64 a4, .slice a0 a1 a2, .int .u64 ad]] w (Ret V Q) := (cachettelaw23_back.go a6 a8 ae aj ah ac a9 a7 aa ai a3 a5 ab ag af a4 a0 a1 a2 ad h).mono fun e w' ⟨v, he, hv, hq⟩ => ⟨by rw [he, hv], hq⟩

def findP : List Ent → List Ent → (Ent × Ent) × Bool
  | a :: l, b :: r => if a = b then findP l r else ((a, b), true)
  | _, _ => ((Ent.zero, Ent.zero), false)
theorem findP_step {l r : List Ent} {t : Nat} (h1 : t < l.length) (h2 : t < r.length) (h : findP l r = findP (l.drop t) (r.drop t)) : findP l r = if l[t] = r[t] then findP (l.drop (t + 1)) (r.drop (t + 1)) else ((l[t], r[t]), true) := by
  rw [h, List.drop_eq_getElem_cons h1, List.drop_eq_getElem_cons h2]
  rfl
theorem findP_end {l r : List Ent} {t : Nat} (h1 : l.length ≤ t ∨ r.length ≤ t) (h : findP l r = findP (l.drop t) (r.drop t)) : findP l r = ((Ent.zero, Ent.zero), false) := by
  rw [h]
  rcases h1 with h1 | h1
  · rw [List.drop_eq_nil_of_le h1]; rfl
  · rw [List.drop_eq_nil_of_le h1]; cases l.drop t <;> rfl
def zeros : List Value := [.int .i64 0, .int .i64 0, .int .u64 0, .int .i64 0, .int .i64 0, .int .i64 0, .slice none 0 0, .int .u64 0, .int .i64 0, .int .i64 0, .int .u64 0, .int .i64 0, .int .i64 0, .int .i64 0, .slice none 0 0, .int .u64 0]
theorem PrfV.zero (w : World) (o : Own) : PrfV w o (Ent.zero, Ent.zero) (.agg zeros.toArray) := ⟨none, 0, none, 0, rfl, Row.nil _ _ _, Row.nil _ _ _, Nat.le_refl _, Nat.le_refl _⟩
section
variable {w w' : World} {o o' : Own} {k j n : Nat} {K : Nat → Prop} {l1 l2 : List PE} {aa ba : Option Addr} {ac bc : Nat}
theorem Find_spec (ok : Tags w o) (h1 : Row w o aa (PE.Cs l1)) (h2 : Row w o ba (PE.Cs l2)) (k1 : ∀ p ∈ l1, p.ok w o ∧ p.e.body.length ≤ 1000000) (k2 : ∀ p ∈ l2, p.ok w o ∧ p.e.body.length ≤ 1000000) (n1 : l1.length < 1000000) (n2 : l2.length < 1000000) :
    Calls Try.prog 11 #[.slice aa l1.length ac, .slice ba l2.length bc] w (fun x w' => ∃ o' pv, x = .returned (.tuple #[pv, .bool (findP (l1.map PE.e) (l2.map PE.e)).2]) ∧ Step no w o w' o' ∧ PrfV w' o' (findP (l1.map PE.e) (l2.map PE.e)).1 pv) := by
  refine (forkcheck_Find.go aa l1.length ac ba l2.length bc (R := fun v w' => ∃ o' pv, v = .tuple #[pv, .bool (findP (l1.map PE.e) (l2.map PE.e)).2] ∧ Step no w o w' o' ∧ PrfV w' o' (findP (l1.map PE.e) (l2.map PE.e)).1 pv) ?_).mono fun e w' ⟨v, he, o', pv, hv, hw⟩ => ⟨o', pv, by rw [he, hv], hw⟩
  unfold forkcheck_Find.N
  intro w3 p4 X3 hp
  obtain ⟨s3, M3⟩ := Step.priv X3 hp ok
  have g4 := hp p4 (by simp)
  refine ⟨fun q vs w1 => ∃ (t : Nat) (o1 : Own), vs = .int .i64 t :: zeros ∧ q + t = min l1.length l2.length ∧ Step no w o w1 o1 ∧ Mine [p4] w1 o1 ∧ findP (l1.map PE.e) (l2.map PE.e) = findP ((l1.map PE.e).drop t) ((l2.map PE.e).drop t), min l1.length l2.length, ⟨0, _, rfl, rfl, s3, M3, rfl⟩, ?_⟩
  rintro q w1 i a0 a1 a2 a3 a4 a5 a6 a7 a8 a9 b0 b1 b2 b3 b4 b5 b6 b7 b8 b9 ⟨t, o1, hvs, hq, s1, M1, hf⟩
  simp only [zeros, List.cons.injEq, Value.int.injEq, Value.slice.injEq, true_and, and_true] at hvs
  obtain ⟨rfl, rfl, rfl, rfl, rfl, rfl, rfl, ⟨rfl, rfl, rfl⟩, rfl, rfl, rfl, rfl, rfl, rfl, rfl, ⟨rfl, rfl, rfl⟩, rfl⟩ := hvs
  have hmin : (if ((l2.length : Nat) : Int) < (l1.length : Int) then (l2.length : Int) else (l1.length : Int)) = ((min l1.length l2.length : Nat) : Int) := by split <;> omega
  rw [hmin]
  refine ⟨fun ht => ?_, fun ht w123 X123 => ?_⟩
  · have t1 : t < l1.length := by omega
    have t2 : t < l2.length := by omega
    have g1 : l1[t]? = some l1[t] := List.getElem?_eq_getElem t1
    have g2 : l2[t]? = some l2[t] := List.getElem?_eq_getElem t2
    obtain ⟨p1, p15⟩ := k1 _ (List.getElem_mem t1)
    obtain ⟨p2, p25⟩ := k2 _ (List.getElem_mem t2)
    generalize hx1 : l1[t] = x at *
    generalize hx2 : l2[t] = y at *
    have hne1 : PE.Cs l1 ≠ [] := fun e => by have := PE.Cs_length l1; rw [e] at this; simp at this; omega
    have hne2 : PE.Cs l2 ≠ [] := fun e => by have := PE.Cs_length l2; rw [e] at this; simp at this; omega
    obtain ⟨ad, ha⟩ := h1.1.addr hne1
    obtain ⟨bd, hb⟩ := h2.1.addr hne2
    refine ⟨ad, ha, by omega, by omega, x.e.w, x.e.i, x.e.pv, x.e.t, x.e.tw, x.e.ep, x.a, x.e.body.length, x.c, x.e.sg, by rw [Int.toNat_natCast]; exact PE.loads (h1.step s1).1 ha g1,
      bd, hb, by omega, by omega, y.e.w, y.e.i, y.e.pv, y.e.t, y.e.tw, y.e.ep, y.a, y.e.body.length, y.c, y.e.sg, by rw [Int.toNat_natCast]; exact PE.loads (h2.step s1).1 hb g2, fun w26 X26 => ?_⟩
    have s26 := Step.of_no X26 s1.ok
    have fs := findP_step (l := l1.map PE.e) (r := l2.map PE.e) (t := t) (by simpa using t1) (by simpa using t2) hf
    simp only [List.getElem_map, hx1, hx2] at fs
    refine (ESame_spec (e := x.e) (f := y.e) ((p1.1.step s1).step s26).1 ((p2.1.step s1).step s26).1).mono fun v w49 ⟨he, X49⟩ => ⟨_, he, X49.kept, fun hs => ?_, fun hs => ?_⟩
    · have s49' := s26.trans (Step.of_no X49 s26.ok)
      have s49 := s1.trans s49'
      refine ⟨by omega, by omega, x.e.w, x.e.i, x.e.pv, x.e.t, x.e.tw, x.e.ep, x.a, x.e.body.length, x.c, x.e.sg, by rw [Int.toNat_natCast]; exact PE.loads (h1.step s49).1 ha g1,
        by omega, by omega, y.e.w, y.e.i, y.e.pv, y.e.t, y.e.tw, y.e.ep, y.a, y.e.body.length, y.c, y.e.sg, by rw [Int.toNat_natCast]; exact PE.loads (h2.step s49).1 hb g2, fun w51 X51 => ?_⟩
      have s51' := s49'.trans (Step.of_no X51 s49.ok)
      have s51 := s1.trans s51'
      have M51 := M1.step s51'
      refine (fOwn_spec (e := x.e) s51.ok (p1.1.step s51) p15).mono fun v w79 ⟨o79, ca, cc, he, s79', rc, lc⟩ => ⟨_, _, _, _, _, _, _, _, _, _, he, M51.keep s79' (fun _ _ => id), ?_⟩
      have s79 := s51.trans s79'
      refine ⟨by rw [Int.toNat_natCast]; exact PE.loads (h2.step s79).1 hb g2, ?_⟩
      refine (fOwn_spec (e := y.e) s79.ok (p2.1.step s79) p25).mono fun v w90 ⟨o90, da, dc, he, s90', rd, ld⟩ => ⟨_, _, _, _, _, _, _, _, _, _, he, (M51.step s79').keep s90' (fun _ _ => id), fun w106 X106 => ?_⟩
      have s90 := s79.trans s90'
      have s106' := Step.stores X106 s90.ok ((M51.step s79').step s90') (by simp)
      have s106 := s90.trans' s106' fun i hi => .inr (by simp at hi; omega)
      rw [if_neg (of_decide_eq_false hs)] at fs
      rw [fs]
      exact ⟨_, prfV x.e ca cc y.e da dc, rfl, s106, ca, cc, da, dc, rfl, (rc.step s90').step s106', rd.step s106', lc, ld⟩
    · have s49' := s26.trans (Step.of_no X49 s26.ok)
      have s49 := s1.trans s49'
      rw [if_pos (of_decide_eq_true hs)] at fs
      exact ⟨by omega, by omega, q - 1, by omega, t + 1, _, rfl, by omega, s49, M1.step s49', fs⟩
  · have fe := findP_end (l := l1.map PE.e) (r := l2.map PE.e) (t := t) (by rw [List.length_map, List.length_map]; omega) hf
    have s123' := Step.stores X123 s1.ok M1 (by simp)
    have s123 := s1.trans' s123' fun i hi => .inr (by simp at hi; omega)
    rw [fe]
    exact ⟨_, .agg zeros.toArray, rfl, s123, PrfV.zero _ _⟩
theorem rPSame_spec {a b c d : Ent} {ca da : Option Addr} {cc dc : Nat} (ha : RowAt w aa (bytesV a.body)) (hb : RowAt w ba (bytesV b.body)) (hc : RowAt w ca (bytesV c.body)) (hd : RowAt w da (bytesV d.body)) (la : a.body.length < 1000000) (lb : b.body.length < 1000000) :
    Calls Try.prog 15 #[prfV a aa ac b ba bc, prfV c ca cc d da dc] w (Ret (.bool (decide (a = c ∧ b = d))) fun w' => Ext no w w') := by
  refine cachetteref23_Same.run a.w a.i a.pv a.t a.tw a.ep aa a.body.length ac a.sg b.w b.i b.pv b.t b.tw b.ep ba b.body.length bc b.sg c.w c.i c.pv c.t c.tw c.ep ca c.body.length cc c.sg d.w d.i d.pv d.t d.tw d.ep da d.body.length dc d.sg ?_
  unfold cachetteref23_Same.N
  intro w34 p35 p36 X34 hp
  refine (rESame_spec (e := a) (f := c) (ha.no X34) (hc.no X34) la).mono fun x w39 ⟨he, X39⟩ => ⟨_, he, X39.kept, fun h1 => ?_, fun h1 => ⟨?_, X34.trans X39⟩⟩
  · have X := X34.trans X39
    refine (rESame_spec (e := b) (f := d) (hb.no X) (hd.no X) lb).mono fun x w43 ⟨he, X43⟩ => ⟨_, he, ?_, X.trans X43⟩
    congr 1
    rw [decide_eq_decide]
    exact ⟨fun h => ⟨of_decide_eq_true h1, h⟩, fun h => h.2⟩
  · congr 1
    rw [eq_comm, decide_eq_false_iff_not]
    exact fun h => of_decide_eq_false h1 h.1
theorem back_spec {a b : Ent} : Calls Try.prog 16 #[prfV a aa ac b ba bc] w (Ret (prfV a aa ac b ba bc) fun w' => Ext no w w') := by
  refine cachettelaw23_back.run a.w a.i a.pv a.t a.tw a.ep aa a.body.length ac a.sg b.w b.i b.pv b.t b.tw b.ep ba b.body.length bc b.sg ?_
  unfold cachettelaw23_back.N
  exact fun w34 X => ⟨rfl, X⟩
end
end Go.Proofs.Ytfmdpjhkojbocaa

/- Chain: predicates. -/
set_option linter.unusedVariables false
set_option linter.unusedSimpArgs false
set_option maxRecDepth 20000
set_option maxHeartbeats 2000000
namespace Go.Proofs.Ytfmdpjhkojbocaa
open Go Go.Mx Go.Proofs
open W (OwnB GivesW numR countR doneR zig unzig intR)
/-- chain.New -/
def chain_New.M (o1 : Option Addr) (a1 : Int) (a0 : Int) (R : Value → World → Prop) (w : World) : Prop :=
 bif decide (a1 < 0) then (
 R (.tuple #[.pointer none, .int .i64 1]) w) else (
 bif decide (a1 ≥ 8) then (
 R (.tuple #[.pointer none, .int .i64 1]) w) else (
 bif Option.isNone o1 then (
 R (.tuple #[.pointer none, .int .i64 23]) w) else (
 thenW (w.alloc (.cells #[.pointer o1, .int .i64 a1, .int .u64 a0, .slice none 0 0, .int .u64 0] 95)) fun a2 =>
 R (.tuple #[.pointer (some (blk w.heap.size)), .int .i64 0]) a2)))

theorem chain_New.eq (o1 : Option Addr) (wv2 : Int) (publicv3 : Int) (R : Value → World → Prop) (w : World) : mfunc Try.prog [] 8 [.pointer o1, .int .i64 wv2, .int .u64 publicv3] R w = chain_New.M o1 wv2 publicv3 R w := by kernel_rfl
theorem chain_New.ok (o1 : Option Addr) (a1 : Int) (a0 : Int) {R : Value → World → Prop} {w : World} (h : chain_New.M o1 a1 a0 R w) : Calls Try.prog 8 #[.pointer o1, .int .i64 a1, .int .u64 a0] w fun e w' => ∃ v, e = .returned v ∧ R v w' :=
  mfunc_ok follows (H := []) (args := [.pointer o1, .int .i64 a1, .int .u64 a0]) (by rw [chain_New.eq]; exact h)

def chain_New.N (o1 : Option Addr) (a1 : Int) (a0 : Int) (R : Value → World → Prop) (w : World) : Prop :=
 (a1 < 0 →
 R (.tuple #[.pointer none, .int .i64 1]) w) ∧
 ((0 : Int) ≤ a1 →
 (a1 ≥ 8 →
 R (.tuple #[.pointer none, .int .i64 1]) w) ∧
 (a1 < 8 →
 (o1 = none →
 R (.tuple #[.pointer none, .int .i64 23]) w) ∧
 (o1 ≠ none →
 ∀ (a2 : World) (q8 : Nat), Ext no w a2 → Blk a2 q8 95 [.pointer o1, .int .i64 a1, .int .u64 a0, .slice none 0 0, .int .u64 0] → w.heap.size ≤ q8 → q8 < a2.heap.size →
 R (.tuple #[.pointer (some (blk q8)), .int .i64 0]) a2)))

theorem chain_New.up (o1 : Option Addr) (a1 : Int) (a0 : Int) {R : Value → World → Prop} {w : World} (h : chain_New.N o1 a1 a0 R w) : chain_New.M o1 a1 a0 R w := by
  unfold chain_New.M
  unfold chain_New.N at h
  refine bif_of (fun c4 => ?_) (fun c4 => ?_)
  · have h := h.1 (of_decide_eq_true c4)
    exact h
  · have h := h.2 (Int.not_lt.1 (of_decide_eq_false c4))
    refine bif_of (fun c5 => ?_) (fun c5 => ?_)
    · have h := h.1 (of_decide_eq_true c5)
      exact h
    · have h := h.2 (Int.not_le.1 (of_decide_eq_false c5))
      refine bif_of (fun c6 => ?_) (fun c6 => ?_)
      · have h := h.1 (isNone_t c6)
        exact h
      · have h := h.2 (isNone_f c6)
        refine thenW_in fun a2 e7 => ?_
        have h := h a2 w.heap.size ((Ext.refl no w).x_alloc e7) (Blk.of_new e7) ((Ext.refl no w)).size (size_lt_alloc e7)
        exact h

theorem chain_New.go (o1 : Option Addr) (a1 : Int) (a0 : Int) {R : Value → World → Prop} {w : World} (h : chain_New.N o1 a1 a0 R w) : Calls Try.prog 8 #[.pointer o1, .int .i64 a1, .int .u64 a0] w fun e w' => ∃ v, e = .returned v ∧ R v w' := chain_New.ok o1 a1 a0 (chain_New.up o1 a1 a0 h)
/-- chain.own -/
def chain_own.M (ar : Int) (ax : Int) (b0 : Int) (b5 : Int) (b4 : Int) (aw : Int) (av : Option Addr) (ay : Nat) (au : Nat) (b8 : Int) (R : Value → World → Prop) (w : World) : Prop :=
 thenW (w.alloc (.cells #[.int .i64 ar, .int .i64 ax, .int .u64 b0, .int .i64 b5, .int .i64 b4, .int .i64 aw, .slice av ay au, .int .u64 b8] 29)) fun a8 =>
 thenW (a8.alloc (.cells #[.int .i64 0, .int .i64 0, .int .u64 0, .int .i64 0, .int .i64 0, .int .i64 0, .slice none 0 0, .int .u64 0] 29)) fun b6 =>
 ∃ (al : Option Addr) (ak : Nat) (an : Nat), b6.cell? ((blk w.heap.size).add 6) = some (.slice al ak an) ∧
 Calls Try.prog 70 #[.slice al ak an] b6 fun be bd => ∃ (ac : Option Addr) (ah : Nat) (ag : Nat), be = .returned (.slice ac ah ag) ∧
 canStore bd (((blk w.heap.size).add 6).add 0) ∧
 thenW (bd.setCell (((blk w.heap.size).add 6).add 0) (.slice ac ah ag)) fun az =>
 ∃ (a6 : Int) (ab : Int) (am : Int) (ap : Int) (aq : Int) (a9 : Int) (aj : Option Addr) (af : Nat) (ae : Nat) (ao : Int), cellsAt az (blk w.heap.size) [.int .i64 a6, .int .i64 ab, .int .u64 am, .int .i64 ap, .int .i64 aq, .int .i64 a9, .slice aj af ae, .int .u64 ao] 0 ∧
 canStore az ((blk a8.heap.size).add 0) ∧
 thenW (az.setCell ((blk a8.heap.size).add 0) (.int .i64 a6)) fun bb =>
 canStore bb ((blk a8.heap.size).add 1) ∧
 thenW (bb.setCell ((blk a8.heap.size).add 1) (.int .i64 ab)) fun b3 =>
 canStore b3 ((blk a8.heap.size).add 2) ∧
 thenW (b3.setCell ((blk a8.heap.size).add 2) (.int .u64 am)) fun b2 =>
 canStore b2 ((blk a8.heap.size).add 3) ∧
 thenW (b2.setCell ((blk a8.heap.size).add 3) (.int .i64 ap)) fun bc =>
 canStore bc ((blk a8.heap.size).add 4) ∧
 thenW (bc.setCell ((blk a8.heap.size).add 4) (.int .i64 aq)) fun b1 =>
 canStore b1 ((blk a8.heap.size).add 5) ∧
 thenW (b1.setCell ((blk a8.heap.size).add 5) (.int .i64 a9)) fun b9 =>
 canStore b9 ((blk a8.heap.size).add 6) ∧
 thenW (b9.setCell ((blk a8.heap.size).add 6) (.slice aj af ae)) fun b7 =>
 canStore b7 ((blk a8.heap.size).add 7) ∧
 thenW (b7.setCell ((blk a8.heap.size).add 7) (.int .u64 ao)) fun ba =>
 ∃ (a0 : Int) (a1 : Int) (a7 : Int) (ai : Int) (aa : Int) (a4 : Int) (a5 : Option Addr) (a3 : Nat) (a2 : Nat) (ad : Int), cellsAt ba (blk a8.heap.size) [.int .i64 a0, .int .i64 a1, .int .u64 a7, .int .i64 ai, .int .i64 aa, .int .i64 a4, .slice a5 a3 a2, .int .u64 ad] 0 ∧
 R (.agg #[.int .i64 a0, .int .i64 a1, .int .u64 a7, .int .i64 ai, .int .i64 aa, .int .i64 a4, .slice a5 a3 a2, .int .u64 ad]) ba

theorem chain_own.eq (eWriter1 : Int) (eIndex2 : Int) (ePrev3 : Int) (eAtT4 : Int) (eAtW5 : Int) (eEpoch6 : Int) (eBody7a : Option Addr) (eBody7n : Nat) (eBody7c : Nat) (eSig8 : Int) (R : Value → World → Prop) (w : World) : mfunc Try.prog [] 40 [.agg #[.int .i64 eWriter1, .int .i64 eIndex2, .int .u64 ePrev3, .int .i64 eAtT4, .int .i64 eAtW5, .int .i64 eEpoch6, .slice eBody7a eBody7n eBody7c, .int .u64 eSig8]] R w = chain_own.M eWriter1 eIndex2 ePrev3 eAtT4 eAtW5 eEpoch6 eBody7a eBody7n eBody7c eSig8 R w := by kernel_rfl
theorem chain_own.ok (a0 : Int) (a1 : Int) (a6 : Int) (a8 : Int) (a9 : Int) (a5 : Int) (a2 : Option Addr) (a4 : Nat) (a3 : Nat) (a7 : Int) {R : Value → World → Prop} {w : World} (h : chain_own.M a0 a1 a6 a8 a9 a5 a2 a4 a3 a7 R w) : Calls Try.prog 40 #[.agg #[.int .i64 a0, .int .i64 a1, .int .u64 a6, .int .i64 a8, .int .i64 a9, .int .i64 a5, .slice a2 a4 a3, .int .u64 a7]] w fun e w' => ∃ v, e = .returned v ∧ R v w' :=
  mfunc_ok follows (H := []) (args := [.agg #[.int .i64 a0, .int .i64 a1, .int .u64 a6, .int .i64 a8, .int .i64 a9, .int .i64 a5, .slice a2 a4 a3, .int .u64 a7]]) (by rw [chain_own.eq]; exact h)

def chain_own.N (a3 : Int) (a6 : Int) (aa : Int) (ad : Int) (ac : Int) (a9 : Int) (a5 : Option Addr) (a8 : Nat) (a4 : Nat) (ae : Int) (R : Value → World → Prop) (w : World) : Prop :=
 ∀ (a7 : World) (ag : Nat) (ah : Nat), Ext no w a7 → Priv w a7 [ag, ah] →
 Calls Try.prog 70 #[.slice a5 a8 a4] a7 fun ai ab => ∃ (a2 : Option Addr) (a1 : Nat) (a0 : Nat), ai = .returned (.slice a2 a1 a0) ∧
 Keep [ag, ah] a7 ab ∧
 ∀ (af : World), Ext (fun b => b = ah ∨ b = ag) ab af →
 R (.agg #[.int .i64 a3, .int .i64 a6, .int .u64 aa, .int .i64 ad, .int .i64 ac, .int .i64 a9, .slice a2 a1 a0, .int .u64 ae]) af

theorem chain_own.up (a0 : Int) (a1 : Int) (a2 : Int) (a8 : Int) (a9 : Int) (a3 : Int) (ac : Option Addr) (ad : Nat) (ab : Nat) (aa : Int) {R : Value → World → Prop} {w : World} (h : chain_own.N a0 a1 a2 a8 a9 a3 ac ad ab aa R w) : chain_own.M a0 a1 a2 a8 a9 a3 ac ad ab aa R w := by
  unfold chain_own.M
  unfold chain_own.N at h
  refine thenW_in fun ae e9 => ?_
  have af := Blk.of_new e9
  have bi := ((Ext.refl no w)).size
  have bf := (Ext.refl no w).x_alloc e9
  refine thenW_in fun b0 az => ?_
  have a7 := Blk.of_new az
  have bj := (bf).size
  have ah := Nat.ne_of_lt af.lt
  have af := af.x_alloc az
  have b6 := bf.x_alloc az
  refine ⟨ac, ad, ab, af.celli 6 rfl rfl, ?_⟩
  have h := h b0 (w.heap.size) (ae.heap.size) b6 (Priv.cons bi af.lt (Priv.cons bj a7.lt Priv.nil))
  refine h.mono fun bh ag h => ?_
  obtain ⟨a6, a5, a4, he, hk, h⟩ := h
  refine ⟨a6, a5, a4, he, ?_⟩
  have af := hk.blk af (by simp)
  have a7 := hk.blk a7 (by simp)
  have ap : Ext (fun b => b = w.heap.size) ag ag := ((Ext.refl no ag)).none
  refine ⟨af.cani 6 rfl rfl, thenW_in fun ai b7 => ?_⟩
  have au := ap.x_set (q := w.heap.size) (i := 6) rfl (.inl rfl) b7
  have af : Blk ai w.heap.size 29 [.int .i64 a0, .int .i64 a1, .int .u64 a2, .int .i64 a8, .int .i64 a9, .int .i64 a3, .slice a6 a5 a4, .int .u64 aa] := af.seti 6 rfl b7
  have a7 := a7.oth (q := w.heap.size) (i := 6) rfl (Ne.symm ah) b7
  refine ⟨a0, a1, a2, a8, a9, a3, a6, a5, a4, aa, ⟨af.celli 0 rfl rfl, af.celli 1 rfl rfl, af.celli 2 rfl rfl, af.celli 3 rfl rfl, af.celli 4 rfl rfl, af.celli 5 rfl rfl, af.celli 6 rfl rfl, af.celli 7 rfl rfl, trivial⟩, ?_⟩
  have al : Ext (fun b => b = ae.heap.size ∨ b = w.heap.size) ag ai := (au).mono fun _ h _ => .inr h
  refine ⟨a7.cani 0 rfl rfl, thenW_in fun av bg => ?_⟩
  have aq := al.x_set (q := ae.heap.size) (i := 0) rfl (.inl (.inl rfl)) bg
  have a7 : Blk av ae.heap.size 29 [.int .i64 a0, .int .i64 0, .int .u64 0, .int .i64 0, .int .i64 0, .int .i64 0, .slice none 0 0, .int .u64 0] := a7.seti 0 rfl bg
  refine ⟨a7.cani 1 rfl rfl, thenW_in fun ak b9 => ?_⟩
  have ao := aq.x_set (q := ae.heap.size) (i := 1) rfl (.inl (.inl rfl)) b9
  have a7 : Blk ak ae.heap.size 29 [.int .i64 a0, .int .i64 a1, .int .u64 0, .int .i64 0, .int .i64 0, .int .i64 0, .slice none 0 0, .int .u64 0] := a7.seti 1 rfl b9
  refine ⟨a7.cani 2 rfl rfl, thenW_in fun ar bc => ?_⟩
  have b5 := ao.x_set (q := ae.heap.size) (i := 2) rfl (.inl (.inl rfl)) bc
  have a7 : Blk ar ae.heap.size 29 [.int .i64 a0, .int .i64 a1, .int .u64 a2, .int .i64 0, .int .i64 0, .int .i64 0, .slice none 0 0, .int .u64 0] := a7.seti 2 rfl bc
  refine ⟨a7.cani 3 rfl rfl, thenW_in fun ay ba => ?_⟩
  have b3 := b5.x_set (q := ae.heap.size) (i := 3) rfl (.inl (.inl rfl)) ba
  have a7 : Blk ay ae.heap.size 29 [.int .i64 a0, .int .i64 a1, .int .u64 a2, .int .i64 a8, .int .i64 0, .int .i64 0, .slice none 0 0, .int .u64 0] := a7.seti 3 rfl ba
  refine ⟨a7.cani 4 rfl rfl, thenW_in fun b4 be => ?_⟩
  have an := b3.x_set (q := ae.heap.size) (i := 4) rfl (.inl (.inl rfl)) be
  have a7 : Blk b4 ae.heap.size 29 [.int .i64 a0, .int .i64 a1, .int .u64 a2, .int .i64 a8, .int .i64 a9, .int .i64 0, .slice none 0 0, .int .u64 0] := a7.seti 4 rfl be
  refine ⟨a7.cani 5 rfl rfl, thenW_in fun ax bb => ?_⟩
  have am := an.x_set (q := ae.heap.size) (i := 5) rfl (.inl (.inl rfl)) bb
  have a7 : Blk ax ae.heap.size 29 [.int .i64 a0, .int .i64 a1, .int .u64 a2, .int .i64 a8, .int .i64 a9, .int .i64 a3, .slice none 0 0, .int .u64 0] := a7.seti 5 rfl bb
  refine ⟨a7.cani 6 rfl rfl, thenW_in fun b1 b8 => ?_⟩
  have aw := am.x_set (q := ae.heap.size) (i := 6) rfl (.inl (.inl rfl)) b8
  have a7 : Blk b1 ae.heap.size 29 [.int .i64 a0, .int .i64 a1, .int .u64 a2, .int .i64 a8, .int .i64 a9, .int .i64 a3, .slice a6 a5 a4, .int .u64 0] := a7.seti 6 rfl b8
  refine ⟨a7.cani 7 rfl rfl, thenW_in fun aj bd => ?_⟩
  have b2 := aw.x_set (q := ae.heap.size) (i := 7) rfl (.inl (.inl rfl)) bd
  have a7 : Blk aj ae.heap.size 29 [.int .i64 a0, .int .i64 a1, .int .u64 a2, .int .i64 a8, .int .i64 a9, .int .i64 a3, .slice a6 a5 a4, .int .u64 aa] := a7.seti 7 rfl bd
  refine ⟨a0, a1, a2, a8, a9, a3, a6, a5, a4, aa, ⟨a7.celli 0 rfl rfl, a7.celli 1 rfl rfl, a7.celli 2 rfl rfl, a7.celli 3 rfl rfl, a7.celli 4 rfl rfl, a7.celli 5 rfl rfl, a7.celli 6 rfl rfl, a7.celli 7 rfl rfl, trivial⟩, ?_⟩
  have h := h aj b2
  exact h

theorem chain_own.go (a0 : Int) (a1 : Int) (a6 : Int) (a8 : Int) (a9 : Int) (a5 : Int) (a2 : Option Addr) (a4 : Nat) (a3 : Nat) (a7 : Int) {R : Value → World → Prop} {w : World} (h : chain_own.N a0 a1 a6 a8 a9 a5 a2 a4 a3 a7 R w) : Calls Try.prog 40 #[.agg #[.int .i64 a0, .int .i64 a1, .int .u64 a6, .int .i64 a8, .int .i64 a9, .int .i64 a5, .slice a2 a4 a3, .int .u64 a7]] w fun e w' => ∃ v, e = .returned v ∧ R v w' := chain_own.ok a0 a1 a6 a8 a9 a5 a2 a4 a3 a7 (chain_own.up a0 a1 a6 a8 a9 a5 a2 a4 a3 a7 h)
/-- (*chain.Log).All -/
def chain_Log_All.M (l1 : Option Addr) (R : Value → World → Prop) (w : World) : Prop :=
 bif Option.isNone l1 then (
 R (.slice none 0 0) w) else (
 l1.elim False fun a2 =>
 ∃ (bk : Option Addr) (bg : Nat) (bl : Nat), w.cell? (a2.add 3) = some (.slice bk bg bl) ∧
 ∃ (I0 : Nat → List Value → World → Prop) (m6 : Nat), I0 m6 [.slice none 0 0, .int .i64 0] w ∧ ∀ (m7 : Nat) (a0 : World) (ag : Option Addr) (ai : Nat) (ah : Nat) (t5 : Int), I0 m7 [.slice ag ai ah, .int .i64 t5] a0 →
 bif decide (t5 < (bg : Int)) then (
 bk.elim False fun a9 =>
 0 ≤ (t5 : Int) ∧ (t5 : Int) < (bg : Int) ∧
 ∃ (a1 : Int) (a6 : Int) (am : Int) (au : Int) (ay : Int) (a7 : Int) (a5 : Option Addr) (aa : Nat) (af : Nat) (ax : Int), cellsAt a0 (a9.add (Int.toNat t5 * 8)) [.int .i64 a1, .int .i64 a6, .int .u64 am, .int .i64 au, .int .i64 ay, .int .i64 a7, .slice a5 aa af, .int .u64 ax] 0 ∧
 thenW (a0.alloc (.cells #[.int .i64 0, .int .i64 0, .int .u64 0, .int .i64 0, .int .i64 0, .int .i64 0, .slice none 0 0, .int .u64 0] 29)) fun b3 =>
 canStore b3 ((blk a0.heap.size).add 0) ∧
 thenW (b3.setCell ((blk a0.heap.size).add 0) (.int .i64 a1)) fun b8 =>
 canStore b8 ((blk a0.heap.size).add 1) ∧
 thenW (b8.setCell ((blk a0.heap.size).add 1) (.int .i64 a6)) fun bc =>
 canStore bc ((blk a0.heap.size).add 2) ∧
 thenW (bc.setCell ((blk a0.heap.size).add 2) (.int .u64 am)) fun be =>
 canStore be ((blk a0.heap.size).add 3) ∧
 thenW (be.setCell ((blk a0.heap.size).add 3) (.int .i64 au)) fun bb =>
 canStore bb ((blk a0.heap.size).add 4) ∧
 thenW (bb.setCell ((blk a0.heap.size).add 4) (.int .i64 ay)) fun bd =>
 canStore bd ((blk a0.heap.size).add 5) ∧
 thenW (bd.setCell ((blk a0.heap.size).add 5) (.int .i64 a7)) fun bf =>
 canStore bf ((blk a0.heap.size).add 6) ∧
 thenW (bf.setCell ((blk a0.heap.size).add 6) (.slice a5 aa af)) fun b9 =>
 canStore b9 ((blk a0.heap.size).add 7) ∧
 thenW (b9.setCell ((blk a0.heap.size).add 7) (.int .u64 ax)) fun b5 =>
 ∃ (a3 : Int) (a4 : Int) (ao : Int) (av : Int) (ar : Int) (ab : Int) (ad : Option Addr) (ae : Nat) (ac : Nat) (aq : Int), cellsAt b5 (blk a0.heap.size) [.int .i64 a3, .int .i64 a4, .int .u64 ao, .int .i64 av, .int .i64 ar, .int .i64 ab, .slice ad ae ac, .int .u64 aq] 0 ∧
 Calls Try.prog 40 #[.agg #[.int .i64 a3, .int .i64 a4, .int .u64 ao, .int .i64 av, .int .i64 ar, .int .i64 ab, .slice ad ae ac, .int .u64 aq]] b5 fun bh ba => ∃ (a8 : Int) (aj : Int) (aw : Int) (b1 : Int) (az : Int) (ak : Int) (an : Option Addr) (ap : Nat) (al : Nat) (b0 : Int), bh = .returned (.agg #[.int .i64 a8, .int .i64 aj, .int .u64 aw, .int .i64 b1, .int .i64 az, .int .i64 ak, .slice an ap al, .int .u64 b0]) ∧
 thenW (ba.alloc (.cells #[.int .i64 a8, .int .i64 aj, .int .u64 aw, .int .i64 b1, .int .i64 az, .int .i64 ak, .slice an ap al, .int .u64 b0] 29)) fun bi =>
 ∃ (b6 : Option Addr) (b7 : Nat) (b4 : Nat) (b2 : World), (Builtin.append_ #[47, 47] 47 #[.slice ag ai ah, .slice (some (blk ba.heap.size)) 1 1]).run Try.prog bi = .ok (.slice b6 b7 b4) b2 ∧
 ∃ bj, bj < m7 ∧ I0 bj [.slice b6 b7 b4, .int .i64 (IntKind.i64.wrap (t5 + 1))] b2) else (
 R (.slice ag ai ah) a0))

theorem chain_Log_All.eq (l1 : Option Addr) (R : Value → World → Prop) (w : World) : mfunc Try.prog [(0, [10, 11], [(2, (.one .slice)), (12, (.one (.int .i64)))])] 12 [.pointer l1] R w = chain_Log_All.M l1 R w := by kernel_rfl
theorem chain_Log_All.ok (l1 : Option Addr) {R : Value → World → Prop} {w : World} (h : chain_Log_All.M l1 R w) : Calls Try.prog 12 #[.pointer l1] w fun e w' => ∃ v, e = .returned v ∧ R v w' :=
  mfunc_ok follows (H := [(0, [10, 11], [(2, (.one .slice)), (12, (.one (.int .i64)))])]) (args := [.pointer l1]) (by rw [chain_Log_All.eq]; exact h)

def chain_Log_All.N (l1 : Option Addr) (R : Value → World → Prop) (w : World) : Prop :=
 (l1 = none →
 R (.slice none 0 0) w) ∧
 (l1 ≠ none →
 ∃ a3 : Addr, l1 = some a3 ∧
 ∃ (b1 : Option Addr) (ay : Nat) (b4 : Nat), w.cell? (a3.add 3) = some (.slice b1 ay b4) ∧
 ∃ (I0 : Nat → List Value → World → Prop) (m8 : Nat), I0 m8 [.slice none 0 0, .int .i64 0] w ∧ ∀ (m9 : Nat) (am : World) (aa : Option Addr) (a8 : Nat) (a9 : Nat) (t7 : Int), I0 m9 [.slice aa a8 a9, .int .i64 t7] am →
 (t7 < (ay : Int) →
 ∃ b2 : Addr, b1 = some b2 ∧
 0 ≤ (t7 : Int) ∧ (t7 : Int) < (ay : Int) ∧
 ∃ (a0 : Int) (a4 : Int) (ad : Int) (ak : Int) (aj : Int) (a7 : Int) (a2 : Option Addr) (a1 : Nat) (a6 : Nat) (ah : Int), cellsAt am (b2.add (Int.toNat t7 * 8)) [.int .i64 a0, .int .i64 a4, .int .u64 ad, .int .i64 ak, .int .i64 aj, .int .i64 a7, .slice a2 a1 a6, .int .u64 ah] 0 ∧
 ∀ (aw : World), Ext no am aw →
 Calls Try.prog 40 #[.agg #[.int .i64 a0, .int .i64 a4, .int .u64 ad, .int .i64 ak, .int .i64 aj, .int .i64 a7, .slice a2 a1 a6, .int .u64 ah]] aw fun b0 aq => ∃ (a5 : Int) (ag : Int) (ai : Int) (an : Int) (ao : Int) (ab : Int) (ae : Option Addr) (ac : Nat) (af : Nat) (ap : Int), b0 = .returned (.agg #[.int .i64 a5, .int .i64 ag, .int .u64 ai, .int .i64 an, .int .i64 ao, .int .i64 ab, .slice ae ac af, .int .u64 ap]) ∧
 ∀ (al : World) (az : Nat), Ext no aq al → Blk al az 29 [.int .i64 a5, .int .i64 ag, .int .u64 ai, .int .i64 an, .int .i64 ao, .int .i64 ab, .slice ae ac af, .int .u64 ap] → aq.heap.size ≤ az → az < al.heap.size →
 ∃ (av : Option Addr) (au : Nat) (ax : Nat) (ar : World), (Builtin.append_ #[47, 47] 47 #[.slice aa a8 a9, .slice (some (blk az)) 1 1]).run Try.prog al = .ok (.slice av au ax) ar ∧
 (-9223372036854775808 : Int) ≤ (t7 + 1) ∧ (t7 + 1) < 9223372036854775808 ∧
 ∃ b3, b3 < m9 ∧ I0 b3 [.slice av au ax, .int .i64 (t7 + 1)] ar) ∧
 ((ay : Int) ≤ t7 →
 R (.slice aa a8 a9) am))

theorem chain_Log_All.up (l1 : Option Addr) {R : Value → World → Prop} {w : World} (h : chain_Log_All.N l1 R w) : chain_Log_All.M l1 R w := by
  unfold chain_Log_All.M
  unfold chain_Log_All.N at h
  refine bif_of (fun c2 => ?_) (fun c2 => ?_)
  · have h := h.1 (isNone_t c2)
    exact h
  · have h := h.2 (isNone_f c2)
    obtain ⟨a3, bw, h⟩ := h
    refine elim_some bw ?_
    obtain ⟨bv, c0, c4, bu, h⟩ := h
    refine ⟨bv, c0, c4, bu, ?_⟩
    obtain ⟨I0, m8, h0, h⟩ := h
    refine ⟨I0, m8, h0, fun m9 a4 ao ak am t7 hI => ?_⟩
    have h := h m9 a4 ao ak am t7 hI
    refine bif_of (fun b1 => ?_) (fun b1 => ?_)
    · have h := h.1 (of_decide_eq_true b1)
      obtain ⟨c7, b8, h⟩ := h
      refine elim_some b8 ?_
      obtain ⟨c6, bt, h⟩ := h
      refine ⟨c6, bt, ?_⟩
      obtain ⟨a0, a1, a2, a7, ab, a5, a9, a8, aa, ac, b7, h⟩ := h
      refine ⟨a0, a1, a2, a7, ab, a5, a9, a8, aa, ac, b7, ?_⟩
      refine thenW_in fun bz bq => ?_
      have a6 := Blk.of_new bq
      have aj := ((Ext.refl no a4)).size
      have ay := (Ext.refl no a4).x_alloc bq
      refine ⟨a6.cani 0 rfl rfl, thenW_in fun ba bk => ?_⟩
      have b4 := ay.x_set (q := a4.heap.size) (i := 0) rfl (.inr aj) bk
      have a6 : Blk ba a4.heap.size 29 [.int .i64 a0, .int .i64 0, .int .u64 0, .int .i64 0, .int .i64 0, .int .i64 0, .slice none 0 0, .int .u64 0] := a6.seti 0 rfl bk
      refine ⟨a6.cani 1 rfl rfl, thenW_in fun bg br => ?_⟩
      have bb := b4.x_set (q := a4.heap.size) (i := 1) rfl (.inr aj) br
      have a6 : Blk bg a4.heap.size 29 [.int .i64 a0, .int .i64 a1, .int .u64 0, .int .i64 0, .int .i64 0, .int .i64 0, .slice none 0 0, .int .u64 0] := a6.seti 1 rfl br
      refine ⟨a6.cani 2 rfl rfl, thenW_in fun b3 bs => ?_⟩
      have b5 := bb.x_set (q := a4.heap.size) (i := 2) rfl (.inr aj) bs
      have a6 : Blk b3 a4.heap.size 29 [.int .i64 a0, .int .i64 a1, .int .u64 a2, .int .i64 0, .int .i64 0, .int .i64 0, .slice none 0 0, .int .u64 0] := a6.seti 2 rfl bs
      refine ⟨a6.cani 3 rfl rfl, thenW_in fun b0 bm => ?_⟩
      have bh := b5.x_set (q := a4.heap.size) (i := 3) rfl (.inr aj) bm
      have a6 : Blk b0 a4.heap.size 29 [.int .i64 a0, .int .i64 a1, .int .u64 a2, .int .i64 a7, .int .i64 0, .int .i64 0, .slice none 0 0, .int .u64 0] := a6.seti 3 rfl bm
      refine ⟨a6.cani 4 rfl rfl, thenW_in fun b2 bl => ?_⟩
      have az := bh.x_set (q := a4.heap.size) (i := 4) rfl (.inr aj) bl
      have a6 : Blk b2 a4.heap.size 29 [.int .i64 a0, .int .i64 a1, .int .u64 a2, .int .i64 a7, .int .i64 ab, .int .i64 0, .slice none 0 0, .int .u64 0] := a6.seti 4 rfl bl
      refine ⟨a6.cani 5 rfl rfl, thenW_in fun ax bn => ?_⟩
      have bi := az.x_set (q := a4.heap.size) (i := 5) rfl (.inr aj) bn
      have a6 : Blk ax a4.heap.size 29 [.int .i64 a0, .int .i64 a1, .int .u64 a2, .int .i64 a7, .int .i64 ab, .int .i64 a5, .slice none 0 0, .int .u64 0] := a6.seti 5 rfl bn
      refine ⟨a6.cani 6 rfl rfl, thenW_in fun be bp => ?_⟩
      have b9 := bi.x_set (q := a4.heap.size) (i := 6) rfl (.inr aj) bp
      have a6 : Blk be a4.heap.size 29 [.int .i64 a0, .int .i64 a1, .int .u64 a2, .int .i64 a7, .int .i64 ab, .int .i64 a5, .slice a9 a8 aa, .int .u64 0] := a6.seti 6 rfl bp
      refine ⟨a6.cani 7 rfl rfl, thenW_in fun au bo => ?_⟩
      have aw := b9.x_set (q := a4.heap.size) (i := 7) rfl (.inr aj) bo
      have a6 : Blk au a4.heap.size 29 [.int .i64 a0, .int .i64 a1, .int .u64 a2, .int .i64 a7, .int .i64 ab, .int .i64 a5, .slice a9 a8 aa, .int .u64 ac] := a6.seti 7 rfl bo
      refine ⟨a0, a1, a2, a7, ab, a5, a9, a8, aa, ac, ⟨a6.celli 0 rfl rfl, a6.celli 1 rfl rfl, a6.celli 2 rfl rfl, a6.celli 3 rfl rfl, a6.celli 4 rfl rfl, a6.celli 5 rfl rfl, a6.celli 6 rfl rfl, a6.celli 7 rfl rfl, trivial⟩, ?_⟩
      have h := h au aw
      refine h.mono fun c1 al h => ?_
      obtain ⟨ad, ai, an, ap, aq, ae, ag, af, ah, ar, he, h⟩ := h
      refine ⟨ad, ai, an, ap, aq, ae, ag, af, ah, ar, he, ?_⟩
      refine thenW_in fun av bc => ?_
      have h := h av al.heap.size ((Ext.refl no al).x_alloc bc) (Blk.of_new bc) ((Ext.refl no al)).size (size_lt_alloc bc)
      obtain ⟨bd, b6, bf, bj, hr, h⟩ := h
      refine ⟨bd, b6, bf, bj, hr, ?_⟩
      obtain ⟨bx, c5, h⟩ := h
      try rw [w64 bx c5]
      obtain ⟨c3, hk, h⟩ := h
      exact ⟨c3, hk, h⟩
    · have h := h.2 (Int.not_lt.1 (of_decide_eq_false b1))
      exact h

theorem chain_Log_All.go (l1 : Option Addr) {R : Value → World → Prop} {w : World} (h : chain_Log_All.N l1 R w) : Calls Try.prog 12 #[.pointer l1] w fun e w' => ∃ v, e = .returned v ∧ R v w' := chain_Log_All.ok l1 (chain_Log_All.up l1 h)
/-- (*chain.Log).right -/
def chain_Log_right.M (l1 : Option Addr) (al : Int) (ar : Int) (ay : Int) (b4 : Int) (b0 : Int) (aw : Int) (ax : Option Addr) (au : Nat) (av : Nat) (b5 : Int) (R : Value → World → Prop) (w : World) : Prop :=
 thenW (w.alloc (.cells #[.int .i64 al, .int .i64 ar, .int .u64 ay, .int .i64 b4, .int .i64 b0, .int .i64 aw, .slice ax au av, .int .u64 b5] 29)) fun b2 =>
 ∃ (a0 : Int) (a4 : Int) (af : Int) (an : Int) (aj : Int) (aa : Int) (a8 : Option Addr) (a6 : Nat) (ac : Nat) (am : Int), cellsAt b2 (blk w.heap.size) [.int .i64 a0, .int .i64 a4, .int .u64 af, .int .i64 an, .int .i64 aj, .int .i64 aa, .slice a8 a6 ac, .int .u64 am] 0 ∧
 Calls Try.prog 34 #[.agg #[.int .i64 a0, .int .i64 a4, .int .u64 af, .int .i64 an, .int .i64 aj, .int .i64 aa, .slice a8 a6 ac, .int .u64 am]] b2 fun b6 b3 => ∃ (ag : Bool), b6 = .returned (.bool ag) ∧
 bif !ag then (
 R (.int .i64 1) b3) else (
 thenW (b3.drew) fun aq =>
 ∃ (ad : Int), aq.cell? ((blk w.heap.size).add 0) = some (.int .i64 ad) ∧
 l1.elim False fun bb =>
 ∃ (b1 : Int), aq.cell? (bb.add 1) = some (.int .i64 b1) ∧
 bif ad != b1 then (
 R (.int .i64 20) aq) else (
 thenW (aq.drew) fun ap =>
 l1.elim False fun b9 =>
 ∃ (b8 : Option Addr), ap.cell? (b9.add 0) = some (.pointer b8) ∧
 l1.elim False fun ba =>
 ∃ (a2 : Int), ap.cell? (ba.add 2) = some (.int .u64 a2) ∧
 ∃ (a1 : Int) (a3 : Int) (ae : Int) (ao : Int) (ak : Int) (ab : Int) (a5 : Option Addr) (a7 : Nat) (a9 : Nat) (ai : Int), cellsAt ap (blk w.heap.size) [.int .i64 a1, .int .i64 a3, .int .u64 ae, .int .i64 ao, .int .i64 ak, .int .i64 ab, .slice a5 a7 a9, .int .u64 ai] 0 ∧
 Calls Try.prog 45 #[.pointer b8, .int .u64 a2, .agg #[.int .i64 a1, .int .i64 a3, .int .u64 ae, .int .i64 ao, .int .i64 ak, .int .i64 ab, .slice a5 a7 a9, .int .u64 ai]] ap fun b7 az => ∃ (ah : Bool), b7 = .returned (.bool ah) ∧
 bif !ah then (
 R (.int .i64 6) az) else (
 R (.int .i64 0) az)))

theorem chain_Log_right.eq (l1 : Option Addr) (eWriter2 : Int) (eIndex3 : Int) (ePrev4 : Int) (eAtT5 : Int) (eAtW6 : Int) (eEpoch7 : Int) (eBody8a : Option Addr) (eBody8n : Nat) (eBody8c : Nat) (eSig9 : Int) (R : Value → World → Prop) (w : World) : mfunc Try.prog [] 67 [.pointer l1, .agg #[.int .i64 eWriter2, .int .i64 eIndex3, .int .u64 ePrev4, .int .i64 eAtT5, .int .i64 eAtW6, .int .i64 eEpoch7, .slice eBody8a eBody8n eBody8c, .int .u64 eSig9]] R w = chain_Log_right.M l1 eWriter2 eIndex3 ePrev4 eAtT5 eAtW6 eEpoch7 eBody8a eBody8n eBody8c eSig9 R w := by kernel_rfl
theorem chain_Log_right.ok (l1 : Option Addr) (a0 : Int) (a3 : Int) (a6 : Int) (a7 : Int) (a9 : Int) (a2 : Int) (a5 : Option Addr) (a4 : Nat) (a1 : Nat) (a8 : Int) {R : Value → World → Prop} {w : World} (h : chain_Log_right.M l1 a0 a3 a6 a7 a9 a2 a5 a4 a1 a8 R w) : Calls Try.prog 67 #[.pointer l1, .agg #[.int .i64 a0, .int .i64 a3, .int .u64 a6, .int .i64 a7, .int .i64 a9, .int .i64 a2, .slice a5 a4 a1, .int .u64 a8]] w fun e w' => ∃ v, e = .returned v ∧ R v w' :=
  mfunc_ok follows (H := []) (args := [.pointer l1, .agg #[.int .i64 a0, .int .i64 a3, .int .u64 a6, .int .i64 a7, .int .i64 a9, .int .i64 a2, .slice a5 a4 a1, .int .u64 a8]]) (by rw [chain_Log_right.eq]; exact h)

def chain_Log_right.N (l1 : Option Addr) (a0 : Int) (a2 : Int) (a8 : Int) (aa : Int) (a9 : Int) (a6 : Int) (a7 : Option Addr) (a3 : Nat) (a5 : Nat) (ab : Int) (R : Value → World → Prop) (w : World) : Prop :=
 ((entry_Right.F a0 a2 a8 aa a9 a6 a7 a3 a5 ab) = false →
 ∀ (ad : World), Ext no w ad →
 R (.int .i64 1) ad) ∧
 ((entry_Right.F a0 a2 a8 aa a9 a6 a7 a3 a5 ab) = true →
 ∃ ah : Addr, l1 = some ah ∧
 ∃ (ac : Int), w.cell? (ah.add 1) = some (.int .i64 ac) ∧
 (a0 ≠ ac →
 ∀ (ag : World), Ext no w ag →
 R (.int .i64 20) ag) ∧
 (a0 = ac →
 ∃ (aj : Option Addr), w.cell? (ah.add 0) = some (.pointer aj) ∧
 ∃ (a1 : Int), w.cell? (ah.add 2) = some (.int .u64 a1) ∧
 ∀ (af : World), Ext no w af →
 Calls Try.prog 45 #[.pointer aj, .int .u64 a1, .agg #[.int .i64 a0, .int .i64 a2, .int .u64 a8, .int .i64 aa, .int .i64 a9, .int .i64 a6, .slice a7 a3 a5, .int .u64 ab]] af fun ai ae => ∃ (a4 : Bool), ai = .returned (.bool a4) ∧
 (a4 = false →
 R (.int .i64 6) ae) ∧
 (a4 = true →
 R (.int .i64 0) ae)))

theorem chain_Log_right.up (l1 : Option Addr) (a0 : Int) (a1 : Int) (a6 : Int) (a9 : Int) (a8 : Int) (a4 : Int) (a5 : Option Addr) (a2 : Nat) (a3 : Nat) (aa : Int) {R : Value → World → Prop} {w : World} (h : chain_Log_right.N l1 a0 a1 a6 a9 a8 a4 a5 a2 a3 aa R w) : chain_Log_right.M l1 a0 a1 a6 a9 a8 a4 a5 a2 a3 aa R w := by
  unfold chain_Log_right.M
  unfold chain_Log_right.N at h
  refine thenW_in fun ay au => ?_
  have a7 := Blk.of_new au
  have b1 := ((Ext.refl no w)).size
  have am := (Ext.refl no w).x_alloc au
  refine ⟨a0, a1, a6, a9, a8, a4, a5, a2, a3, aa, ⟨a7.celli 0 rfl rfl, a7.celli 1 rfl rfl, a7.celli 2 rfl rfl, a7.celli 3 rfl rfl, a7.celli 4 rfl rfl, a7.celli 5 rfl rfl, a7.celli 6 rfl rfl, a7.celli 7 rfl rfl, trivial⟩, ?_⟩
  refine (entry_Right.pure a0 a1 a6 a9 a8 a4 a5 a2 a3 aa).mono fun ee ww11 ⟨he, hxx⟩ => ⟨(entry_Right.F a0 a1 a6 a9 a8 a4 a5 a2 a3 aa), he, ?_⟩
  have ag := am.trans hxx
  have a7 := a7.ext hxx id
  refine bif_of (fun an => ?_) (fun an => ?_)
  · have h := h.1 (not_t an)
    have h := h ww11 ag
    exact h
  · have h := h.2 (not_f an)
    refine thenW_in fun ap av => ?_
    have ad := ag.x_drew av
    have a7 := a7.x_drew av
    refine ⟨a0, a7.celli 0 rfl rfl, ?_⟩
    obtain ⟨b0, af, h⟩ := h
    refine elim_some af ?_
    obtain ⟨ao, aq, h⟩ := h
    refine ⟨ao, (ad).cell aq id, ?_⟩
    refine bif_of (fun aj => ?_) (fun aj => ?_)
    · have h := h.1 (bne_t aj)
      have h := h ap ad
      exact h
    · have h := h.2 (bne_f aj)
      refine thenW_in fun ak ar => ?_
      have ae := ad.x_drew ar
      have a7 := a7.x_drew ar
      refine elim_some af ?_
      obtain ⟨az, ai, h⟩ := h
      refine ⟨az, (ae).cell ai id, ?_⟩
      refine elim_some af ?_
      obtain ⟨ab, al, h⟩ := h
      refine ⟨ab, (ae).cell al id, ?_⟩
      refine ⟨a0, a1, a6, a9, a8, a4, a5, a2, a3, aa, ⟨a7.celli 0 rfl rfl, a7.celli 1 rfl rfl, a7.celli 2 rfl rfl, a7.celli 3 rfl rfl, a7.celli 4 rfl rfl, a7.celli 5 rfl rfl, a7.celli 6 rfl rfl, a7.celli 7 rfl rfl, trivial⟩, ?_⟩
      have h := h ak ae
      refine h.mono fun ax aw h => ?_
      obtain ⟨ac, he, h⟩ := h
      refine ⟨ac, he, ?_⟩
      refine bif_of (fun ah => ?_) (fun ah => ?_)
      · have h := h.1 (not_t ah)
        exact h
      · have h := h.2 (not_f ah)
        exact h

theorem chain_Log_right.go (l1 : Option Addr) (a0 : Int) (a3 : Int) (a6 : Int) (a7 : Int) (a9 : Int) (a2 : Int) (a5 : Option Addr) (a4 : Nat) (a1 : Nat) (a8 : Int) {R : Value → World → Prop} {w : World} (h : chain_Log_right.N l1 a0 a3 a6 a7 a9 a2 a5 a4 a1 a8 R w) : Calls Try.prog 67 #[.pointer l1, .agg #[.int .i64 a0, .int .i64 a3, .int .u64 a6, .int .i64 a7, .int .i64 a9, .int .i64 a2, .slice a5 a4 a1, .int .u64 a8]] w fun e w' => ∃ v, e = .returned v ∧ R v w' := chain_Log_right.ok l1 a0 a3 a6 a7 a9 a2 a5 a4 a1 a8 (chain_Log_right.up l1 a0 a3 a6 a7 a9 a2 a5 a4 a1 a8 h)
theorem chain_Log_right.run (l1 : Option Addr) (a0 : Int) (a3 : Int) (a6 : Int) (a7 : Int) (a9 : Int) (a2 : Int) (a5 : Option Addr) (a4 : Nat) (a1 : Nat) (a8 : Int) {V : Value} {Q : World → Prop} {w : World} (h : chain_Log_right.N l1 a0 a3 a6 a7 a9 a2 a5 a4 a1 a8 (fun v w' => v = V ∧ Q w') w) : Calls Try.prog 67 #[.pointer l1, .agg #[.int .i64 a0, .int .i64 a3, .int .u64 a6, .int .i64 a7, .int .i64 a9, .int .i64 a2, .slice a5 a4 a1, .int .u64 a8]] w (Ret V Q) := (chain_Log_right.go l1 a0 a3 a6 a7 a9 a2 a5 a4 a1 a8 h).mono fun e w' ⟨v, he, hv, hq⟩ => ⟨by rw [he, hv], hq⟩

/-- (*chain.Log).place -/
def chain_Log_place.M (l1 : Option Addr) (ak : Int) (ar : Int) (az : Int) (b3 : Int) (b2 : Int) (aw : Int) (ax : Option Addr) (au : Nat) (av : Nat) (b4 : Int) (R : Value → World → Prop) (w : World) : Prop :=
 thenW (w.alloc (.cells #[.int .i64 ak, .int .i64 ar, .int .u64 az, .int .i64 b3, .int .i64 b2, .int .i64 aw, .slice ax au av, .int .u64 b4] 29)) fun ah =>
 l1.elim False fun ba =>
 ∃ (b9 : Option Addr) (ay : Nat) (b7 : Nat), ah.cell? (ba.add 3) = some (.slice b9 ay b7) ∧
 ∃ (ad : Int), ah.cell? ((blk w.heap.size).add 1) = some (.int .i64 ad) ∧
 bif decide (ad > (ay : Int)) then (
 R (.int .i64 7) ah) else (
 ∃ (af : Int), ah.cell? ((blk w.heap.size).add 1) = some (.int .i64 af) ∧
 bif af == (ay : Int) then (
 R (.int .i64 0) ah) else (
 thenW (ah.drew) fun ai =>
 l1.elim False fun bb =>
 ∃ (b0 : Option Addr) (b5 : Nat) (b8 : Nat), ai.cell? (bb.add 3) = some (.slice b0 b5 b8) ∧
 ∃ (a0 : Int), ai.cell? ((blk w.heap.size).add 1) = some (.int .i64 a0) ∧
 b0.elim False fun bc =>
 0 ≤ (a0 : Int) ∧ (a0 : Int) < (b5 : Int) ∧
 ∃ (a1 : Int) (a9 : Int) (ae : Int) (am : Int) (ap : Int) (a8 : Int) (a5 : Option Addr) (a3 : Nat) (a7 : Nat) (aq : Int), cellsAt ai (bc.add (Int.toNat a0 * 8)) [.int .i64 a1, .int .i64 a9, .int .u64 ae, .int .i64 am, .int .i64 ap, .int .i64 a8, .slice a5 a3 a7, .int .u64 aq] 0 ∧
 ∃ (a2 : Int) (a6 : Int) (ag : Int) (al : Int) (an : Int) (ac : Int) (a4 : Option Addr) (ab : Nat) (aa : Nat) (aj : Int), cellsAt ai (blk w.heap.size) [.int .i64 a2, .int .i64 a6, .int .u64 ag, .int .i64 al, .int .i64 an, .int .i64 ac, .slice a4 ab aa, .int .u64 aj] 0 ∧
 Calls Try.prog 38 #[.agg #[.int .i64 a1, .int .i64 a9, .int .u64 ae, .int .i64 am, .int .i64 ap, .int .i64 a8, .slice a5 a3 a7, .int .u64 aq], .agg #[.int .i64 a2, .int .i64 a6, .int .u64 ag, .int .i64 al, .int .i64 an, .int .i64 ac, .slice a4 ab aa, .int .u64 aj]] ai fun b6 b1 => ∃ (ao : Bool), b6 = .returned (.bool ao) ∧
 bif ao then (
 R (.int .i64 8) b1) else (
 R (.int .i64 9) b1)))

theorem chain_Log_place.eq (l1 : Option Addr) (eWriter2 : Int) (eIndex3 : Int) (ePrev4 : Int) (eAtT5 : Int) (eAtW6 : Int) (eEpoch7 : Int) (eBody8a : Option Addr) (eBody8n : Nat) (eBody8c : Nat) (eSig9 : Int) (R : Value → World → Prop) (w : World) : mfunc Try.prog [] 68 [.pointer l1, .agg #[.int .i64 eWriter2, .int .i64 eIndex3, .int .u64 ePrev4, .int .i64 eAtT5, .int .i64 eAtW6, .int .i64 eEpoch7, .slice eBody8a eBody8n eBody8c, .int .u64 eSig9]] R w = chain_Log_place.M l1 eWriter2 eIndex3 ePrev4 eAtT5 eAtW6 eEpoch7 eBody8a eBody8n eBody8c eSig9 R w := by kernel_rfl
theorem chain_Log_place.ok (l1 : Option Addr) (a0 : Int) (a3 : Int) (a6 : Int) (a7 : Int) (a9 : Int) (a2 : Int) (a5 : Option Addr) (a4 : Nat) (a1 : Nat) (a8 : Int) {R : Value → World → Prop} {w : World} (h : chain_Log_place.M l1 a0 a3 a6 a7 a9 a2 a5 a4 a1 a8 R w) : Calls Try.prog 68 #[.pointer l1, .agg #[.int .i64 a0, .int .i64 a3, .int .u64 a6, .int .i64 a7, .int .i64 a9, .int .i64 a2, .slice a5 a4 a1, .int .u64 a8]] w fun e w' => ∃ v, e = .returned v ∧ R v w' :=
  mfunc_ok follows (H := []) (args := [.pointer l1, .agg #[.int .i64 a0, .int .i64 a3, .int .u64 a6, .int .i64 a7, .int .i64 a9, .int .i64 a2, .slice a5 a4 a1, .int .u64 a8]]) (by rw [chain_Log_place.eq]; exact h)

def chain_Log_place.N (l1 : Option Addr) (aa : Int) (a0 : Int) (aj : Int) (ap : Int) (ao : Int) (ah : Int) (ai : Option Addr) (af : Nat) (ag : Nat) (aq : Int) (R : Value → World → Prop) (w : World) : Prop :=
 ∃ ar : Addr, l1 = some ar ∧
 ∃ (av : Option Addr) (a9 : Nat) (au : Nat), w.cell? (ar.add 3) = some (.slice av a9 au) ∧
 (a0 > (a9 : Int) →
 ∀ (ab : World), Ext no w ab →
 R (.int .i64 7) ab) ∧
 (a0 ≤ (a9 : Int) →
 (a0 = (a9 : Int) →
 ∀ (ab : World), Ext no w ab →
 R (.int .i64 0) ab) ∧
 (a0 ≠ (a9 : Int) →
 ∃ (an : Option Addr) (am : Nat) (ax : Nat), w.cell? (ar.add 3) = some (.slice an am ax) ∧
 ∃ ay : Addr, an = some ay ∧
 0 ≤ (a0 : Int) ∧ (a0 : Int) < (am : Int) ∧
 ∃ (a1 : Int) (a5 : Int) (a8 : Int) (ae : Int) (ac : Int) (a4 : Int) (a6 : Option Addr) (a2 : Nat) (a3 : Nat) (ad : Int), cellsAt w (ay.add (Int.toNat a0 * 8)) [.int .i64 a1, .int .i64 a5, .int .u64 a8, .int .i64 ae, .int .i64 ac, .int .i64 a4, .slice a6 a2 a3, .int .u64 ad] 0 ∧
 ∀ (al : World), Ext no w al →
 Calls Try.prog 38 #[.agg #[.int .i64 a1, .int .i64 a5, .int .u64 a8, .int .i64 ae, .int .i64 ac, .int .i64 a4, .slice a6 a2 a3, .int .u64 ad], .agg #[.int .i64 aa, .int .i64 a0, .int .u64 aj, .int .i64 ap, .int .i64 ao, .int .i64 ah, .slice ai af ag, .int .u64 aq]] al fun aw ak => ∃ (a7 : Bool), aw = .returned (.bool a7) ∧
 (a7 = true →
 R (.int .i64 8) ak) ∧
 (a7 = false →
 R (.int .i64 9) ak)))

theorem chain_Log_place.up (l1 : Option Addr) (a1 : Int) (a0 : Int) (a6 : Int) (af : Int) (ae : Int) (a4 : Int) (a5 : Option Addr) (a2 : Nat) (a3 : Nat) (ag : Int) {R : Value → World → Prop} {w : World} (h : chain_Log_place.N l1 a1 a0 a6 af ae a4 a5 a2 a3 ag R w) : chain_Log_place.M l1 a1 a0 a6 af ae a4 a5 a2 a3 ag R w := by
  unfold chain_Log_place.M
  unfold chain_Log_place.N at h
  refine thenW_in fun ap b7 => ?_
  have a8 := Blk.of_new b7
  have bd := ((Ext.refl no w)).size
  have ah := (Ext.refl no w).x_alloc b7
  obtain ⟨bc, ao, h⟩ := h
  refine elim_some ao ?_
  obtain ⟨ay, az, ax, b4, h⟩ := h
  refine ⟨ay, az, ax, (ah).cell b4 id, ?_⟩
  refine ⟨a0, a8.celli 1 rfl rfl, ?_⟩
  refine bif_of (fun ar => ?_) (fun ar => ?_)
  · have h := h.1 (of_decide_eq_true ar)
    have h := h ap ah
    exact h
  · have h := h.2 (Int.not_lt.1 (of_decide_eq_false ar))
    refine ⟨a0, a8.celli 1 rfl rfl, ?_⟩
    refine bif_of (fun b0 => ?_) (fun b0 => ?_)
    · have h := h.1 (beq_t b0)
      have h := h ap ah
      exact h
    · have h := h.2 (beq_f b0)
      refine thenW_in fun au b6 => ?_
      have aj := ah.x_drew b6
      have a8 := a8.x_drew b6
      refine elim_some ao ?_
      obtain ⟨b2, b1, b3, aw, h⟩ := h
      refine ⟨b2, b1, b3, (aj).cell aw id, ?_⟩
      refine ⟨a0, a8.celli 1 rfl rfl, ?_⟩
      obtain ⟨be, b5, h⟩ := h
      refine elim_some b5 ?_
      obtain ⟨bb, b8, h⟩ := h
      refine ⟨bb, b8, ?_⟩
      obtain ⟨a7, ac, ai, an, ak, ab, ad, a9, aa, al, aq, h⟩ := h
      refine ⟨a7, ac, ai, an, ak, ab, ad, a9, aa, al, cellsAt_no (aj) aq, ?_⟩
      refine ⟨a1, a0, a6, af, ae, a4, a5, a2, a3, ag, ⟨a8.celli 0 rfl rfl, a8.celli 1 rfl rfl, a8.celli 2 rfl rfl, a8.celli 3 rfl rfl, a8.celli 4 rfl rfl, a8.celli 5 rfl rfl, a8.celli 6 rfl rfl, a8.celli 7 rfl rfl, trivial⟩, ?_⟩
      have h := h au aj
      refine h.mono fun ba b9 h => ?_
      obtain ⟨am, he, h⟩ := h
      refine ⟨am, he, ?_⟩
      refine bif_of (fun av => ?_) (fun av => ?_)
      · have h := h.1 av
        exact h
      · have h := h.2 av
        exact h

theorem chain_Log_place.go (l1 : Option Addr) (a0 : Int) (a3 : Int) (a6 : Int) (a7 : Int) (a9 : Int) (a2 : Int) (a5 : Option Addr) (a4 : Nat) (a1 : Nat) (a8 : Int) {R : Value → World → Prop} {w : World} (h : chain_Log_place.N l1 a0 a3 a6 a7 a9 a2 a5 a4 a1 a8 R w) : Calls Try.prog 68 #[.pointer l1, .agg #[.int .i64 a0, .int .i64 a3, .int .u64 a6, .int .i64 a7, .int .i64 a9, .int .i64 a2, .slice a5 a4 a1, .int .u64 a8]] w fun e w' => ∃ v, e = .returned v ∧ R v w' := chain_Log_place.ok l1 a0 a3 a6 a7 a9 a2 a5 a4 a1 a8 (chain_Log_place.up l1 a0 a3 a6 a7 a9 a2 a5 a4 a1 a8 h)
theorem chain_Log_place.run (l1 : Option Addr) (a0 : Int) (a3 : Int) (a6 : Int) (a7 : Int) (a9 : Int) (a2 : Int) (a5 : Option Addr) (a4 : Nat) (a1 : Nat) (a8 : Int) {V : Value} {Q : World → Prop} {w : World} (h : chain_Log_place.N l1 a0 a3 a6 a7 a9 a2 a5 a4 a1 a8 (fun v w' => v = V ∧ Q w') w) : Calls Try.prog 68 #[.pointer l1, .agg #[.int .i64 a0, .int .i64 a3, .int .u64 a6, .int .i64 a7, .int .i64 a9, .int .i64 a2, .slice a5 a4 a1, .int .u64 a8]] w (Ret V Q) := (chain_Log_place.go l1 a0 a3 a6 a7 a9 a2 a5 a4 a1 a8 h).mono fun e w' ⟨v, he, hv, hq⟩ => ⟨by rw [he, hv], hq⟩

/-- (*chain.Log).behind -/
def chain_Log_behind.M (l1 : Option Addr) (a2 : Int) (a6 : Int) (ag : Int) (ak : Int) (ai : Int) (a9 : Int) (aa : Option Addr) (a7 : Nat) (a8 : Nat) (al : Int) (R : Value → World → Prop) (w : World) : Prop :=
 thenW (w.alloc (.cells #[.int .i64 a2, .int .i64 a6, .int .u64 ag, .int .i64 ak, .int .i64 ai, .int .i64 a9, .slice aa a7 a8, .int .u64 al] 29)) fun aj =>
 l1.elim False fun av =>
 ∃ (aq : Option Addr) (a1 : Nat) (ap : Nat), aj.cell? (av.add 3) = some (.slice aq a1 ap) ∧
 thenW (aj.drew) fun a5 =>
 ∃ (a0 : Int), a5.cell? ((blk w.heap.size).add 2) = some (.int .u64 a0) ∧
 l1.elim False fun au =>
 ∃ (ab : Int), a5.cell? (au.add 4) = some (.int .u64 ab) ∧
 bif a0 != ab then (
 R (.int .i64 5) a5) else (
 thenW (a5.drew) fun a3 =>
 bif decide ((a1 : Int) > 0) then (
 l1.elim False fun aw =>
 ∃ (am : Option Addr) (ah : Nat) (ao : Nat), a3.cell? (aw.add 3) = some (.slice am ah ao) ∧
 am.elim False fun ax =>
 0 ≤ ((IntKind.i64.wrap ((a1 : Int) - 1)) : Int) ∧ ((IntKind.i64.wrap ((a1 : Int) - 1)) : Int) < (ah : Int) ∧
 ∃ (ad : Int) (ac : Int), cellsAt a3 ((ax.add (Int.toNat (IntKind.i64.wrap ((a1 : Int) - 1)) * 8)).add 3) [.int .i64 ad, .int .i64 ac] 0 ∧
 ∃ (ae : Int) (af : Int), cellsAt a3 ((blk w.heap.size).add 3) [.int .i64 ae, .int .i64 af] 0 ∧
 Calls Try.prog 65 #[.agg #[.int .i64 ad, .int .i64 ac], .agg #[.int .i64 ae, .int .i64 af]] a3 fun ar an => ∃ (a4 : Bool), ar = .returned (.bool a4) ∧
 bif !a4 then (
 R (.int .i64 2) an) else (
 R (.int .i64 0) an)) else (
 R (.int .i64 0) a3))

theorem chain_Log_behind.eq (l1 : Option Addr) (eWriter2 : Int) (eIndex3 : Int) (ePrev4 : Int) (eAtT5 : Int) (eAtW6 : Int) (eEpoch7 : Int) (eBody8a : Option Addr) (eBody8n : Nat) (eBody8c : Nat) (eSig9 : Int) (R : Value → World → Prop) (w : World) : mfunc Try.prog [] 35 [.pointer l1, .agg #[.int .i64 eWriter2, .int .i64 eIndex3, .int .u64 ePrev4, .int .i64 eAtT5, .int .i64 eAtW6, .int .i64 eEpoch7, .slice eBody8a eBody8n eBody8c, .int .u64 eSig9]] R w = chain_Log_behind.M l1 eWriter2 eIndex3 ePrev4 eAtT5 eAtW6 eEpoch7 eBody8a eBody8n eBody8c eSig9 R w := by kernel_rfl
theorem chain_Log_behind.ok (l1 : Option Addr) (a0 : Int) (a3 : Int) (a6 : Int) (a7 : Int) (a9 : Int) (a2 : Int) (a5 : Option Addr) (a4 : Nat) (a1 : Nat) (a8 : Int) {R : Value → World → Prop} {w : World} (h : chain_Log_behind.M l1 a0 a3 a6 a7 a9 a2 a5 a4 a1 a8 R w) : Calls Try.prog 35 #[.pointer l1, .agg #[.int .i64 a0, .int .i64 a3, .int .u64 a6, .int .i64 a7, .int .i64 a9, .int .i64 a2, .slice a5 a4 a1, .int .u64 a8]] w fun e w' => ∃ v, e = .returned v ∧ R v w' :=
  mfunc_ok follows (H := []) (args := [.pointer l1, .agg #[.int .i64 a0, .int .i64 a3, .int .u64 a6, .int .i64 a7, .int .i64 a9, .int .i64 a2, .slice a5 a4 a1, .int .u64 a8]]) (by rw [chain_Log_behind.eq]; exact h)

def chain_Log_behind.N (l1 : Option Addr) (a8 : Int) (af : Int) (a4 : Int) (ac : Int) (a9 : Int) (ai : Int) (aj : Option Addr) (ag : Nat) (ah : Nat) (ap : Int) (R : Value → World → Prop) (w : World) : Prop :=
 ∃ ae : Addr, l1 = some ae ∧
 ∃ (am : Option Addr) (a0 : Nat) (al : Nat), w.cell? (ae.add 3) = some (.slice am a0 al) ∧
 ∃ (a2 : Int), w.cell? (ae.add 4) = some (.int .u64 a2) ∧
 (a4 ≠ a2 →
 ∀ (ad : World), Ext no w ad →
 R (.int .i64 5) ad) ∧
 (a4 = a2 →
 ((a0 : Int) > 0 →
 ∃ (aa : Option Addr) (a7 : Nat) (an : Nat), w.cell? (ae.add 3) = some (.slice aa a7 an) ∧
 (-9223372036854775808 : Int) ≤ ((a0 : Int) - 1) ∧ ((a0 : Int) - 1) < 9223372036854775808 ∧
 ∃ ao : Addr, aa = some ao ∧
 0 ≤ (((a0 : Int) - 1) : Int) ∧ (((a0 : Int) - 1) : Int) < (a7 : Int) ∧
 ∃ (a5 : Int) (a6 : Int), cellsAt w ((ao.add (Int.toNat ((a0 : Int) - 1) * 8)).add 3) [.int .i64 a5, .int .i64 a6] 0 ∧
 ∀ (a3 : World), Ext no w a3 →
 Calls Try.prog 65 #[.agg #[.int .i64 a5, .int .i64 a6], .agg #[.int .i64 ac, .int .i64 a9]] a3 fun ak ab => ∃ (a1 : Bool), ak = .returned (.bool a1) ∧
 (a1 = false →
 R (.int .i64 2) ab) ∧
 (a1 = true →
 R (.int .i64 0) ab)) ∧
 ((a0 : Int) ≤ 0 →
 ∀ (a3 : World), Ext no w a3 →
 R (.int .i64 0) a3))

theorem chain_Log_behind.up (l1 : Option Addr) (a0 : Int) (a2 : Int) (a1 : Int) (a8 : Int) (a7 : Int) (a5 : Int) (a6 : Option Addr) (a3 : Nat) (a4 : Nat) (aa : Int) {R : Value → World → Prop} {w : World} (h : chain_Log_behind.N l1 a0 a2 a1 a8 a7 a5 a6 a3 a4 aa R w) : chain_Log_behind.M l1 a0 a2 a1 a8 a7 a5 a6 a3 a4 aa R w := by
  unfold chain_Log_behind.M
  unfold chain_Log_behind.N at h
  refine thenW_in fun b7 b1 => ?_
  have ae := Blk.of_new b1
  have bd := ((Ext.refl no w)).size
  have aj := (Ext.refl no w).x_alloc b1
  obtain ⟨bb, ad, h⟩ := h
  refine elim_some ad ?_
  obtain ⟨al, am, ak, ax, h⟩ := h
  refine ⟨al, am, ak, (aj).cell ax id, ?_⟩
  refine thenW_in fun b0 b3 => ?_
  have ab := aj.x_drew b3
  have ae := ae.x_drew b3
  refine ⟨a1, ae.celli 2 rfl rfl, ?_⟩
  refine elim_some ad ?_
  obtain ⟨af, au, h⟩ := h
  refine ⟨af, (ab).cell au id, ?_⟩
  refine bif_of (fun az => ?_) (fun az => ?_)
  · have h := h.1 (bne_t az)
    have h := h b0 ab
    exact h
  · have h := h.2 (bne_f az)
    refine thenW_in fun ah b2 => ?_
    have a9 := ab.x_drew b2
    have ae := ae.x_drew b2
    refine bif_of (fun ar => ?_) (fun ar => ?_)
    · have h := h.1 (of_decide_eq_true ar)
      refine elim_some ad ?_
      obtain ⟨av, an, ap, aq, h⟩ := h
      refine ⟨av, an, ap, (a9).cell aq id, ?_⟩
      obtain ⟨b6, b9, h⟩ := h
      try rw [w64 b6 b9]
      obtain ⟨bc, aw, h⟩ := h
      refine elim_some aw ?_
      obtain ⟨ba, b4, h⟩ := h
      refine ⟨ba, b4, ?_⟩
      obtain ⟨ag, ai, ay, h⟩ := h
      refine ⟨ag, ai, cellsAt_no (a9) ay, ?_⟩
      refine ⟨a8, a7, ⟨ae.celli 3 rfl rfl, ae.celli 4 rfl rfl, trivial⟩, ?_⟩
      have h := h ah a9
      refine h.mono fun b5 b8 h => ?_
      obtain ⟨ac, he, h⟩ := h
      refine ⟨ac, he, ?_⟩
      refine bif_of (fun ao => ?_) (fun ao => ?_)
      · have h := h.1 (not_t ao)
        exact h
      · have h := h.2 (not_f ao)
        exact h
    · have h := h.2 (Int.not_lt.1 (of_decide_eq_false ar))
      have h := h ah a9
      exact h

theorem chain_Log_behind.go (l1 : Option Addr) (a0 : Int) (a3 : Int) (a6 : Int) (a7 : Int) (a9 : Int) (a2 : Int) (a5 : Option Addr) (a4 : Nat) (a1 : Nat) (a8 : Int) {R : Value → World → Prop} {w : World} (h : chain_Log_behind.N l1 a0 a3 a6 a7 a9 a2 a5 a4 a1 a8 R w) : Calls Try.prog 35 #[.pointer l1, .agg #[.int .i64 a0, .int .i64 a3, .int .u64 a6, .int .i64 a7, .int .i64 a9, .int .i64 a2, .slice a5 a4 a1, .int .u64 a8]] w fun e w' => ∃ v, e = .returned v ∧ R v w' := chain_Log_behind.ok l1 a0 a3 a6 a7 a9 a2 a5 a4 a1 a8 (chain_Log_behind.up l1 a0 a3 a6 a7 a9 a2 a5 a4 a1 a8 h)
theorem chain_Log_behind.run (l1 : Option Addr) (a0 : Int) (a3 : Int) (a6 : Int) (a7 : Int) (a9 : Int) (a2 : Int) (a5 : Option Addr) (a4 : Nat) (a1 : Nat) (a8 : Int) {V : Value} {Q : World → Prop} {w : World} (h : chain_Log_behind.N l1 a0 a3 a6 a7 a9 a2 a5 a4 a1 a8 (fun v w' => v = V ∧ Q w') w) : Calls Try.prog 35 #[.pointer l1, .agg #[.int .i64 a0, .int .i64 a3, .int .u64 a6, .int .i64 a7, .int .i64 a9, .int .i64 a2, .slice a5 a4 a1, .int .u64 a8]] w (Ret V Q) := (chain_Log_behind.go l1 a0 a3 a6 a7 a9 a2 a5 a4 a1 a8 h).mono fun e w' ⟨v, he, hv, hq⟩ => ⟨by rw [he, hv], hq⟩

/-- (*chain.Log).Check -/
def chain_Log_Check.M (l1 : Option Addr) (ax : Int) (b2 : Int) (b7 : Int) (bd : Int) (bb : Int) (b5 : Int) (b6 : Option Addr) (b3 : Nat) (b4 : Nat) (be : Int) (R : Value → World → Prop) (w : World) : Prop :=
 thenW (w.alloc (.cells #[.int .i64 ax, .int .i64 b2, .int .u64 b7, .int .i64 bd, .int .i64 bb, .int .i64 b5, .slice b6 b3 b4, .int .u64 be] 29)) fun bc =>
 bif Option.isNone l1 then (
 R (.int .i64 23) bc) else (
 ∃ (I0 : Nat → List Value → World → Prop) (bm : Nat), I0 bm [.int .i64 0] bc ∧ ∀ (bf : Nat) (al : World) (b1 : Int), I0 bf [.int .i64 b1] al →
 bif decide (b1 < 3) then (
 0 ≤ (b1 : Int) ∧ (b1 : Int) < (3 : Int) ∧
 ((b1 : Int) = 0 → 
 ∃ (a1 : Int) (ak : Int) (am : Int) (az : Int) (av : Int) (a9 : Int) (aa : Option Addr) (ab : Nat) (ai : Nat) (b0 : Int), cellsAt al (blk w.heap.size) [.int .i64 a1, .int .i64 ak, .int .u64 am, .int .i64 az, .int .i64 av, .int .i64 a9, .slice aa ab ai, .int .u64 b0] 0 ∧
 Calls Try.prog 67 #[.pointer l1, .agg #[.int .i64 a1, .int .i64 ak, .int .u64 am, .int .i64 az, .int .i64 av, .int .i64 a9, .slice aa ab ai, .int .u64 b0]] al fun bh ba => ∃ (a4 : Int), bh = .returned (.int .i64 a4) ∧
 bif a4 != 0 then (
 R (.int .i64 a4) ba) else (
 ∃ bj, bj < bf ∧ I0 bj [.int .i64 (IntKind.i64.wrap (b1 + 1))] ba)) ∧
 ((b1 : Int) = 1 → 
 ∃ (a3 : Int) (a6 : Int) (an : Int) (au : Int) (aq : Int) (ad : Int) (ag : Option Addr) (ah : Nat) (af : Nat) (ap : Int), cellsAt al (blk w.heap.size) [.int .i64 a3, .int .i64 a6, .int .u64 an, .int .i64 au, .int .i64 aq, .int .i64 ad, .slice ag ah af, .int .u64 ap] 0 ∧
 Calls Try.prog 68 #[.pointer l1, .agg #[.int .i64 a3, .int .i64 a6, .int .u64 an, .int .i64 au, .int .i64 aq, .int .i64 ad, .slice ag ah af, .int .u64 ap]] al fun bg b9 => ∃ (a5 : Int), bg = .returned (.int .i64 a5) ∧
 bif a5 != 0 then (
 R (.int .i64 a5) b9) else (
 ∃ bk, bk < bf ∧ I0 bk [.int .i64 (IntKind.i64.wrap (b1 + 1))] b9)) ∧
 ((b1 : Int) = 2 → 
 ∃ (a2 : Int) (ae : Int) (ao : Int) (aw : Int) (ar : Int) (ac : Int) (a7 : Option Addr) (a8 : Nat) (aj : Nat) (ay : Int), cellsAt al (blk w.heap.size) [.int .i64 a2, .int .i64 ae, .int .u64 ao, .int .i64 aw, .int .i64 ar, .int .i64 ac, .slice a7 a8 aj, .int .u64 ay] 0 ∧
 Calls Try.prog 35 #[.pointer l1, .agg #[.int .i64 a2, .int .i64 ae, .int .u64 ao, .int .i64 aw, .int .i64 ar, .int .i64 ac, .slice a7 a8 aj, .int .u64 ay]] al fun bi b8 => ∃ (a0 : Int), bi = .returned (.int .i64 a0) ∧
 bif a0 != 0 then (
 R (.int .i64 a0) b8) else (
 ∃ bl, bl < bf ∧ I0 bl [.int .i64 (IntKind.i64.wrap (b1 + 1))] b8)) ∧ True) else (
 R (.int .i64 0) al))

theorem chain_Log_Check.eq (l1 : Option Addr) (eWriter2 : Int) (eIndex3 : Int) (ePrev4 : Int) (eAtT5 : Int) (eAtW6 : Int) (eEpoch7 : Int) (eBody8a : Option Addr) (eBody8n : Nat) (eBody8c : Nat) (eSig9 : Int) (R : Value → World → Prop) (w : World) : mfunc Try.prog [(0, [3, 16], [(17, (.one (.int .i64)))])] 37 [.pointer l1, .agg #[.int .i64 eWriter2, .int .i64 eIndex3, .int .u64 ePrev4, .int .i64 eAtT5, .int .i64 eAtW6, .int .i64 eEpoch7, .slice eBody8a eBody8n eBody8c, .int .u64 eSig9]] R w = chain_Log_Check.M l1 eWriter2 eIndex3 ePrev4 eAtT5 eAtW6 eEpoch7 eBody8a eBody8n eBody8c eSig9 R w := by kernel_rfl
theorem chain_Log_Check.ok (l1 : Option Addr) (a0 : Int) (a3 : Int) (a6 : Int) (a7 : Int) (a9 : Int) (a2 : Int) (a5 : Option Addr) (a4 : Nat) (a1 : Nat) (a8 : Int) {R : Value → World → Prop} {w : World} (h : chain_Log_Check.M l1 a0 a3 a6 a7 a9 a2 a5 a4 a1 a8 R w) : Calls Try.prog 37 #[.pointer l1, .agg #[.int .i64 a0, .int .i64 a3, .int .u64 a6, .int .i64 a7, .int .i64 a9, .int .i64 a2, .slice a5 a4 a1, .int .u64 a8]] w fun e w' => ∃ v, e = .returned v ∧ R v w' :=
  mfunc_ok follows (H := [(0, [3, 16], [(17, (.one (.int .i64)))])]) (args := [.pointer l1, .agg #[.int .i64 a0, .int .i64 a3, .int .u64 a6, .int .i64 a7, .int .i64 a9, .int .i64 a2, .slice a5 a4 a1, .int .u64 a8]]) (by rw [chain_Log_Check.eq]; exact h)

def chain_Log_Check.N (l1 : Option Addr) (a3 : Int) (a4 : Int) (ab : Int) (ae : Int) (ad : Int) (a7 : Int) (a8 : Option Addr) (a5 : Nat) (a6 : Nat) (af : Int) (R : Value → World → Prop) (w : World) : Prop :=
 (l1 = none →
 ∀ (ac : World), Ext no w ac →
 R (.int .i64 23) ac) ∧
 (l1 ≠ none →
 ∀ (ac : World) (ak : Nat), Ext no w ac → Priv w ac [ak] →
 ∃ (I0 : Nat → List Value → World → Prop) (ar : Nat), I0 ar [.int .i64 0] ac ∧ ∀ (aj : Nat) (a9 : World) (aa : Int), I0 aj [.int .i64 aa] a9 →
 (aa < 3 →
 0 ≤ (aa : Int) ∧ (aa : Int) < (3 : Int) ∧
 ((aa : Int) = 0 →
 Calls Try.prog 67 #[.pointer l1, .agg #[.int .i64 a3, .int .i64 a4, .int .u64 ab, .int .i64 ae, .int .i64 ad, .int .i64 a7, .slice a8 a5 a6, .int .u64 af]] a9 fun am ah => ∃ (a2 : Int), am = .returned (.int .i64 a2) ∧
 Keep [ak] a9 ah ∧
 (a2 ≠ 0 →
 R (.int .i64 a2) ah) ∧
 (a2 = 0 →
 (-9223372036854775808 : Int) ≤ (aa + 1) ∧ (aa + 1) < 9223372036854775808 ∧
 ∃ ao, ao < aj ∧ I0 ao [.int .i64 (aa + 1)] ah)) ∧
 ((aa : Int) = 1 →
 Calls Try.prog 68 #[.pointer l1, .agg #[.int .i64 a3, .int .i64 a4, .int .u64 ab, .int .i64 ae, .int .i64 ad, .int .i64 a7, .slice a8 a5 a6, .int .u64 af]] a9 fun an ag => ∃ (a1 : Int), an = .returned (.int .i64 a1) ∧
 Keep [ak] a9 ag ∧
 (a1 ≠ 0 →
 R (.int .i64 a1) ag) ∧
 (a1 = 0 →
 (-9223372036854775808 : Int) ≤ (aa + 1) ∧ (aa + 1) < 9223372036854775808 ∧
 ∃ ap, ap < aj ∧ I0 ap [.int .i64 (aa + 1)] ag)) ∧
 ((aa : Int) = 2 →
 Calls Try.prog 35 #[.pointer l1, .agg #[.int .i64 a3, .int .i64 a4, .int .u64 ab, .int .i64 ae, .int .i64 ad, .int .i64 a7, .slice a8 a5 a6, .int .u64 af]] a9 fun al ai => ∃ (a0 : Int), al = .returned (.int .i64 a0) ∧
 Keep [ak] a9 ai ∧
 (a0 ≠ 0 →
 R (.int .i64 a0) ai) ∧
 (a0 = 0 →
 (-9223372036854775808 : Int) ≤ (aa + 1) ∧ (aa + 1) < 9223372036854775808 ∧
 ∃ aq, aq < aj ∧ I0 aq [.int .i64 (aa + 1)] ai))) ∧
 ((3 : Int) ≤ aa →
 R (.int .i64 0) a9))

theorem chain_Log_Check.up (l1 : Option Addr) (a0 : Int) (a2 : Int) (a7 : Int) (a9 : Int) (a8 : Int) (a5 : Int) (a6 : Option Addr) (a3 : Nat) (a4 : Nat) (aa : Int) {R : Value → World → Prop} {w : World} (h : chain_Log_Check.N l1 a0 a2 a7 a9 a8 a5 a6 a3 a4 aa R w) : chain_Log_Check.M l1 a0 a2 a7 a9 a8 a5 a6 a3 a4 aa R w := by
  unfold chain_Log_Check.M
  unfold chain_Log_Check.N at h
  refine thenW_in fun af ao => ?_
  have a1 := Blk.of_new ao
  have aw := ((Ext.refl no w)).size
  have ag := (Ext.refl no w).x_alloc ao
  refine bif_of (fun aj => ?_) (fun aj => ?_)
  · have h := h.1 (isNone_t aj)
    have h := h af ag
    exact h
  · have h := h.2 (isNone_f aj)
    have h := h af (w.heap.size) ag (Priv.cons aw a1.lt Priv.nil)
    obtain ⟨I0, az, h0, h⟩ := h
    refine ⟨fun k vs ww => Blk ww w.heap.size 29 [.int .i64 a0, .int .i64 a2, .int .u64 a7, .int .i64 a9, .int .i64 a8, .int .i64 a5, .slice a6 a3 a4, .int .u64 aa] ∧ I0 k vs ww, az, ⟨a1, h0⟩, fun b0 al b3 hI => ?_⟩
    obtain ⟨a1, hI⟩ := hI
    have h := h b0 al b3 hI
    refine bif_of (fun am => ?_) (fun am => ?_)
    · have h := h.1 (of_decide_eq_true am)
      obtain ⟨b4, ap, h⟩ := h
      refine ⟨b4, ap, ?_⟩
      refine ⟨fun hk => ?_, fun hk => ?_, fun hk => ?_, trivial⟩
      · have h := h.1 hk
        refine ⟨a0, a2, a7, a9, a8, a5, a6, a3, a4, aa, ⟨a1.celli 0 rfl rfl, a1.celli 1 rfl rfl, a1.celli 2 rfl rfl, a1.celli 3 rfl rfl, a1.celli 4 rfl rfl, a1.celli 5 rfl rfl, a1.celli 6 rfl rfl, a1.celli 7 rfl rfl, trivial⟩, ?_⟩
        refine h.mono fun ax b1 h => ?_
        obtain ⟨ad, he, hk, h⟩ := h
        refine ⟨ad, he, ?_⟩
        have a1 := hk.blk a1 (by simp)
        refine bif_of (fun ai => ?_) (fun ai => ?_)
        · have h := h.1 (bne_t ai)
          exact h
        · have h := h.2 (bne_f ai)
          obtain ⟨ae, ah, h⟩ := h
          try rw [w64 ae ah]
          obtain ⟨ar, hk, h⟩ := h
          exact ⟨ar, hk, a1, h⟩
      · have h := h.2.1 hk
        refine ⟨a0, a2, a7, a9, a8, a5, a6, a3, a4, aa, ⟨a1.celli 0 rfl rfl, a1.celli 1 rfl rfl, a1.celli 2 rfl rfl, a1.celli 3 rfl rfl, a1.celli 4 rfl rfl, a1.celli 5 rfl rfl, a1.celli 6 rfl rfl, a1.celli 7 rfl rfl, trivial⟩, ?_⟩
        refine h.mono fun ay aq h => ?_
        obtain ⟨ac, he, hk, h⟩ := h
        refine ⟨ac, he, ?_⟩
        have a1 := hk.blk a1 (by simp)
        refine bif_of (fun an => ?_) (fun an => ?_)
        · have h := h.1 (bne_t an)
          exact h
        · have h := h.2 (bne_f an)
          obtain ⟨ae, ah, h⟩ := h
          try rw [w64 ae ah]
          obtain ⟨au, hk, h⟩ := h
          exact ⟨au, hk, a1, h⟩
      · have h := h.2.2 hk
        refine ⟨a0, a2, a7, a9, a8, a5, a6, a3, a4, aa, ⟨a1.celli 0 rfl rfl, a1.celli 1 rfl rfl, a1.celli 2 rfl rfl, a1.celli 3 rfl rfl, a1.celli 4 rfl rfl, a1.celli 5 rfl rfl, a1.celli 6 rfl rfl, a1.celli 7 rfl rfl, trivial⟩, ?_⟩
        refine h.mono fun av b2 h => ?_
        obtain ⟨ab, he, hk, h⟩ := h
        refine ⟨ab, he, ?_⟩
        have a1 := hk.blk a1 (by simp)
        refine bif_of (fun ak => ?_) (fun ak => ?_)
        · have h := h.1 (bne_t ak)
          exact h
        · have h := h.2 (bne_f ak)
          obtain ⟨ae, ah, h⟩ := h
          try rw [w64 ae ah]
          obtain ⟨b5, hk, h⟩ := h
          exact ⟨b5, hk, a1, h⟩
    · have h := h.2 (Int.not_lt.1 (of_decide_eq_false am))
      exact h

theorem chain_Log_Check.go (l1 : Option Addr) (a0 : Int) (a3 : Int) (a6 : Int) (a7 : Int) (a9 : Int) (a2 : Int) (a5 : Option Addr) (a4 : Nat) (a1 : Nat) (a8 : Int) {R : Value → World → Prop} {w : World} (h : chain_Log_Check.N l1 a0 a3 a6 a7 a9 a2 a5 a4 a1 a8 R w) : Calls Try.prog 37 #[.pointer l1, .agg #[.int .i64 a0, .int .i64 a3, .int .u64 a6, .int .i64 a7, .int .i64 a9, .int .i64 a2, .slice a5 a4 a1, .int .u64 a8]] w fun e w' => ∃ v, e = .returned v ∧ R v w' := chain_Log_Check.ok l1 a0 a3 a6 a7 a9 a2 a5 a4 a1 a8 (chain_Log_Check.up l1 a0 a3 a6 a7 a9 a2 a5 a4 a1 a8 h)
theorem chain_Log_Check.run (l1 : Option Addr) (a0 : Int) (a3 : Int) (a6 : Int) (a7 : Int) (a9 : Int) (a2 : Int) (a5 : Option Addr) (a4 : Nat) (a1 : Nat) (a8 : Int) {V : Value} {Q : World → Prop} {w : World} (h : chain_Log_Check.N l1 a0 a3 a6 a7 a9 a2 a5 a4 a1 a8 (fun v w' => v = V ∧ Q w') w) : Calls Try.prog 37 #[.pointer l1, .agg #[.int .i64 a0, .int .i64 a3, .int .u64 a6, .int .i64 a7, .int .i64 a9, .int .i64 a2, .slice a5 a4 a1, .int .u64 a8]] w (Ret V Q) := (chain_Log_Check.go l1 a0 a3 a6 a7 a9 a2 a5 a4 a1 a8 h).mono fun e w' ⟨v, he, hv, hq⟩ => ⟨by rw [he, hv], hq⟩

/-- (*chain.Log).put -/
def chain_Log_put.M (l1 : Option Addr) (ao : Int) (ax : Int) (ba : Int) (bg : Int) (bd : Int) (b0 : Int) (b1 : Option Addr) (ay : Nat) (az : Nat) (bi : Int) (R : Value → World → Prop) (w : World) : Prop :=
 thenW (w.alloc (.cells #[.int .i64 ao, .int .i64 ax, .int .u64 ba, .int .i64 bg, .int .i64 bd, .int .i64 b0, .slice b1 ay az, .int .u64 bi] 29)) fun bn =>
 thenW (bn.drew) fun b7 =>
 l1.elim False fun bp =>
 ∃ (av : Option Addr) (aw : Nat) (au : Nat), b7.cell? (bp.add 3) = some (.slice av aw au) ∧
 ∃ (a0 : Int) (a5 : Int) (ae : Int) (ar : Int) (aq : Int) (a9 : Int) (a3 : Option Addr) (a2 : Nat) (a7 : Nat) (ak : Int), cellsAt b7 (blk w.heap.size) [.int .i64 a0, .int .i64 a5, .int .u64 ae, .int .i64 ar, .int .i64 aq, .int .i64 a9, .slice a3 a2 a7, .int .u64 ak] 0 ∧
 Calls Try.prog 40 #[.agg #[.int .i64 a0, .int .i64 a5, .int .u64 ae, .int .i64 ar, .int .i64 aq, .int .i64 a9, .slice a3 a2 a7, .int .u64 ak]] b7 fun bl b9 => ∃ (aa : Int) (aj : Int) (an : Int) (b2 : Int) (b5 : Int) (ad : Int) (ah : Option Addr) (ag : Nat) (ai : Nat) (b4 : Int), bl = .returned (.agg #[.int .i64 aa, .int .i64 aj, .int .u64 an, .int .i64 b2, .int .i64 b5, .int .i64 ad, .slice ah ag ai, .int .u64 b4]) ∧
 b9.cell? (bp.add 3) = some (.slice av aw au) ∧
 thenW (b9.alloc (.cells #[.int .i64 aa, .int .i64 aj, .int .u64 an, .int .i64 b2, .int .i64 b5, .int .i64 ad, .slice ah ag ai, .int .u64 b4] 29)) fun bb =>
 bb.cell? (bp.add 3) = some (.slice av aw au) ∧
 ∃ (bc : Option Addr) (bj : Nat) (be : Nat) (b6 : World), (Builtin.append_ #[47, 47] 47 #[.slice av aw au, .slice (some (blk b9.heap.size)) 1 1]).run Try.prog bb = .ok (.slice bc bj be) b6 ∧
 l1.elim False fun br =>
 canStore b6 ((br.add 3).add 0) ∧
 thenW (b6.setCell ((br.add 3).add 0) (.slice bc bj be)) fun bo =>
 thenW (bo.drew) fun b8 =>
 l1.elim False fun bt =>
 ∃ (bq : Option Addr), b8.cell? (bt.add 0) = some (.pointer bq) ∧
 ∃ (a1 : Int) (a4 : Int) (af : Int) (ap : Int) (al : Int) (a8 : Int) (a6 : Option Addr) (ab : Nat) (ac : Nat) (am : Int), cellsAt b8 (blk w.heap.size) [.int .i64 a1, .int .i64 a4, .int .u64 af, .int .i64 ap, .int .i64 al, .int .i64 a8, .slice a6 ab ac, .int .u64 am] 0 ∧
 Calls Try.prog 66 #[.pointer bq, .agg #[.int .i64 a1, .int .i64 a4, .int .u64 af, .int .i64 ap, .int .i64 al, .int .i64 a8, .slice a6 ab ac, .int .u64 am]] b8 fun bk bf => ∃ (b3 : Int) (bh : Int), bk = .returned (.tuple #[.int .u64 b3, .int .i64 bh]) ∧
 l1.elim False fun bs =>
 canStore bf ((bs.add 4).add 0) ∧
 thenW (bf.setCell ((bs.add 4).add 0) (.int .u64 b3)) fun bm =>
 R (.tuple #[]) bm

theorem chain_Log_put.eq (l1 : Option Addr) (eWriter2 : Int) (eIndex3 : Int) (ePrev4 : Int) (eAtT5 : Int) (eAtW6 : Int) (eEpoch7 : Int) (eBody8a : Option Addr) (eBody8n : Nat) (eBody8c : Nat) (eSig9 : Int) (R : Value → World → Prop) (w : World) : mfunc Try.prog [] 36 [.pointer l1, .agg #[.int .i64 eWriter2, .int .i64 eIndex3, .int .u64 ePrev4, .int .i64 eAtT5, .int .i64 eAtW6, .int .i64 eEpoch7, .slice eBody8a eBody8n eBody8c, .int .u64 eSig9]] R w = chain_Log_put.M l1 eWriter2 eIndex3 ePrev4 eAtT5 eAtW6 eEpoch7 eBody8a eBody8n eBody8c eSig9 R w := by kernel_rfl
theorem chain_Log_put.ok (l1 : Option Addr) (a0 : Int) (a3 : Int) (a6 : Int) (a7 : Int) (a9 : Int) (a2 : Int) (a5 : Option Addr) (a4 : Nat) (a1 : Nat) (a8 : Int) {R : Value → World → Prop} {w : World} (h : chain_Log_put.M l1 a0 a3 a6 a7 a9 a2 a5 a4 a1 a8 R w) : Calls Try.prog 36 #[.pointer l1, .agg #[.int .i64 a0, .int .i64 a3, .int .u64 a6, .int .i64 a7, .int .i64 a9, .int .i64 a2, .slice a5 a4 a1, .int .u64 a8]] w fun e w' => ∃ v, e = .returned v ∧ R v w' :=
  mfunc_ok follows (H := []) (args := [.pointer l1, .agg #[.int .i64 a0, .int .i64 a3, .int .u64 a6, .int .i64 a7, .int .i64 a9, .int .i64 a2, .slice a5 a4 a1, .int .u64 a8]]) (by rw [chain_Log_put.eq]; exact h)

def chain_Log_put.N (l1 : Option Addr) (a1 : Int) (a4 : Int) (ad : Int) (aq : Int) (an : Int) (aa : Int) (ab : Option Addr) (a5 : Nat) (a9 : Nat) (ar : Int) (R : Value → World → Prop) (w : World) : Prop :=
 ∃ af : Addr, l1 = some af ∧
 ∃ (al : Option Addr) (ai : Nat) (ah : Nat), w.cell? (af.add 3) = some (.slice al ai ah) ∧
 ∀ (ag : World) (b2 : Nat), Ext no w ag → Priv w ag [b2] →
 Calls Try.prog 40 #[.agg #[.int .i64 a1, .int .i64 a4, .int .u64 ad, .int .i64 aq, .int .i64 an, .int .i64 aa, .slice ab a5 a9, .int .u64 ar]] ag fun b5 aj => ∃ (a0 : Int) (a7 : Int) (ae : Int) (am : Int) (ao : Int) (a2 : Int) (a6 : Option Addr) (a3 : Nat) (a8 : Nat) (au : Int), b5 = .returned (.agg #[.int .i64 a0, .int .i64 a7, .int .u64 ae, .int .i64 am, .int .i64 ao, .int .i64 a2, .slice a6 a3 a8, .int .u64 au]) ∧
 Keep [b2] ag aj ∧
 aj.cell? (af.add 3) = some (.slice al ai ah) ∧
 ∀ (ac : World) (b3 : Nat), Ext no aj ac → Blk ac b3 29 [.int .i64 a0, .int .i64 a7, .int .u64 ae, .int .i64 am, .int .i64 ao, .int .i64 a2, .slice a6 a3 a8, .int .u64 au] → aj.heap.size ≤ b3 → b3 < ac.heap.size →
 ac.cell? (af.add 3) = some (.slice al ai ah) ∧
 ∃ (b1 : Option Addr) (az : Nat) (ax : Nat) (ak : World), (Builtin.append_ #[47, 47] 47 #[.slice al ai ah, .slice (some (blk b3)) 1 1]).run Try.prog ac = .ok (.slice b1 az ax) ak ∧
 Keep [b2] ac ak ∧
 canStore ak ((af.add 3).add 0) ∧
 (∀ p ∈ [b2], p ≠ Addr.block (af.add 3)) ∧
 thenW (ak.setCell ((af.add 3).add 0) (.slice b1 az ax)) fun av =>
 ∃ (b7 : Option Addr), av.cell? (af.add 0) = some (.pointer b7) ∧
 ∀ (ay : World), Ext no av ay →
 Calls Try.prog 66 #[.pointer b7, .agg #[.int .i64 a1, .int .i64 a4, .int .u64 ad, .int .i64 aq, .int .i64 an, .int .i64 aa, .slice ab a5 a9, .int .u64 ar]] ay fun b6 aw => ∃ (ap : Int) (b0 : Int), b6 = .returned (.tuple #[.int .u64 ap, .int .i64 b0]) ∧
 canStore aw ((af.add 4).add 0) ∧
 thenW (aw.setCell ((af.add 4).add 0) (.int .u64 ap)) fun b4 =>
 R (.tuple #[]) b4

theorem chain_Log_put.up (l1 : Option Addr) (a0 : Int) (a2 : Int) (a7 : Int) (a9 : Int) (a8 : Int) (a5 : Int) (a6 : Option Addr) (a3 : Nat) (a4 : Nat) (aa : Int) {R : Value → World → Prop} {w : World} (h : chain_Log_put.N l1 a0 a2 a7 a9 a8 a5 a6 a3 a4 aa R w) : chain_Log_put.M l1 a0 a2 a7 a9 a8 a5 a6 a3 a4 aa R w := by
  unfold chain_Log_put.M
  unfold chain_Log_put.N at h
  refine thenW_in fun bg bd => ?_
  have a1 := Blk.of_new bd
  have bf := ((Ext.refl no w)).size
  have b6 := (Ext.refl no w).x_alloc bd
  refine thenW_in fun av bb => ?_
  have al := b6.x_drew bb
  have a1 := a1.x_drew bb
  obtain ⟨bm, ag, h⟩ := h
  refine elim_some ag ?_
  obtain ⟨b9, ay, ax, b3, h⟩ := h
  refine ⟨b9, ay, ax, (al).cell b3 id, ?_⟩
  refine ⟨a0, a2, a7, a9, a8, a5, a6, a3, a4, aa, ⟨a1.celli 0 rfl rfl, a1.celli 1 rfl rfl, a1.celli 2 rfl rfl, a1.celli 3 rfl rfl, a1.celli 4 rfl rfl, a1.celli 5 rfl rfl, a1.celli 6 rfl rfl, a1.celli 7 rfl rfl, trivial⟩, ?_⟩
  have h := h av (w.heap.size) al (Priv.cons bf a1.lt Priv.nil)
  refine h.mono fun bj ai h => ?_
  obtain ⟨ab, ae, aj, ak, am, ac, af, ad, ah, aq, he, hk, h⟩ := h
  refine ⟨ab, ae, aj, ak, am, ac, af, ad, ah, aq, he, ?_⟩
  have a1 := hk.blk a1 (by simp)
  obtain ⟨b4, h⟩ := h
  refine ⟨b4, ?_⟩
  refine thenW_in fun b7 ar => ?_
  have a1 := a1.x_alloc ar
  have h := h b7 ai.heap.size ((Ext.refl no ai).x_alloc ar) (Blk.of_new ar) ((Ext.refl no ai)).size (size_lt_alloc ar)
  obtain ⟨b0, h⟩ := h
  refine ⟨b0, ?_⟩
  obtain ⟨b8, b1, aw, b5, hr, hk, h⟩ := h
  refine ⟨b8, b1, aw, b5, hr, ?_⟩
  have a1 := hk.blk a1 (by simp)
  refine elim_some ag ?_
  obtain ⟨hcs, hof, h⟩ := h
  refine ⟨hcs, thenW_in fun au ba => ?_⟩
  replace h := thenW_out h ba
  have a1 := a1.off (by rw [block_add]; exact hof _ (by simp)) ba
  refine thenW_in fun az bc => ?_
  have ao := (Ext.refl no au).x_drew bc
  have a1 := a1.x_drew bc
  refine elim_some ag ?_
  obtain ⟨bh, b2, h⟩ := h
  refine ⟨bh, (ao).cell b2 id, ?_⟩
  refine ⟨a0, a2, a7, a9, a8, a5, a6, a3, a4, aa, ⟨a1.celli 0 rfl rfl, a1.celli 1 rfl rfl, a1.celli 2 rfl rfl, a1.celli 3 rfl rfl, a1.celli 4 rfl rfl, a1.celli 5 rfl rfl, a1.celli 6 rfl rfl, a1.celli 7 rfl rfl, trivial⟩, ?_⟩
  have h := h az ao
  refine h.mono fun bl be h => ?_
  obtain ⟨ap, an, he, h⟩ := h
  refine ⟨ap, an, he, ?_⟩
  refine elim_some ag ?_
  obtain ⟨hcs, h⟩ := h
  refine ⟨hcs, thenW_in fun bi bk => ?_⟩
  replace h := thenW_out h bk
  exact h

theorem chain_Log_put.go (l1 : Option Addr) (a0 : Int) (a3 : Int) (a6 : Int) (a7 : Int) (a9 : Int) (a2 : Int) (a5 : Option Addr) (a4 : Nat) (a1 : Nat) (a8 : Int) {R : Value → World → Prop} {w : World} (h : chain_Log_put.N l1 a0 a3 a6 a7 a9 a2 a5 a4 a1 a8 R w) : Calls Try.prog 36 #[.pointer l1, .agg #[.int .i64 a0, .int .i64 a3, .int .u64 a6, .int .i64 a7, .int .i64 a9, .int .i64 a2, .slice a5 a4 a1, .int .u64 a8]] w fun e w' => ∃ v, e = .returned v ∧ R v w' := chain_Log_put.ok l1 a0 a3 a6 a7 a9 a2 a5 a4 a1 a8 (chain_Log_put.up l1 a0 a3 a6 a7 a9 a2 a5 a4 a1 a8 h)
/-- (*chain.Log).Accept -/
def chain_Log_Accept.M (l1 : Option Addr) (aj : Int) (am : Int) (au : Int) (ax : Int) (av : Int) (ap : Int) (aq : Option Addr) (an : Nat) (ao : Nat) (ay : Int) (R : Value → World → Prop) (w : World) : Prop :=
 thenW (w.alloc (.cells #[.int .i64 aj, .int .i64 am, .int .u64 au, .int .i64 ax, .int .i64 av, .int .i64 ap, .slice aq an ao, .int .u64 ay] 29)) fun aw =>
 ∃ (a2 : Int) (a5 : Int) (ad : Int) (al : Int) (ag : Int) (aa : Int) (a9 : Option Addr) (a6 : Nat) (ab : Nat) (ak : Int), cellsAt aw (blk w.heap.size) [.int .i64 a2, .int .i64 a5, .int .u64 ad, .int .i64 al, .int .i64 ag, .int .i64 aa, .slice a9 a6 ab, .int .u64 ak] 0 ∧
 Calls Try.prog 37 #[.pointer l1, .agg #[.int .i64 a2, .int .i64 a5, .int .u64 ad, .int .i64 al, .int .i64 ag, .int .i64 aa, .slice a9 a6 ab, .int .u64 ak]] aw fun b0 ar => ∃ (a0 : Int), b0 = .returned (.int .i64 a0) ∧
 bif a0 == 0 then (
 ∃ (a1 : Int) (a8 : Int) (ae : Int) (ah : Int) (ai : Int) (a4 : Int) (a7 : Option Addr) (a3 : Nat) (ac : Nat) (af : Int), cellsAt ar (blk w.heap.size) [.int .i64 a1, .int .i64 a8, .int .u64 ae, .int .i64 ah, .int .i64 ai, .int .i64 a4, .slice a7 a3 ac, .int .u64 af] 0 ∧
 Calls Try.prog 36 #[.pointer l1, .agg #[.int .i64 a1, .int .i64 a8, .int .u64 ae, .int .i64 ah, .int .i64 ai, .int .i64 a4, .slice a7 a3 ac, .int .u64 af]] ar fun az b1 => az = .returned (.tuple #[]) ∧
 R (.int .i64 a0) b1) else (
 R (.int .i64 a0) ar)

theorem chain_Log_Accept.eq (l1 : Option Addr) (eWriter2 : Int) (eIndex3 : Int) (ePrev4 : Int) (eAtT5 : Int) (eAtW6 : Int) (eEpoch7 : Int) (eBody8a : Option Addr) (eBody8n : Nat) (eBody8c : Nat) (eSig9 : Int) (R : Value → World → Prop) (w : World) : mfunc Try.prog [] 10 [.pointer l1, .agg #[.int .i64 eWriter2, .int .i64 eIndex3, .int .u64 ePrev4, .int .i64 eAtT5, .int .i64 eAtW6, .int .i64 eEpoch7, .slice eBody8a eBody8n eBody8c, .int .u64 eSig9]] R w = chain_Log_Accept.M l1 eWriter2 eIndex3 ePrev4 eAtT5 eAtW6 eEpoch7 eBody8a eBody8n eBody8c eSig9 R w := by kernel_rfl
theorem chain_Log_Accept.ok (l1 : Option Addr) (a0 : Int) (a3 : Int) (a6 : Int) (a7 : Int) (a9 : Int) (a2 : Int) (a5 : Option Addr) (a4 : Nat) (a1 : Nat) (a8 : Int) {R : Value → World → Prop} {w : World} (h : chain_Log_Accept.M l1 a0 a3 a6 a7 a9 a2 a5 a4 a1 a8 R w) : Calls Try.prog 10 #[.pointer l1, .agg #[.int .i64 a0, .int .i64 a3, .int .u64 a6, .int .i64 a7, .int .i64 a9, .int .i64 a2, .slice a5 a4 a1, .int .u64 a8]] w fun e w' => ∃ v, e = .returned v ∧ R v w' :=
  mfunc_ok follows (H := []) (args := [.pointer l1, .agg #[.int .i64 a0, .int .i64 a3, .int .u64 a6, .int .i64 a7, .int .i64 a9, .int .i64 a2, .slice a5 a4 a1, .int .u64 a8]]) (by rw [chain_Log_Accept.eq]; exact h)

def chain_Log_Accept.N (l1 : Option Addr) (a1 : Int) (a4 : Int) (a7 : Int) (a9 : Int) (ab : Int) (a3 : Int) (a6 : Option Addr) (a5 : Nat) (a2 : Nat) (aa : Int) (R : Value → World → Prop) (w : World) : Prop :=
 ∀ (a8 : World) (ag : Nat), Ext no w a8 → Priv w a8 [ag] →
 Calls Try.prog 37 #[.pointer l1, .agg #[.int .i64 a1, .int .i64 a4, .int .u64 a7, .int .i64 a9, .int .i64 ab, .int .i64 a3, .slice a6 a5 a2, .int .u64 aa]] a8 fun ae ac => ∃ (a0 : Int), ae = .returned (.int .i64 a0) ∧
 Keep [ag] a8 ac ∧
 (a0 = 0 →
 Calls Try.prog 36 #[.pointer l1, .agg #[.int .i64 a1, .int .i64 a4, .int .u64 a7, .int .i64 a9, .int .i64 ab, .int .i64 a3, .slice a6 a5 a2, .int .u64 aa]] ac fun af ad => af = .returned (.tuple #[]) ∧
 R (.int .i64 a0) ad) ∧
 (a0 ≠ 0 →
 R (.int .i64 a0) ac)

theorem chain_Log_Accept.up (l1 : Option Addr) (a0 : Int) (a1 : Int) (a6 : Int) (a9 : Int) (a8 : Int) (a4 : Int) (a5 : Option Addr) (a2 : Nat) (a3 : Nat) (aa : Int) {R : Value → World → Prop} {w : World} (h : chain_Log_Accept.N l1 a0 a1 a6 a9 a8 a4 a5 a2 a3 aa R w) : chain_Log_Accept.M l1 a0 a1 a6 a9 a8 a4 a5 a2 a3 aa R w := by
  unfold chain_Log_Accept.M
  unfold chain_Log_Accept.N at h
  refine thenW_in fun ad af => ?_
  have a7 := Blk.of_new af
  have ah := ((Ext.refl no w)).size
  have ae := (Ext.refl no w).x_alloc af
  refine ⟨a0, a1, a6, a9, a8, a4, a5, a2, a3, aa, ⟨a7.celli 0 rfl rfl, a7.celli 1 rfl rfl, a7.celli 2 rfl rfl, a7.celli 3 rfl rfl, a7.celli 4 rfl rfl, a7.celli 5 rfl rfl, a7.celli 6 rfl rfl, a7.celli 7 rfl rfl, trivial⟩, ?_⟩
  have h := h ad (w.heap.size) ae (Priv.cons ah a7.lt Priv.nil)
  refine h.mono fun aj ak h => ?_
  obtain ⟨ab, he, hk, h⟩ := h
  refine ⟨ab, he, ?_⟩
  have a7 := hk.blk a7 (by simp)
  refine bif_of (fun ac => ?_) (fun ac => ?_)
  · have h := h.1 (beq_t ac)
    refine ⟨a0, a1, a6, a9, a8, a4, a5, a2, a3, aa, ⟨a7.celli 0 rfl rfl, a7.celli 1 rfl rfl, a7.celli 2 rfl rfl, a7.celli 3 rfl rfl, a7.celli 4 rfl rfl, a7.celli 5 rfl rfl, a7.celli 6 rfl rfl, a7.celli 7 rfl rfl, trivial⟩, ?_⟩
    refine h.mono fun ai ag h => ?_
    obtain ⟨he, h⟩ := h
    refine ⟨he, ?_⟩
    exact h
  · have h := h.2 (beq_f ac)
    exact h

theorem chain_Log_Accept.go (l1 : Option Addr) (a0 : Int) (a3 : Int) (a6 : Int) (a7 : Int) (a9 : Int) (a2 : Int) (a5 : Option Addr) (a4 : Nat) (a1 : Nat) (a8 : Int) {R : Value → World → Prop} {w : World} (h : chain_Log_Accept.N l1 a0 a3 a6 a7 a9 a2 a5 a4 a1 a8 R w) : Calls Try.prog 10 #[.pointer l1, .agg #[.int .i64 a0, .int .i64 a3, .int .u64 a6, .int .i64 a7, .int .i64 a9, .int .i64 a2, .slice a5 a4 a1, .int .u64 a8]] w fun e w' => ∃ v, e = .returned v ∧ R v w' := chain_Log_Accept.ok l1 a0 a3 a6 a7 a9 a2 a5 a4 a1 a8 (chain_Log_Accept.up l1 a0 a3 a6 a7 a9 a2 a5 a4 a1 a8 h)
/-- (*chain.Log).Issue -/
def chain_Log_Issue.M (l1 : Option Addr) (dq : Int) (g3 : Int) (g2 : Int) (eq : Int) (en : Option Addr) (eo : Nat) (ep : Nat) (R : Value → World → Prop) (w : World) : Prop :=
 thenW (w.alloc (.cells #[.int .i64 g3, .int .i64 g2] 27)) fun a0 =>
 thenW (a0.alloc (.cells #[.int .i64 0, .int .i64 0, .int .u64 0, .int .i64 0, .int .i64 0, .int .i64 0, .slice none 0 0, .int .u64 0] 29)) fun ew =>
 bif Option.isNone l1 then (
 canStore ew ((blk a0.heap.size).add 0) ∧
 thenW (ew.setCell ((blk a0.heap.size).add 0) (.int .i64 0)) fun g9 =>
 canStore g9 ((blk a0.heap.size).add 1) ∧
 thenW (g9.setCell ((blk a0.heap.size).add 1) (.int .i64 0)) fun f6 =>
 canStore f6 ((blk a0.heap.size).add 2) ∧
 thenW (f6.setCell ((blk a0.heap.size).add 2) (.int .u64 0)) fun ez =>
 canStore ez ((blk a0.heap.size).add 3) ∧
 thenW (ez.setCell ((blk a0.heap.size).add 3) (.int .i64 0)) fun fw =>
 canStore fw ((blk a0.heap.size).add 4) ∧
 thenW (fw.setCell ((blk a0.heap.size).add 4) (.int .i64 0)) fun fx =>
 canStore fx ((blk a0.heap.size).add 5) ∧
 thenW (fx.setCell ((blk a0.heap.size).add 5) (.int .i64 0)) fun fk =>
 canStore fk ((blk a0.heap.size).add 6) ∧
 thenW (fk.setCell ((blk a0.heap.size).add 6) (.slice none 0 0)) fun f1 =>
 canStore f1 ((blk a0.heap.size).add 7) ∧
 thenW (f1.setCell ((blk a0.heap.size).add 7) (.int .u64 0)) fun fh =>
 ∃ (a6 : Int) (au : Int) (bb : Int) (cq : Int) (cv : Int) (aq : Int) (b0 : Option Addr) (b9 : Nat) (b8 : Nat) (cj : Int), cellsAt fh (blk a0.heap.size) [.int .i64 a6, .int .i64 au, .int .u64 bb, .int .i64 cq, .int .i64 cv, .int .i64 aq, .slice b0 b9 b8, .int .u64 cj] 0 ∧
 R (.tuple #[.agg #[.int .i64 a6, .int .i64 au, .int .u64 bb, .int .i64 cq, .int .i64 cv, .int .i64 aq, .slice b0 b9 b8, .int .u64 cj], .int .i64 23]) fh) else (
 l1.elim False fun gb =>
 ∃ (g4 : Option Addr) (f9 : Nat) (g1 : Nat), ew.cell? (gb.add 3) = some (.slice g4 f9 g1) ∧
 bif decide ((f9 : Int) ≥ 200) then (
 canStore ew ((blk a0.heap.size).add 0) ∧
 thenW (ew.setCell ((blk a0.heap.size).add 0) (.int .i64 0)) fun f2 =>
 canStore f2 ((blk a0.heap.size).add 1) ∧
 thenW (f2.setCell ((blk a0.heap.size).add 1) (.int .i64 0)) fun fv =>
 canStore fv ((blk a0.heap.size).add 2) ∧
 thenW (fv.setCell ((blk a0.heap.size).add 2) (.int .u64 0)) fun f8 =>
 canStore f8 ((blk a0.heap.size).add 3) ∧
 thenW (f8.setCell ((blk a0.heap.size).add 3) (.int .i64 0)) fun fq =>
 canStore fq ((blk a0.heap.size).add 4) ∧
 thenW (fq.setCell ((blk a0.heap.size).add 4) (.int .i64 0)) fun fr =>
 canStore fr ((blk a0.heap.size).add 5) ∧
 thenW (fr.setCell ((blk a0.heap.size).add 5) (.int .i64 0)) fun ex =>
 canStore ex ((blk a0.heap.size).add 6) ∧
 thenW (ex.setCell ((blk a0.heap.size).add 6) (.slice none 0 0)) fun fm =>
 canStore fm ((blk a0.heap.size).add 7) ∧
 thenW (fm.setCell ((blk a0.heap.size).add 7) (.int .u64 0)) fun fu =>
 ∃ (ai : Int) (b1 : Int) (c4 : Int) (cn : Int) (cl : Int) (ap : Int) (az : Option Addr) (ax : Nat) (b2 : Nat) (ce : Int), cellsAt fu (blk a0.heap.size) [.int .i64 ai, .int .i64 b1, .int .u64 c4, .int .i64 cn, .int .i64 cl, .int .i64 ap, .slice az ax b2, .int .u64 ce] 0 ∧
 R (.tuple #[.agg #[.int .i64 ai, .int .i64 b1, .int .u64 c4, .int .i64 cn, .int .i64 cl, .int .i64 ap, .slice az ax b2, .int .u64 ce], .int .i64 3]) fu) else (
 thenW (ew.drew) fun a1 =>
 l1.elim False fun ga =>
 ∃ (er : Int), a1.cell? (ga.add 1) = some (.int .i64 er) ∧
 l1.elim False fun g7 =>
 ∃ (fz : Option Addr) (eu : Nat) (fj : Nat), a1.cell? (g7.add 3) = some (.slice fz eu fj) ∧
 l1.elim False fun g8 =>
 ∃ (dh : Int), a1.cell? (g8.add 4) = some (.int .u64 dh) ∧
 ∃ (ev : Int) (et : Int), cellsAt a1 (blk w.heap.size) [.int .i64 ev, .int .i64 et] 0 ∧
 thenW (a1.alloc (.cells #[.int .i64 0, .int .i64 0, .int .u64 0, .int .i64 0, .int .i64 0, .int .i64 0, .slice none 0 0, .int .u64 0] 29)) fun dc =>
 cellsAt dc (blk w.heap.size) [.int .i64 ev, .int .i64 et] 0 ∧
 dc.cell? (g8.add 4) = some (.int .u64 dh) ∧
 dc.cell? (g7.add 3) = some (.slice fz eu fj) ∧
 dc.cell? (ga.add 1) = some (.int .i64 er) ∧
 canStore dc ((blk a1.heap.size).add 0) ∧
 thenW (dc.setCell ((blk a1.heap.size).add 0) (.int .i64 er)) fun fp =>
 canStore fp ((blk a1.heap.size).add 1) ∧
 thenW (fp.setCell ((blk a1.heap.size).add 1) (.int .i64 (eu : Int))) fun ft =>
 canStore ft ((blk a1.heap.size).add 2) ∧
 thenW (ft.setCell ((blk a1.heap.size).add 2) (.int .u64 dh)) fun fb =>
 canStore fb ((blk a1.heap.size).add 3) ∧
 thenW (fb.setCell ((blk a1.heap.size).add 3) (.int .i64 ev)) fun fl =>
 canStore fl ((blk a1.heap.size).add 4) ∧
 thenW (fl.setCell ((blk a1.heap.size).add 4) (.int .i64 et)) fun fy =>
 canStore fy ((blk a1.heap.size).add 5) ∧
 thenW (fy.setCell ((blk a1.heap.size).add 5) (.int .i64 eq)) fun fs =>
 canStore fs ((blk a1.heap.size).add 6) ∧
 thenW (fs.setCell ((blk a1.heap.size).add 6) (.slice en eo ep)) fun fo =>
 canStore fo ((blk a1.heap.size).add 7) ∧
 thenW (fo.setCell ((blk a1.heap.size).add 7) (.int .u64 0)) fun fa =>
 ∃ (bu : Int) (c7 : Int) (d3 : Int) (dg : Int) (dd : Int) (cg : Int) (cx : Option Addr) (cs : Nat) (c9 : Nat) (dk : Int), cellsAt fa (blk a1.heap.size) [.int .i64 bu, .int .i64 c7, .int .u64 d3, .int .i64 dg, .int .i64 dd, .int .i64 cg, .slice cx cs c9, .int .u64 dk] 0 ∧
 Calls Try.prog 34 #[.agg #[.int .i64 bu, .int .i64 c7, .int .u64 d3, .int .i64 dg, .int .i64 dd, .int .i64 cg, .slice cx cs c9, .int .u64 dk]] fa fun g5 dr => ∃ (d8 : Bool), g5 = .returned (.bool d8) ∧
 bif !d8 then (
 canStore dr ((blk a0.heap.size).add 0) ∧
 thenW (dr.setCell ((blk a0.heap.size).add 0) (.int .i64 0)) fun ff =>
 canStore ff ((blk a0.heap.size).add 1) ∧
 thenW (ff.setCell ((blk a0.heap.size).add 1) (.int .i64 0)) fun fd =>
 canStore fd ((blk a0.heap.size).add 2) ∧
 thenW (fd.setCell ((blk a0.heap.size).add 2) (.int .u64 0)) fun fc =>
 canStore fc ((blk a0.heap.size).add 3) ∧
 thenW (fc.setCell ((blk a0.heap.size).add 3) (.int .i64 0)) fun f7 =>
 canStore f7 ((blk a0.heap.size).add 4) ∧
 thenW (f7.setCell ((blk a0.heap.size).add 4) (.int .i64 0)) fun fi =>
 canStore fi ((blk a0.heap.size).add 5) ∧
 thenW (fi.setCell ((blk a0.heap.size).add 5) (.int .i64 0)) fun f0 =>
 canStore f0 ((blk a0.heap.size).add 6) ∧
 thenW (f0.setCell ((blk a0.heap.size).add 6) (.slice none 0 0)) fun ey =>
 canStore ey ((blk a0.heap.size).add 7) ∧
 thenW (ey.setCell ((blk a0.heap.size).add 7) (.int .u64 0)) fun f4 =>
 ∃ (a7 : Int) (b3 : Int) (bz : Int) (ch : Int) (ci : Int) (b6 : Int) (b7 : Option Addr) (ay : Nat) (b5 : Nat) (cb : Int), cellsAt f4 (blk a0.heap.size) [.int .i64 a7, .int .i64 b3, .int .u64 bz, .int .i64 ch, .int .i64 ci, .int .i64 b6, .slice b7 ay b5, .int .u64 cb] 0 ∧
 R (.tuple #[.agg #[.int .i64 a7, .int .i64 b3, .int .u64 bz, .int .i64 ch, .int .i64 ci, .int .i64 b6, .slice b7 ay b5, .int .u64 cb], .int .i64 1]) f4) else (
 ∃ (bs : Int) (c8 : Int) (d4 : Int) (dj : Int) (dm : Int) (ct : Int) (cw : Option Addr) (cd : Nat) (cu : Nat) (dn : Int), cellsAt dr (blk a1.heap.size) [.int .i64 bs, .int .i64 c8, .int .u64 d4, .int .i64 dj, .int .i64 dm, .int .i64 ct, .slice cw cd cu, .int .u64 dn] 0 ∧
 Calls Try.prog 35 #[.pointer l1, .agg #[.int .i64 bs, .int .i64 c8, .int .u64 d4, .int .i64 dj, .int .i64 dm, .int .i64 ct, .slice cw cd cu, .int .u64 dn]] dr fun g6 es => ∃ (av : Int), g6 = .returned (.int .i64 av) ∧
 bif av != 0 then (
 canStore es ((blk a0.heap.size).add 0) ∧
 thenW (es.setCell ((blk a0.heap.size).add 0) (.int .i64 0)) fun f5 =>
 canStore f5 ((blk a0.heap.size).add 1) ∧
 thenW (f5.setCell ((blk a0.heap.size).add 1) (.int .i64 0)) fun el =>
 canStore el ((blk a0.heap.size).add 2) ∧
 thenW (el.setCell ((blk a0.heap.size).add 2) (.int .u64 0)) fun dt =>
 canStore dt ((blk a0.heap.size).add 3) ∧
 thenW (dt.setCell ((blk a0.heap.size).add 3) (.int .i64 0)) fun dy =>
 canStore dy ((blk a0.heap.size).add 4) ∧
 thenW (dy.setCell ((blk a0.heap.size).add 4) (.int .i64 0)) fun eh =>
 canStore eh ((blk a0.heap.size).add 5) ∧
 thenW (eh.setCell ((blk a0.heap.size).add 5) (.int .i64 0)) fun e6 =>
 canStore e6 ((blk a0.heap.size).add 6) ∧
 thenW (e6.setCell ((blk a0.heap.size).add 6) (.slice none 0 0)) fun dx =>
 canStore dx ((blk a0.heap.size).add 7) ∧
 thenW (dx.setCell ((blk a0.heap.size).add 7) (.int .u64 0)) fun dw =>
 ∃ (a2 : Int) (ac : Int) (b4 : Int) (bo : Int) (bg : Int) (ak : Int) (af : Option Addr) (ae : Nat) (ag : Nat) (c5 : Int), cellsAt dw (blk a0.heap.size) [.int .i64 a2, .int .i64 ac, .int .u64 b4, .int .i64 bo, .int .i64 bg, .int .i64 ak, .slice af ae ag, .int .u64 c5] 0 ∧
 R (.tuple #[.agg #[.int .i64 a2, .int .i64 ac, .int .u64 b4, .int .i64 bo, .int .i64 bg, .int .i64 ak, .slice af ae ag, .int .u64 c5], .int .i64 av]) dw) else (
 thenW (es.drew) fun dp =>
 l1.elim False fun g0 =>
 ∃ (fe : Option Addr), dp.cell? (g0.add 0) = some (.pointer fe) ∧
 ∃ (ar : Int) (bw : Int) (ck : Int) (d2 : Int) (da : Int) (bv : Int) (bh : Option Addr) (bl : Nat) (bk : Nat) (cy : Int), cellsAt dp (blk a1.heap.size) [.int .i64 ar, .int .i64 bw, .int .u64 ck, .int .i64 d2, .int .i64 da, .int .i64 bv, .slice bh bl bk, .int .u64 cy] 0 ∧
 Calls Try.prog 28 #[.pointer fe, .int .u64 dq, .agg #[.int .i64 ar, .int .i64 bw, .int .u64 ck, .int .i64 d2, .int .i64 da, .int .i64 bv, .slice bh bl bk, .int .u64 cy]] dp fun fg e5 => ∃ (c0 : Int) (cm : Int) (d6 : Int) (di : Int) (df : Int) (cp : Int) (cc : Option Addr) (cf : Nat) (co : Nat) (dl : Int) (c6 : Int), fg = .returned (.tuple #[.agg #[.int .i64 c0, .int .i64 cm, .int .u64 d6, .int .i64 di, .int .i64 df, .int .i64 cp, .slice cc cf co, .int .u64 dl], .int .i64 c6]) ∧
 canStore e5 ((blk a1.heap.size).add 0) ∧
 thenW (e5.setCell ((blk a1.heap.size).add 0) (.int .i64 c0)) fun dz =>
 canStore dz ((blk a1.heap.size).add 1) ∧
 thenW (dz.setCell ((blk a1.heap.size).add 1) (.int .i64 cm)) fun ds =>
 canStore ds ((blk a1.heap.size).add 2) ∧
 thenW (ds.setCell ((blk a1.heap.size).add 2) (.int .u64 d6)) fun ek =>
 canStore ek ((blk a1.heap.size).add 3) ∧
 thenW (ek.setCell ((blk a1.heap.size).add 3) (.int .i64 di)) fun eg =>
 canStore eg ((blk a1.heap.size).add 4) ∧
 thenW (eg.setCell ((blk a1.heap.size).add 4) (.int .i64 df)) fun e8 =>
 canStore e8 ((blk a1.heap.size).add 5) ∧
 thenW (e8.setCell ((blk a1.heap.size).add 5) (.int .i64 cp)) fun ef =>
 canStore ef ((blk a1.heap.size).add 6) ∧
 thenW (ef.setCell ((blk a1.heap.size).add 6) (.slice cc cf co)) fun em =>
 canStore em ((blk a1.heap.size).add 7) ∧
 thenW (em.setCell ((blk a1.heap.size).add 7) (.int .u64 dl)) fun d1 =>
 bif c6 != 0 then (
 canStore d1 ((blk a0.heap.size).add 0) ∧
 thenW (d1.setCell ((blk a0.heap.size).add 0) (.int .i64 0)) fun dv =>
 canStore dv ((blk a0.heap.size).add 1) ∧
 thenW (dv.setCell ((blk a0.heap.size).add 1) (.int .i64 0)) fun e9 =>
 canStore e9 ((blk a0.heap.size).add 2) ∧
 thenW (e9.setCell ((blk a0.heap.size).add 2) (.int .u64 0)) fun ei =>
 canStore ei ((blk a0.heap.size).add 3) ∧
 thenW (ei.setCell ((blk a0.heap.size).add 3) (.int .i64 0)) fun e4 =>
 canStore e4 ((blk a0.heap.size).add 4) ∧
 thenW (e4.setCell ((blk a0.heap.size).add 4) (.int .i64 0)) fun e1 =>
 canStore e1 ((blk a0.heap.size).add 5) ∧
 thenW (e1.setCell ((blk a0.heap.size).add 5) (.int .i64 0)) fun e3 =>
 canStore e3 ((blk a0.heap.size).add 6) ∧
 thenW (e3.setCell ((blk a0.heap.size).add 6) (.slice none 0 0)) fun du =>
 canStore du ((blk a0.heap.size).add 7) ∧
 thenW (du.setCell ((blk a0.heap.size).add 7) (.int .u64 0)) fun ej =>
 ∃ (a4 : Int) (a9 : Int) (ba : Int) (bt : Int) (c3 : Int) (ad : Int) (aj : Option Addr) (a8 : Nat) (al : Nat) (bi : Int), cellsAt ej (blk a0.heap.size) [.int .i64 a4, .int .i64 a9, .int .u64 ba, .int .i64 bt, .int .i64 c3, .int .i64 ad, .slice aj a8 al, .int .u64 bi] 0 ∧
 R (.tuple #[.agg #[.int .i64 a4, .int .i64 a9, .int .u64 ba, .int .i64 bt, .int .i64 c3, .int .i64 ad, .slice aj a8 al, .int .u64 bi], .int .i64 c6]) ej) else (
 ∃ (ao : Int) (bx : Int) (ca : Int) (cz : Int) (db : Int) (bj : Int) (bn : Option Addr) (bp : Nat) (c2 : Nat) (d0 : Int), cellsAt d1 (blk a1.heap.size) [.int .i64 ao, .int .i64 bx, .int .u64 ca, .int .i64 cz, .int .i64 db, .int .i64 bj, .slice bn bp c2, .int .u64 d0] 0 ∧
 Calls Try.prog 36 #[.pointer l1, .agg #[.int .i64 ao, .int .i64 bx, .int .u64 ca, .int .i64 cz, .int .i64 db, .int .i64 bj, .slice bn bp c2, .int .u64 d0]] d1 fun f3 de => f3 = .returned (.tuple #[]) ∧
 ∃ (aw : Int) (br : Int) (cr : Int) (d9 : Int) (d7 : Int) (bc : Int) (be : Option Addr) (c1 : Nat) (bq : Nat) (d5 : Int), cellsAt de (blk a1.heap.size) [.int .i64 aw, .int .i64 br, .int .u64 cr, .int .i64 d9, .int .i64 d7, .int .i64 bc, .slice be c1 bq, .int .u64 d5] 0 ∧
 canStore de ((blk a0.heap.size).add 0) ∧
 thenW (de.setCell ((blk a0.heap.size).add 0) (.int .i64 aw)) fun eb =>
 canStore eb ((blk a0.heap.size).add 1) ∧
 thenW (eb.setCell ((blk a0.heap.size).add 1) (.int .i64 br)) fun e2 =>
 canStore e2 ((blk a0.heap.size).add 2) ∧
 thenW (e2.setCell ((blk a0.heap.size).add 2) (.int .u64 cr)) fun ea =>
 canStore ea ((blk a0.heap.size).add 3) ∧
 thenW (ea.setCell ((blk a0.heap.size).add 3) (.int .i64 d9)) fun e0 =>
 canStore e0 ((blk a0.heap.size).add 4) ∧
 thenW (e0.setCell ((blk a0.heap.size).add 4) (.int .i64 d7)) fun ec =>
 canStore ec ((blk a0.heap.size).add 5) ∧
 thenW (ec.setCell ((blk a0.heap.size).add 5) (.int .i64 bc)) fun ed =>
 canStore ed ((blk a0.heap.size).add 6) ∧
 thenW (ed.setCell ((blk a0.heap.size).add 6) (.slice be c1 bq)) fun ee =>
 canStore ee ((blk a0.heap.size).add 7) ∧
 thenW (ee.setCell ((blk a0.heap.size).add 7) (.int .u64 d5)) fun e7 =>
 ∃ (a3 : Int) (ab : Int) (an : Int) (bd : Int) (bf : Int) (a5 : Int) (aa : Option Addr) (am : Nat) (ah : Nat) (bm : Int), cellsAt e7 (blk a0.heap.size) [.int .i64 a3, .int .i64 ab, .int .u64 an, .int .i64 bd, .int .i64 bf, .int .i64 a5, .slice aa am ah, .int .u64 bm] 0 ∧
 R (.tuple #[.agg #[.int .i64 a3, .int .i64 ab, .int .u64 an, .int .i64 bd, .int .i64 bf, .int .i64 a5, .slice aa am ah, .int .u64 bm], .int .i64 0]) e7)))))

theorem chain_Log_Issue.eq (l1 : Option Addr) (secret2 : Int) (atT3 : Int) (atW4 : Int) (epoch5 : Int) (body6a : Option Addr) (body6n : Nat) (body6c : Nat) (R : Value → World → Prop) (w : World) : mfunc Try.prog [] 9 [.pointer l1, .int .u64 secret2, .agg #[.int .i64 atT3, .int .i64 atW4], .int .i64 epoch5, .slice body6a body6n body6c] R w = chain_Log_Issue.M l1 secret2 atT3 atW4 epoch5 body6a body6n body6c R w := by kernel_rfl
theorem chain_Log_Issue.ok (l1 : Option Addr) (a0 : Int) (a5 : Int) (a6 : Int) (a3 : Int) (a2 : Option Addr) (a1 : Nat) (a4 : Nat) {R : Value → World → Prop} {w : World} (h : chain_Log_Issue.M l1 a0 a5 a6 a3 a2 a1 a4 R w) : Calls Try.prog 9 #[.pointer l1, .int .u64 a0, .agg #[.int .i64 a5, .int .i64 a6], .int .i64 a3, .slice a2 a1 a4] w fun e w' => ∃ v, e = .returned v ∧ R v w' :=
  mfunc_ok follows (H := []) (args := [.pointer l1, .int .u64 a0, .agg #[.int .i64 a5, .int .i64 a6], .int .i64 a3, .slice a2 a1 a4]) (by rw [chain_Log_Issue.eq]; exact h)

def chain_Log_Issue.N (l1 : Option Addr) (an : Int) (ak : Int) (aj : Int) (a4 : Int) (a2 : Option Addr) (a3 : Nat) (ab : Nat) (R : Value → World → Prop) (w : World) : Prop :=
 (l1 = none →
 ∀ (b1 : World), Ext no w b1 →
 R (.tuple #[.agg #[.int .i64 0, .int .i64 0, .int .u64 0, .int .i64 0, .int .i64 0, .int .i64 0, .slice none 0 0, .int .u64 0], .int .i64 23]) b1) ∧
 (l1 ≠ none →
 ∃ az : Addr, l1 = some az ∧
 ∃ (b8 : Option Addr) (av : Nat) (b7 : Nat), w.cell? (az.add 3) = some (.slice b8 av b7) ∧
 ((av : Int) ≥ 200 →
 ∀ (b3 : World), Ext no w b3 →
 R (.tuple #[.agg #[.int .i64 0, .int .i64 0, .int .u64 0, .int .i64 0, .int .i64 0, .int .i64 0, .slice none 0 0, .int .u64 0], .int .i64 3]) b3) ∧
 ((av : Int) < 200 →
 ∃ (af : Int), w.cell? (az.add 1) = some (.int .i64 af) ∧
 ∃ (b9 : Option Addr) (ai : Nat) (b6 : Nat), w.cell? (az.add 3) = some (.slice b9 ai b6) ∧
 ∃ (ac : Int), w.cell? (az.add 4) = some (.int .u64 ac) ∧
 ((entry_Right.F af (ai : Int) ac ak aj a4 a2 a3 ab 0) = false →
 ∀ (b2 : World), Ext no w b2 →
 R (.tuple #[.agg #[.int .i64 0, .int .i64 0, .int .u64 0, .int .i64 0, .int .i64 0, .int .i64 0, .slice none 0 0, .int .u64 0], .int .i64 1]) b2) ∧
 ((entry_Right.F af (ai : Int) ac ak aj a4 a2 a3 ab 0) = true →
 ∀ (al : World) (ax : Nat) (ay : Nat), Ext no w al → Priv w al [ax, ay] →
 Calls Try.prog 35 #[.pointer l1, .agg #[.int .i64 af, .int .i64 (ai : Int), .int .u64 ac, .int .i64 ak, .int .i64 aj, .int .i64 a4, .slice a2 a3 ab, .int .u64 0]] al fun b5 am => ∃ (a0 : Int), b5 = .returned (.int .i64 a0) ∧
 Keep [ax, ay] al am ∧
 (a0 ≠ 0 →
 ∀ (b0 : World), Ext (fun b => b = ax) am b0 →
 R (.tuple #[.agg #[.int .i64 0, .int .i64 0, .int .u64 0, .int .i64 0, .int .i64 0, .int .i64 0, .slice none 0 0, .int .u64 0], .int .i64 a0]) b0) ∧
 (a0 = 0 →
 ∃ (bb : Option Addr), am.cell? (az.add 0) = some (.pointer bb) ∧
 ∀ (au : World), Ext no am au →
 Calls Try.prog 28 #[.pointer bb, .int .u64 an, .agg #[.int .i64 af, .int .i64 (ai : Int), .int .u64 ac, .int .i64 ak, .int .i64 aj, .int .i64 a4, .slice a2 a3 ab, .int .u64 0]] au fun ba ar => ∃ (a1 : Int) (a8 : Int) (ad : Int) (ag : Int) (ah : Int) (aa : Int) (a7 : Option Addr) (a9 : Nat) (a6 : Nat) (ae : Int) (a5 : Int), ba = .returned (.tuple #[.agg #[.int .i64 a1, .int .i64 a8, .int .u64 ad, .int .i64 ag, .int .i64 ah, .int .i64 aa, .slice a7 a9 a6, .int .u64 ae], .int .i64 a5]) ∧
 Keep [ax, ay] au ar ∧
 (a5 ≠ 0 →
 ∀ (aq : World), Ext (fun b => b = ax ∨ b = ay) ar aq →
 R (.tuple #[.agg #[.int .i64 0, .int .i64 0, .int .u64 0, .int .i64 0, .int .i64 0, .int .i64 0, .slice none 0 0, .int .u64 0], .int .i64 a5]) aq) ∧
 (a5 = 0 →
 ∀ (aw : World), Ext (fun b => b = ay) ar aw →
 Calls Try.prog 36 #[.pointer l1, .agg #[.int .i64 a1, .int .i64 a8, .int .u64 ad, .int .i64 ag, .int .i64 ah, .int .i64 aa, .slice a7 a9 a6, .int .u64 ae]] aw fun b4 ap => b4 = .returned (.tuple #[]) ∧
 Keep [ax, ay] aw ap ∧
 ∀ (ao : World), Ext (fun b => b = ax) ap ao →
 R (.tuple #[.agg #[.int .i64 a1, .int .i64 a8, .int .u64 ad, .int .i64 ag, .int .i64 ah, .int .i64 aa, .slice a7 a9 a6, .int .u64 ae], .int .i64 0]) ao)))))

theorem chain_Log_Issue.up (l1 : Option Addr) (ap : Int) (ak : Int) (aj : Int) (a9 : Int) (a8 : Option Addr) (a7 : Nat) (aa : Nat) {R : Value → World → Prop} {w : World} (h : chain_Log_Issue.N l1 ap ak aj a9 a8 a7 aa R w) : chain_Log_Issue.M l1 ap ak aj a9 a8 a7 aa R w := by
  unfold chain_Log_Issue.M
  unfold chain_Log_Issue.N at h
  refine thenW_in fun a3 e7 => ?_
  have aq := Blk.of_new e7
  have il := ((Ext.refl no w)).size
  have gg := (Ext.refl no w).x_alloc e7
  refine thenW_in fun io e8 => ?_
  have a0 := Blk.of_new e8
  have an := (gg).size
  have ge := Nat.ne_of_lt aq.lt
  have aq := aq.x_alloc e8
  have cu := gg.x_alloc e8
  refine bif_of (fun c9 => ?_) (fun c9 => ?_)
  · have h := h.1 (isNone_t c9)
    refine ⟨a0.cani 0 rfl rfl, thenW_in fun da gk => ?_⟩
    have eq := cu.x_set (q := a3.heap.size) (i := 0) rfl (.inr an) gk
    have a0 : Blk da a3.heap.size 29 [.int .i64 0, .int .i64 0, .int .u64 0, .int .i64 0, .int .i64 0, .int .i64 0, .slice none 0 0, .int .u64 0] := a0.seti 0 rfl gk
    refine ⟨a0.cani 1 rfl rfl, thenW_in fun cz gw => ?_⟩
    have f0 := eq.x_set (q := a3.heap.size) (i := 1) rfl (.inr an) gw
    have a0 : Blk cz a3.heap.size 29 [.int .i64 0, .int .i64 0, .int .u64 0, .int .i64 0, .int .i64 0, .int .i64 0, .slice none 0 0, .int .u64 0] := a0.seti 1 rfl gw
    refine ⟨a0.cani 2 rfl rfl, thenW_in fun fo i9 => ?_⟩
    have d8 := f0.x_set (q := a3.heap.size) (i := 2) rfl (.inr an) i9
    have a0 : Blk fo a3.heap.size 29 [.int .i64 0, .int .i64 0, .int .u64 0, .int .i64 0, .int .i64 0, .int .i64 0, .slice none 0 0, .int .u64 0] := a0.seti 2 rfl i9
    refine ⟨a0.cani 3 rfl rfl, thenW_in fun fx i6 => ?_⟩
    have f3 := d8.x_set (q := a3.heap.size) (i := 3) rfl (.inr an) i6
    have a0 : Blk fx a3.heap.size 29 [.int .i64 0, .int .i64 0, .int .u64 0, .int .i64 0, .int .i64 0, .int .i64 0, .slice none 0 0, .int .u64 0] := a0.seti 3 rfl i6
    refine ⟨a0.cani 4 rfl rfl, thenW_in fun gd gl => ?_⟩
    have dq := f3.x_set (q := a3.heap.size) (i := 4) rfl (.inr an) gl
    have a0 : Blk gd a3.heap.size 29 [.int .i64 0, .int .i64 0, .int .u64 0, .int .i64 0, .int .i64 0, .int .i64 0, .slice none 0 0, .int .u64 0] := a0.seti 4 rfl gl
    refine ⟨a0.cani 5 rfl rfl, thenW_in fun d3 ib => ?_⟩
    have fr := dq.x_set (q := a3.heap.size) (i := 5) rfl (.inr an) ib
    have a0 : Blk d3 a3.heap.size 29 [.int .i64 0, .int .i64 0, .int .u64 0, .int .i64 0, .int .i64 0, .int .i64 0, .slice none 0 0, .int .u64 0] := a0.seti 5 rfl ib
    refine ⟨a0.cani 6 rfl rfl, thenW_in fun ed i1 => ?_⟩
    have e4 := fr.x_set (q := a3.heap.size) (i := 6) rfl (.inr an) i1
    have a0 : Blk ed a3.heap.size 29 [.int .i64 0, .int .i64 0, .int .u64 0, .int .i64 0, .int .i64 0, .int .i64 0, .slice none 0 0, .int .u64 0] := a0.seti 6 rfl i1
    refine ⟨a0.cani 7 rfl rfl, thenW_in fun bb gn => ?_⟩
    have ez := e4.x_set (q := a3.heap.size) (i := 7) rfl (.inr an) gn
    have a0 : Blk bb a3.heap.size 29 [.int .i64 0, .int .i64 0, .int .u64 0, .int .i64 0, .int .i64 0, .int .i64 0, .slice none 0 0, .int .u64 0] := a0.seti 7 rfl gn
    refine ⟨0, 0, 0, 0, 0, 0, none, 0, 0, 0, ⟨a0.celli 0 rfl rfl, a0.celli 1 rfl rfl, a0.celli 2 rfl rfl, a0.celli 3 rfl rfl, a0.celli 4 rfl rfl, a0.celli 5 rfl rfl, a0.celli 6 rfl rfl, a0.celli 7 rfl rfl, trivial⟩, ?_⟩
    have h := h bb ez
    exact h
  · have h := h.2 (isNone_f c9)
    obtain ⟨im, ar, h⟩ := h
    refine elim_some ar ?_
    obtain ⟨ec, e2, d5, fz, h⟩ := h
    refine ⟨ec, e2, d5, (cu).cell fz id, ?_⟩
    refine bif_of (fun g2 => ?_) (fun g2 => ?_)
    · have h := h.1 (of_decide_eq_true g2)
      refine ⟨a0.cani 0 rfl rfl, thenW_in fun ep i0 => ?_⟩
      have eg := cu.x_set (q := a3.heap.size) (i := 0) rfl (.inr an) i0
      have a0 : Blk ep a3.heap.size 29 [.int .i64 0, .int .i64 0, .int .u64 0, .int .i64 0, .int .i64 0, .int .i64 0, .slice none 0 0, .int .u64 0] := a0.seti 0 rfl i0
      refine ⟨a0.cani 1 rfl rfl, thenW_in fun e6 ic => ?_⟩
      have eb := eg.x_set (q := a3.heap.size) (i := 1) rfl (.inr an) ic
      have a0 : Blk e6 a3.heap.size 29 [.int .i64 0, .int .i64 0, .int .u64 0, .int .i64 0, .int .i64 0, .int .i64 0, .slice none 0 0, .int .u64 0] := a0.seti 1 rfl ic
      refine ⟨a0.cani 2 rfl rfl, thenW_in fun dx gp => ?_⟩
      have fb := eb.x_set (q := a3.heap.size) (i := 2) rfl (.inr an) gp
      have a0 : Blk dx a3.heap.size 29 [.int .i64 0, .int .i64 0, .int .u64 0, .int .i64 0, .int .i64 0, .int .i64 0, .slice none 0 0, .int .u64 0] := a0.seti 2 rfl gp
      refine ⟨a0.cani 3 rfl rfl, thenW_in fun gc gv => ?_⟩
      have d0 := fb.x_set (q := a3.heap.size) (i := 3) rfl (.inr an) gv
      have a0 : Blk gc a3.heap.size 29 [.int .i64 0, .int .i64 0, .int .u64 0, .int .i64 0, .int .i64 0, .int .i64 0, .slice none 0 0, .int .u64 0] := a0.seti 3 rfl gv
      refine ⟨a0.cani 4 rfl rfl, thenW_in fun fp i5 => ?_⟩
      have fe := d0.x_set (q := a3.heap.size) (i := 4) rfl (.inr an) i5
      have a0 : Blk fp a3.heap.size 29 [.int .i64 0, .int .i64 0, .int .u64 0, .int .i64 0, .int .i64 0, .int .i64 0, .slice none 0 0, .int .u64 0] := a0.seti 4 rfl i5
      refine ⟨a0.cani 5 rfl rfl, thenW_in fun dk gr => ?_⟩
      have g4 := fe.x_set (q := a3.heap.size) (i := 5) rfl (.inr an) gr
      have a0 : Blk dk a3.heap.size 29 [.int .i64 0, .int .i64 0, .int .u64 0, .int .i64 0, .int .i64 0, .int .i64 0, .slice none 0 0, .int .u64 0] := a0.seti 5 rfl gr
      refine ⟨a0.cani 6 rfl rfl, thenW_in fun f7 gj => ?_⟩
      have fk := g4.x_set (q := a3.heap.size) (i := 6) rfl (.inr an) gj
      have a0 : Blk f7 a3.heap.size 29 [.int .i64 0, .int .i64 0, .int .u64 0, .int .i64 0, .int .i64 0, .int .i64 0, .slice none 0 0, .int .u64 0] := a0.seti 6 rfl gj
      refine ⟨a0.cani 7 rfl rfl, thenW_in fun cc gy => ?_⟩
      have fl := fk.x_set (q := a3.heap.size) (i := 7) rfl (.inr an) gy
      have a0 : Blk cc a3.heap.size 29 [.int .i64 0, .int .i64 0, .int .u64 0, .int .i64 0, .int .i64 0, .int .i64 0, .slice none 0 0, .int .u64 0] := a0.seti 7 rfl gy
      refine ⟨0, 0, 0, 0, 0, 0, none, 0, 0, 0, ⟨a0.celli 0 rfl rfl, a0.celli 1 rfl rfl, a0.celli 2 rfl rfl, a0.celli 3 rfl rfl, a0.celli 4 rfl rfl, a0.celli 5 rfl rfl, a0.celli 6 rfl rfl, a0.celli 7 rfl rfl, trivial⟩, ?_⟩
      have h := h cc fl
      exact h
    · have h := h.2 (Int.not_le.1 (of_decide_eq_false g2))
      refine thenW_in fun a2 df => ?_
      have au := cu.x_drew df
      have aq := aq.x_drew df
      have a0 := a0.x_drew df
      refine elim_some ar ?_
      obtain ⟨am, cp, h⟩ := h
      refine ⟨am, (au).cell cp id, ?_⟩
      refine elim_some ar ?_
      obtain ⟨dc, al, fw, bt, h⟩ := h
      refine ⟨dc, al, fw, (au).cell bt id, ?_⟩
      refine elim_some ar ?_
      obtain ⟨ag, bz, h⟩ := h
      refine ⟨ag, (au).cell bz id, ?_⟩
      refine ⟨ak, aj, ⟨aq.celli 0 rfl rfl, aq.celli 1 rfl rfl, trivial⟩, ?_⟩
      refine thenW_in fun ij cv => ?_
      have a4 := Blk.of_new cv
      have ay := (au).size
      have ig := Nat.ne_of_lt aq.lt
      have aq := aq.x_alloc cv
      have ac := Nat.ne_of_lt a0.lt
      have a0 := a0.x_alloc cv
      have ax := au.x_alloc cv
      refine ⟨⟨aq.celli 0 rfl rfl, aq.celli 1 rfl rfl, trivial⟩, (ax).cell bz id, (ax).cell bt id, (ax).cell cp id, ?_⟩
      refine ⟨a4.cani 0 rfl rfl, thenW_in fun eu dg => ?_⟩
      have e0 := ax.x_set (q := a2.heap.size) (i := 0) rfl (.inr ay) dg
      have a0 := a0.oth (q := a2.heap.size) (i := 0) rfl ac dg
      have a4 : Blk eu a2.heap.size 29 [.int .i64 am, .int .i64 0, .int .u64 0, .int .i64 0, .int .i64 0, .int .i64 0, .slice none 0 0, .int .u64 0] := a4.seti 0 rfl dg
      refine ⟨a4.cani 1 rfl rfl, thenW_in fun eh db => ?_⟩
      have di := e0.x_set (q := a2.heap.size) (i := 1) rfl (.inr ay) db
      have a0 := a0.oth (q := a2.heap.size) (i := 1) rfl ac db
      have a4 : Blk eh a2.heap.size 29 [.int .i64 am, .int .i64 (al : Int), .int .u64 0, .int .i64 0, .int .i64 0, .int .i64 0, .slice none 0 0, .int .u64 0] := a4.seti 1 rfl db
      refine ⟨a4.cani 2 rfl rfl, thenW_in fun d7 dl => ?_⟩
      have g7 := di.x_set (q := a2.heap.size) (i := 2) rfl (.inr ay) dl
      have a0 := a0.oth (q := a2.heap.size) (i := 2) rfl ac dl
      have a4 : Blk d7 a2.heap.size 29 [.int .i64 am, .int .i64 (al : Int), .int .u64 ag, .int .i64 0, .int .i64 0, .int .i64 0, .slice none 0 0, .int .u64 0] := a4.seti 2 rfl dl
      refine ⟨a4.cani 3 rfl rfl, thenW_in fun dn cw => ?_⟩
      have fy := g7.x_set (q := a2.heap.size) (i := 3) rfl (.inr ay) cw
      have a0 := a0.oth (q := a2.heap.size) (i := 3) rfl ac cw
      have a4 : Blk dn a2.heap.size 29 [.int .i64 am, .int .i64 (al : Int), .int .u64 ag, .int .i64 ak, .int .i64 0, .int .i64 0, .slice none 0 0, .int .u64 0] := a4.seti 3 rfl cw
      refine ⟨a4.cani 4 rfl rfl, thenW_in fun fq e1 => ?_⟩
      have g0 := fy.x_set (q := a2.heap.size) (i := 4) rfl (.inr ay) e1
      have a0 := a0.oth (q := a2.heap.size) (i := 4) rfl ac e1
      have a4 : Blk fq a2.heap.size 29 [.int .i64 am, .int .i64 (al : Int), .int .u64 ag, .int .i64 ak, .int .i64 aj, .int .i64 0, .slice none 0 0, .int .u64 0] := a4.seti 4 rfl e1
      refine ⟨a4.cani 5 rfl rfl, thenW_in fun fj g9 => ?_⟩
      have g6 := g0.x_set (q := a2.heap.size) (i := 5) rfl (.inr ay) g9
      have a0 := a0.oth (q := a2.heap.size) (i := 5) rfl ac g9
      have a4 : Blk fj a2.heap.size 29 [.int .i64 am, .int .i64 (al : Int), .int .u64 ag, .int .i64 ak, .int .i64 aj, .int .i64 a9, .slice none 0 0, .int .u64 0] := a4.seti 5 rfl g9
      refine ⟨a4.cani 6 rfl rfl, thenW_in fun dm dy => ?_⟩
      have fv := g6.x_set (q := a2.heap.size) (i := 6) rfl (.inr ay) dy
      have a0 := a0.oth (q := a2.heap.size) (i := 6) rfl ac dy
      have a4 : Blk dm a2.heap.size 29 [.int .i64 am, .int .i64 (al : Int), .int .u64 ag, .int .i64 ak, .int .i64 aj, .int .i64 a9, .slice a8 a7 aa, .int .u64 0] := a4.seti 6 rfl dy
      refine ⟨a4.cani 7 rfl rfl, thenW_in fun dt gb => ?_⟩
      have de := fv.x_set (q := a2.heap.size) (i := 7) rfl (.inr ay) gb
      have a0 := a0.oth (q := a2.heap.size) (i := 7) rfl ac gb
      have a4 : Blk dt a2.heap.size 29 [.int .i64 am, .int .i64 (al : Int), .int .u64 ag, .int .i64 ak, .int .i64 aj, .int .i64 a9, .slice a8 a7 aa, .int .u64 0] := a4.seti 7 rfl gb
      refine ⟨am, (al : Int), ag, ak, aj, a9, a8, a7, aa, 0, ⟨a4.celli 0 rfl rfl, a4.celli 1 rfl rfl, a4.celli 2 rfl rfl, a4.celli 3 rfl rfl, a4.celli 4 rfl rfl, a4.celli 5 rfl rfl, a4.celli 6 rfl rfl, a4.celli 7 rfl rfl, trivial⟩, ?_⟩
      refine (entry_Right.pure am (al : Int) ag ak aj a9 a8 a7 aa 0).mono fun ee ww50 ⟨he, hxx⟩ => ⟨(entry_Right.F am (al : Int) ag ak aj a9 a8 a7 aa 0), he, ?_⟩
      have cg := de.trans hxx
      have a0 := a0.ext hxx id
      have a4 := a4.ext hxx id
      refine bif_of (fun en => ?_) (fun en => ?_)
      · have h := h.1 (not_t en)
        refine ⟨a0.cani 0 rfl rfl, thenW_in fun f1 ia => ?_⟩
        have fc := cg.x_set (q := a3.heap.size) (i := 0) rfl (.inr an) ia
        have a0 : Blk f1 a3.heap.size 29 [.int .i64 0, .int .i64 0, .int .u64 0, .int .i64 0, .int .i64 0, .int .i64 0, .slice none 0 0, .int .u64 0] := a0.seti 0 rfl ia
        refine ⟨a0.cani 1 rfl rfl, thenW_in fun f2 i2 => ?_⟩
        have d9 := fc.x_set (q := a3.heap.size) (i := 1) rfl (.inr an) i2
        have a0 : Blk f2 a3.heap.size 29 [.int .i64 0, .int .i64 0, .int .u64 0, .int .i64 0, .int .i64 0, .int .i64 0, .slice none 0 0, .int .u64 0] := a0.seti 1 rfl i2
        refine ⟨a0.cani 2 rfl rfl, thenW_in fun f9 gx => ?_⟩
        have fa := d9.x_set (q := a3.heap.size) (i := 2) rfl (.inr an) gx
        have a0 : Blk f9 a3.heap.size 29 [.int .i64 0, .int .i64 0, .int .u64 0, .int .i64 0, .int .i64 0, .int .i64 0, .slice none 0 0, .int .u64 0] := a0.seti 2 rfl gx
        refine ⟨a0.cani 3 rfl rfl, thenW_in fun dr i7 => ?_⟩
        have e9 := fa.x_set (q := a3.heap.size) (i := 3) rfl (.inr an) i7
        have a0 : Blk dr a3.heap.size 29 [.int .i64 0, .int .i64 0, .int .u64 0, .int .i64 0, .int .i64 0, .int .i64 0, .slice none 0 0, .int .u64 0] := a0.seti 3 rfl i7
        refine ⟨a0.cani 4 rfl rfl, thenW_in fun ex i4 => ?_⟩
        have dj := e9.x_set (q := a3.heap.size) (i := 4) rfl (.inr an) i4
        have a0 : Blk ex a3.heap.size 29 [.int .i64 0, .int .i64 0, .int .u64 0, .int .i64 0, .int .i64 0, .int .i64 0, .slice none 0 0, .int .u64 0] := a0.seti 4 rfl i4
        refine ⟨a0.cani 5 rfl rfl, thenW_in fun g3 gh => ?_⟩
        have ga := dj.x_set (q := a3.heap.size) (i := 5) rfl (.inr an) gh
        have a0 : Blk g3 a3.heap.size 29 [.int .i64 0, .int .i64 0, .int .u64 0, .int .i64 0, .int .i64 0, .int .i64 0, .slice none 0 0, .int .u64 0] := a0.seti 5 rfl gh
        refine ⟨a0.cani 6 rfl rfl, thenW_in fun f8 gu => ?_⟩
        have e5 := ga.x_set (q := a3.heap.size) (i := 6) rfl (.inr an) gu
        have a0 : Blk f8 a3.heap.size 29 [.int .i64 0, .int .i64 0, .int .u64 0, .int .i64 0, .int .i64 0, .int .i64 0, .slice none 0 0, .int .u64 0] := a0.seti 6 rfl gu
        refine ⟨a0.cani 7 rfl rfl, thenW_in fun c8 ie => ?_⟩
        have fs := e5.x_set (q := a3.heap.size) (i := 7) rfl (.inr an) ie
        have a0 : Blk c8 a3.heap.size 29 [.int .i64 0, .int .i64 0, .int .u64 0, .int .i64 0, .int .i64 0, .int .i64 0, .slice none 0 0, .int .u64 0] := a0.seti 7 rfl ie
        refine ⟨0, 0, 0, 0, 0, 0, none, 0, 0, 0, ⟨a0.celli 0 rfl rfl, a0.celli 1 rfl rfl, a0.celli 2 rfl rfl, a0.celli 3 rfl rfl, a0.celli 4 rfl rfl, a0.celli 5 rfl rfl, a0.celli 6 rfl rfl, a0.celli 7 rfl rfl, trivial⟩, ?_⟩
        have h := h c8 fs
        exact h
      · have h := h.2 (not_f en)
        refine ⟨am, (al : Int), ag, ak, aj, a9, a8, a7, aa, 0, ⟨a4.celli 0 rfl rfl, a4.celli 1 rfl rfl, a4.celli 2 rfl rfl, a4.celli 3 rfl rfl, a4.celli 4 rfl rfl, a4.celli 5 rfl rfl, a4.celli 6 rfl rfl, a4.celli 7 rfl rfl, trivial⟩, ?_⟩
        have h := h ww50 (a3.heap.size) (a2.heap.size) cg (Priv.cons an a0.lt (Priv.cons ay a4.lt Priv.nil))
        refine h.mono fun ik az h => ?_
        obtain ⟨aw, he, hk, h⟩ := h
        refine ⟨aw, he, ?_⟩
        have a0 := hk.blk a0 (by simp)
        have a4 := hk.blk a4 (by simp)
        refine bif_of (fun f5 => ?_) (fun f5 => ?_)
        · have h := h.1 (bne_t f5)
          have dh : Ext (fun b => b = a3.heap.size) az az := ((Ext.refl no az)).none
          refine ⟨a0.cani 0 rfl rfl, thenW_in fun er gz => ?_⟩
          have g8 := dh.x_set (q := a3.heap.size) (i := 0) rfl (.inl rfl) gz
          have a0 : Blk er a3.heap.size 29 [.int .i64 0, .int .i64 0, .int .u64 0, .int .i64 0, .int .i64 0, .int .i64 0, .slice none 0 0, .int .u64 0] := a0.seti 0 rfl gz
          refine ⟨a0.cani 1 rfl rfl, thenW_in fun fh gm => ?_⟩
          have dp := g8.x_set (q := a3.heap.size) (i := 1) rfl (.inl rfl) gm
          have a0 : Blk fh a3.heap.size 29 [.int .i64 0, .int .i64 0, .int .u64 0, .int .i64 0, .int .i64 0, .int .i64 0, .slice none 0 0, .int .u64 0] := a0.seti 1 rfl gm
          refine ⟨a0.cani 2 rfl rfl, thenW_in fun dz gi => ?_⟩
          have e3 := dp.x_set (q := a3.heap.size) (i := 2) rfl (.inl rfl) gi
          have a0 : Blk dz a3.heap.size 29 [.int .i64 0, .int .i64 0, .int .u64 0, .int .i64 0, .int .i64 0, .int .i64 0, .slice none 0 0, .int .u64 0] := a0.seti 2 rfl gi
          refine ⟨a0.cani 3 rfl rfl, thenW_in fun dw gs => ?_⟩
          have dv := e3.x_set (q := a3.heap.size) (i := 3) rfl (.inl rfl) gs
          have a0 : Blk dw a3.heap.size 29 [.int .i64 0, .int .i64 0, .int .u64 0, .int .i64 0, .int .i64 0, .int .i64 0, .slice none 0 0, .int .u64 0] := a0.seti 3 rfl gs
          refine ⟨a0.cani 4 rfl rfl, thenW_in fun ds gq => ?_⟩
          have f4 := dv.x_set (q := a3.heap.size) (i := 4) rfl (.inl rfl) gq
          have a0 : Blk ds a3.heap.size 29 [.int .i64 0, .int .i64 0, .int .u64 0, .int .i64 0, .int .i64 0, .int .i64 0, .slice none 0 0, .int .u64 0] := a0.seti 4 rfl gq
          refine ⟨a0.cani 5 rfl rfl, thenW_in fun dd i3 => ?_⟩
          have d1 := f4.x_set (q := a3.heap.size) (i := 5) rfl (.inl rfl) i3
          have a0 : Blk dd a3.heap.size 29 [.int .i64 0, .int .i64 0, .int .u64 0, .int .i64 0, .int .i64 0, .int .i64 0, .slice none 0 0, .int .u64 0] := a0.seti 5 rfl i3
          refine ⟨a0.cani 6 rfl rfl, thenW_in fun em i8 => ?_⟩
          have fu := d1.x_set (q := a3.heap.size) (i := 6) rfl (.inl rfl) i8
          have a0 : Blk em a3.heap.size 29 [.int .i64 0, .int .i64 0, .int .u64 0, .int .i64 0, .int .i64 0, .int .i64 0, .slice none 0 0, .int .u64 0] := a0.seti 6 rfl i8
          refine ⟨a0.cani 7 rfl rfl, thenW_in fun b8 gf => ?_⟩
          have ea := fu.x_set (q := a3.heap.size) (i := 7) rfl (.inl rfl) gf
          have a0 : Blk b8 a3.heap.size 29 [.int .i64 0, .int .i64 0, .int .u64 0, .int .i64 0, .int .i64 0, .int .i64 0, .slice none 0 0, .int .u64 0] := a0.seti 7 rfl gf
          refine ⟨0, 0, 0, 0, 0, 0, none, 0, 0, 0, ⟨a0.celli 0 rfl rfl, a0.celli 1 rfl rfl, a0.celli 2 rfl rfl, a0.celli 3 rfl rfl, a0.celli 4 rfl rfl, a0.celli 5 rfl rfl, a0.celli 6 rfl rfl, a0.celli 7 rfl rfl, trivial⟩, ?_⟩
          have h := h b8 ea
          exact h
        · have h := h.2 (bne_f f5)
          refine thenW_in fun cx et => ?_
          have c3 := (Ext.refl no az).x_drew et
          have a0 := a0.x_drew et
          have a4 := a4.x_drew et
          refine elim_some ar ?_
          obtain ⟨ii, ev, h⟩ := h
          refine ⟨ii, (c3).cell ev id, ?_⟩
          refine ⟨am, (al : Int), ag, ak, aj, a9, a8, a7, aa, 0, ⟨a4.celli 0 rfl rfl, a4.celli 1 rfl rfl, a4.celli 2 rfl rfl, a4.celli 3 rfl rfl, a4.celli 4 rfl rfl, a4.celli 5 rfl rfl, a4.celli 6 rfl rfl, a4.celli 7 rfl rfl, trivial⟩, ?_⟩
          have h := h cx c3
          refine h.mono fun ih b0 h => ?_
          obtain ⟨a1, a5, a6, ad, ai, ab, ah, ae, af, ao, b3, he, hk, h⟩ := h
          refine ⟨a1, a5, a6, ad, ai, ab, ah, ae, af, ao, b3, he, ?_⟩
          have a0 := hk.blk a0 (by simp)
          have a4 := hk.blk a4 (by simp)
          have d6 : Ext (fun b => b = a2.heap.size) b0 b0 := ((Ext.refl no b0)).none
          refine ⟨a4.cani 0 rfl rfl, thenW_in fun ff ef => ?_⟩
          have d2 := d6.x_set (q := a2.heap.size) (i := 0) rfl (.inl rfl) ef
          have a0 := a0.oth (q := a2.heap.size) (i := 0) rfl ac ef
          have a4 : Blk ff a2.heap.size 29 [.int .i64 a1, .int .i64 (al : Int), .int .u64 ag, .int .i64 ak, .int .i64 aj, .int .i64 a9, .slice a8 a7 aa, .int .u64 0] := a4.seti 0 rfl ef
          refine ⟨a4.cani 1 rfl rfl, thenW_in fun ek d4 => ?_⟩
          have eo := d2.x_set (q := a2.heap.size) (i := 1) rfl (.inl rfl) d4
          have a0 := a0.oth (q := a2.heap.size) (i := 1) rfl ac d4
          have a4 : Blk ek a2.heap.size 29 [.int .i64 a1, .int .i64 a5, .int .u64 ag, .int .i64 ak, .int .i64 aj, .int .i64 a9, .slice a8 a7 aa, .int .u64 0] := a4.seti 1 rfl d4
          refine ⟨a4.cani 2 rfl rfl, thenW_in fun ej g1 => ?_⟩
          have cy := eo.x_set (q := a2.heap.size) (i := 2) rfl (.inl rfl) g1
          have a0 := a0.oth (q := a2.heap.size) (i := 2) rfl ac g1
          have a4 : Blk ej a2.heap.size 29 [.int .i64 a1, .int .i64 a5, .int .u64 a6, .int .i64 ak, .int .i64 aj, .int .i64 a9, .slice a8 a7 aa, .int .u64 0] := a4.seti 2 rfl g1
          refine ⟨a4.cani 3 rfl rfl, thenW_in fun f6 ei => ?_⟩
          have fi := cy.x_set (q := a2.heap.size) (i := 3) rfl (.inl rfl) ei
          have a0 := a0.oth (q := a2.heap.size) (i := 3) rfl ac ei
          have a4 : Blk f6 a2.heap.size 29 [.int .i64 a1, .int .i64 a5, .int .u64 a6, .int .i64 ad, .int .i64 aj, .int .i64 a9, .slice a8 a7 aa, .int .u64 0] := a4.seti 3 rfl ei
          refine ⟨a4.cani 4 rfl rfl, thenW_in fun fm du => ?_⟩
          have ew := fi.x_set (q := a2.heap.size) (i := 4) rfl (.inl rfl) du
          have a0 := a0.oth (q := a2.heap.size) (i := 4) rfl ac du
          have a4 : Blk fm a2.heap.size 29 [.int .i64 a1, .int .i64 a5, .int .u64 a6, .int .i64 ad, .int .i64 ai, .int .i64 a9, .slice a8 a7 aa, .int .u64 0] := a4.seti 4 rfl du
          refine ⟨a4.cani 5 rfl rfl, thenW_in fun g5 ft => ?_⟩
          have fd := ew.x_set (q := a2.heap.size) (i := 5) rfl (.inl rfl) ft
          have a0 := a0.oth (q := a2.heap.size) (i := 5) rfl ac ft
          have a4 : Blk g5 a2.heap.size 29 [.int .i64 a1, .int .i64 a5, .int .u64 a6, .int .i64 ad, .int .i64 ai, .int .i64 ab, .slice a8 a7 aa, .int .u64 0] := a4.seti 5 rfl ft
          refine ⟨a4.cani 6 rfl rfl, thenW_in fun el fg => ?_⟩
          have ey := fd.x_set (q := a2.heap.size) (i := 6) rfl (.inl rfl) fg
          have a0 := a0.oth (q := a2.heap.size) (i := 6) rfl ac fg
          have a4 : Blk el a2.heap.size 29 [.int .i64 a1, .int .i64 a5, .int .u64 a6, .int .i64 ad, .int .i64 ai, .int .i64 ab, .slice ah ae af, .int .u64 0] := a4.seti 6 rfl fg
          refine ⟨a4.cani 7 rfl rfl, thenW_in fun b4 es => ?_⟩
          have bd := ey.x_set (q := a2.heap.size) (i := 7) rfl (.inl rfl) es
          have a0 := a0.oth (q := a2.heap.size) (i := 7) rfl ac es
          have a4 : Blk b4 a2.heap.size 29 [.int .i64 a1, .int .i64 a5, .int .u64 a6, .int .i64 ad, .int .i64 ai, .int .i64 ab, .slice ah ae af, .int .u64 ao] := a4.seti 7 rfl es
          refine bif_of (fun b5 => ?_) (fun b5 => ?_)
          · have h := h.1 (bne_t b5)
            have c0 : Ext (fun b => b = a3.heap.size ∨ b = a2.heap.size) b0 b4 := (bd).mono fun _ h _ => .inr h
            refine ⟨a0.cani 0 rfl rfl, thenW_in fun ba bf => ?_⟩
            have bi := c0.x_set (q := a3.heap.size) (i := 0) rfl (.inl (.inl rfl)) bf
            have a0 : Blk ba a3.heap.size 29 [.int .i64 0, .int .i64 0, .int .u64 0, .int .i64 0, .int .i64 0, .int .i64 0, .slice none 0 0, .int .u64 0] := a0.seti 0 rfl bf
            refine ⟨a0.cani 1 rfl rfl, thenW_in fun bn bl => ?_⟩
            have cr := bi.x_set (q := a3.heap.size) (i := 1) rfl (.inl (.inl rfl)) bl
            have a0 : Blk bn a3.heap.size 29 [.int .i64 0, .int .i64 0, .int .u64 0, .int .i64 0, .int .i64 0, .int .i64 0, .slice none 0 0, .int .u64 0] := a0.seti 1 rfl bl
            refine ⟨a0.cani 2 rfl rfl, thenW_in fun ck bu => ?_⟩
            have c1 := cr.x_set (q := a3.heap.size) (i := 2) rfl (.inl (.inl rfl)) bu
            have a0 : Blk ck a3.heap.size 29 [.int .i64 0, .int .i64 0, .int .u64 0, .int .i64 0, .int .i64 0, .int .i64 0, .slice none 0 0, .int .u64 0] := a0.seti 2 rfl bu
            refine ⟨a0.cani 3 rfl rfl, thenW_in fun c5 ca => ?_⟩
            have ch := c1.x_set (q := a3.heap.size) (i := 3) rfl (.inl (.inl rfl)) ca
            have a0 : Blk c5 a3.heap.size 29 [.int .i64 0, .int .i64 0, .int .u64 0, .int .i64 0, .int .i64 0, .int .i64 0, .slice none 0 0, .int .u64 0] := a0.seti 3 rfl ca
            refine ⟨a0.cani 4 rfl rfl, thenW_in fun bo cb => ?_⟩
            have b6 := ch.x_set (q := a3.heap.size) (i := 4) rfl (.inl (.inl rfl)) cb
            have a0 : Blk bo a3.heap.size 29 [.int .i64 0, .int .i64 0, .int .u64 0, .int .i64 0, .int .i64 0, .int .i64 0, .slice none 0 0, .int .u64 0] := a0.seti 4 rfl cb
            refine ⟨a0.cani 5 rfl rfl, thenW_in fun bm ct => ?_⟩
            have bc := b6.x_set (q := a3.heap.size) (i := 5) rfl (.inl (.inl rfl)) ct
            have a0 : Blk bm a3.heap.size 29 [.int .i64 0, .int .i64 0, .int .u64 0, .int .i64 0, .int .i64 0, .int .i64 0, .slice none 0 0, .int .u64 0] := a0.seti 5 rfl ct
            refine ⟨a0.cani 6 rfl rfl, thenW_in fun cs bg => ?_⟩
            have cm := bc.x_set (q := a3.heap.size) (i := 6) rfl (.inl (.inl rfl)) bg
            have a0 : Blk cs a3.heap.size 29 [.int .i64 0, .int .i64 0, .int .u64 0, .int .i64 0, .int .i64 0, .int .i64 0, .slice none 0 0, .int .u64 0] := a0.seti 6 rfl bg
            refine ⟨a0.cani 7 rfl rfl, thenW_in fun b1 cf => ?_⟩
            have bx := cm.x_set (q := a3.heap.size) (i := 7) rfl (.inl (.inl rfl)) cf
            have a0 : Blk b1 a3.heap.size 29 [.int .i64 0, .int .i64 0, .int .u64 0, .int .i64 0, .int .i64 0, .int .i64 0, .slice none 0 0, .int .u64 0] := a0.seti 7 rfl cf
            refine ⟨0, 0, 0, 0, 0, 0, none, 0, 0, 0, ⟨a0.celli 0 rfl rfl, a0.celli 1 rfl rfl, a0.celli 2 rfl rfl, a0.celli 3 rfl rfl, a0.celli 4 rfl rfl, a0.celli 5 rfl rfl, a0.celli 6 rfl rfl, a0.celli 7 rfl rfl, trivial⟩, ?_⟩
            have h := h b1 bx
            exact h
          · have h := h.2 (bne_f b5)
            refine ⟨a1, a5, a6, ad, ai, ab, ah, ae, af, ao, ⟨a4.celli 0 rfl rfl, a4.celli 1 rfl rfl, a4.celli 2 rfl rfl, a4.celli 3 rfl rfl, a4.celli 4 rfl rfl, a4.celli 5 rfl rfl, a4.celli 6 rfl rfl, a4.celli 7 rfl rfl, trivial⟩, ?_⟩
            have h := h b4 bd
            refine h.mono fun gt av h => ?_
            obtain ⟨he, hk, h⟩ := h
            refine ⟨he, ?_⟩
            have a0 := hk.blk a0 (by simp)
            have a4 := hk.blk a4 (by simp)
            refine ⟨a1, a5, a6, ad, ai, ab, ah, ae, af, ao, ⟨a4.celli 0 rfl rfl, a4.celli 1 rfl rfl, a4.celli 2 rfl rfl, a4.celli 3 rfl rfl, a4.celli 4 rfl rfl, a4.celli 5 rfl rfl, a4.celli 6 rfl rfl, a4.celli 7 rfl rfl, trivial⟩, ?_⟩
            have bp : Ext (fun b => b = a3.heap.size) av av := ((Ext.refl no av)).none
            refine ⟨a0.cani 0 rfl rfl, thenW_in fun cn cq => ?_⟩
            have bv := bp.x_set (q := a3.heap.size) (i := 0) rfl (.inl rfl) cq
            have a0 : Blk cn a3.heap.size 29 [.int .i64 a1, .int .i64 0, .int .u64 0, .int .i64 0, .int .i64 0, .int .i64 0, .slice none 0 0, .int .u64 0] := a0.seti 0 rfl cq
            refine ⟨a0.cani 1 rfl rfl, thenW_in fun bw bs => ?_⟩
            have c4 := bv.x_set (q := a3.heap.size) (i := 1) rfl (.inl rfl) bs
            have a0 : Blk bw a3.heap.size 29 [.int .i64 a1, .int .i64 a5, .int .u64 0, .int .i64 0, .int .i64 0, .int .i64 0, .slice none 0 0, .int .u64 0] := a0.seti 1 rfl bs
            refine ⟨a0.cani 2 rfl rfl, thenW_in fun cd cj => ?_⟩
            have bj := c4.x_set (q := a3.heap.size) (i := 2) rfl (.inl rfl) cj
            have a0 : Blk cd a3.heap.size 29 [.int .i64 a1, .int .i64 a5, .int .u64 a6, .int .i64 0, .int .i64 0, .int .i64 0, .slice none 0 0, .int .u64 0] := a0.seti 2 rfl cj
            refine ⟨a0.cani 3 rfl rfl, thenW_in fun be c2 => ?_⟩
            have cl := bj.x_set (q := a3.heap.size) (i := 3) rfl (.inl rfl) c2
            have a0 : Blk be a3.heap.size 29 [.int .i64 a1, .int .i64 a5, .int .u64 a6, .int .i64 ad, .int .i64 0, .int .i64 0, .slice none 0 0, .int .u64 0] := a0.seti 3 rfl c2
            refine ⟨a0.cani 4 rfl rfl, thenW_in fun b7 bq => ?_⟩
            have br := cl.x_set (q := a3.heap.size) (i := 4) rfl (.inl rfl) bq
            have a0 : Blk b7 a3.heap.size 29 [.int .i64 a1, .int .i64 a5, .int .u64 a6, .int .i64 ad, .int .i64 ai, .int .i64 0, .slice none 0 0, .int .u64 0] := a0.seti 4 rfl bq
            refine ⟨a0.cani 5 rfl rfl, thenW_in fun bh co => ?_⟩
            have b9 := br.x_set (q := a3.heap.size) (i := 5) rfl (.inl rfl) co
            have a0 : Blk bh a3.heap.size 29 [.int .i64 a1, .int .i64 a5, .int .u64 a6, .int .i64 ad, .int .i64 ai, .int .i64 ab, .slice none 0 0, .int .u64 0] := a0.seti 5 rfl co
            refine ⟨a0.cani 6 rfl rfl, thenW_in fun ci c7 => ?_⟩
            have bk := b9.x_set (q := a3.heap.size) (i := 6) rfl (.inl rfl) c7
            have a0 : Blk ci a3.heap.size 29 [.int .i64 a1, .int .i64 a5, .int .u64 a6, .int .i64 ad, .int .i64 ai, .int .i64 ab, .slice ah ae af, .int .u64 0] := a0.seti 6 rfl c7
            refine ⟨a0.cani 7 rfl rfl, thenW_in fun b2 c6 => ?_⟩
            have ce := bk.x_set (q := a3.heap.size) (i := 7) rfl (.inl rfl) c6
            have a0 : Blk b2 a3.heap.size 29 [.int .i64 a1, .int .i64 a5, .int .u64 a6, .int .i64 ad, .int .i64 ai, .int .i64 ab, .slice ah ae af, .int .u64 ao] := a0.seti 7 rfl c6
            refine ⟨a1, a5, a6, ad, ai, ab, ah, ae, af, ao, ⟨a0.celli 0 rfl rfl, a0.celli 1 rfl rfl, a0.celli 2 rfl rfl, a0.celli 3 rfl rfl, a0.celli 4 rfl rfl, a0.celli 5 rfl rfl, a0.celli 6 rfl rfl, a0.celli 7 rfl rfl, trivial⟩, ?_⟩
            have h := h b2 ce
            exact h

theorem chain_Log_Issue.go (l1 : Option Addr) (a0 : Int) (a5 : Int) (a6 : Int) (a3 : Int) (a2 : Option Addr) (a1 : Nat) (a4 : Nat) {R : Value → World → Prop} {w : World} (h : chain_Log_Issue.N l1 a0 a5 a6 a3 a2 a1 a4 R w) : Calls Try.prog 9 #[.pointer l1, .int .u64 a0, .agg #[.int .i64 a5, .int .i64 a6], .int .i64 a3, .slice a2 a1 a4] w fun e w' => ∃ v, e = .returned v ∧ R v w' := chain_Log_Issue.ok l1 a0 a5 a6 a3 a2 a1 a4 (chain_Log_Issue.up l1 a0 a5 a6 a3 a2 a1 a4 h)
end Go.Proofs.Ytfmdpjhkojbocaa

/- Stamps: which is less (the program's, and the reference's). -/
set_option linter.unusedVariables false
set_option linter.unusedSimpArgs false
set_option maxRecDepth 20000
set_option maxHeartbeats 2000000
namespace Go.Proofs.Ytfmdpjhkojbocaa
open Go Go.Mx Go.Proofs
/-- cmp.isNaN[int64] -/
def cmp_isNaN_int64.M (x1 : Int) (R : Value → World → Prop) (w : World) : Prop :=
 R (.bool (x1 != x1)) w

theorem cmp_isNaN_int64.eq (x1 : Int) (R : Value → World → Prop) (w : World) : mfunc Try.prog [] 93 [.int .i64 x1] R w = cmp_isNaN_int64.M x1 R w := by kernel_rfl
theorem cmp_isNaN_int64.ok (x1 : Int) {R : Value → World → Prop} {w : World} (h : cmp_isNaN_int64.M x1 R w) : Calls Try.prog 93 #[.int .i64 x1] w fun e w' => ∃ v, e = .returned v ∧ R v w' :=
  mfunc_ok follows (H := []) (args := [.int .i64 x1]) (by rw [cmp_isNaN_int64.eq]; exact h)

def cmp_isNaN_int64.N (x1 : Int) (R : Value → World → Prop) (w : World) : Prop :=
 R (.bool (x1 != x1)) w

theorem cmp_isNaN_int64.up (x1 : Int) {R : Value → World → Prop} {w : World} (h : cmp_isNaN_int64.N x1 R w) : cmp_isNaN_int64.M x1 R w := by
  unfold cmp_isNaN_int64.M
  unfold cmp_isNaN_int64.N at h
  exact h

theorem cmp_isNaN_int64.go (x1 : Int) {R : Value → World → Prop} {w : World} (h : cmp_isNaN_int64.N x1 R w) : Calls Try.prog 93 #[.int .i64 x1] w fun e w' => ∃ v, e = .returned v ∧ R v w' := cmp_isNaN_int64.ok x1 (cmp_isNaN_int64.up x1 h)
theorem cmp_isNaN_int64.run (x1 : Int) {V : Value} {Q : World → Prop} {w : World} (h : cmp_isNaN_int64.N x1 (fun v w' => v = V ∧ Q w') w) : Calls Try.prog 93 #[.int .i64 x1] w (Ret V Q) := (cmp_isNaN_int64.go x1 h).mono fun e w' ⟨v, he, hv, hq⟩ => ⟨by rw [he, hv], hq⟩

def cmp_isNaN_int64.F (x1 : Int) : Bool :=
  (x1 != x1)
theorem cmp_isNaN_int64.pure (x1 : Int) {w : World} : Calls Try.prog 93 #[.int .i64 x1] w (Ret (.bool (cmp_isNaN_int64.F x1)) fun w' => Ext no w w') := by
  refine cmp_isNaN_int64.run x1 ?_
  unfold cmp_isNaN_int64.N
  exact ⟨by unfold cmp_isNaN_int64.F; rfl, Ext.refl _ _⟩

/-- cmp.isNaN[int] -/
def cmp_isNaN_int.M (x1 : Int) (R : Value → World → Prop) (w : World) : Prop :=
 R (.bool (x1 != x1)) w

theorem cmp_isNaN_int.eq (x1 : Int) (R : Value → World → Prop) (w : World) : mfunc Try.prog [] 94 [.int .i64 x1] R w = cmp_isNaN_int.M x1 R w := by kernel_rfl
theorem cmp_isNaN_int.ok (x1 : Int) {R : Value → World → Prop} {w : World} (h : cmp_isNaN_int.M x1 R w) : Calls Try.prog 94 #[.int .i64 x1] w fun e w' => ∃ v, e = .returned v ∧ R v w' :=
  mfunc_ok follows (H := []) (args := [.int .i64 x1]) (by rw [cmp_isNaN_int.eq]; exact h)

def cmp_isNaN_int.N (x1 : Int) (R : Value → World → Prop) (w : World) : Prop :=
 R (.bool (x1 != x1)) w

theorem cmp_isNaN_int.up (x1 : Int) {R : Value → World → Prop} {w : World} (h : cmp_isNaN_int.N x1 R w) : cmp_isNaN_int.M x1 R w := by
  unfold cmp_isNaN_int.M
  unfold cmp_isNaN_int.N at h
  exact h

theorem cmp_isNaN_int.go (x1 : Int) {R : Value → World → Prop} {w : World} (h : cmp_isNaN_int.N x1 R w) : Calls Try.prog 94 #[.int .i64 x1] w fun e w' => ∃ v, e = .returned v ∧ R v w' := cmp_isNaN_int.ok x1 (cmp_isNaN_int.up x1 h)
theorem cmp_isNaN_int.run (x1 : Int) {V : Value} {Q : World → Prop} {w : World} (h : cmp_isNaN_int.N x1 (fun v w' => v = V ∧ Q w') w) : Calls Try.prog 94 #[.int .i64 x1] w (Ret V Q) := (cmp_isNaN_int.go x1 h).mono fun e w' ⟨v, he, hv, hq⟩ => ⟨by rw [he, hv], hq⟩

def cmp_isNaN_int.F (x1 : Int) : Bool :=
  (x1 != x1)
theorem cmp_isNaN_int.pure (x1 : Int) {w : World} : Calls Try.prog 94 #[.int .i64 x1] w (Ret (.bool (cmp_isNaN_int.F x1)) fun w' => Ext no w w') := by
  refine cmp_isNaN_int.run x1 ?_
  unfold cmp_isNaN_int.N
  exact ⟨by unfold cmp_isNaN_int.F; rfl, Ext.refl _ _⟩

/-- cmp.Compare[int64] -/
def cmp_Compare_int64.M (x1 : Int) (y2 : Int) (R : Value → World → Prop) (w : World) : Prop :=
 Calls Try.prog 93 #[.int .i64 x1] w fun a5 a3 => ∃ (a1 : Bool), a5 = .returned (.bool a1) ∧
 Calls Try.prog 93 #[.int .i64 y2] a3 fun a4 a2 => ∃ (a0 : Bool), a4 = .returned (.bool a0) ∧
 bif a1 then (
 bif a0 then (
 R (.int .i64 0) a2) else (
 R (.int .i64 (-1)) a2)) else (
 bif a0 then (
 R (.int .i64 1) a2) else (
 bif decide (x1 < y2) then (
 R (.int .i64 (-1)) a2) else (
 bif decide (x1 > y2) then (
 R (.int .i64 1) a2) else (
 R (.int .i64 0) a2))))

theorem cmp_Compare_int64.eq (x1 : Int) (y2 : Int) (R : Value → World → Prop) (w : World) : mfunc Try.prog [] 91 [.int .i64 x1, .int .i64 y2] R w = cmp_Compare_int64.M x1 y2 R w := by kernel_rfl
theorem cmp_Compare_int64.ok (x1 : Int) (y2 : Int) {R : Value → World → Prop} {w : World} (h : cmp_Compare_int64.M x1 y2 R w) : Calls Try.prog 91 #[.int .i64 x1, .int .i64 y2] w fun e w' => ∃ v, e = .returned v ∧ R v w' :=
  mfunc_ok follows (H := []) (args := [.int .i64 x1, .int .i64 y2]) (by rw [cmp_Compare_int64.eq]; exact h)

def cmp_Compare_int64.N (x1 : Int) (y2 : Int) (R : Value → World → Prop) (w : World) : Prop :=
 ((cmp_isNaN_int64.F x1) = true →
 ((cmp_isNaN_int64.F y2) = true →
 ∀ (a0 : World), Ext no w a0 →
 R (.int .i64 0) a0) ∧
 ((cmp_isNaN_int64.F y2) = false →
 ∀ (a0 : World), Ext no w a0 →
 R (.int .i64 (-1)) a0)) ∧
 ((cmp_isNaN_int64.F x1) = false →
 ((cmp_isNaN_int64.F y2) = true →
 ∀ (a0 : World), Ext no w a0 →
 R (.int .i64 1) a0) ∧
 ((cmp_isNaN_int64.F y2) = false →
 (x1 < y2 →
 ∀ (a0 : World), Ext no w a0 →
 R (.int .i64 (-1)) a0) ∧
 (y2 ≤ x1 →
 (x1 > y2 →
 ∀ (a0 : World), Ext no w a0 →
 R (.int .i64 1) a0) ∧
 (x1 ≤ y2 →
 ∀ (a0 : World), Ext no w a0 →
 R (.int .i64 0) a0))))

theorem cmp_Compare_int64.up (x1 : Int) (y2 : Int) {R : Value → World → Prop} {w : World} (h : cmp_Compare_int64.N x1 y2 R w) : cmp_Compare_int64.M x1 y2 R w := by
  unfold cmp_Compare_int64.M
  unfold cmp_Compare_int64.N at h
  refine (cmp_isNaN_int64.pure x1).mono fun ee ww3 ⟨he, hxx⟩ => ⟨(cmp_isNaN_int64.F x1), he, ?_⟩
  have a1 := (Ext.refl no w).trans hxx
  refine (cmp_isNaN_int64.pure y2).mono fun ee ww4 ⟨he, hxx⟩ => ⟨(cmp_isNaN_int64.F y2), he, ?_⟩
  have a0 := a1.trans hxx
  refine bif_of (fun c5 => ?_) (fun c5 => ?_)
  · have h := h.1 c5
    refine bif_of (fun c6 => ?_) (fun c6 => ?_)
    · have h := h.1 c6
      have h := h ww4 a0
      exact h
    · have h := h.2 c6
      have h := h ww4 a0
      exact h
  · have h := h.2 c5
    refine bif_of (fun c7 => ?_) (fun c7 => ?_)
    · have h := h.1 c7
      have h := h ww4 a0
      exact h
    · have h := h.2 c7
      refine bif_of (fun c8 => ?_) (fun c8 => ?_)
      · have h := h.1 (of_decide_eq_true c8)
        have h := h ww4 a0
        exact h
      · have h := h.2 (Int.not_lt.1 (of_decide_eq_false c8))
        refine bif_of (fun c9 => ?_) (fun c9 => ?_)
        · have h := h.1 (of_decide_eq_true c9)
          have h := h ww4 a0
          exact h
        · have h := h.2 (Int.not_lt.1 (of_decide_eq_false c9))
          have h := h ww4 a0
          exact h

theorem cmp_Compare_int64.go (x1 : Int) (y2 : Int) {R : Value → World → Prop} {w : World} (h : cmp_Compare_int64.N x1 y2 R w) : Calls Try.prog 91 #[.int .i64 x1, .int .i64 y2] w fun e w' => ∃ v, e = .returned v ∧ R v w' := cmp_Compare_int64.ok x1 y2 (cmp_Compare_int64.up x1 y2 h)
theorem cmp_Compare_int64.run (x1 : Int) (y2 : Int) {V : Value} {Q : World → Prop} {w : World} (h : cmp_Compare_int64.N x1 y2 (fun v w' => v = V ∧ Q w') w) : Calls Try.prog 91 #[.int .i64 x1, .int .i64 y2] w (Ret V Q) := (cmp_Compare_int64.go x1 y2 h).mono fun e w' ⟨v, he, hv, hq⟩ => ⟨by rw [he, hv], hq⟩

def cmp_Compare_int64.F (x1 : Int) (y2 : Int) : Int :=
  if (cmp_isNaN_int64.F x1) = true then
    if (cmp_isNaN_int64.F y2) = true then
      0
    else
      (-1)
  else
    if (cmp_isNaN_int64.F y2) = true then
      1
    else
      if x1 < y2 then
        (-1)
      else
        if x1 > y2 then
          1
        else
          0
theorem cmp_Compare_int64.pure (x1 : Int) (y2 : Int) {w : World} : Calls Try.prog 91 #[.int .i64 x1, .int .i64 y2] w (Ret (.int .i64 (cmp_Compare_int64.F x1 y2)) fun w' => Ext no w w') := by
  refine cmp_Compare_int64.run x1 y2 ?_
  unfold cmp_Compare_int64.N
  refine ⟨fun c0 => ?_, fun c0 => ?_⟩
  · refine ⟨fun c1 => ?_, fun c1 => ?_⟩
    · intro w' hx; exact ⟨by unfold cmp_Compare_int64.F; rw [if_pos c0, if_pos c1], hx⟩
    · intro w' hx; exact ⟨by unfold cmp_Compare_int64.F; rw [if_pos c0, if_neg (by rw [c1]; decide)], hx⟩
  · refine ⟨fun c1 => ?_, fun c1 => ?_⟩
    · intro w' hx; exact ⟨by unfold cmp_Compare_int64.F; rw [if_neg (by rw [c0]; decide), if_pos c1], hx⟩
    · refine ⟨fun c2 => ?_, fun c2 => ?_⟩
      · intro w' hx; exact ⟨by unfold cmp_Compare_int64.F; rw [if_neg (by rw [c0]; decide), if_neg (by rw [c1]; decide), if_pos c2], hx⟩
      · refine ⟨fun c3 => ?_, fun c3 => ?_⟩
        · intro w' hx; exact ⟨by unfold cmp_Compare_int64.F; rw [if_neg (by rw [c0]; decide), if_neg (by rw [c1]; decide), if_neg (by omega), if_pos c3], hx⟩
        · intro w' hx; exact ⟨by unfold cmp_Compare_int64.F; rw [if_neg (by rw [c0]; decide), if_neg (by rw [c1]; decide), if_neg (by omega), if_neg (by omega)], hx⟩

/-- cmp.Compare[int] -/
def cmp_Compare_int.M (x1 : Int) (y2 : Int) (R : Value → World → Prop) (w : World) : Prop :=
 Calls Try.prog 94 #[.int .i64 x1] w fun a5 a3 => ∃ (a1 : Bool), a5 = .returned (.bool a1) ∧
 Calls Try.prog 94 #[.int .i64 y2] a3 fun a4 a2 => ∃ (a0 : Bool), a4 = .returned (.bool a0) ∧
 bif a1 then (
 bif a0 then (
 R (.int .i64 0) a2) else (
 R (.int .i64 (-1)) a2)) else (
 bif a0 then (
 R (.int .i64 1) a2) else (
 bif decide (x1 < y2) then (
 R (.int .i64 (-1)) a2) else (
 bif decide (x1 > y2) then (
 R (.int .i64 1) a2) else (
 R (.int .i64 0) a2))))

theorem cmp_Compare_int.eq (x1 : Int) (y2 : Int) (R : Value → World → Prop) (w : World) : mfunc Try.prog [] 92 [.int .i64 x1, .int .i64 y2] R w = cmp_Compare_int.M x1 y2 R w := by kernel_rfl
theorem cmp_Compare_int.ok (x1 : Int) (y2 : Int) {R : Value → World → Prop} {w : World} (h : cmp_Compare_int.M x1 y2 R w) : Calls Try.prog 92 #[.int .i64 x1, .int .i64 y2] w fun e w' => ∃ v, e = .returned v ∧ R v w' :=
  mfunc_ok follows (H := []) (args := [.int .i64 x1, .int .i64 y2]) (by rw [cmp_Compare_int.eq]; exact h)

def cmp_Compare_int.N (x1 : Int) (y2 : Int) (R : Value → World → Prop) (w : World) : Prop :=
 ((cmp_isNaN_int.F x1) = true →
 ((cmp_isNaN_int.F y2) = true →
 ∀ (a0 : World), Ext no w a0 →
 R (.int .i64 0) a0) ∧
 ((cmp_isNaN_int.F y2) = false →
 ∀ (a0 : World), Ext no w a0 →
 R (.int .i64 (-1)) a0)) ∧
 ((cmp_isNaN_int.F x1) = false →
 ((cmp_isNaN_int.F y2) = true →
 ∀ (a0 : World), Ext no w a0 →
 R (.int .i64 1) a0) ∧
 ((cmp_isNaN_int.F y2) = false →
 (x1 < y2 →
 ∀ (a0 : World), Ext no w a0 →
 R (.int .i64 (-1)) a0) ∧
 (y2 ≤ x1 →
 (x1 > y2 →
 ∀ (a0 : World), Ext no w a0 →
 R (.int .i64 1) a0) ∧
 (x1 ≤ y2 →
 ∀ (a0 : World), Ext no w a0 →
 R (.int .i64 0) a0))))

theorem cmp_Compare_int.up (x1 : Int) (y2 : Int) {R : Value → World → Prop} {w : World} (h : cmp_Compare_int.N x1 y2 R w) : cmp_Compare_int.M x1 y2 R w := by
  unfold cmp_Compare_int.M
  unfold cmp_Compare_int.N at h
  refine (cmp_isNaN_int.pure x1).mono fun ee ww3 ⟨he, hxx⟩ => ⟨(cmp_isNaN_int.F x1), he, ?_⟩
  have a1 := (Ext.refl no w).trans hxx
  refine (cmp_isNaN_int.pure y2).mono fun ee ww4 ⟨he, hxx⟩ => ⟨(cmp_isNaN_int.F y2), he, ?_⟩
  have a0 := a1.trans hxx
  refine bif_of (fun c5 => ?_) (fun c5 => ?_)
  · have h := h.1 c5
    refine bif_of (fun c6 => ?_) (fun c6 => ?_)
    · have h := h.1 c6
      have h := h ww4 a0
      exact h
    · have h := h.2 c6
      have h := h ww4 a0
      exact h
  · have h := h.2 c5
    refine bif_of (fun c7 => ?_) (fun c7 => ?_)
    · have h := h.1 c7
      have h := h ww4 a0
      exact h
    · have h := h.2 c7
      refine bif_of (fun c8 => ?_) (fun c8 => ?_)
      · have h := h.1 (of_decide_eq_true c8)
        have h := h ww4 a0
        exact h
      · have h := h.2 (Int.not_lt.1 (of_decide_eq_false c8))
        refine bif_of (fun c9 => ?_) (fun c9 => ?_)
        · have h := h.1 (of_decide_eq_true c9)
          have h := h ww4 a0
          exact h
        · have h := h.2 (Int.not_lt.1 (of_decide_eq_false c9))
          have h := h ww4 a0
          exact h

theorem cmp_Compare_int.go (x1 : Int) (y2 : Int) {R : Value → World → Prop} {w : World} (h : cmp_Compare_int.N x1 y2 R w) : Calls Try.prog 92 #[.int .i64 x1, .int .i64 y2] w fun e w' => ∃ v, e = .returned v ∧ R v w' := cmp_Compare_int.ok x1 y2 (cmp_Compare_int.up x1 y2 h)
theorem cmp_Compare_int.run (x1 : Int) (y2 : Int) {V : Value} {Q : World → Prop} {w : World} (h : cmp_Compare_int.N x1 y2 (fun v w' => v = V ∧ Q w') w) : Calls Try.prog 92 #[.int .i64 x1, .int .i64 y2] w (Ret V Q) := (cmp_Compare_int.go x1 y2 h).mono fun e w' ⟨v, he, hv, hq⟩ => ⟨by rw [he, hv], hq⟩

def cmp_Compare_int.F (x1 : Int) (y2 : Int) : Int :=
  if (cmp_isNaN_int.F x1) = true then
    if (cmp_isNaN_int.F y2) = true then
      0
    else
      (-1)
  else
    if (cmp_isNaN_int.F y2) = true then
      1
    else
      if x1 < y2 then
        (-1)
      else
        if x1 > y2 then
          1
        else
          0
theorem cmp_Compare_int.pure (x1 : Int) (y2 : Int) {w : World} : Calls Try.prog 92 #[.int .i64 x1, .int .i64 y2] w (Ret (.int .i64 (cmp_Compare_int.F x1 y2)) fun w' => Ext no w w') := by
  refine cmp_Compare_int.run x1 y2 ?_
  unfold cmp_Compare_int.N
  refine ⟨fun c0 => ?_, fun c0 => ?_⟩
  · refine ⟨fun c1 => ?_, fun c1 => ?_⟩
    · intro w' hx; exact ⟨by unfold cmp_Compare_int.F; rw [if_pos c0, if_pos c1], hx⟩
    · intro w' hx; exact ⟨by unfold cmp_Compare_int.F; rw [if_pos c0, if_neg (by rw [c1]; decide)], hx⟩
  · refine ⟨fun c1 => ?_, fun c1 => ?_⟩
    · intro w' hx; exact ⟨by unfold cmp_Compare_int.F; rw [if_neg (by rw [c0]; decide), if_pos c1], hx⟩
    · refine ⟨fun c2 => ?_, fun c2 => ?_⟩
      · intro w' hx; exact ⟨by unfold cmp_Compare_int.F; rw [if_neg (by rw [c0]; decide), if_neg (by rw [c1]; decide), if_pos c2], hx⟩
      · refine ⟨fun c3 => ?_, fun c3 => ?_⟩
        · intro w' hx; exact ⟨by unfold cmp_Compare_int.F; rw [if_neg (by rw [c0]; decide), if_neg (by rw [c1]; decide), if_neg (by omega), if_pos c3], hx⟩
        · intro w' hx; exact ⟨by unfold cmp_Compare_int.F; rw [if_neg (by rw [c0]; decide), if_neg (by rw [c1]; decide), if_neg (by omega), if_neg (by omega)], hx⟩

/-- cmp.Or[int] -/
def cmp_Or_int.M (a1 : Option Addr) (a0 : Nat) (a3 : Nat) (R : Value → World → Prop) (w : World) : Prop :=
 ∃ (I0 : Nat → List Value → World → Prop) (m3 : Nat), I0 m3 [.int .i64 0] w ∧ ∀ (m4 : Nat) (a2 : World) (t2 : Int), I0 m4 [.int .i64 t2] a2 →
 bif decide (t2 < (a0 : Int)) then (
 a1.elim False fun a6 =>
 0 ≤ (t2 : Int) ∧ (t2 : Int) < (a0 : Int) ∧
 ∃ (x7 : Int), a2.cell? (a6.add (Int.toNat t2 * 1)) = some (.int .i64 x7) ∧
 bif x7 != 0 then (
 R (.int .i64 x7) a2) else (
 ∃ m8, m8 < m4 ∧ I0 m8 [.int .i64 (IntKind.i64.wrap (t2 + 1))] a2)) else (
 R (.int .i64 0) a2)

theorem cmp_Or_int.eq (vals1a : Option Addr) (vals1n : Nat) (vals1c : Nat) (R : Value → World → Prop) (w : World) : mfunc Try.prog [(0, [3, 6, 7], [(8, (.one (.int .i64)))])] 90 [.slice vals1a vals1n vals1c] R w = cmp_Or_int.M vals1a vals1n vals1c R w := by kernel_rfl
theorem cmp_Or_int.ok (a1 : Option Addr) (a2 : Nat) (a0 : Nat) {R : Value → World → Prop} {w : World} (h : cmp_Or_int.M a1 a2 a0 R w) : Calls Try.prog 90 #[.slice a1 a2 a0] w fun e w' => ∃ v, e = .returned v ∧ R v w' :=
  mfunc_ok follows (H := [(0, [3, 6, 7], [(8, (.one (.int .i64)))])]) (args := [.slice a1 a2 a0]) (by rw [cmp_Or_int.eq]; exact h)

def cmp_Or_int.N (a1 : Option Addr) (a0 : Nat) (a3 : Nat) (R : Value → World → Prop) (w : World) : Prop :=
 ∃ (I0 : Nat → List Value → World → Prop) (m3 : Nat), I0 m3 [.int .i64 0] w ∧ ∀ (m4 : Nat) (a2 : World) (t2 : Int), I0 m4 [.int .i64 t2] a2 →
 (t2 < (a0 : Int) →
 ∃ a7 : Addr, a1 = some a7 ∧
 0 ≤ (t2 : Int) ∧ (t2 : Int) < (a0 : Int) ∧
 ∃ (x9 : Int), a2.cell? (a7.add (Int.toNat t2 * 1)) = some (.int .i64 x9) ∧
 (x9 ≠ 0 →
 R (.int .i64 x9) a2) ∧
 (x9 = 0 →
 (-9223372036854775808 : Int) ≤ (t2 + 1) ∧ (t2 + 1) < 9223372036854775808 ∧
 ∃ a4, a4 < m4 ∧ I0 a4 [.int .i64 (t2 + 1)] a2)) ∧
 ((a0 : Int) ≤ t2 →
 R (.int .i64 0) a2)

theorem cmp_Or_int.up (a2 : Option Addr) (a1 : Nat) (a0 : Nat) {R : Value → World → Prop} {w : World} (h : cmp_Or_int.N a2 a1 a0 R w) : cmp_Or_int.M a2 a1 a0 R w := by
  unfold cmp_Or_int.M
  unfold cmp_Or_int.N at h
  obtain ⟨I0, m3, h0, h⟩ := h
  refine ⟨I0, m3, h0, fun m4 a6 t2 hI => ?_⟩
  have h := h m4 a6 t2 hI
  refine bif_of (fun c6 => ?_) (fun c6 => ?_)
  · have h := h.1 (of_decide_eq_true c6)
    obtain ⟨a7, ac, h⟩ := h
    refine elim_some ac ?_
    obtain ⟨a8, a4, h⟩ := h
    refine ⟨a8, a4, ?_⟩
    obtain ⟨x9, ab, h⟩ := h
    refine ⟨x9, ab, ?_⟩
    refine bif_of (fun a3 => ?_) (fun a3 => ?_)
    · have h := h.1 (bne_t a3)
      exact h
    · have h := h.2 (bne_f a3)
      obtain ⟨a5, a9, h⟩ := h
      try rw [w64 a5 a9]
      obtain ⟨aa, hk, h⟩ := h
      exact ⟨aa, hk, h⟩
  · have h := h.2 (Int.not_lt.1 (of_decide_eq_false c6))
    exact h

theorem cmp_Or_int.go (a1 : Option Addr) (a2 : Nat) (a0 : Nat) {R : Value → World → Prop} {w : World} (h : cmp_Or_int.N a1 a2 a0 R w) : Calls Try.prog 90 #[.slice a1 a2 a0] w fun e w' => ∃ v, e = .returned v ∧ R v w' := cmp_Or_int.ok a1 a2 a0 (cmp_Or_int.up a1 a2 a0 h)
theorem cmp_Or_int.run (a1 : Option Addr) (a2 : Nat) (a0 : Nat) {V : Value} {Q : World → Prop} {w : World} (h : cmp_Or_int.N a1 a2 a0 (fun v w' => v = V ∧ Q w') w) : Calls Try.prog 90 #[.slice a1 a2 a0] w (Ret V Q) := (cmp_Or_int.go a1 a2 a0 h).mono fun e w' ⟨v, he, hv, hq⟩ => ⟨by rw [he, hv], hq⟩

/-- stamp.Compare -/
def stamp_Compare.M (ah : Int) (ag : Int) (ai : Int) (af : Int) (R : Value → World → Prop) (w : World) : Prop :=
 thenW (w.alloc (.cells #[.int .i64 ah, .int .i64 ag] 27)) fun a6 =>
 thenW (a6.alloc (.cells #[.int .i64 ai, .int .i64 af] 27)) fun ae =>
 thenW (ae.drew) fun a3 =>
 ∃ (T8 : Int), a3.cell? ((blk w.heap.size).add 0) = some (.int .i64 T8) ∧
 ∃ (T9 : Int), a3.cell? ((blk a6.heap.size).add 0) = some (.int .i64 T9) ∧
 ∃ (a8 : Int), a3.cell? ((blk w.heap.size).add 1) = some (.int .i64 a8) ∧
 ∃ (ab : Int), a3.cell? ((blk a6.heap.size).add 1) = some (.int .i64 ab) ∧
 Calls Try.prog 91 #[.int .i64 T8, .int .i64 T9] a3 fun ad a2 => ∃ (a0 : Int), ad = .returned (.int .i64 a0) ∧
 a2.cell? ((blk a6.heap.size).add 1) = some (.int .i64 ab) ∧
 a2.cell? ((blk w.heap.size).add 1) = some (.int .i64 a8) ∧
 Calls Try.prog 92 #[.int .i64 a8, .int .i64 ab] a2 fun a9 a4 => ∃ (a1 : Int), a9 = .returned (.int .i64 a1) ∧
 thenW (a4.alloc (.cells #[.int .i64 a0, .int .i64 a1] 3)) fun a7 =>
 Calls Try.prog 90 #[.slice (some (blk a4.heap.size)) 2 2] a7 fun aa ac => ∃ (a5 : Int), aa = .returned (.int .i64 a5) ∧
 R (.int .i64 a5) ac

theorem stamp_Compare.eq (aT1 : Int) (aW2 : Int) (bT3 : Int) (bW4 : Int) (R : Value → World → Prop) (w : World) : mfunc Try.prog [] 80 [.agg #[.int .i64 aT1, .int .i64 aW2], .agg #[.int .i64 bT3, .int .i64 bW4]] R w = stamp_Compare.M aT1 aW2 bT3 bW4 R w := by kernel_rfl
theorem stamp_Compare.ok (a0 : Int) (a3 : Int) (a2 : Int) (a1 : Int) {R : Value → World → Prop} {w : World} (h : stamp_Compare.M a0 a3 a2 a1 R w) : Calls Try.prog 80 #[.agg #[.int .i64 a0, .int .i64 a3], .agg #[.int .i64 a2, .int .i64 a1]] w fun e w' => ∃ v, e = .returned v ∧ R v w' :=
  mfunc_ok follows (H := []) (args := [.agg #[.int .i64 a0, .int .i64 a3], .agg #[.int .i64 a2, .int .i64 a1]]) (by rw [stamp_Compare.eq]; exact h)

def stamp_Compare.N (a5 : Int) (a7 : Int) (a6 : Int) (a8 : Int) (R : Value → World → Prop) (w : World) : Prop :=
 ∀ (a0 : World) (a2 : Nat), Ext no w a0 → Blk a0 a2 3 [.int .i64 (cmp_Compare_int64.F a5 a6), .int .i64 (cmp_Compare_int.F a7 a8)] → w.heap.size ≤ a2 → a2 < a0.heap.size →
 Calls Try.prog 90 #[.slice (some (blk a2)) 2 2] a0 fun a4 a3 => ∃ (a1 : Int), a4 = .returned (.int .i64 a1) ∧
 R (.int .i64 a1) a3

theorem stamp_Compare.up (a4 : Int) (a3 : Int) (a5 : Int) (a2 : Int) {R : Value → World → Prop} {w : World} (h : stamp_Compare.N a4 a3 a5 a2 R w) : stamp_Compare.M a4 a3 a5 a2 R w := by
  unfold stamp_Compare.M
  unfold stamp_Compare.N at h
  refine thenW_in fun ak e5 => ?_
  have a0 := Blk.of_new e5
  have aj := ((Ext.refl no w)).size
  have aa := (Ext.refl no w).x_alloc e5
  refine thenW_in fun ah e6 => ?_
  have a1 := Blk.of_new e6
  have al := (aa).size
  have a9 := Nat.ne_of_lt a0.lt
  have a0 := a0.x_alloc e6
  have ad := aa.x_alloc e6
  refine thenW_in fun ai e7 => ?_
  have ae := ad.x_drew e7
  have a0 := a0.x_drew e7
  have a1 := a1.x_drew e7
  refine ⟨a4, a0.celli 0 rfl rfl, ?_⟩
  refine ⟨a5, a1.celli 0 rfl rfl, ?_⟩
  refine ⟨a3, a0.celli 1 rfl rfl, ?_⟩
  refine ⟨a2, a1.celli 1 rfl rfl, ?_⟩
  refine (cmp_Compare_int64.pure a4 a5).mono fun ee ww8 ⟨he, hxx⟩ => ⟨(cmp_Compare_int64.F a4 a5), he, ?_⟩
  have ac := ae.trans hxx
  have a0 := a0.ext hxx id
  have a1 := a1.ext hxx id
  refine ⟨a1.celli 1 rfl rfl, a0.celli 1 rfl rfl, ?_⟩
  refine (cmp_Compare_int.pure a3 a2).mono fun ee ww9 ⟨he, hxx⟩ => ⟨(cmp_Compare_int.F a3 a2), he, ?_⟩
  have ab := ac.trans hxx
  refine thenW_in fun a6 a7 => ?_
  have h := h a6 ww9.heap.size (ab.x_alloc a7) (Blk.of_new a7) (ab).size (size_lt_alloc a7)
  refine h.mono fun af ag h => ?_
  obtain ⟨a8, he, h⟩ := h
  refine ⟨a8, he, ?_⟩
  exact h

theorem stamp_Compare.go (a0 : Int) (a3 : Int) (a2 : Int) (a1 : Int) {R : Value → World → Prop} {w : World} (h : stamp_Compare.N a0 a3 a2 a1 R w) : Calls Try.prog 80 #[.agg #[.int .i64 a0, .int .i64 a3], .agg #[.int .i64 a2, .int .i64 a1]] w fun e w' => ∃ v, e = .returned v ∧ R v w' := stamp_Compare.ok a0 a3 a2 a1 (stamp_Compare.up a0 a3 a2 a1 h)
theorem stamp_Compare.run (a0 : Int) (a3 : Int) (a2 : Int) (a1 : Int) {V : Value} {Q : World → Prop} {w : World} (h : stamp_Compare.N a0 a3 a2 a1 (fun v w' => v = V ∧ Q w') w) : Calls Try.prog 80 #[.agg #[.int .i64 a0, .int .i64 a3], .agg #[.int .i64 a2, .int .i64 a1]] w (Ret V Q) := (stamp_Compare.go a0 a3 a2 a1 h).mono fun e w' ⟨v, he, hv, hq⟩ => ⟨by rw [he, hv], hq⟩

/-- stamp.Less -/
def stamp_Less.M (a9 : Int) (ab : Int) (aa : Int) (ac : Int) (R : Value → World → Prop) (w : World) : Prop :=
 thenW (w.alloc (.cells #[.int .i64 a9, .int .i64 ab] 27)) fun a5 =>
 thenW (a5.alloc (.cells #[.int .i64 aa, .int .i64 ac] 27)) fun a3 =>
 ∃ (a7 : Int) (a8 : Int), cellsAt a3 (blk w.heap.size) [.int .i64 a7, .int .i64 a8] 0 ∧
 ∃ (a6 : Int) (a1 : Int), cellsAt a3 (blk a5.heap.size) [.int .i64 a6, .int .i64 a1] 0 ∧
 Calls Try.prog 80 #[.agg #[.int .i64 a7, .int .i64 a8], .agg #[.int .i64 a6, .int .i64 a1]] a3 fun a2 a4 => ∃ (a0 : Int), a2 = .returned (.int .i64 a0) ∧
 R (.bool (decide (a0 < 0))) a4

theorem stamp_Less.eq (aT1 : Int) (aW2 : Int) (bT3 : Int) (bW4 : Int) (R : Value → World → Prop) (w : World) : mfunc Try.prog [] 65 [.agg #[.int .i64 aT1, .int .i64 aW2], .agg #[.int .i64 bT3, .int .i64 bW4]] R w = stamp_Less.M aT1 aW2 bT3 bW4 R w := by kernel_rfl
theorem stamp_Less.ok (a0 : Int) (a3 : Int) (a2 : Int) (a1 : Int) {R : Value → World → Prop} {w : World} (h : stamp_Less.M a0 a3 a2 a1 R w) : Calls Try.prog 65 #[.agg #[.int .i64 a0, .int .i64 a3], .agg #[.int .i64 a2, .int .i64 a1]] w fun e w' => ∃ v, e = .returned v ∧ R v w' :=
  mfunc_ok follows (H := []) (args := [.agg #[.int .i64 a0, .int .i64 a3], .agg #[.int .i64 a2, .int .i64 a1]]) (by rw [stamp_Less.eq]; exact h)

def stamp_Less.N (a4 : Int) (a6 : Int) (a5 : Int) (a7 : Int) (R : Value → World → Prop) (w : World) : Prop :=
 ∀ (a3 : World), Ext no w a3 →
 Calls Try.prog 80 #[.agg #[.int .i64 a4, .int .i64 a6], .agg #[.int .i64 a5, .int .i64 a7]] a3 fun a2 a1 => ∃ (a0 : Int), a2 = .returned (.int .i64 a0) ∧
 R (.bool (decide (a0 < 0))) a1

theorem stamp_Less.up (a2 : Int) (a4 : Int) (a3 : Int) (a5 : Int) {R : Value → World → Prop} {w : World} (h : stamp_Less.N a2 a4 a3 a5 R w) : stamp_Less.M a2 a4 a3 a5 R w := by
  unfold stamp_Less.M
  unfold stamp_Less.N at h
  refine thenW_in fun ad e5 => ?_
  have a1 := Blk.of_new e5
  have af := ((Ext.refl no w)).size
  have a7 := (Ext.refl no w).x_alloc e5
  refine thenW_in fun ac e6 => ?_
  have a8 := Blk.of_new e6
  have ae := (a7).size
  have a6 := Nat.ne_of_lt a1.lt
  have a1 := a1.x_alloc e6
  have a9 := a7.x_alloc e6
  refine ⟨a2, a4, ⟨a1.celli 0 rfl rfl, a1.celli 1 rfl rfl, trivial⟩, ?_⟩
  refine ⟨a3, a5, ⟨a8.celli 0 rfl rfl, a8.celli 1 rfl rfl, trivial⟩, ?_⟩
  have h := h ac a9
  refine h.mono fun ab aa h => ?_
  obtain ⟨a0, he, h⟩ := h
  refine ⟨a0, he, ?_⟩
  exact h

theorem stamp_Less.go (a0 : Int) (a3 : Int) (a2 : Int) (a1 : Int) {R : Value → World → Prop} {w : World} (h : stamp_Less.N a0 a3 a2 a1 R w) : Calls Try.prog 65 #[.agg #[.int .i64 a0, .int .i64 a3], .agg #[.int .i64 a2, .int .i64 a1]] w fun e w' => ∃ v, e = .returned v ∧ R v w' := stamp_Less.ok a0 a3 a2 a1 (stamp_Less.up a0 a3 a2 a1 h)
theorem stamp_Less.run (a0 : Int) (a3 : Int) (a2 : Int) (a1 : Int) {V : Value} {Q : World → Prop} {w : World} (h : stamp_Less.N a0 a3 a2 a1 (fun v w' => v = V ∧ Q w') w) : Calls Try.prog 65 #[.agg #[.int .i64 a0, .int .i64 a3], .agg #[.int .i64 a2, .int .i64 a1]] w (Ret V Q) := (stamp_Less.go a0 a3 a2 a1 h).mono fun e w' ⟨v, he, hv, hq⟩ => ⟨by rw [he, hv], hq⟩

def lessS (t1 w1 t2 w2 : Int) : Bool := decide (t1 < t2) || (decide (t1 = t2) && decide (w1 < w2))
theorem cmp64_F (x y : Int) : cmp_Compare_int64.F x y = if x < y then -1 else if x > y then 1 else 0 := by
  unfold cmp_Compare_int64.F cmp_isNaN_int64.F; simp
theorem cmpInt_F (x y : Int) : cmp_Compare_int.F x y = if x < y then -1 else if x > y then 1 else 0 := by
  unfold cmp_Compare_int.F cmp_isNaN_int.F; simp
theorem Or2_spec {w : World} {q : Nat} {x y : Int} (hb : Blk w q 3 [.int .i64 x, .int .i64 y]) :
    Calls Try.prog 90 #[.slice (some (blk q)) 2 2] w (Ret (.int .i64 (if x ≠ 0 then x else y)) fun w' => w' = w) := by
  refine cmp_Or_int.run _ _ _ ?_
  unfold cmp_Or_int.N
  refine ⟨fun m vs w1 => ∃ t : Nat, vs = [.int .i64 t] ∧ m + t = 2 ∧ w1 = w ∧ (0 < t → x = 0) ∧ (1 < t → y = 0), 2, ⟨0, rfl, rfl, rfl, fun h => absurd h (by decide), fun h => absurd h (by decide)⟩, ?_⟩
  rintro m w1 i ⟨t, hi, hm, rfl, h0, h1⟩
  simp only [List.cons.injEq, Value.int.injEq, true_and, and_true] at hi
  subst hi
  refine ⟨fun ht => ?_, fun ht => ⟨?_, rfl⟩⟩
  · have ht2 : t = 0 ∨ t = 1 := by omega
    rcases ht2 with rfl | rfl
    · refine ⟨_, rfl, by omega, by omega, x, hb.cella (i := 0) rfl, fun hx => ⟨by rw [if_pos hx], rfl⟩, fun hx => ⟨by omega, by omega, m - 1, by omega, 1, rfl, by omega, rfl, fun _ => hx, fun h => absurd h (by decide)⟩⟩
    · refine ⟨_, rfl, by omega, by omega, y, hb.cella (i := 1) rfl, fun hy => ⟨by rw [if_neg (not_not_intro (h0 (by decide)))], rfl⟩, fun hy => ⟨by omega, by omega, m - 1, by omega, 2, rfl, by omega, rfl, fun _ => h0 (by decide), fun _ => hy⟩⟩
  · have : t = 2 := by omega
    subst this
    rw [if_neg (not_not_intro (h0 (by decide))), h1 (by decide)]
theorem Less_spec (w : World) (t1 w1 t2 w2 : Int) : Calls Try.prog 65 #[.agg #[.int .i64 t1, .int .i64 w1], .agg #[.int .i64 t2, .int .i64 w2]] w (Ret (.bool (lessS t1 w1 t2 w2)) fun w' => Ext no w w') := by
  refine stamp_Less.run _ _ _ _ ?_
  unfold stamp_Less.N
  intro w6 X6
  have key : Calls Try.prog 80 #[.agg #[.int .i64 t1, .int .i64 w1], .agg #[.int .i64 t2, .int .i64 w2]] w6 (Ret (.int .i64 (if cmp_Compare_int64.F t1 t2 ≠ 0 then cmp_Compare_int64.F t1 t2 else cmp_Compare_int.F w1 w2)) fun w' => Ext no w6 w') := by
    refine stamp_Compare.run _ _ _ _ ?_
    unfold stamp_Compare.N
    intro w10 q X10 hb _ _
    exact (Or2_spec hb).mono fun e w' ⟨he, hw⟩ => ⟨_, he, rfl, by subst hw; exact X10⟩
  refine key.mono fun e w' ⟨he, X⟩ => ⟨_, he, ?_, X6.trans X⟩
  congr 1
  rw [cmp64_F, cmpInt_F]
  unfold lessS
  by_cases h : t1 < t2
  · simp [h]
  · by_cases h2 : t1 = t2
    · subst h2
      simp
      by_cases h3 : w1 < w2
      · simp [h3]
      · by_cases h4 : w2 < w1
        · simp [h3, h4]
        · simp [h3, h4]
    · have : t1 > t2 := by omega
      simp [h, h2, this]
end Go.Proofs.Ytfmdpjhkojbocaa

/- Structs, and rows of structs, that are handed in; cells of a row of structs. -/
set_option linter.unusedSimpArgs false
set_option linter.unusedVariables false
set_option linter.unusedSectionVars false
namespace Go.Mx
/-- cells, one part behind the other. -/
def SeqQ : List (Nat × (World → List Value → Prop)) → World → List Value → Prop
  | [], _, cs => cs = []
  | q :: r, W, cs => ∃ x y, cs = x ++ y ∧ x.length = q.1 ∧ q.2 W x ∧ SeqQ r W y
def FieldsOk (P : Program) : List Field → Nat → List (Nat × (World → List Value → Prop)) → Nat → Prop
  | [], off, [], size => off = size
  | f :: r, off, q :: s, size => (f.offset = off ∧ P.cellsOf f.type = q.1 ∧ Opens P f.type q.2) ∧ FieldsOk P r (off + q.1) s size
  | _, _, _, _ => False
theorem seq_of {P : Program} {W : World} {cs : List Value} : ∀ {l : List Field} {off : Nat} {qs : List (Nat × (World → List Value → Prop))} {size : Nat}, FieldsOk P l off qs size → cs.length = size →
    (∀ (i : Nat) (f : Field), l[i]? = some f → ∀ Q, Opens P f.type Q → Q W ((cs.drop f.offset).take (P.cellsOf f.type))) → off ≤ cs.length → (∀ q ∈ qs, True) → SeqQ qs W (cs.drop off)
  | [], off, [], size, h, hl, _, _, _ => by
    simp only [FieldsOk] at h
    simp only [SeqQ]
    exact List.drop_eq_nil_of_le (by omega)
  | f :: r, off, q :: s, size, h, hl, hf, hle, _ => by
    obtain ⟨⟨h1, h2, h3⟩, h4⟩ := h
    have h0 := hf 0 f rfl q.2 h3
    rw [h1, h2] at h0
    have hsz : ∀ {l : List Field} {off : Nat} {qs : List (Nat × (World → List Value → Prop))}, FieldsOk P l off qs size → off ≤ size := by
      intro l
      induction l with
      | nil => intro off qs h; cases qs with | nil => exact Nat.le_of_eq h | cons _ _ => exact h.elim
      | cons f r ih => intro off qs h; cases qs with | nil => exact h.elim | cons q s => have := ih h.2; omega
    have hle2 := hsz h4
    refine ⟨(cs.drop off).take q.1, cs.drop (off + q.1), ?_, ?_, h0, ?_⟩
    · rw [← List.drop_drop, List.take_append_drop]
    · rw [List.length_take, List.length_drop]; omega
    · exact seq_of h4 hl (fun i f hi => hf (i + 1) f (by simpa using hi)) (by omega) (fun _ _ => trivial)
  | [], _, _ :: _, _, h, _, _, _, _ => h.elim
  | _ :: _, _, [], _, h, _, _, _, _ => h.elim
/-- a struct: its fields, one behind the other. -/
theorem opens_seq {P : Program} {t : TypeId} {fs : Array Field} {size : Nat} {qs : List (Nat × (World → List Value → Prop))} (ht : P.underlying t = some (.struct fs)) (hs : P.cellsOf t = size) (h : FieldsOk P fs.toList 0 qs size) : Opens P t (SeqQ qs) :=
  (opens_struct ht hs).mono fun W cs ⟨hl, hf⟩ => seq_of (off := 0) h hl (fun i f hi => hf i f (by rw [← Array.getElem?_toList]; exact hi)) (Nat.zero_le _) fun _ _ => trivial
/-- a row of structs. -/
theorem opens_rows {P : Program} {t e : TypeId} {size : Nat} {α : Type} {f : α → List Value} {G : World → α → Prop} (ht : P.underlying t = some (.slice e)) (hs : P.cellsOf e = size) (he : Opens P e fun W cs => ∃ x, cs = f x ∧ G W x) :
    Opens P t fun W cs => ∃ (a : Option Addr) (c : Nat) (l : List α), cs = [.slice a l.length c] ∧ l.length ≤ c ∧ c ≤ maxLen ∧ RowAt W a (l.flatMap f) ∧ ∀ x ∈ l, G W x :=
  (opens_slice (size := size) ht hs he).mono fun W cs ⟨a, l, c, rows, h1, h2, h3, h4, h5, h6⟩ => by
    obtain ⟨xs, h7, h8⟩ := rows_of (rows := rows) f (G W) fun r hr => (h6 r hr).2
    subst h7
    rw [List.length_map] at h4
    subst h4
    exact ⟨a, c, xs, h1, h2, h3, by rw [List.flatMap_def]; exact h5, h8⟩
section
variable {α : Type} {f : α → List Value} {n : Nat} {w : World} {a : Option Addr} {l : List α}
theorem flat_length (hf : ∀ x, (f x).length = n) (l : List α) : (l.flatMap f).length = l.length * n := by
  induction l with
  | nil => simp
  | cons x r ih => rw [List.flatMap_cons, List.length_append, ih, hf, List.length_cons, Nat.succ_mul]; omega
theorem flat_get (hf : ∀ x, (f x).length = n) : ∀ {l : List α} {i : Nat} {x : α}, l[i]? = some x → ∀ j, j < n → (l.flatMap f)[i * n + j]? = (f x)[j]?
  | [], i, x, hi, j, hj => by simp at hi
  | a :: r, 0, x, hi, j, hj => by
    simp only [List.getElem?_cons_zero, Option.some.injEq] at hi
    subst hi
    rw [List.flatMap_cons, Nat.zero_mul, Nat.zero_add, List.getElem?_append_left (by rw [hf]; exact hj)]
  | a :: r, i + 1, x, hi, j, hj => by
    simp only [List.getElem?_cons_succ] at hi
    rw [List.flatMap_cons, List.getElem?_append_right (by rw [hf, Nat.succ_mul]; omega), show (i + 1) * n + j - (f a).length = i * n + j by rw [hf, Nat.succ_mul]; omega]
    exact flat_get hf hi j hj
/-- a cell of a struct in a row. -/
theorem RowAt.fcell (hf : ∀ x, (f x).length = n) {ad : Addr} (h : RowAt w (some ad) (l.flatMap f)) {i : Nat} {x : α} (hi : l[i]? = some x) (j : Nat) {v : Value} (hv : (f x)[j]? = some v) : w.cell? ((ad.add (i * n)).add j) = some v := by
  rw [add_add]
  have hj : j < n := by rw [← hf x]; exact (List.getElem?_eq_some_iff.1 hv).1
  exact h.at_ ((flat_get hf hi j hj).trans hv)
theorem RowAt.faddr (hf : ∀ x, (f x).length = n) (hn : 0 < n) (h : RowAt w a (l.flatMap f)) {i : Nat} (hi : i < l.length) : ∃ ad, a = some ad := h.addr fun e => by
  have := flat_length hf l
  rw [e, List.length_nil] at this
  rcases Nat.mul_eq_zero.1 this.symm with h | h <;> omega
end
end Go.Mx

/- Rows that grow: of an owner, also cut off; and of a function's own. -/
set_option linter.unusedSimpArgs false
set_option linter.unusedVariables false
set_option linter.unusedSectionVars false
namespace Go.Mx
section
variable {K K1 : Nat → Prop} {w w1 w' w0 : World} {o o1 o' o0 : Own} {p q j k N : Nat} {e : TypeId} {size n c : Nat} {a : Option Addr} {cs : List Value}
theorem Row.forget (h : Row w1 o1 a cs) (s : Step K w0 o0 w1 o1) : Row w1 (grow w0 o0) a cs := ⟨h.1, fun h0 ad ha => by
  by_cases hb : ad.block < w0.heap.size
  · rw [grow_lt hb, ← s.same _ hb]; exact h.2 h0 ad ha
  · exact grow_ge (by omega)⟩
/-- the row of an owner, or what was cut off of it. -/
def GrowsF (e size : Nat) (w : World) (o : Own) (k : Nat) (a : Option Addr) (n c : Nat) (cs : List Value) : Prop :=
  Grows e size w o k a n c cs ∨ (n = c ∧ RowAt w a cs ∧ cs.length = n * size ∧ ∃ ad, a = some ad ∧ o ad.block = some k ∧ ad.block < w.heap.size)
theorem GrowsF.row (h : GrowsF e size w o k a n c cs) : RowAt w a cs := h.elim Grows.row fun h => h.2.1
theorem GrowsF.len (h : GrowsF e size w o k a n c cs) : cs.length = n * size := h.elim (fun h => h.own.1) fun h => h.2.2.1
theorem GrowsF.le (h : GrowsF e size w o k a n c cs) : n ≤ c := h.elim (fun h => (own_fresh h.own).1) fun h => Nat.le_of_eq h.1
theorem GrowsF.tg (h : GrowsF e size w o k a n c cs) : ∀ ad, a = some ad → o ad.block = some k ∧ ad.block < w.heap.size := h.elim (fun h => h.tg) fun ⟨_, _, _, ad, ha, h⟩ ad' ha' => by rw [ha] at ha'; cases ha'; exact h
theorem GrowsF.step (h : GrowsF e size w o k a n c cs) (s : Step K w o w' o') (hk : ¬ K k) : GrowsF e size w' o' k a n c cs := by
  rcases h with h | ⟨h1, h2, h3, ad, ha, h4, h5⟩
  · exact .inl (h.step s hk)
  · exact .inr ⟨h1, h2.ext s.ext fun ad' ha' ⟨i, hi, hK⟩ => by rw [ha] at ha'; cases ha'; rw [h4] at hi; cases hi; exact hk hK, h3, ad, ha, (s.own h5).trans h4, Nat.lt_of_lt_of_le h5 s.size⟩
theorem GrowsF.keep (h : GrowsF e size w o k a n c cs) {m : Nat → Prop} (x : Ext m w w') (hm : ∀ ad, a = some ad → ¬ m ad.block) (ho : ∀ b, b < w.heap.size → o' b = o b) : GrowsF e size w' o' k a n c cs := by
  rcases h with h | ⟨h1, h2, h3, ad, ha, h4, h5⟩
  · exact .inl (h.keep x hm ho)
  · exact .inr ⟨h1, h2.ext x hm, h3, ad, ha, (ho _ h5).trans h4, Nat.lt_of_lt_of_le h5 x.size⟩
/-- what is cut off behind some. -/
theorem GrowsF.cut (h : GrowsF e size w o k a n c cs) {i : Nat} (hi : i ≤ n) (ha : a ≠ none) : GrowsF e size w o k a i i (cs.take (i * size)) := by
  obtain ⟨ad, ha⟩ := Option.ne_none_iff_exists'.1 ha
  refine .inr ⟨rfl, h.row.take _, ?_, ad, ha, h.tg ad ha⟩
  rw [List.length_take, h.len]
  have := Nat.mul_le_mul_right size hi
  omega
theorem GrowsF.push {P : Program} {t ty : TypeId} {i : TypeInfo} {z : Value} {bytes : Nat} (ht : P.underlying t = some (.slice e)) (hi : P.info? e = some i) (hz : i.zero = some z)
    (hsize : i.size = size) (hby : i.bytes = bytes) (hzs : z.cells.size = size) (hsz : 0 < size) (h : GrowsF e size w o k a n c cs) (ok : Tags w o) (hk : k < w.heap.size)
    {xa : Option Addr} {m xc : Nat} {news : List Value} (hl : news.length = m * size) (hnews : RowAt w xa news) (h1 : ∀ u ∈ news, u.oneCell' = true) (hm : 0 < m) (hb : (n + m) * bytes ≤ 140737488355328) (h63 : n + m ≤ 1000000000) :
    ∃ a' c' w' o', (Builtin.append_ #[t, t] ty #[.slice a n c, .slice xa m xc]).run P w = .ok (.slice a' (n + m) c') w' ∧ Step (fun j => j = k) w o w' o' ∧ GrowsF e size w' o' k a' (n + m) c' (cs ++ news) ∧
      (∀ b, b < w.heap.size → (∀ ad, a = some ad → b ≠ ad.block) → w'.heap[b]? = w.heap[b]?) ∧ (∀ ad, a' = some ad → (∃ b, a = some b ∧ ad.block = b.block) ∨ ad.block = w.heap.size) := by
  rcases h with h | ⟨h1', h2, h3, ad, ha, h4, h5⟩
  · obtain ⟨a', c', w', o', q1, q2, q3, q4, q5⟩ := h.push (ty := ty) ht hi hz hsize hby hzs hsz ok hk hl hnews h1 hb (by omega)
    exact ⟨a', c', w', o', q1, q2, .inl q3, q4, q5⟩
  · subst h1'
    subst ha
    obtain ⟨xd, rfl⟩ := hnews.addr fun e => by
      have : 0 < m * size := Nat.mul_pos hm hsz
      rw [e] at hl
      have : ([] : List Value).length = 0 := rfl
      omega
    obtain ⟨v', w', hr, ho, hg⟩ := run_append_arg_grows (P := P) w t ty e i z size bytes ht hi hz hsize hby hzs hsz ad n n cs h3 (fun j u hu => h2.at_ hu) xd m xc news hl (fun j u hu => hnews.at_ hu) (by omega) (by unfold maxLen; omega) hb
    obtain ⟨a', c', hv, hrow⟩ := RowAt.of_owns ho
    subst hv
    have X : Ext no w w' := Ext.of_grown hg fun q hq => by cases hq
    have hfr := (own_fresh ho).2
    have s := (Step.of_no X ok)
    rcases ho.2 with ⟨hv, h0⟩ | ⟨g, cap, cur, hv, hb1, hg1, _⟩
    · omega
    · cases hv
      have hgs := hfr _ rfl
      refine ⟨_, _, w', tag (grow w o) g k, hr, (s.tag hb1 (Nat.lt_of_lt_of_le hk X.size)).none, .inl ⟨⟨ho.1, ?_⟩, fun ad' ha' => ?_⟩, fun b hb _ => X.block b hb id, fun ad' ha' => ?_⟩
      · rcases ho.2 with h | ⟨g, cap, cur, hv, hb1, h⟩
        · exact .inl h
        · exact .inr ⟨g, cap, cur, hv, Nat.zero_le _, h⟩
      · cases ha'; exact ⟨tag_self, hgs⟩
      · cases ha'
        refine .inr ?_
        -- the block is the next one: of no more than one new block
        have hr' := run_append_grow (P := P) w t ty e i z ht hi hz ad n n cs (by rw [hsize]; exact h3) (fun j u hu => h2.at_ hu) xd m xc news (by rw [hsize]; exact hl) (fun j u hu => hnews.at_ hu) (by omega) (by omega) (growslice_fits (by omega) (by rw [hby]; exact hb))
        rw [hr] at hr'
        injection hr' with hr' _
        injection hr' with hr' _ _
        injection hr' with hr'
        injection hr'
/-- a row of a function's own: nothing yet, or in a block that came behind N. -/
def LRow (e size N : Nat) (w : World) (o : Own) (a : Option Addr) (n c : Nat) (cs : List Value) : Prop :=
  (a = none ∧ n = 0 ∧ c = 0 ∧ cs = []) ∨ ∃ k, N ≤ k ∧ k < w.heap.size ∧ Grows e size w o k a n c cs
theorem LRow.nil (e size N : Nat) (w : World) (o : Own) : LRow e size N w o none 0 0 [] := .inl ⟨rfl, rfl, rfl, rfl⟩
theorem LRow.row (h : LRow e size N w o a n c cs) : RowAt w a cs := by
  rcases h with ⟨rfl, rfl, rfl, rfl⟩ | ⟨k, _, _, h⟩
  · exact RowAt.nil _ _
  · exact h.row
theorem LRow.len (h : LRow e size N w o a n c cs) : cs.length = n * size := by
  rcases h with ⟨rfl, rfl, rfl, rfl⟩ | ⟨k, _, _, h⟩
  · simp
  · exact h.own.1
theorem LRow.le (h : LRow e size N w o a n c cs) : n ≤ c := by
  rcases h with ⟨rfl, rfl, rfl, rfl⟩ | ⟨k, _, _, h⟩
  · exact Nat.le_refl _
  · exact (own_fresh h.own).1
theorem LRow.step (h : LRow e size N w o a n c cs) (s : Step K w o w' o') (hk : ∀ k, K k → k < N ∨ w.heap.size ≤ k) : LRow e size N w' o' a n c cs := by
  rcases h with h | ⟨k, h1, h2, h⟩
  · exact .inl h
  · exact .inr ⟨k, h1, Nat.lt_of_lt_of_le h2 s.size, h.step s fun hK => by rcases hk k hK with h | h <;> omega⟩
theorem LRow.push {P : Program} {t ty : TypeId} {i : TypeInfo} {z : Value} {bytes : Nat} (ht : P.underlying t = some (.slice e)) (hi : P.info? e = some i) (hz : i.zero = some z)
    (hsize : i.size = size) (hby : i.bytes = bytes) (hzs : z.cells.size = size) (hsz : 0 < size) (h : LRow e size N w o a n c cs) (ok : Tags w o) (hp : N ≤ p) (hp' : p < w.heap.size)
    {xa : Option Addr} {m xc : Nat} {news : List Value} (hl : news.length = m * size) (hnews : RowAt w xa news) (h1 : ∀ u ∈ news, u.oneCell' = true) (hb : (n + m) * bytes ≤ 140737488355328) (h63 : n + m ≤ 9223372036854775807) :
    ∃ a' c' w' o', (Builtin.append_ #[t, t] ty #[.slice a n c, .slice xa m xc]).run P w = .ok (.slice a' (n + m) c') w' ∧ Step (fun j => N ≤ j) w o w' o' ∧ LRow e size N w' o' a' (n + m) c' (cs ++ news) ∧ Ext (fun b => ∃ ad, a = some ad ∧ b = ad.block) w w' := by
  have key : ∀ k, N ≤ k → k < w.heap.size → Grows e size w o k a n c cs → _ := fun k hk hk' hg => hg.push (ty := ty) ht hi hz hsize hby hzs hsz ok hk' (xc := xc) hl hnews h1 hb h63
  have fin : ∀ k, N ≤ k → k < w.heap.size → Grows e size w o k a n c cs → ∃ a' c' w' o', (Builtin.append_ #[t, t] ty #[.slice a n c, .slice xa m xc]).run P w = .ok (.slice a' (n + m) c') w' ∧ Step (fun j => N ≤ j) w o w' o' ∧ LRow e size N w' o' a' (n + m) c' (cs ++ news) ∧ Ext (fun b => ∃ ad, a = some ad ∧ b = ad.block) w w' := fun k hk hk' hg => by
    obtain ⟨a', c', w', o', r1, r2, r3, r4, _⟩ := key k hk hk' hg
    refine ⟨a', c', w', o', r1, r2.mono fun j hj _ => by omega, .inr ⟨k, hk, Nat.lt_of_lt_of_le hk' r2.size, r3⟩, ⟨r2.ext.os, r2.ext.tape, r2.ext.output, r2.ext.size, fun b hb hn => r4 b hb fun ad ha hb' => hn ⟨ad, ha, hb'⟩⟩⟩
  rcases h with ⟨rfl, rfl, rfl, rfl⟩ | ⟨k, h1, h2, h⟩
  · exact fin p hp hp' (Grows.nil _ _ _ _ _)
  · exact fin k h1 h2 h
/-- at the end: nobody's. -/
theorem LRow.give (h : LRow e size N w1 o1 a n c cs) (s : Step K w0 o0 w1 o1) (hN : w0.heap.size ≤ N) : Row w1 (grow w0 o0) a cs := ⟨h.row, fun h0 ad ha => by
  rcases h with ⟨rfl, _⟩ | ⟨k, h1, h2, h⟩
  · cases ha
  · refine grow_ge ?_
    have ht := h.tg ad ha
    by_cases hb : ad.block < w0.heap.size
    · rw [s.same _ hb] at ht
      have := s.ok0 _ _ hb ht.1
      omega
    · omega⟩
end
end Go.Mx
