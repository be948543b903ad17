/- Frames: predicates of cachetteref21.Read. -/
import Derived.Test.YtoempemllkebkaaZD
set_option linter.unusedVariables false
set_option linter.unusedSimpArgs false
set_option maxRecDepth 100000
set_option maxHeartbeats 40000000
namespace Go.Proofs.Ytoempemllkebkaa
open Go Go.Mx Go.Proofs
abbrev Q00.J1 (d5 cz : Addr) (R : RW) (d3 : World) : Prop :=
 ∃ (c7 ap ay bx ch ca bi : Int) (br : Option Addr) (bd bh : Nat) (c8 aq bn c1 cp cb b1 : Int) (b0 : Option Addr) (az bm : Nat) (c9 ct : Int) (cx : Option Addr) (cv cy : Nat) (cr : Int), cellsAt d3 d5 [.int .i64 c7, .int .i64 ap, .int .i64 ay, .int .u64 bx, .int .i64 ch, .int .i64 ca, .int .i64 bi, .slice br bd bh, .int .u64 c8, .int .i64 aq, .int .i64 bn, .int .u64 c1, .int .i64 cp, .int .i64 cb, .int .i64 b1, .slice b0 az bm, .int .u64 c9, .int .i64 ct, .slice cx cv cy, .int .u64 cr] 0 ∧
 Calls Try.prog 19 #[.agg #[.int .i64 c7, .int .i64 ap, .int .i64 ay, .int .u64 bx, .int .i64 ch, .int .i64 ca, .int .i64 bi, .slice br bd bh, .int .u64 c8, .int .i64 aq, .int .i64 bn, .int .u64 c1, .int .i64 cp, .int .i64 cb, .int .i64 b1, .slice b0 az bm, .int .u64 c9, .int .i64 ct, .slice cx cv cy, .int .u64 cr]] d3 fun d6 cu => ∃ (cg : Bool), d6 = .returned (.bool cg) ∧
 bif !cg then (
 putsK cu cz [.int .i64 0, .int .i64 0, .int .i64 0, .int .u64 0, .int .i64 0, .int .i64 0, .int .i64 0, .slice none 0 0, .int .u64 0, .int .i64 0, .int .i64 0, .int .u64 0, .int .i64 0, .int .i64 0, .int .i64 0, .slice none 0 0, .int .u64 0, .int .i64 0, .slice none 0 0, .int .u64 0] 0 fun d2 =>
 ∃ (b8 a2 a9 au ba bk ab : Int) (ak : Option Addr) (ae an : Nat) (b3 a1 aj ao bg b5 aa : Int) (am : Option Addr) (a6 a8 : Nat) (b6 c0 : Int) (cl : Option Addr) (cd cf : Nat) (c4 : Int), cellsAt d2 cz [.int .i64 b8, .int .i64 a2, .int .i64 a9, .int .u64 au, .int .i64 ba, .int .i64 bk, .int .i64 ab, .slice ak ae an, .int .u64 b3, .int .i64 a1, .int .i64 aj, .int .u64 ao, .int .i64 bg, .int .i64 b5, .int .i64 aa, .slice am a6 a8, .int .u64 b6, .int .i64 c0, .slice cl cd cf, .int .u64 c4] 0 ∧
 R (.tuple #[.agg #[.int .i64 b8, .int .i64 a2, .int .i64 a9, .int .u64 au, .int .i64 ba, .int .i64 bk, .int .i64 ab, .slice ak ae an, .int .u64 b3, .int .i64 a1, .int .i64 aj, .int .u64 ao, .int .i64 bg, .int .i64 b5, .int .i64 aa, .slice am a6 a8, .int .u64 b6, .int .i64 c0, .slice cl cd cf, .int .u64 c4], .int .i64 4]) d2) else (
 ∃ (cm ar bp c3 cn c6 b4 : Int) (bu : Option Addr) (bv b9 : Nat) (ci av bo bw ck ce bl : Int) (bq : Option Addr) (bt bc : Nat) (cj cq : Int) (cw : Option Addr) (d1 d0 : Nat) (cs : Int), cellsAt cu d5 [.int .i64 cm, .int .i64 ar, .int .i64 bp, .int .u64 c3, .int .i64 cn, .int .i64 c6, .int .i64 b4, .slice bu bv b9, .int .u64 ci, .int .i64 av, .int .i64 bo, .int .u64 bw, .int .i64 ck, .int .i64 ce, .int .i64 bl, .slice bq bt bc, .int .u64 cj, .int .i64 cq, .slice cw d1 d0, .int .u64 cs] 0 ∧
 putsK cu cz [.int .i64 cm, .int .i64 ar, .int .i64 bp, .int .u64 c3, .int .i64 cn, .int .i64 c6, .int .i64 b4, .slice bu bv b9, .int .u64 ci, .int .i64 av, .int .i64 bo, .int .u64 bw, .int .i64 ck, .int .i64 ce, .int .i64 bl, .slice bq bt bc, .int .u64 cj, .int .i64 cq, .slice cw d1 d0, .int .u64 cs] 0 fun d4 =>
 ∃ (bb a0 ah aw bs bj al : Int) (af : Option Addr) (ac a5 : Nat) (be a3 a4 ax b7 bf ai : Int) (ag : Option Addr) (a7 ad : Nat) (b2 c2 : Int) (cc : Option Addr) (co c5 : Nat) (bz : Int), cellsAt d4 cz [.int .i64 bb, .int .i64 a0, .int .i64 ah, .int .u64 aw, .int .i64 bs, .int .i64 bj, .int .i64 al, .slice af ac a5, .int .u64 be, .int .i64 a3, .int .i64 a4, .int .u64 ax, .int .i64 b7, .int .i64 bf, .int .i64 ai, .slice ag a7 ad, .int .u64 b2, .int .i64 c2, .slice cc co c5, .int .u64 bz] 0 ∧
 R (.tuple #[.agg #[.int .i64 bb, .int .i64 a0, .int .i64 ah, .int .u64 aw, .int .i64 bs, .int .i64 bj, .int .i64 al, .slice af ac a5, .int .u64 be, .int .i64 a3, .int .i64 a4, .int .u64 ax, .int .i64 b7, .int .i64 bf, .int .i64 ai, .slice ag a7 ad, .int .u64 b2, .int .i64 c2, .slice cc co c5, .int .u64 bz], .int .i64 0]) d4)

abbrev Q00.J2 (b3 b4 : Nat) (az ay : Addr) (R : RW) (b2 : World) : Prop :=
 Calls Try.prog 48 #[.slice none b3 b4] b2 fun b1 aw => ∃ (aq : Option Addr) (ao ap : Nat) (an : Int), b1 = .returned (.tuple #[.slice aq ao ap, .int .i64 an]) ∧
 bif an != 0 then (
 putsK aw ay [.int .i64 0, .int .i64 0, .int .i64 0, .int .u64 0, .int .i64 0, .int .i64 0, .int .i64 0, .slice none 0 0, .int .u64 0, .int .i64 0, .int .i64 0, .int .u64 0, .int .i64 0, .int .i64 0, .int .i64 0, .slice none 0 0, .int .u64 0, .int .i64 0, .slice none 0 0, .int .u64 0] 0 fun ax =>
 ∃ (ak a1 a8 ac aj ai a7 : Int) (aa : Option Addr) (a9 ab : Nat) (ah a0 a2 ad af ae a5 : Int) (a6 : Option Addr) (a3 a4 : Nat) (ag al : Int) (av : Option Addr) (ar au : Nat) (am : Int), cellsAt ax ay [.int .i64 ak, .int .i64 a1, .int .i64 a8, .int .u64 ac, .int .i64 aj, .int .i64 ai, .int .i64 a7, .slice aa a9 ab, .int .u64 ah, .int .i64 a0, .int .i64 a2, .int .u64 ad, .int .i64 af, .int .i64 ae, .int .i64 a5, .slice a6 a3 a4, .int .u64 ag, .int .i64 al, .slice av ar au, .int .u64 am] 0 ∧
 R (.tuple #[.agg #[.int .i64 ak, .int .i64 a1, .int .i64 a8, .int .u64 ac, .int .i64 aj, .int .i64 ai, .int .i64 a7, .slice aa a9 ab, .int .u64 ah, .int .i64 a0, .int .i64 a2, .int .u64 ad, .int .i64 af, .int .i64 ae, .int .i64 a5, .slice a6 a3 a4, .int .u64 ag, .int .i64 al, .slice av ar au, .int .u64 am], .int .i64 an]) ax) else (
 Q01 aw ((az.add 18).add 0) ∧
 thenW (aw.setCell ((az.add 18).add 0) (.slice aq ao ap)) fun b0 =>
 Q00.J1 az ay R b0)

abbrev Q00.J3 (b3 : Bool) (b5 b4 : Nat) (ay ax : Addr) (R : RW) (b0 : World) : Prop :=
 bif b3 then (
 Calls Try.prog 48 #[.slice none b5 b4] b0 fun b2 aw => ∃ (ao : Option Addr) (aq av : Nat) (am : Int), b2 = .returned (.tuple #[.slice ao aq av, .int .i64 am]) ∧
 bif am != 0 then (
 putsK aw ax [.int .i64 0, .int .i64 0, .int .i64 0, .int .u64 0, .int .i64 0, .int .i64 0, .int .i64 0, .slice none 0 0, .int .u64 0, .int .i64 0, .int .i64 0, .int .u64 0, .int .i64 0, .int .i64 0, .int .i64 0, .slice none 0 0, .int .u64 0, .int .i64 0, .slice none 0 0, .int .u64 0] 0 fun az =>
 ∃ (aj a0 a9 ac af ag a8 : Int) (a7 : Option Addr) (a4 aa : Nat) (ae a1 ab ad ah ak a6 : Int) (a5 : Option Addr) (a3 a2 : Nat) (ai an : Int) (ap : Option Addr) (ar au : Nat) (al : Int), cellsAt az ax [.int .i64 aj, .int .i64 a0, .int .i64 a9, .int .u64 ac, .int .i64 af, .int .i64 ag, .int .i64 a8, .slice a7 a4 aa, .int .u64 ae, .int .i64 a1, .int .i64 ab, .int .u64 ad, .int .i64 ah, .int .i64 ak, .int .i64 a6, .slice a5 a3 a2, .int .u64 ai, .int .i64 an, .slice ap ar au, .int .u64 al] 0 ∧
 R (.tuple #[.agg #[.int .i64 aj, .int .i64 a0, .int .i64 a9, .int .u64 ac, .int .i64 af, .int .i64 ag, .int .i64 a8, .slice a7 a4 aa, .int .u64 ae, .int .i64 a1, .int .i64 ab, .int .u64 ad, .int .i64 ah, .int .i64 ak, .int .i64 a6, .slice a5 a3 a2, .int .u64 ai, .int .i64 an, .slice ap ar au, .int .u64 al], .int .i64 am]) az) else (
 Q01 aw ((ay.add 18).add 0) ∧
 thenW (aw.setCell ((ay.add 18).add 0) (.slice ao aq av)) fun b1 =>
 Q00.J1 ay ax R b1)) else (
 Q00.J1 ay ax R b0)

abbrev Q00.J4 (a4 a5 : Nat) (a3 a6 : Addr) (R : RW) (a1 : World) : Prop :=
 ∃ (a2 : Int), a1.cell? (a3.add 0) = some (.int .i64 a2) ∧
 bif a2 == 2 then (
 Q00.J2 a4 a5 a3 a6 R a1) else (
 ∃ (a0 : Int), a1.cell? (a3.add 0) = some (.int .i64 a0) ∧
 Q00.J3 (a0 == 3) a4 a5 a3 a6 R a1)

abbrev Q00.J5 (bv bt bx bw : Nat) (a0 bi : Addr) (R : RW) (bd : World) : Prop :=
 ∃ (ba : Int), bd.cell? (a0.add 0) = some (.int .i64 ba) ∧
 bif ba == 4 then (
 Calls Try.prog 47 #[.slice none bx bw] bd fun bu bh => ∃ (au b3 bc bf be b0 : Int) (b4 : Option Addr) (b5 b1 : Nat) (bg ax : Int), bu = .returned (.tuple #[.agg #[.int .i64 au, .int .i64 b3, .int .u64 bc, .int .i64 bf, .int .i64 be, .int .i64 b0, .slice b4 b5 b1, .int .u64 bg], .int .i64 ax]) ∧
 thenW (bh.alloc (.cells #[.int .i64 0, .int .i64 0, .int .u64 0, .int .i64 0, .int .i64 0, .int .i64 0, .slice none 0 0, .int .u64 0] 27)) fun br =>
 putsK br (blk bh.heap.size) [.int .i64 au, .int .i64 b3, .int .u64 bc, .int .i64 bf, .int .i64 be, .int .i64 b0, .slice b4 b5 b1, .int .u64 bg] 0 fun b9 =>
 bif ax != 0 then (
 putsK b9 bi [.int .i64 0, .int .i64 0, .int .i64 0, .int .u64 0, .int .i64 0, .int .i64 0, .int .i64 0, .slice none 0 0, .int .u64 0, .int .i64 0, .int .i64 0, .int .u64 0, .int .i64 0, .int .i64 0, .int .i64 0, .slice none 0 0, .int .u64 0, .int .i64 0, .slice none 0 0, .int .u64 0] 0 fun bn =>
 ∃ (aj a1 a4 ae ai ah a5 : Int) (aa : Option Addr) (a9 a8 : Nat) (al a2 ac ad ag ak a3 : Int) (a7 : Option Addr) (ab a6 : Nat) (am ar : Int) (ay : Option Addr) (b6 b2 : Nat) (an : Int), cellsAt bn bi [.int .i64 aj, .int .i64 a1, .int .i64 a4, .int .u64 ae, .int .i64 ai, .int .i64 ah, .int .i64 a5, .slice aa a9 a8, .int .u64 al, .int .i64 a2, .int .i64 ac, .int .u64 ad, .int .i64 ag, .int .i64 ak, .int .i64 a3, .slice a7 ab a6, .int .u64 am, .int .i64 ar, .slice ay b6 b2, .int .u64 an] 0 ∧
 R (.tuple #[.agg #[.int .i64 aj, .int .i64 a1, .int .i64 a4, .int .u64 ae, .int .i64 ai, .int .i64 ah, .int .i64 a5, .slice aa a9 a8, .int .u64 al, .int .i64 a2, .int .i64 ac, .int .u64 ad, .int .i64 ag, .int .i64 ak, .int .i64 a3, .slice a7 ab a6, .int .u64 am, .int .i64 ar, .slice ay b6 b2, .int .u64 an], .int .i64 ax]) bn) else (
 ∃ (af ao az bb b7 av : Int) (aw : Option Addr) (aq ap : Nat) (b8 : Int), cellsAt b9 (blk bh.heap.size) [.int .i64 af, .int .i64 ao, .int .u64 az, .int .i64 bb, .int .i64 b7, .int .i64 av, .slice aw aq ap, .int .u64 b8] 0 ∧
 Q01 b9 ((a0.add 9).add 0) ∧
 thenW (b9.setCell ((a0.add 9).add 0) (.int .i64 af)) fun bo =>
 Q01 bo ((a0.add 9).add 1) ∧
 thenW (bo.setCell ((a0.add 9).add 1) (.int .i64 ao)) fun bj =>
 Q01 bj ((a0.add 9).add 2) ∧
 thenW (bj.setCell ((a0.add 9).add 2) (.int .u64 az)) fun bp =>
 Q01 bp ((a0.add 9).add 3) ∧
 thenW (bp.setCell ((a0.add 9).add 3) (.int .i64 bb)) fun bm =>
 Q01 bm ((a0.add 9).add 4) ∧
 thenW (bm.setCell ((a0.add 9).add 4) (.int .i64 b7)) fun bq =>
 Q01 bq ((a0.add 9).add 5) ∧
 thenW (bq.setCell ((a0.add 9).add 5) (.int .i64 av)) fun bk =>
 Q01 bk ((a0.add 9).add 6) ∧
 thenW (bk.setCell ((a0.add 9).add 6) (.slice aw aq ap)) fun bl =>
 Q01 bl ((a0.add 9).add 7) ∧
 thenW (bl.setCell ((a0.add 9).add 7) (.int .u64 b8)) fun bs =>
 Q00.J4 bv bt a0 bi R bs)) else (
 Q00.J4 bv bt a0 bi R bd)

abbrev Q00.J6 (bw : Option Addr) (bv bz c0 bx bt bu : Nat) (a0 bo : Addr) (R : RW) (br : World) : Prop :=
 Calls Try.prog 47 #[.slice bw bv bz] br fun bq be => ∃ (aw b5 b8 bf bd b3 : Int) (ay : Option Addr) (az b1 : Nat) (bc ax : Int), bq = .returned (.tuple #[.agg #[.int .i64 aw, .int .i64 b5, .int .u64 b8, .int .i64 bf, .int .i64 bd, .int .i64 b3, .slice ay az b1, .int .u64 bc], .int .i64 ax]) ∧
 thenW (be.alloc (.cells #[.int .i64 0, .int .i64 0, .int .u64 0, .int .i64 0, .int .i64 0, .int .i64 0, .slice none 0 0, .int .u64 0] 27)) fun bs =>
 putsK bs (blk be.heap.size) [.int .i64 aw, .int .i64 b5, .int .u64 b8, .int .i64 bf, .int .i64 bd, .int .i64 b3, .slice ay az b1, .int .u64 bc] 0 fun bb =>
 bif ax != 0 then (
 putsK bb bo [.int .i64 0, .int .i64 0, .int .i64 0, .int .u64 0, .int .i64 0, .int .i64 0, .int .i64 0, .slice none 0 0, .int .u64 0, .int .i64 0, .int .i64 0, .int .u64 0, .int .i64 0, .int .i64 0, .int .i64 0, .slice none 0 0, .int .u64 0, .int .i64 0, .slice none 0 0, .int .u64 0] 0 fun bh =>
 ∃ (ah a2 a5 ad ai al aa : Int) (a4 : Option Addr) (ab a7 : Nat) (aj a1 a3 ae af ak a8 : Int) (a9 : Option Addr) (a6 ac : Nat) (ag aq : Int) (b4 : Option Addr) (b0 b2 : Nat) (au : Int), cellsAt bh bo [.int .i64 ah, .int .i64 a2, .int .i64 a5, .int .u64 ad, .int .i64 ai, .int .i64 al, .int .i64 aa, .slice a4 ab a7, .int .u64 aj, .int .i64 a1, .int .i64 a3, .int .u64 ae, .int .i64 af, .int .i64 ak, .int .i64 a8, .slice a9 a6 ac, .int .u64 ag, .int .i64 aq, .slice b4 b0 b2, .int .u64 au] 0 ∧
 R (.tuple #[.agg #[.int .i64 ah, .int .i64 a2, .int .i64 a5, .int .u64 ad, .int .i64 ai, .int .i64 al, .int .i64 aa, .slice a4 ab a7, .int .u64 aj, .int .i64 a1, .int .i64 a3, .int .u64 ae, .int .i64 af, .int .i64 ak, .int .i64 a8, .slice a9 a6 ac, .int .u64 ag, .int .i64 aq, .slice b4 b0 b2, .int .u64 au], .int .i64 ax]) bh) else (
 ∃ (am ar b6 ba b7 av : Int) (ao : Option Addr) (ap an : Nat) (b9 : Int), cellsAt bb (blk be.heap.size) [.int .i64 am, .int .i64 ar, .int .u64 b6, .int .i64 ba, .int .i64 b7, .int .i64 av, .slice ao ap an, .int .u64 b9] 0 ∧
 Q01 bb ((a0.add 1).add 0) ∧
 thenW (bb.setCell ((a0.add 1).add 0) (.int .i64 am)) fun bj =>
 Q01 bj ((a0.add 1).add 1) ∧
 thenW (bj.setCell ((a0.add 1).add 1) (.int .i64 ar)) fun bg =>
 Q01 bg ((a0.add 1).add 2) ∧
 thenW (bg.setCell ((a0.add 1).add 2) (.int .u64 b6)) fun bl =>
 Q01 bl ((a0.add 1).add 3) ∧
 thenW (bl.setCell ((a0.add 1).add 3) (.int .i64 ba)) fun bi =>
 Q01 bi ((a0.add 1).add 4) ∧
 thenW (bi.setCell ((a0.add 1).add 4) (.int .i64 b7)) fun bk =>
 Q01 bk ((a0.add 1).add 5) ∧
 thenW (bk.setCell ((a0.add 1).add 5) (.int .i64 av)) fun bn =>
 Q01 bn ((a0.add 1).add 6) ∧
 thenW (bn.setCell ((a0.add 1).add 6) (.slice ao ap an)) fun bm =>
 Q01 bm ((a0.add 1).add 7) ∧
 thenW (bm.setCell ((a0.add 1).add 7) (.int .u64 b9)) fun bp =>
 Q00.J5 c0 bx bt bu a0 bo R bp)

abbrev Q00.J7 (c1 : Bool) (bx : Option Addr) (c0 bz bt br bq bs : Nat) (a0 bf : Addr) (R : RW) (bl : World) : Prop :=
 bif c1 then (
 Calls Try.prog 47 #[.slice bx c0 bz] bl fun bv bc => ∃ (ax b3 b8 be bd b6 : Int) (az : Option Addr) (ay b2 : Nat) (bg aq : Int), bv = .returned (.tuple #[.agg #[.int .i64 ax, .int .i64 b3, .int .u64 b8, .int .i64 be, .int .i64 bd, .int .i64 b6, .slice az ay b2, .int .u64 bg], .int .i64 aq]) ∧
 thenW (bc.alloc (.cells #[.int .i64 0, .int .i64 0, .int .u64 0, .int .i64 0, .int .i64 0, .int .i64 0, .slice none 0 0, .int .u64 0] 27)) fun bw =>
 putsK bw (blk bc.heap.size) [.int .i64 ax, .int .i64 b3, .int .u64 b8, .int .i64 be, .int .i64 bd, .int .i64 b6, .slice az ay b2, .int .u64 bg] 0 fun b7 =>
 bif aq != 0 then (
 putsK b7 bf [.int .i64 0, .int .i64 0, .int .i64 0, .int .u64 0, .int .i64 0, .int .i64 0, .int .i64 0, .slice none 0 0, .int .u64 0, .int .i64 0, .int .i64 0, .int .u64 0, .int .i64 0, .int .i64 0, .int .i64 0, .slice none 0 0, .int .u64 0, .int .i64 0, .slice none 0 0, .int .u64 0] 0 fun bm =>
 ∃ (ah a1 a8 ae af am a6 : Int) (aa : Option Addr) (a3 ac : Nat) (ak a2 ab ad ag aj a4 : Int) (a7 : Option Addr) (a5 a9 : Nat) (al ar : Int) (b0 : Option Addr) (b4 b5 : Nat) (ap : Int), cellsAt bm bf [.int .i64 ah, .int .i64 a1, .int .i64 a8, .int .u64 ae, .int .i64 af, .int .i64 am, .int .i64 a6, .slice aa a3 ac, .int .u64 ak, .int .i64 a2, .int .i64 ab, .int .u64 ad, .int .i64 ag, .int .i64 aj, .int .i64 a4, .slice a7 a5 a9, .int .u64 al, .int .i64 ar, .slice b0 b4 b5, .int .u64 ap] 0 ∧
 R (.tuple #[.agg #[.int .i64 ah, .int .i64 a1, .int .i64 a8, .int .u64 ae, .int .i64 af, .int .i64 am, .int .i64 a6, .slice aa a3 ac, .int .u64 ak, .int .i64 a2, .int .i64 ab, .int .u64 ad, .int .i64 ag, .int .i64 aj, .int .i64 a4, .slice a7 a5 a9, .int .u64 al, .int .i64 ar, .slice b0 b4 b5, .int .u64 ap], .int .i64 aq]) bm) else (
 ∃ (ai ao b1 bb ba an : Int) (av : Option Addr) (au aw : Nat) (b9 : Int), cellsAt b7 (blk bc.heap.size) [.int .i64 ai, .int .i64 ao, .int .u64 b1, .int .i64 bb, .int .i64 ba, .int .i64 an, .slice av au aw, .int .u64 b9] 0 ∧
 Q01 b7 ((a0.add 1).add 0) ∧
 thenW (b7.setCell ((a0.add 1).add 0) (.int .i64 ai)) fun bn =>
 Q01 bn ((a0.add 1).add 1) ∧
 thenW (bn.setCell ((a0.add 1).add 1) (.int .i64 ao)) fun bj =>
 Q01 bj ((a0.add 1).add 2) ∧
 thenW (bj.setCell ((a0.add 1).add 2) (.int .u64 b1)) fun bk =>
 Q01 bk ((a0.add 1).add 3) ∧
 thenW (bk.setCell ((a0.add 1).add 3) (.int .i64 bb)) fun bo =>
 Q01 bo ((a0.add 1).add 4) ∧
 thenW (bo.setCell ((a0.add 1).add 4) (.int .i64 ba)) fun bp =>
 Q01 bp ((a0.add 1).add 5) ∧
 thenW (bp.setCell ((a0.add 1).add 5) (.int .i64 an)) fun bh =>
 Q01 bh ((a0.add 1).add 6) ∧
 thenW (bh.setCell ((a0.add 1).add 6) (.slice av au aw)) fun bi =>
 Q01 bi ((a0.add 1).add 7) ∧
 thenW (bi.setCell ((a0.add 1).add 7) (.int .u64 b9)) fun bu =>
 Q00.J5 bt br bq bs a0 bf R bu)) else (
 Q00.J5 bt br bq bs a0 bf R bl)

abbrev Q00.J8 (ab : Option Addr) (aa a7 a4 a9 a8 a6 : Nat) (a3 a5 : Addr) (R : RW) (a2 : World) : Prop :=
 ∃ (a1 : Int), a2.cell? (a3.add 0) = some (.int .i64 a1) ∧
 bif a1 == 1 then (
 Q00.J6 ab aa a7 a4 a9 a8 a6 a3 a5 R a2) else (
 ∃ (a0 : Int), a2.cell? (a3.add 0) = some (.int .i64 a0) ∧
 Q00.J7 (a0 == 4) ab aa a7 a4 a9 a8 a6 a3 a5 R a2)

abbrev Q00.J9 (b4 : Option Addr) (az b3 ay b1 b6 b2 : Nat) (b0 b5 av : Addr) (R : RW) (aw : World) : Prop :=
 Calls Try.prog 46 #[.pointer (some b5)] aw fun ax au => ∃ (an : Int), ax = .returned (.int .i64 an) ∧
 bif an != 0 then (
 putsK au av [.int .i64 0, .int .i64 0, .int .i64 0, .int .u64 0, .int .i64 0, .int .i64 0, .int .i64 0, .slice none 0 0, .int .u64 0, .int .i64 0, .int .i64 0, .int .u64 0, .int .i64 0, .int .i64 0, .int .i64 0, .slice none 0 0, .int .u64 0, .int .i64 0, .slice none 0 0, .int .u64 0] 0 fun ar =>
 ∃ (ag a0 a8 ac ak ai a2 : Int) (a6 : Option Addr) (a7 a5 : Nat) (af a1 a9 ad aj ae ab : Int) (a3 : Option Addr) (a4 aa : Nat) (ah am : Int) (ao : Option Addr) (ap aq : Nat) (al : Int), cellsAt ar av [.int .i64 ag, .int .i64 a0, .int .i64 a8, .int .u64 ac, .int .i64 ak, .int .i64 ai, .int .i64 a2, .slice a6 a7 a5, .int .u64 af, .int .i64 a1, .int .i64 a9, .int .u64 ad, .int .i64 aj, .int .i64 ae, .int .i64 ab, .slice a3 a4 aa, .int .u64 ah, .int .i64 am, .slice ao ap aq, .int .u64 al] 0 ∧
 R (.tuple #[.agg #[.int .i64 ag, .int .i64 a0, .int .i64 a8, .int .u64 ac, .int .i64 ak, .int .i64 ai, .int .i64 a2, .slice a6 a7 a5, .int .u64 af, .int .i64 a1, .int .i64 a9, .int .u64 ad, .int .i64 aj, .int .i64 ae, .int .i64 ab, .slice a3 a4 aa, .int .u64 ah, .int .i64 am, .slice ao ap aq, .int .u64 al], .int .i64 an]) ar) else (
 Q00.J8 b4 az b3 ay b1 b6 b2 b0 av R au)

abbrev Q00.J10 (d5 cx : Addr) (R : RW) (d3 : World) : Prop :=
 ∃ (ce aq bv c4 cc c5 ba : Int) (bp : Option Addr) (bt b1 : Nat) (cp ao ay bw c8 cd bl : Int) (b2 : Option Addr) (b8 br : Nat) (cf cq : Int) (d1 : Option Addr) (cv cw : Nat) (cr : Int), cellsAt d3 d5 [.int .i64 ce, .int .i64 aq, .int .i64 bv, .int .u64 c4, .int .i64 cc, .int .i64 c5, .int .i64 ba, .slice bp bt b1, .int .u64 cp, .int .i64 ao, .int .i64 ay, .int .u64 bw, .int .i64 c8, .int .i64 cd, .int .i64 bl, .slice b2 b8 br, .int .u64 cf, .int .i64 cq, .slice d1 cv cw, .int .u64 cr] 0 ∧
 Calls Try.prog 19 #[.agg #[.int .i64 ce, .int .i64 aq, .int .i64 bv, .int .u64 c4, .int .i64 cc, .int .i64 c5, .int .i64 ba, .slice bp bt b1, .int .u64 cp, .int .i64 ao, .int .i64 ay, .int .u64 bw, .int .i64 c8, .int .i64 cd, .int .i64 bl, .slice b2 b8 br, .int .u64 cf, .int .i64 cq, .slice d1 cv cw, .int .u64 cr]] d3 fun d6 cu => ∃ (c9 : Bool), d6 = .returned (.bool c9) ∧
 bif !c9 then (
 putsK cu cx [.int .i64 0, .int .i64 0, .int .i64 0, .int .u64 0, .int .i64 0, .int .i64 0, .int .i64 0, .slice none 0 0, .int .u64 0, .int .i64 0, .int .i64 0, .int .u64 0, .int .i64 0, .int .i64 0, .int .i64 0, .slice none 0 0, .int .u64 0, .int .i64 0, .slice none 0 0, .int .u64 0] 0 fun d4 =>
 ∃ (bk a0 al ax bc b6 ac : Int) (am : Option Addr) (ag a8 : Nat) (b4 a2 aj aw az bf a7 : Int) (ae : Option Addr) (a6 af : Nat) (b9 c3 : Int) (c6 : Option Addr) (cm ci : Nat) (c0 : Int), cellsAt d4 cx [.int .i64 bk, .int .i64 a0, .int .i64 al, .int .u64 ax, .int .i64 bc, .int .i64 b6, .int .i64 ac, .slice am ag a8, .int .u64 b4, .int .i64 a2, .int .i64 aj, .int .u64 aw, .int .i64 az, .int .i64 bf, .int .i64 a7, .slice ae a6 af, .int .u64 b9, .int .i64 c3, .slice c6 cm ci, .int .u64 c0] 0 ∧
 R (.tuple #[.agg #[.int .i64 bk, .int .i64 a0, .int .i64 al, .int .u64 ax, .int .i64 bc, .int .i64 b6, .int .i64 ac, .slice am ag a8, .int .u64 b4, .int .i64 a2, .int .i64 aj, .int .u64 aw, .int .i64 az, .int .i64 bf, .int .i64 a7, .slice ae a6 af, .int .u64 b9, .int .i64 c3, .slice c6 cm ci, .int .u64 c0], .int .i64 4]) d4) else (
 ∃ (c7 av b3 bx ch co bm : Int) (b5 : Option Addr) (bh bq : Nat) (ca au bg c1 ck cj b7 : Int) (bi : Option Addr) (b0 bb : Nat) (cg cs : Int) (d0 : Option Addr) (cz cy : Nat) (ct : Int), cellsAt cu d5 [.int .i64 c7, .int .i64 av, .int .i64 b3, .int .u64 bx, .int .i64 ch, .int .i64 co, .int .i64 bm, .slice b5 bh bq, .int .u64 ca, .int .i64 au, .int .i64 bg, .int .u64 c1, .int .i64 ck, .int .i64 cj, .int .i64 b7, .slice bi b0 bb, .int .u64 cg, .int .i64 cs, .slice d0 cz cy, .int .u64 ct] 0 ∧
 putsK cu cx [.int .i64 c7, .int .i64 av, .int .i64 b3, .int .u64 bx, .int .i64 ch, .int .i64 co, .int .i64 bm, .slice b5 bh bq, .int .u64 ca, .int .i64 au, .int .i64 bg, .int .u64 c1, .int .i64 ck, .int .i64 cj, .int .i64 b7, .slice bi b0 bb, .int .u64 cg, .int .i64 cs, .slice d0 cz cy, .int .u64 ct] 0 fun d2 =>
 ∃ (bu a3 a4 ar bo bd ad : Int) (a9 : Option Addr) (ak an : Nat) (be a1 aa ap bj bn ah : Int) (ab : Option Addr) (ai a5 : Nat) (bs bz : Int) (cn : Option Addr) (cb cl : Nat) (c2 : Int), cellsAt d2 cx [.int .i64 bu, .int .i64 a3, .int .i64 a4, .int .u64 ar, .int .i64 bo, .int .i64 bd, .int .i64 ad, .slice a9 ak an, .int .u64 be, .int .i64 a1, .int .i64 aa, .int .u64 ap, .int .i64 bj, .int .i64 bn, .int .i64 ah, .slice ab ai a5, .int .u64 bs, .int .i64 bz, .slice cn cb cl, .int .u64 c2] 0 ∧
 R (.tuple #[.agg #[.int .i64 bu, .int .i64 a3, .int .i64 a4, .int .u64 ar, .int .i64 bo, .int .i64 bd, .int .i64 ad, .slice a9 ak an, .int .u64 be, .int .i64 a1, .int .i64 aa, .int .u64 ap, .int .i64 bj, .int .i64 bn, .int .i64 ah, .slice ab ai a5, .int .u64 bs, .int .i64 bz, .slice cn cb cl, .int .u64 c2], .int .i64 0]) d2)

abbrev Q00.J11 (b5 : Option Addr) (b4 b3 : Nat) (az ax : Addr) (R : RW) (b1 : World) : Prop :=
 Calls Try.prog 48 #[.slice b5 b4 b3] b1 fun b2 aw => ∃ (ap : Option Addr) (aq au : Nat) (am : Int), b2 = .returned (.tuple #[.slice ap aq au, .int .i64 am]) ∧
 bif am != 0 then (
 putsK aw ax [.int .i64 0, .int .i64 0, .int .i64 0, .int .u64 0, .int .i64 0, .int .i64 0, .int .i64 0, .slice none 0 0, .int .u64 0, .int .i64 0, .int .i64 0, .int .u64 0, .int .i64 0, .int .i64 0, .int .i64 0, .slice none 0 0, .int .u64 0, .int .i64 0, .slice none 0 0, .int .u64 0] 0 fun ay =>
 ∃ (ai a1 a9 ac ak ae a8 : Int) (ab : Option Addr) (a6 a7 : Nat) (aj a0 a2 ad ah af a5 : Int) (a4 : Option Addr) (aa a3 : Nat) (ag an : Int) (av : Option Addr) (ar ao : Nat) (al : Int), cellsAt ay ax [.int .i64 ai, .int .i64 a1, .int .i64 a9, .int .u64 ac, .int .i64 ak, .int .i64 ae, .int .i64 a8, .slice ab a6 a7, .int .u64 aj, .int .i64 a0, .int .i64 a2, .int .u64 ad, .int .i64 ah, .int .i64 af, .int .i64 a5, .slice a4 aa a3, .int .u64 ag, .int .i64 an, .slice av ar ao, .int .u64 al] 0 ∧
 R (.tuple #[.agg #[.int .i64 ai, .int .i64 a1, .int .i64 a9, .int .u64 ac, .int .i64 ak, .int .i64 ae, .int .i64 a8, .slice ab a6 a7, .int .u64 aj, .int .i64 a0, .int .i64 a2, .int .u64 ad, .int .i64 ah, .int .i64 af, .int .i64 a5, .slice a4 aa a3, .int .u64 ag, .int .i64 an, .slice av ar ao, .int .u64 al], .int .i64 am]) ay) else (
 Q01 aw ((az.add 18).add 0) ∧
 thenW (aw.setCell ((az.add 18).add 0) (.slice ap aq au)) fun b0 =>
 Q00.J10 az ax R b0)

abbrev Q00.J12 (b5 : Bool) (b6 : Option Addr) (b4 b3 : Nat) (ax ay : Addr) (R : RW) (b0 : World) : Prop :=
 bif b5 then (
 Calls Try.prog 48 #[.slice b6 b4 b3] b0 fun b2 aw => ∃ (ar : Option Addr) (av aq : Nat) (an : Int), b2 = .returned (.tuple #[.slice ar av aq, .int .i64 an]) ∧
 bif an != 0 then (
 putsK aw ay [.int .i64 0, .int .i64 0, .int .i64 0, .int .u64 0, .int .i64 0, .int .i64 0, .int .i64 0, .slice none 0 0, .int .u64 0, .int .i64 0, .int .i64 0, .int .u64 0, .int .i64 0, .int .i64 0, .int .i64 0, .slice none 0 0, .int .u64 0, .int .i64 0, .slice none 0 0, .int .u64 0] 0 fun az =>
 ∃ (af a1 a7 ac ae ag a5 : Int) (ab : Option Addr) (a4 a3 : Nat) (ai a0 a9 ad ak aj a8 : Int) (a6 : Option Addr) (aa a2 : Nat) (ah am : Int) (au : Option Addr) (ao ap : Nat) (al : Int), cellsAt az ay [.int .i64 af, .int .i64 a1, .int .i64 a7, .int .u64 ac, .int .i64 ae, .int .i64 ag, .int .i64 a5, .slice ab a4 a3, .int .u64 ai, .int .i64 a0, .int .i64 a9, .int .u64 ad, .int .i64 ak, .int .i64 aj, .int .i64 a8, .slice a6 aa a2, .int .u64 ah, .int .i64 am, .slice au ao ap, .int .u64 al] 0 ∧
 R (.tuple #[.agg #[.int .i64 af, .int .i64 a1, .int .i64 a7, .int .u64 ac, .int .i64 ae, .int .i64 ag, .int .i64 a5, .slice ab a4 a3, .int .u64 ai, .int .i64 a0, .int .i64 a9, .int .u64 ad, .int .i64 ak, .int .i64 aj, .int .i64 a8, .slice a6 aa a2, .int .u64 ah, .int .i64 am, .slice au ao ap, .int .u64 al], .int .i64 an]) az) else (
 Q01 aw ((ax.add 18).add 0) ∧
 thenW (aw.setCell ((ax.add 18).add 0) (.slice ar av aq)) fun b1 =>
 Q00.J10 ax ay R b1)) else (
 Q00.J10 ax ay R b0)

abbrev Q00.J13 (a4 : Option Addr) (a7 a5 : Nat) (a3 a6 : Addr) (R : RW) (a0 : World) : Prop :=
 ∃ (a2 : Int), a0.cell? (a3.add 0) = some (.int .i64 a2) ∧
 bif a2 == 2 then (
 Q00.J11 a4 a7 a5 a3 a6 R a0) else (
 ∃ (a1 : Int), a0.cell? (a3.add 0) = some (.int .i64 a1) ∧
 Q00.J12 (a1 == 3) a4 a7 a5 a3 a6 R a0)

abbrev Q00.J14 (bs : Option Addr) (br bt bz bx : Nat) (a0 bh : Addr) (R : RW) (bd : World) : Prop :=
 ∃ (bc : Int), bd.cell? (a0.add 0) = some (.int .i64 bc) ∧
 bif bc == 4 then (
 Calls Try.prog 47 #[.slice none bz bx] bd fun bv be => ∃ (ax b2 bb bi bf b4 : Int) (b5 : Option Addr) (b1 b3 : Nat) (bg ao : Int), bv = .returned (.tuple #[.agg #[.int .i64 ax, .int .i64 b2, .int .u64 bb, .int .i64 bi, .int .i64 bf, .int .i64 b4, .slice b5 b1 b3, .int .u64 bg], .int .i64 ao]) ∧
 thenW (be.alloc (.cells #[.int .i64 0, .int .i64 0, .int .u64 0, .int .i64 0, .int .i64 0, .int .i64 0, .slice none 0 0, .int .u64 0] 27)) fun bu =>
 putsK bu (blk be.heap.size) [.int .i64 ax, .int .i64 b2, .int .u64 bb, .int .i64 bi, .int .i64 bf, .int .i64 b4, .slice b5 b1 b3, .int .u64 bg] 0 fun b7 =>
 bif ao != 0 then (
 putsK b7 bh [.int .i64 0, .int .i64 0, .int .i64 0, .int .u64 0, .int .i64 0, .int .i64 0, .int .i64 0, .slice none 0 0, .int .u64 0, .int .i64 0, .int .i64 0, .int .u64 0, .int .i64 0, .int .i64 0, .int .i64 0, .slice none 0 0, .int .u64 0, .int .i64 0, .slice none 0 0, .int .u64 0] 0 fun bo =>
 ∃ (al a2 a5 ad ak aj aa : Int) (a6 : Option Addr) (a8 a4 : Nat) (ag a1 ac ae ai af a7 : Int) (ab : Option Addr) (a3 a9 : Nat) (am aw : Int) (ay : Option Addr) (b0 az : Nat) (ap : Int), cellsAt bo bh [.int .i64 al, .int .i64 a2, .int .i64 a5, .int .u64 ad, .int .i64 ak, .int .i64 aj, .int .i64 aa, .slice a6 a8 a4, .int .u64 ag, .int .i64 a1, .int .i64 ac, .int .u64 ae, .int .i64 ai, .int .i64 af, .int .i64 a7, .slice ab a3 a9, .int .u64 am, .int .i64 aw, .slice ay b0 az, .int .u64 ap] 0 ∧
 R (.tuple #[.agg #[.int .i64 al, .int .i64 a2, .int .i64 a5, .int .u64 ad, .int .i64 ak, .int .i64 aj, .int .i64 aa, .slice a6 a8 a4, .int .u64 ag, .int .i64 a1, .int .i64 ac, .int .u64 ae, .int .i64 ai, .int .i64 af, .int .i64 a7, .slice ab a3 a9, .int .u64 am, .int .i64 aw, .slice ay b0 az, .int .u64 ap], .int .i64 ao]) bo) else (
 ∃ (ah an b6 b9 ba aq : Int) (ar : Option Addr) (au av : Nat) (b8 : Int), cellsAt b7 (blk be.heap.size) [.int .i64 ah, .int .i64 an, .int .u64 b6, .int .i64 b9, .int .i64 ba, .int .i64 aq, .slice ar au av, .int .u64 b8] 0 ∧
 Q01 b7 ((a0.add 9).add 0) ∧
 thenW (b7.setCell ((a0.add 9).add 0) (.int .i64 ah)) fun bk =>
 Q01 bk ((a0.add 9).add 1) ∧
 thenW (bk.setCell ((a0.add 9).add 1) (.int .i64 an)) fun bn =>
 Q01 bn ((a0.add 9).add 2) ∧
 thenW (bn.setCell ((a0.add 9).add 2) (.int .u64 b6)) fun bp =>
 Q01 bp ((a0.add 9).add 3) ∧
 thenW (bp.setCell ((a0.add 9).add 3) (.int .i64 b9)) fun bl =>
 Q01 bl ((a0.add 9).add 4) ∧
 thenW (bl.setCell ((a0.add 9).add 4) (.int .i64 ba)) fun bm =>
 Q01 bm ((a0.add 9).add 5) ∧
 thenW (bm.setCell ((a0.add 9).add 5) (.int .i64 aq)) fun bj =>
 Q01 bj ((a0.add 9).add 6) ∧
 thenW (bj.setCell ((a0.add 9).add 6) (.slice ar au av)) fun bq =>
 Q01 bq ((a0.add 9).add 7) ∧
 thenW (bq.setCell ((a0.add 9).add 7) (.int .u64 b8)) fun bw =>
 Q00.J13 bs br bt a0 bh R bw)) else (
 Q00.J13 bs br bt a0 bh R bd)

abbrev Q00.J15 (bt : Option Addr) (bw bu bv bx bz c0 : Nat) (a0 bh : Addr) (R : RW) (bp : World) : Prop :=
 Calls Try.prog 47 #[.slice none bz c0] bp fun bq bc => ∃ (aw b1 bb be bf az : Int) (b5 : Option Addr) (b2 ay : Nat) (bd ax : Int), bq = .returned (.tuple #[.agg #[.int .i64 aw, .int .i64 b1, .int .u64 bb, .int .i64 be, .int .i64 bf, .int .i64 az, .slice b5 b2 ay, .int .u64 bd], .int .i64 ax]) ∧
 thenW (bc.alloc (.cells #[.int .i64 0, .int .i64 0, .int .u64 0, .int .i64 0, .int .i64 0, .int .i64 0, .slice none 0 0, .int .u64 0] 27)) fun br =>
 putsK br (blk bc.heap.size) [.int .i64 aw, .int .i64 b1, .int .u64 bb, .int .i64 be, .int .i64 bf, .int .i64 az, .slice b5 b2 ay, .int .u64 bd] 0 fun b7 =>
 bif ax != 0 then (
 putsK b7 bh [.int .i64 0, .int .i64 0, .int .i64 0, .int .u64 0, .int .i64 0, .int .i64 0, .int .i64 0, .slice none 0 0, .int .u64 0, .int .i64 0, .int .i64 0, .int .u64 0, .int .i64 0, .int .i64 0, .int .i64 0, .slice none 0 0, .int .u64 0, .int .i64 0, .slice none 0 0, .int .u64 0] 0 fun bk =>
 ∃ (ai a2 a3 ad ak ah a6 : Int) (a8 : Option Addr) (a9 a4 : Nat) (am a1 a5 ae ag al a7 : Int) (ab : Option Addr) (aa ac : Nat) (af av : Int) (b3 : Option Addr) (b0 b4 : Nat) (ap : Int), cellsAt bk bh [.int .i64 ai, .int .i64 a2, .int .i64 a3, .int .u64 ad, .int .i64 ak, .int .i64 ah, .int .i64 a6, .slice a8 a9 a4, .int .u64 am, .int .i64 a1, .int .i64 a5, .int .u64 ae, .int .i64 ag, .int .i64 al, .int .i64 a7, .slice ab aa ac, .int .u64 af, .int .i64 av, .slice b3 b0 b4, .int .u64 ap] 0 ∧
 R (.tuple #[.agg #[.int .i64 ai, .int .i64 a2, .int .i64 a3, .int .u64 ad, .int .i64 ak, .int .i64 ah, .int .i64 a6, .slice a8 a9 a4, .int .u64 am, .int .i64 a1, .int .i64 a5, .int .u64 ae, .int .i64 ag, .int .i64 al, .int .i64 a7, .slice ab aa ac, .int .u64 af, .int .i64 av, .slice b3 b0 b4, .int .u64 ap], .int .i64 ax]) bk) else (
 ∃ (aj an b6 b8 b9 ao : Int) (au : Option Addr) (aq ar : Nat) (ba : Int), cellsAt b7 (blk bc.heap.size) [.int .i64 aj, .int .i64 an, .int .u64 b6, .int .i64 b8, .int .i64 b9, .int .i64 ao, .slice au aq ar, .int .u64 ba] 0 ∧
 Q01 b7 ((a0.add 1).add 0) ∧
 thenW (b7.setCell ((a0.add 1).add 0) (.int .i64 aj)) fun bi =>
 Q01 bi ((a0.add 1).add 1) ∧
 thenW (bi.setCell ((a0.add 1).add 1) (.int .i64 an)) fun bo =>
 Q01 bo ((a0.add 1).add 2) ∧
 thenW (bo.setCell ((a0.add 1).add 2) (.int .u64 b6)) fun bg =>
 Q01 bg ((a0.add 1).add 3) ∧
 thenW (bg.setCell ((a0.add 1).add 3) (.int .i64 b8)) fun bl =>
 Q01 bl ((a0.add 1).add 4) ∧
 thenW (bl.setCell ((a0.add 1).add 4) (.int .i64 b9)) fun bm =>
 Q01 bm ((a0.add 1).add 5) ∧
 thenW (bm.setCell ((a0.add 1).add 5) (.int .i64 ao)) fun bj =>
 Q01 bj ((a0.add 1).add 6) ∧
 thenW (bj.setCell ((a0.add 1).add 6) (.slice au aq ar)) fun bn =>
 Q01 bn ((a0.add 1).add 7) ∧
 thenW (bn.setCell ((a0.add 1).add 7) (.int .u64 ba)) fun bs =>
 Q00.J14 bt bw bu bv bx a0 bh R bs)

abbrev Q00.J16 (c0 : Bool) (bu : Option Addr) (br bs bq bt bz c1 : Nat) (a0 bd : Addr) (R : RW) (bj : World) : Prop :=
 bif c0 then (
 Calls Try.prog 47 #[.slice none bz c1] bj fun bw bc => ∃ (ar az ba bf bg b1 : Int) (b4 : Option Addr) (b6 b0 : Nat) (be aw : Int), bw = .returned (.tuple #[.agg #[.int .i64 ar, .int .i64 az, .int .u64 ba, .int .i64 bf, .int .i64 bg, .int .i64 b1, .slice b4 b6 b0, .int .u64 be], .int .i64 aw]) ∧
 thenW (bc.alloc (.cells #[.int .i64 0, .int .i64 0, .int .u64 0, .int .i64 0, .int .i64 0, .int .i64 0, .slice none 0 0, .int .u64 0] 27)) fun bv =>
 putsK bv (blk bc.heap.size) [.int .i64 ar, .int .i64 az, .int .u64 ba, .int .i64 bf, .int .i64 bg, .int .i64 b1, .slice b4 b6 b0, .int .u64 be] 0 fun b7 =>
 bif aw != 0 then (
 putsK b7 bd [.int .i64 0, .int .i64 0, .int .i64 0, .int .u64 0, .int .i64 0, .int .i64 0, .int .i64 0, .slice none 0 0, .int .u64 0, .int .i64 0, .int .i64 0, .int .u64 0, .int .i64 0, .int .i64 0, .int .i64 0, .slice none 0 0, .int .u64 0, .int .i64 0, .slice none 0 0, .int .u64 0] 0 fun bm =>
 ∃ (al a1 aa ae ah am ac : Int) (a8 : Option Addr) (a6 a4 : Nat) (ak a2 a7 ad ag ai a9 : Int) (a5 : Option Addr) (a3 ab : Nat) (aj av : Int) (b5 : Option Addr) (b3 ay : Nat) (au : Int), cellsAt bm bd [.int .i64 al, .int .i64 a1, .int .i64 aa, .int .u64 ae, .int .i64 ah, .int .i64 am, .int .i64 ac, .slice a8 a6 a4, .int .u64 ak, .int .i64 a2, .int .i64 a7, .int .u64 ad, .int .i64 ag, .int .i64 ai, .int .i64 a9, .slice a5 a3 ab, .int .u64 aj, .int .i64 av, .slice b5 b3 ay, .int .u64 au] 0 ∧
 R (.tuple #[.agg #[.int .i64 al, .int .i64 a1, .int .i64 aa, .int .u64 ae, .int .i64 ah, .int .i64 am, .int .i64 ac, .slice a8 a6 a4, .int .u64 ak, .int .i64 a2, .int .i64 a7, .int .u64 ad, .int .i64 ag, .int .i64 ai, .int .i64 a9, .slice a5 a3 ab, .int .u64 aj, .int .i64 av, .slice b5 b3 ay, .int .u64 au], .int .i64 aw]) bm) else (
 ∃ (af ax b2 b8 b9 aq : Int) (ap : Option Addr) (an ao : Nat) (bb : Int), cellsAt b7 (blk bc.heap.size) [.int .i64 af, .int .i64 ax, .int .u64 b2, .int .i64 b8, .int .i64 b9, .int .i64 aq, .slice ap an ao, .int .u64 bb] 0 ∧
 Q01 b7 ((a0.add 1).add 0) ∧
 thenW (b7.setCell ((a0.add 1).add 0) (.int .i64 af)) fun bp =>
 Q01 bp ((a0.add 1).add 1) ∧
 thenW (bp.setCell ((a0.add 1).add 1) (.int .i64 ax)) fun bo =>
 Q01 bo ((a0.add 1).add 2) ∧
 thenW (bo.setCell ((a0.add 1).add 2) (.int .u64 b2)) fun bh =>
 Q01 bh ((a0.add 1).add 3) ∧
 thenW (bh.setCell ((a0.add 1).add 3) (.int .i64 b8)) fun bl =>
 Q01 bl ((a0.add 1).add 4) ∧
 thenW (bl.setCell ((a0.add 1).add 4) (.int .i64 b9)) fun bn =>
 Q01 bn ((a0.add 1).add 5) ∧
 thenW (bn.setCell ((a0.add 1).add 5) (.int .i64 aq)) fun bk =>
 Q01 bk ((a0.add 1).add 6) ∧
 thenW (bk.setCell ((a0.add 1).add 6) (.slice ap an ao)) fun bi =>
 Q01 bi ((a0.add 1).add 7) ∧
 thenW (bi.setCell ((a0.add 1).add 7) (.int .u64 bb)) fun bx =>
 Q00.J14 bu br bs bq bt a0 bd R bx)) else (
 Q00.J14 bu br bs bq bt a0 bd R bj)

abbrev Q00.J17 (aa : Option Addr) (a4 a5 a8 a7 a9 a6 : Nat) (a3 ab : Addr) (R : RW) (a0 : World) : Prop :=
 ∃ (a1 : Int), a0.cell? (a3.add 0) = some (.int .i64 a1) ∧
 bif a1 == 1 then (
 Q00.J15 aa a4 a5 a8 a7 a9 a6 a3 ab R a0) else (
 ∃ (a2 : Int), a0.cell? (a3.add 0) = some (.int .i64 a2) ∧
 Q00.J16 (a2 == 4) aa a4 a5 a8 a7 a9 a6 a3 ab R a0)

abbrev Q00.J18 (b2 : Option Addr) (b1 b4 b6 az b0 b3 : Nat) (b5 ay au : Addr) (R : RW) (ax : World) : Prop :=
 Calls Try.prog 46 #[.pointer (some ay)] ax fun aw av => ∃ (an : Int), aw = .returned (.int .i64 an) ∧
 bif an != 0 then (
 putsK av au [.int .i64 0, .int .i64 0, .int .i64 0, .int .u64 0, .int .i64 0, .int .i64 0, .int .i64 0, .slice none 0 0, .int .u64 0, .int .i64 0, .int .i64 0, .int .u64 0, .int .i64 0, .int .i64 0, .int .i64 0, .slice none 0 0, .int .u64 0, .int .i64 0, .slice none 0 0, .int .u64 0] 0 fun ar =>
 ∃ (aj a0 a3 ad ae ag a6 : Int) (a4 : Option Addr) (ab a9 : Nat) (ah a1 a2 ac ai af a7 : Int) (a8 : Option Addr) (aa a5 : Nat) (ak al : Int) (ap : Option Addr) (ao aq : Nat) (am : Int), cellsAt ar au [.int .i64 aj, .int .i64 a0, .int .i64 a3, .int .u64 ad, .int .i64 ae, .int .i64 ag, .int .i64 a6, .slice a4 ab a9, .int .u64 ah, .int .i64 a1, .int .i64 a2, .int .u64 ac, .int .i64 ai, .int .i64 af, .int .i64 a7, .slice a8 aa a5, .int .u64 ak, .int .i64 al, .slice ap ao aq, .int .u64 am] 0 ∧
 R (.tuple #[.agg #[.int .i64 aj, .int .i64 a0, .int .i64 a3, .int .u64 ad, .int .i64 ae, .int .i64 ag, .int .i64 a6, .slice a4 ab a9, .int .u64 ah, .int .i64 a1, .int .i64 a2, .int .u64 ac, .int .i64 ai, .int .i64 af, .int .i64 a7, .slice a8 aa a5, .int .u64 ak, .int .i64 al, .slice ap ao aq, .int .u64 am], .int .i64 an]) ar) else (
 Q00.J17 b2 b1 b4 b6 az b0 b3 b5 au R av)

abbrev Q00.J19 (d5 cw : Addr) (R : RW) (d3 : World) : Prop :=
 ∃ (c5 aq bs bw cb cc bt : Int) (bm : Option Addr) (bk b0 : Nat) (cj ap bp bx cm ci bo : Int) (bf : Option Addr) (bb bd : Nat) (c9 cs : Int) (cx : Option Addr) (d0 d1 : Nat) (cr : Int), cellsAt d3 d5 [.int .i64 c5, .int .i64 aq, .int .i64 bs, .int .u64 bw, .int .i64 cb, .int .i64 cc, .int .i64 bt, .slice bm bk b0, .int .u64 cj, .int .i64 ap, .int .i64 bp, .int .u64 bx, .int .i64 cm, .int .i64 ci, .int .i64 bo, .slice bf bb bd, .int .u64 c9, .int .i64 cs, .slice cx d0 d1, .int .u64 cr] 0 ∧
 Calls Try.prog 19 #[.agg #[.int .i64 c5, .int .i64 aq, .int .i64 bs, .int .u64 bw, .int .i64 cb, .int .i64 cc, .int .i64 bt, .slice bm bk b0, .int .u64 cj, .int .i64 ap, .int .i64 bp, .int .u64 bx, .int .i64 cm, .int .i64 ci, .int .i64 bo, .slice bf bb bd, .int .u64 c9, .int .i64 cs, .slice cx d0 d1, .int .u64 cr]] d3 fun d6 cu => ∃ (cg : Bool), d6 = .returned (.bool cg) ∧
 bif !cg then (
 putsK cu cw [.int .i64 0, .int .i64 0, .int .i64 0, .int .u64 0, .int .i64 0, .int .i64 0, .int .i64 0, .slice none 0 0, .int .u64 0, .int .i64 0, .int .i64 0, .int .u64 0, .int .i64 0, .int .i64 0, .int .i64 0, .slice none 0 0, .int .u64 0, .int .i64 0, .slice none 0 0, .int .u64 0] 0 fun d2 =>
 ∃ (b2 a1 af ar be b9 al : Int) (aj : Option Addr) (ad a6 : Nat) (bq a2 aa au bn b8 a5 : Int) (am : Option Addr) (a8 ak : Nat) (b5 c4 : Int) (ca : Option Addr) (co ce : Nat) (c0 : Int), cellsAt d2 cw [.int .i64 b2, .int .i64 a1, .int .i64 af, .int .u64 ar, .int .i64 be, .int .i64 b9, .int .i64 al, .slice aj ad a6, .int .u64 bq, .int .i64 a2, .int .i64 aa, .int .u64 au, .int .i64 bn, .int .i64 b8, .int .i64 a5, .slice am a8 ak, .int .u64 b5, .int .i64 c4, .slice ca co ce, .int .u64 c0] 0 ∧
 R (.tuple #[.agg #[.int .i64 b2, .int .i64 a1, .int .i64 af, .int .u64 ar, .int .i64 be, .int .i64 b9, .int .i64 al, .slice aj ad a6, .int .u64 bq, .int .i64 a2, .int .i64 aa, .int .u64 au, .int .i64 bn, .int .i64 b8, .int .i64 a5, .slice am a8 ak, .int .u64 b5, .int .i64 c4, .slice ca co ce, .int .u64 c0], .int .i64 4]) d2) else (
 ∃ (cf av ba c3 cd cp bu : Int) (bv : Option Addr) (bl b3 : Nat) (ch ao b4 bz c6 cn b6 : Int) (br : Option Addr) (bg bc : Nat) (cl ct : Int) (cy : Option Addr) (cv cz : Nat) (cq : Int), cellsAt cu d5 [.int .i64 cf, .int .i64 av, .int .i64 ba, .int .u64 c3, .int .i64 cd, .int .i64 cp, .int .i64 bu, .slice bv bl b3, .int .u64 ch, .int .i64 ao, .int .i64 b4, .int .u64 bz, .int .i64 c6, .int .i64 cn, .int .i64 b6, .slice br bg bc, .int .u64 cl, .int .i64 ct, .slice cy cv cz, .int .u64 cq] 0 ∧
 putsK cu cw [.int .i64 cf, .int .i64 av, .int .i64 ba, .int .u64 c3, .int .i64 cd, .int .i64 cp, .int .i64 bu, .slice bv bl b3, .int .u64 ch, .int .i64 ao, .int .i64 b4, .int .u64 bz, .int .i64 c6, .int .i64 cn, .int .i64 b6, .slice br bg bc, .int .u64 cl, .int .i64 ct, .slice cy cv cz, .int .u64 cq] 0 fun d4 =>
 ∃ (bi a3 ac ax bj bh an : Int) (ab : Option Addr) (ai a7 : Nat) (ay a0 ag aw az b1 a9 : Int) (a4 : Option Addr) (ah ae : Nat) (b7 c1 : Int) (ck : Option Addr) (c7 c8 : Nat) (c2 : Int), cellsAt d4 cw [.int .i64 bi, .int .i64 a3, .int .i64 ac, .int .u64 ax, .int .i64 bj, .int .i64 bh, .int .i64 an, .slice ab ai a7, .int .u64 ay, .int .i64 a0, .int .i64 ag, .int .u64 aw, .int .i64 az, .int .i64 b1, .int .i64 a9, .slice a4 ah ae, .int .u64 b7, .int .i64 c1, .slice ck c7 c8, .int .u64 c2] 0 ∧
 R (.tuple #[.agg #[.int .i64 bi, .int .i64 a3, .int .i64 ac, .int .u64 ax, .int .i64 bj, .int .i64 bh, .int .i64 an, .slice ab ai a7, .int .u64 ay, .int .i64 a0, .int .i64 ag, .int .u64 aw, .int .i64 az, .int .i64 b1, .int .i64 a9, .slice a4 ah ae, .int .u64 b7, .int .i64 c1, .slice ck c7 c8, .int .u64 c2], .int .i64 0]) d4)

abbrev Q00.J20 (b4 b3 : Nat) (ay ax : Addr) (R : RW) (b0 : World) : Prop :=
 Calls Try.prog 48 #[.slice none b4 b3] b0 fun b1 aw => ∃ (ap : Option Addr) (ar aq : Nat) (al : Int), b1 = .returned (.tuple #[.slice ap ar aq, .int .i64 al]) ∧
 bif al != 0 then (
 putsK aw ax [.int .i64 0, .int .i64 0, .int .i64 0, .int .u64 0, .int .i64 0, .int .i64 0, .int .i64 0, .slice none 0 0, .int .u64 0, .int .i64 0, .int .i64 0, .int .u64 0, .int .i64 0, .int .i64 0, .int .i64 0, .slice none 0 0, .int .u64 0, .int .i64 0, .slice none 0 0, .int .u64 0] 0 fun az =>
 ∃ (ae a1 a3 ad af ag a4 : Int) (a5 : Option Addr) (aa a9 : Nat) (ah a0 a8 ac ak ai ab : Int) (a7 : Option Addr) (a6 a2 : Nat) (aj an : Int) (au : Option Addr) (av ao : Nat) (am : Int), cellsAt az ax [.int .i64 ae, .int .i64 a1, .int .i64 a3, .int .u64 ad, .int .i64 af, .int .i64 ag, .int .i64 a4, .slice a5 aa a9, .int .u64 ah, .int .i64 a0, .int .i64 a8, .int .u64 ac, .int .i64 ak, .int .i64 ai, .int .i64 ab, .slice a7 a6 a2, .int .u64 aj, .int .i64 an, .slice au av ao, .int .u64 am] 0 ∧
 R (.tuple #[.agg #[.int .i64 ae, .int .i64 a1, .int .i64 a3, .int .u64 ad, .int .i64 af, .int .i64 ag, .int .i64 a4, .slice a5 aa a9, .int .u64 ah, .int .i64 a0, .int .i64 a8, .int .u64 ac, .int .i64 ak, .int .i64 ai, .int .i64 ab, .slice a7 a6 a2, .int .u64 aj, .int .i64 an, .slice au av ao, .int .u64 am], .int .i64 al]) az) else (
 Q01 aw ((ay.add 18).add 0) ∧
 thenW (aw.setCell ((ay.add 18).add 0) (.slice ap ar aq)) fun b2 =>
 Q00.J19 ay ax R b2)

abbrev Q00.J21 (b5 : Bool) (b4 b3 : Nat) (ax ay : Addr) (R : RW) (az : World) : Prop :=
 bif b5 then (
 Calls Try.prog 48 #[.slice none b4 b3] az fun b1 aw => ∃ (av : Option Addr) (aq ar : Nat) (an : Int), b1 = .returned (.tuple #[.slice av aq ar, .int .i64 an]) ∧
 bif an != 0 then (
 putsK aw ay [.int .i64 0, .int .i64 0, .int .i64 0, .int .u64 0, .int .i64 0, .int .i64 0, .int .i64 0, .slice none 0 0, .int .u64 0, .int .i64 0, .int .i64 0, .int .u64 0, .int .i64 0, .int .i64 0, .int .i64 0, .slice none 0 0, .int .u64 0, .int .i64 0, .slice none 0 0, .int .u64 0] 0 fun b0 =>
 ∃ (ae a0 a3 ac ai ag aa : Int) (a9 : Option Addr) (a6 a7 : Nat) (ak a1 a4 ad af aj a2 : Int) (a8 : Option Addr) (ab a5 : Nat) (ah al : Int) (ao : Option Addr) (ap au : Nat) (am : Int), cellsAt b0 ay [.int .i64 ae, .int .i64 a0, .int .i64 a3, .int .u64 ac, .int .i64 ai, .int .i64 ag, .int .i64 aa, .slice a9 a6 a7, .int .u64 ak, .int .i64 a1, .int .i64 a4, .int .u64 ad, .int .i64 af, .int .i64 aj, .int .i64 a2, .slice a8 ab a5, .int .u64 ah, .int .i64 al, .slice ao ap au, .int .u64 am] 0 ∧
 R (.tuple #[.agg #[.int .i64 ae, .int .i64 a0, .int .i64 a3, .int .u64 ac, .int .i64 ai, .int .i64 ag, .int .i64 aa, .slice a9 a6 a7, .int .u64 ak, .int .i64 a1, .int .i64 a4, .int .u64 ad, .int .i64 af, .int .i64 aj, .int .i64 a2, .slice a8 ab a5, .int .u64 ah, .int .i64 al, .slice ao ap au, .int .u64 am], .int .i64 an]) b0) else (
 Q01 aw ((ax.add 18).add 0) ∧
 thenW (aw.setCell ((ax.add 18).add 0) (.slice av aq ar)) fun b2 =>
 Q00.J19 ax ay R b2)) else (
 Q00.J19 ax ay R az)

abbrev Q00.J22 (a5 a4 : Nat) (a3 a6 : Addr) (R : RW) (a0 : World) : Prop :=
 ∃ (a1 : Int), a0.cell? (a3.add 0) = some (.int .i64 a1) ∧
 bif a1 == 2 then (
 Q00.J20 a5 a4 a3 a6 R a0) else (
 ∃ (a2 : Int), a0.cell? (a3.add 0) = some (.int .i64 a2) ∧
 Q00.J21 (a2 == 3) a5 a4 a3 a6 R a0)

abbrev Q00.J23 (bz : Option Addr) (bw bx br bs : Nat) (a0 bh : Addr) (R : RW) (be : World) : Prop :=
 ∃ (b9 : Int), be.cell? (a0.add 0) = some (.int .i64 b9) ∧
 bif b9 == 4 then (
 Calls Try.prog 47 #[.slice bz bw bx] be fun bt bd => ∃ (ax az bc bi bf b4 : Int) (b5 : Option Addr) (b1 b3 : Nat) (bg an : Int), bt = .returned (.tuple #[.agg #[.int .i64 ax, .int .i64 az, .int .u64 bc, .int .i64 bi, .int .i64 bf, .int .i64 b4, .slice b5 b1 b3, .int .u64 bg], .int .i64 an]) ∧
 thenW (bd.alloc (.cells #[.int .i64 0, .int .i64 0, .int .u64 0, .int .i64 0, .int .i64 0, .int .i64 0, .slice none 0 0, .int .u64 0] 27)) fun bv =>
 putsK bv (blk bd.heap.size) [.int .i64 ax, .int .i64 az, .int .u64 bc, .int .i64 bi, .int .i64 bf, .int .i64 b4, .slice b5 b1 b3, .int .u64 bg] 0 fun b7 =>
 bif an != 0 then (
 putsK b7 bh [.int .i64 0, .int .i64 0, .int .i64 0, .int .u64 0, .int .i64 0, .int .i64 0, .int .i64 0, .slice none 0 0, .int .u64 0, .int .i64 0, .int .i64 0, .int .u64 0, .int .i64 0, .int .i64 0, .int .i64 0, .slice none 0 0, .int .u64 0, .int .i64 0, .slice none 0 0, .int .u64 0] 0 fun bo =>
 ∃ (ak a1 a9 ae ai al ab : Int) (a7 : Option Addr) (a5 a8 : Nat) (ah a2 a6 ad ag aj a3 : Int) (aa : Option Addr) (a4 ac : Nat) (af ao : Int) (b0 : Option Addr) (ay b2 : Nat) (ar : Int), cellsAt bo bh [.int .i64 ak, .int .i64 a1, .int .i64 a9, .int .u64 ae, .int .i64 ai, .int .i64 al, .int .i64 ab, .slice a7 a5 a8, .int .u64 ah, .int .i64 a2, .int .i64 a6, .int .u64 ad, .int .i64 ag, .int .i64 aj, .int .i64 a3, .slice aa a4 ac, .int .u64 af, .int .i64 ao, .slice b0 ay b2, .int .u64 ar] 0 ∧
 R (.tuple #[.agg #[.int .i64 ak, .int .i64 a1, .int .i64 a9, .int .u64 ae, .int .i64 ai, .int .i64 al, .int .i64 ab, .slice a7 a5 a8, .int .u64 ah, .int .i64 a2, .int .i64 a6, .int .u64 ad, .int .i64 ag, .int .i64 aj, .int .i64 a3, .slice aa a4 ac, .int .u64 af, .int .i64 ao, .slice b0 ay b2, .int .u64 ar], .int .i64 an]) bo) else (
 ∃ (am aq b6 ba b8 aw : Int) (ap : Option Addr) (au av : Nat) (bb : Int), cellsAt b7 (blk bd.heap.size) [.int .i64 am, .int .i64 aq, .int .u64 b6, .int .i64 ba, .int .i64 b8, .int .i64 aw, .slice ap au av, .int .u64 bb] 0 ∧
 Q01 b7 ((a0.add 9).add 0) ∧
 thenW (b7.setCell ((a0.add 9).add 0) (.int .i64 am)) fun bn =>
 Q01 bn ((a0.add 9).add 1) ∧
 thenW (bn.setCell ((a0.add 9).add 1) (.int .i64 aq)) fun bm =>
 Q01 bm ((a0.add 9).add 2) ∧
 thenW (bm.setCell ((a0.add 9).add 2) (.int .u64 b6)) fun bp =>
 Q01 bp ((a0.add 9).add 3) ∧
 thenW (bp.setCell ((a0.add 9).add 3) (.int .i64 ba)) fun bl =>
 Q01 bl ((a0.add 9).add 4) ∧
 thenW (bl.setCell ((a0.add 9).add 4) (.int .i64 b8)) fun bj =>
 Q01 bj ((a0.add 9).add 5) ∧
 thenW (bj.setCell ((a0.add 9).add 5) (.int .i64 aw)) fun bk =>
 Q01 bk ((a0.add 9).add 6) ∧
 thenW (bk.setCell ((a0.add 9).add 6) (.slice ap au av)) fun bq =>
 Q01 bq ((a0.add 9).add 7) ∧
 thenW (bq.setCell ((a0.add 9).add 7) (.int .u64 bb)) fun bu =>
 Q00.J22 br bs a0 bh R bu)) else (
 Q00.J22 br bs a0 bh R be)

abbrev Q00.J24 (bu : Option Addr) (bw c1 : Nat) (bz : Option Addr) (bv c0 bx bt : Nat) (a0 bh : Addr) (R : RW) (bp : World) : Prop :=
 Calls Try.prog 47 #[.slice bz bv c0] bp fun bs bc => ∃ (ax b3 b8 bd be b1 : Int) (b0 : Option Addr) (b6 b5 : Nat) (bf au : Int), bs = .returned (.tuple #[.agg #[.int .i64 ax, .int .i64 b3, .int .u64 b8, .int .i64 bd, .int .i64 be, .int .i64 b1, .slice b0 b6 b5, .int .u64 bf], .int .i64 au]) ∧
 thenW (bc.alloc (.cells #[.int .i64 0, .int .i64 0, .int .u64 0, .int .i64 0, .int .i64 0, .int .i64 0, .slice none 0 0, .int .u64 0] 27)) fun br =>
 putsK br (blk bc.heap.size) [.int .i64 ax, .int .i64 b3, .int .u64 b8, .int .i64 bd, .int .i64 be, .int .i64 b1, .slice b0 b6 b5, .int .u64 bf] 0 fun b7 =>
 bif au != 0 then (
 putsK b7 bh [.int .i64 0, .int .i64 0, .int .i64 0, .int .u64 0, .int .i64 0, .int .i64 0, .int .i64 0, .slice none 0 0, .int .u64 0, .int .i64 0, .int .i64 0, .int .u64 0, .int .i64 0, .int .i64 0, .int .i64 0, .slice none 0 0, .int .u64 0, .int .i64 0, .slice none 0 0, .int .u64 0] 0 fun bm =>
 ∃ (af a2 a7 ae ag ah a5 : Int) (a8 : Option Addr) (aa ac : Nat) (al a1 a4 ad aj ai a6 : Int) (ab : Option Addr) (a9 a3 : Nat) (am av : Int) (b2 : Option Addr) (b4 ay : Nat) (aq : Int), cellsAt bm bh [.int .i64 af, .int .i64 a2, .int .i64 a7, .int .u64 ae, .int .i64 ag, .int .i64 ah, .int .i64 a5, .slice a8 aa ac, .int .u64 al, .int .i64 a1, .int .i64 a4, .int .u64 ad, .int .i64 aj, .int .i64 ai, .int .i64 a6, .slice ab a9 a3, .int .u64 am, .int .i64 av, .slice b2 b4 ay, .int .u64 aq] 0 ∧
 R (.tuple #[.agg #[.int .i64 af, .int .i64 a2, .int .i64 a7, .int .u64 ae, .int .i64 ag, .int .i64 ah, .int .i64 a5, .slice a8 aa ac, .int .u64 al, .int .i64 a1, .int .i64 a4, .int .u64 ad, .int .i64 aj, .int .i64 ai, .int .i64 a6, .slice ab a9 a3, .int .u64 am, .int .i64 av, .slice b2 b4 ay, .int .u64 aq], .int .i64 au]) bm) else (
 ∃ (ak aw az bb b9 ap : Int) (ar : Option Addr) (an ao : Nat) (ba : Int), cellsAt b7 (blk bc.heap.size) [.int .i64 ak, .int .i64 aw, .int .u64 az, .int .i64 bb, .int .i64 b9, .int .i64 ap, .slice ar an ao, .int .u64 ba] 0 ∧
 Q01 b7 ((a0.add 1).add 0) ∧
 thenW (b7.setCell ((a0.add 1).add 0) (.int .i64 ak)) fun bg =>
 Q01 bg ((a0.add 1).add 1) ∧
 thenW (bg.setCell ((a0.add 1).add 1) (.int .i64 aw)) fun bk =>
 Q01 bk ((a0.add 1).add 2) ∧
 thenW (bk.setCell ((a0.add 1).add 2) (.int .u64 az)) fun bl =>
 Q01 bl ((a0.add 1).add 3) ∧
 thenW (bl.setCell ((a0.add 1).add 3) (.int .i64 bb)) fun bj =>
 Q01 bj ((a0.add 1).add 4) ∧
 thenW (bj.setCell ((a0.add 1).add 4) (.int .i64 b9)) fun bo =>
 Q01 bo ((a0.add 1).add 5) ∧
 thenW (bo.setCell ((a0.add 1).add 5) (.int .i64 ap)) fun bn =>
 Q01 bn ((a0.add 1).add 6) ∧
 thenW (bn.setCell ((a0.add 1).add 6) (.slice ar an ao)) fun bi =>
 Q01 bi ((a0.add 1).add 7) ∧
 thenW (bi.setCell ((a0.add 1).add 7) (.int .u64 ba)) fun bq =>
 Q00.J23 bu bw c1 bx bt a0 bh R bq)

abbrev Q00.J25 (bz : Bool) (bs : Option Addr) (bq br : Nat) (c0 : Option Addr) (c1 c2 bu bt : Nat) (a0 bd : Addr) (R : RW) (bj : World) : Prop :=
 bif bz then (
 Calls Try.prog 47 #[.slice c0 c1 c2] bj fun bw bc => ∃ (ao b5 b9 be bg b2 : Int) (b4 : Option Addr) (ay b0 : Nat) (bf au : Int), bw = .returned (.tuple #[.agg #[.int .i64 ao, .int .i64 b5, .int .u64 b9, .int .i64 be, .int .i64 bg, .int .i64 b2, .slice b4 ay b0, .int .u64 bf], .int .i64 au]) ∧
 thenW (bc.alloc (.cells #[.int .i64 0, .int .i64 0, .int .u64 0, .int .i64 0, .int .i64 0, .int .i64 0, .slice none 0 0, .int .u64 0] 27)) fun bv =>
 putsK bv (blk bc.heap.size) [.int .i64 ao, .int .i64 b5, .int .u64 b9, .int .i64 be, .int .i64 bg, .int .i64 b2, .slice b4 ay b0, .int .u64 bf] 0 fun b7 =>
 bif au != 0 then (
 putsK b7 bd [.int .i64 0, .int .i64 0, .int .i64 0, .int .u64 0, .int .i64 0, .int .i64 0, .int .i64 0, .slice none 0 0, .int .u64 0, .int .i64 0, .int .i64 0, .int .u64 0, .int .i64 0, .int .i64 0, .int .i64 0, .slice none 0 0, .int .u64 0, .int .i64 0, .slice none 0 0, .int .u64 0] 0 fun bh =>
 ∃ (am a1 a3 ae ai ak a7 : Int) (ab : Option Addr) (aa ac : Nat) (aj a2 a6 ad al af a4 : Int) (a9 : Option Addr) (a5 a8 : Nat) (ag ax : Int) (az : Option Addr) (b3 b6 : Nat) (an : Int), cellsAt bh bd [.int .i64 am, .int .i64 a1, .int .i64 a3, .int .u64 ae, .int .i64 ai, .int .i64 ak, .int .i64 a7, .slice ab aa ac, .int .u64 aj, .int .i64 a2, .int .i64 a6, .int .u64 ad, .int .i64 al, .int .i64 af, .int .i64 a4, .slice a9 a5 a8, .int .u64 ag, .int .i64 ax, .slice az b3 b6, .int .u64 an] 0 ∧
 R (.tuple #[.agg #[.int .i64 am, .int .i64 a1, .int .i64 a3, .int .u64 ae, .int .i64 ai, .int .i64 ak, .int .i64 a7, .slice ab aa ac, .int .u64 aj, .int .i64 a2, .int .i64 a6, .int .u64 ad, .int .i64 al, .int .i64 af, .int .i64 a4, .slice a9 a5 a8, .int .u64 ag, .int .i64 ax, .slice az b3 b6, .int .u64 an], .int .i64 au]) bh) else (
 ∃ (ah ap b1 b8 bb ar : Int) (aq : Option Addr) (av aw : Nat) (ba : Int), cellsAt b7 (blk bc.heap.size) [.int .i64 ah, .int .i64 ap, .int .u64 b1, .int .i64 b8, .int .i64 bb, .int .i64 ar, .slice aq av aw, .int .u64 ba] 0 ∧
 Q01 b7 ((a0.add 1).add 0) ∧
 thenW (b7.setCell ((a0.add 1).add 0) (.int .i64 ah)) fun bo =>
 Q01 bo ((a0.add 1).add 1) ∧
 thenW (bo.setCell ((a0.add 1).add 1) (.int .i64 ap)) fun bk =>
 Q01 bk ((a0.add 1).add 2) ∧
 thenW (bk.setCell ((a0.add 1).add 2) (.int .u64 b1)) fun bn =>
 Q01 bn ((a0.add 1).add 3) ∧
 thenW (bn.setCell ((a0.add 1).add 3) (.int .i64 b8)) fun bp =>
 Q01 bp ((a0.add 1).add 4) ∧
 thenW (bp.setCell ((a0.add 1).add 4) (.int .i64 bb)) fun bi =>
 Q01 bi ((a0.add 1).add 5) ∧
 thenW (bi.setCell ((a0.add 1).add 5) (.int .i64 ar)) fun bm =>
 Q01 bm ((a0.add 1).add 6) ∧
 thenW (bm.setCell ((a0.add 1).add 6) (.slice aq av aw)) fun bl =>
 Q01 bl ((a0.add 1).add 7) ∧
 thenW (bl.setCell ((a0.add 1).add 7) (.int .u64 ba)) fun bx =>
 Q00.J23 bs bq br bu bt a0 bd R bx)) else (
 Q00.J23 bs bq br bu bt a0 bd R bj)

abbrev Q00.J26 (a6 : Option Addr) (a5 a8 : Nat) (ac : Option Addr) (ab a9 a7 aa : Nat) (a3 a4 : Addr) (R : RW) (a0 : World) : Prop :=
 ∃ (a1 : Int), a0.cell? (a3.add 0) = some (.int .i64 a1) ∧
 bif a1 == 1 then (
 Q00.J24 a6 a5 a8 ac ab a9 a7 aa a3 a4 R a0) else (
 ∃ (a2 : Int), a0.cell? (a3.add 0) = some (.int .i64 a2) ∧
 Q00.J25 (a2 == 4) a6 a5 a8 ac ab a9 a7 aa a3 a4 R a0)

abbrev Q00.J27 (b5 : Option Addr) (b0 b2 : Nat) (az : Option Addr) (b7 b3 ay b6 : Nat) (b1 b4 av : Addr) (R : RW) (ax : World) : Prop :=
 Calls Try.prog 46 #[.pointer (some b4)] ax fun aw ar => ∃ (an : Int), aw = .returned (.int .i64 an) ∧
 bif an != 0 then (
 putsK ar av [.int .i64 0, .int .i64 0, .int .i64 0, .int .u64 0, .int .i64 0, .int .i64 0, .int .i64 0, .slice none 0 0, .int .u64 0, .int .i64 0, .int .i64 0, .int .u64 0, .int .i64 0, .int .i64 0, .int .i64 0, .slice none 0 0, .int .u64 0, .int .i64 0, .slice none 0 0, .int .u64 0] 0 fun au =>
 ∃ (aj a0 a6 ac af ah a2 : Int) (aa : Option Addr) (a9 a4 : Nat) (ai a1 a7 ad ag ae ab : Int) (a5 : Option Addr) (a3 a8 : Nat) (ak am : Int) (ap : Option Addr) (ao aq : Nat) (al : Int), cellsAt au av [.int .i64 aj, .int .i64 a0, .int .i64 a6, .int .u64 ac, .int .i64 af, .int .i64 ah, .int .i64 a2, .slice aa a9 a4, .int .u64 ai, .int .i64 a1, .int .i64 a7, .int .u64 ad, .int .i64 ag, .int .i64 ae, .int .i64 ab, .slice a5 a3 a8, .int .u64 ak, .int .i64 am, .slice ap ao aq, .int .u64 al] 0 ∧
 R (.tuple #[.agg #[.int .i64 aj, .int .i64 a0, .int .i64 a6, .int .u64 ac, .int .i64 af, .int .i64 ah, .int .i64 a2, .slice aa a9 a4, .int .u64 ai, .int .i64 a1, .int .i64 a7, .int .u64 ad, .int .i64 ag, .int .i64 ae, .int .i64 ab, .slice a5 a3 a8, .int .u64 ak, .int .i64 am, .slice ap ao aq, .int .u64 al], .int .i64 an]) au) else (
 Q00.J26 b5 b0 b2 az b7 b3 ay b6 b1 av R ar)

abbrev Q00.J28 (d5 cv : Addr) (R : RW) (d4 : World) : Prop :=
 ∃ (ch aq b7 bz ce cm bl : Int) (bn : Option Addr) (b5 b9 : Nat) (cp au bd c1 c9 ci b6 : Int) (bp : Option Addr) (b1 br : Nat) (cn cq : Int) (cw : Option Addr) (d1 cz : Nat) (ct : Int), cellsAt d4 d5 [.int .i64 ch, .int .i64 aq, .int .i64 b7, .int .u64 bz, .int .i64 ce, .int .i64 cm, .int .i64 bl, .slice bn b5 b9, .int .u64 cp, .int .i64 au, .int .i64 bd, .int .u64 c1, .int .i64 c9, .int .i64 ci, .int .i64 b6, .slice bp b1 br, .int .u64 cn, .int .i64 cq, .slice cw d1 cz, .int .u64 ct] 0 ∧
 Calls Try.prog 19 #[.agg #[.int .i64 ch, .int .i64 aq, .int .i64 b7, .int .u64 bz, .int .i64 ce, .int .i64 cm, .int .i64 bl, .slice bn b5 b9, .int .u64 cp, .int .i64 au, .int .i64 bd, .int .u64 c1, .int .i64 c9, .int .i64 ci, .int .i64 b6, .slice bp b1 br, .int .u64 cn, .int .i64 cq, .slice cw d1 cz, .int .u64 ct]] d4 fun d6 cu => ∃ (cb : Bool), d6 = .returned (.bool cb) ∧
 bif !cb then (
 putsK cu cv [.int .i64 0, .int .i64 0, .int .i64 0, .int .u64 0, .int .i64 0, .int .i64 0, .int .i64 0, .slice none 0 0, .int .u64 0, .int .i64 0, .int .i64 0, .int .u64 0, .int .i64 0, .int .i64 0, .int .i64 0, .slice none 0 0, .int .u64 0, .int .i64 0, .slice none 0 0, .int .u64 0] 0 fun d3 =>
 ∃ (bf a2 a5 ao b2 be ah : Int) (ac : Option Addr) (al ab : Nat) (bq a3 am aw az bh an : Int) (aa : Option Addr) (a7 ae : Nat) (b4 c4 : Int) (cf : Option Addr) (co cl : Nat) (bw : Int), cellsAt d3 cv [.int .i64 bf, .int .i64 a2, .int .i64 a5, .int .u64 ao, .int .i64 b2, .int .i64 be, .int .i64 ah, .slice ac al ab, .int .u64 bq, .int .i64 a3, .int .i64 am, .int .u64 aw, .int .i64 az, .int .i64 bh, .int .i64 an, .slice aa a7 ae, .int .u64 b4, .int .i64 c4, .slice cf co cl, .int .u64 bw] 0 ∧
 R (.tuple #[.agg #[.int .i64 bf, .int .i64 a2, .int .i64 a5, .int .u64 ao, .int .i64 b2, .int .i64 be, .int .i64 ah, .slice ac al ab, .int .u64 bq, .int .i64 a3, .int .i64 am, .int .u64 aw, .int .i64 az, .int .i64 bh, .int .i64 an, .slice aa a7 ae, .int .u64 b4, .int .i64 c4, .slice cf co cl, .int .u64 bw], .int .i64 4]) d3) else (
 ∃ (ck ap bt bx cg c8 bb : Int) (bk : Option Addr) (bj bo : Nat) (c5 ar bc c3 cd c7 b3 : Int) (b8 : Option Addr) (b0 ay : Nat) (cj cs : Int) (cy : Option Addr) (cx d0 : Nat) (cr : Int), cellsAt cu d5 [.int .i64 ck, .int .i64 ap, .int .i64 bt, .int .u64 bx, .int .i64 cg, .int .i64 c8, .int .i64 bb, .slice bk bj bo, .int .u64 c5, .int .i64 ar, .int .i64 bc, .int .u64 c3, .int .i64 cd, .int .i64 c7, .int .i64 b3, .slice b8 b0 ay, .int .u64 cj, .int .i64 cs, .slice cy cx d0, .int .u64 cr] 0 ∧
 putsK cu cv [.int .i64 ck, .int .i64 ap, .int .i64 bt, .int .u64 bx, .int .i64 cg, .int .i64 c8, .int .i64 bb, .slice bk bj bo, .int .u64 c5, .int .i64 ar, .int .i64 bc, .int .u64 c3, .int .i64 cd, .int .i64 c7, .int .i64 b3, .slice b8 b0 ay, .int .u64 cj, .int .i64 cs, .slice cy cx d0, .int .u64 cr] 0 fun d2 =>
 ∃ (bg a1 ai ax bs bv ak : Int) (aj : Option Addr) (ad af : Nat) (bi a0 a6 av bm bu ag : Int) (a8 : Option Addr) (a4 a9 : Nat) (ba c2 : Int) (ca : Option Addr) (cc c6 : Nat) (c0 : Int), cellsAt d2 cv [.int .i64 bg, .int .i64 a1, .int .i64 ai, .int .u64 ax, .int .i64 bs, .int .i64 bv, .int .i64 ak, .slice aj ad af, .int .u64 bi, .int .i64 a0, .int .i64 a6, .int .u64 av, .int .i64 bm, .int .i64 bu, .int .i64 ag, .slice a8 a4 a9, .int .u64 ba, .int .i64 c2, .slice ca cc c6, .int .u64 c0] 0 ∧
 R (.tuple #[.agg #[.int .i64 bg, .int .i64 a1, .int .i64 ai, .int .u64 ax, .int .i64 bs, .int .i64 bv, .int .i64 ak, .slice aj ad af, .int .u64 bi, .int .i64 a0, .int .i64 a6, .int .u64 av, .int .i64 bm, .int .i64 bu, .int .i64 ag, .slice a8 a4 a9, .int .u64 ba, .int .i64 c2, .slice ca cc c6, .int .u64 c0], .int .i64 0]) d2)

abbrev Q00.J29 (b3 b4 : Nat) (ax az : Addr) (R : RW) (b2 : World) : Prop :=
 Calls Try.prog 48 #[.slice none b3 b4] b2 fun b1 aw => ∃ (ap : Option Addr) (ar aq : Nat) (an : Int), b1 = .returned (.tuple #[.slice ap ar aq, .int .i64 an]) ∧
 bif an != 0 then (
 putsK aw az [.int .i64 0, .int .i64 0, .int .i64 0, .int .u64 0, .int .i64 0, .int .i64 0, .int .i64 0, .slice none 0 0, .int .u64 0, .int .i64 0, .int .i64 0, .int .u64 0, .int .i64 0, .int .i64 0, .int .i64 0, .slice none 0 0, .int .u64 0, .int .i64 0, .slice none 0 0, .int .u64 0] 0 fun ay =>
 ∃ (ak a0 a9 ad ah af a5 : Int) (a3 : Option Addr) (a6 aa : Nat) (ag a1 ab ac ai aj a8 : Int) (a4 : Option Addr) (a7 a2 : Nat) (ae am : Int) (ao : Option Addr) (au av : Nat) (al : Int), cellsAt ay az [.int .i64 ak, .int .i64 a0, .int .i64 a9, .int .u64 ad, .int .i64 ah, .int .i64 af, .int .i64 a5, .slice a3 a6 aa, .int .u64 ag, .int .i64 a1, .int .i64 ab, .int .u64 ac, .int .i64 ai, .int .i64 aj, .int .i64 a8, .slice a4 a7 a2, .int .u64 ae, .int .i64 am, .slice ao au av, .int .u64 al] 0 ∧
 R (.tuple #[.agg #[.int .i64 ak, .int .i64 a0, .int .i64 a9, .int .u64 ad, .int .i64 ah, .int .i64 af, .int .i64 a5, .slice a3 a6 aa, .int .u64 ag, .int .i64 a1, .int .i64 ab, .int .u64 ac, .int .i64 ai, .int .i64 aj, .int .i64 a8, .slice a4 a7 a2, .int .u64 ae, .int .i64 am, .slice ao au av, .int .u64 al], .int .i64 an]) ay) else (
 Q01 aw ((ax.add 18).add 0) ∧
 thenW (aw.setCell ((ax.add 18).add 0) (.slice ap ar aq)) fun b0 =>
 Q00.J28 ax az R b0)

abbrev Q00.J30 (b4 : Bool) (b3 b5 : Nat) (ay ax : Addr) (R : RW) (b0 : World) : Prop :=
 bif b4 then (
 Calls Try.prog 48 #[.slice none b3 b5] b0 fun b1 aw => ∃ (aq : Option Addr) (ap au : Nat) (an : Int), b1 = .returned (.tuple #[.slice aq ap au, .int .i64 an]) ∧
 bif an != 0 then (
 putsK aw ax [.int .i64 0, .int .i64 0, .int .i64 0, .int .u64 0, .int .i64 0, .int .i64 0, .int .i64 0, .slice none 0 0, .int .u64 0, .int .i64 0, .int .i64 0, .int .u64 0, .int .i64 0, .int .i64 0, .int .i64 0, .slice none 0 0, .int .u64 0, .int .i64 0, .slice none 0 0, .int .u64 0] 0 fun az =>
 ∃ (ag a1 a6 ad aj af a5 : Int) (ab : Option Addr) (a8 aa : Nat) (ae a0 a7 ac ai ah a2 : Int) (a9 : Option Addr) (a4 a3 : Nat) (ak am : Int) (av : Option Addr) (ao ar : Nat) (al : Int), cellsAt az ax [.int .i64 ag, .int .i64 a1, .int .i64 a6, .int .u64 ad, .int .i64 aj, .int .i64 af, .int .i64 a5, .slice ab a8 aa, .int .u64 ae, .int .i64 a0, .int .i64 a7, .int .u64 ac, .int .i64 ai, .int .i64 ah, .int .i64 a2, .slice a9 a4 a3, .int .u64 ak, .int .i64 am, .slice av ao ar, .int .u64 al] 0 ∧
 R (.tuple #[.agg #[.int .i64 ag, .int .i64 a1, .int .i64 a6, .int .u64 ad, .int .i64 aj, .int .i64 af, .int .i64 a5, .slice ab a8 aa, .int .u64 ae, .int .i64 a0, .int .i64 a7, .int .u64 ac, .int .i64 ai, .int .i64 ah, .int .i64 a2, .slice a9 a4 a3, .int .u64 ak, .int .i64 am, .slice av ao ar, .int .u64 al], .int .i64 an]) az) else (
 Q01 aw ((ay.add 18).add 0) ∧
 thenW (aw.setCell ((ay.add 18).add 0) (.slice aq ap au)) fun b2 =>
 Q00.J28 ay ax R b2)) else (
 Q00.J28 ay ax R b0)

abbrev Q00.J31 (a6 a5 : Nat) (a3 a4 : Addr) (R : RW) (a0 : World) : Prop :=
 ∃ (a1 : Int), a0.cell? (a3.add 0) = some (.int .i64 a1) ∧
 bif a1 == 2 then (
 Q00.J29 a6 a5 a3 a4 R a0) else (
 ∃ (a2 : Int), a0.cell? (a3.add 0) = some (.int .i64 a2) ∧
 Q00.J30 (a2 == 3) a6 a5 a3 a4 R a0)

abbrev Q00.J32 (br bs bx bw : Nat) (a0 bh : Addr) (R : RW) (bd : World) : Prop :=
 ∃ (ba : Int), bd.cell? (a0.add 0) = some (.int .i64 ba) ∧
 bif ba == 4 then (
 Calls Try.prog 47 #[.slice none bx bw] bd fun bv be => ∃ (aq ay b9 bi bf b5 : Int) (b1 : Option Addr) (b3 b6 : Nat) (bg ar : Int), bv = .returned (.tuple #[.agg #[.int .i64 aq, .int .i64 ay, .int .u64 b9, .int .i64 bi, .int .i64 bf, .int .i64 b5, .slice b1 b3 b6, .int .u64 bg], .int .i64 ar]) ∧
 thenW (be.alloc (.cells #[.int .i64 0, .int .i64 0, .int .u64 0, .int .i64 0, .int .i64 0, .int .i64 0, .slice none 0 0, .int .u64 0] 27)) fun bu =>
 putsK bu (blk be.heap.size) [.int .i64 aq, .int .i64 ay, .int .u64 b9, .int .i64 bi, .int .i64 bf, .int .i64 b5, .slice b1 b3 b6, .int .u64 bg] 0 fun b7 =>
 bif ar != 0 then (
 putsK b7 bh [.int .i64 0, .int .i64 0, .int .i64 0, .int .u64 0, .int .i64 0, .int .i64 0, .int .i64 0, .slice none 0 0, .int .u64 0, .int .i64 0, .int .i64 0, .int .u64 0, .int .i64 0, .int .i64 0, .int .i64 0, .slice none 0 0, .int .u64 0, .int .i64 0, .slice none 0 0, .int .u64 0] 0 fun bk =>
 ∃ (ag a2 a5 ae am ah ab : Int) (aa : Option Addr) (ac a8 : Nat) (ai a1 a6 ad af ak a7 : Int) (a3 : Option Addr) (a4 a9 : Nat) (aj av : Int) (b4 : Option Addr) (az b2 : Nat) (aw : Int), cellsAt bk bh [.int .i64 ag, .int .i64 a2, .int .i64 a5, .int .u64 ae, .int .i64 am, .int .i64 ah, .int .i64 ab, .slice aa ac a8, .int .u64 ai, .int .i64 a1, .int .i64 a6, .int .u64 ad, .int .i64 af, .int .i64 ak, .int .i64 a7, .slice a3 a4 a9, .int .u64 aj, .int .i64 av, .slice b4 az b2, .int .u64 aw] 0 ∧
 R (.tuple #[.agg #[.int .i64 ag, .int .i64 a2, .int .i64 a5, .int .u64 ae, .int .i64 am, .int .i64 ah, .int .i64 ab, .slice aa ac a8, .int .u64 ai, .int .i64 a1, .int .i64 a6, .int .u64 ad, .int .i64 af, .int .i64 ak, .int .i64 a7, .slice a3 a4 a9, .int .u64 aj, .int .i64 av, .slice b4 az b2, .int .u64 aw], .int .i64 ar]) bk) else (
 ∃ (al ax b0 b8 bc ao : Int) (ap : Option Addr) (an au : Nat) (bb : Int), cellsAt b7 (blk be.heap.size) [.int .i64 al, .int .i64 ax, .int .u64 b0, .int .i64 b8, .int .i64 bc, .int .i64 ao, .slice ap an au, .int .u64 bb] 0 ∧
 Q01 b7 ((a0.add 9).add 0) ∧
 thenW (b7.setCell ((a0.add 9).add 0) (.int .i64 al)) fun bo =>
 Q01 bo ((a0.add 9).add 1) ∧
 thenW (bo.setCell ((a0.add 9).add 1) (.int .i64 ax)) fun bj =>
 Q01 bj ((a0.add 9).add 2) ∧
 thenW (bj.setCell ((a0.add 9).add 2) (.int .u64 b0)) fun bl =>
 Q01 bl ((a0.add 9).add 3) ∧
 thenW (bl.setCell ((a0.add 9).add 3) (.int .i64 b8)) fun bm =>
 Q01 bm ((a0.add 9).add 4) ∧
 thenW (bm.setCell ((a0.add 9).add 4) (.int .i64 bc)) fun bq =>
 Q01 bq ((a0.add 9).add 5) ∧
 thenW (bq.setCell ((a0.add 9).add 5) (.int .i64 ao)) fun bn =>
 Q01 bn ((a0.add 9).add 6) ∧
 thenW (bn.setCell ((a0.add 9).add 6) (.slice ap an au)) fun bp =>
 Q01 bp ((a0.add 9).add 7) ∧
 thenW (bp.setCell ((a0.add 9).add 7) (.int .u64 bb)) fun bt =>
 Q00.J31 br bs a0 bh R bt)) else (
 Q00.J31 br bs a0 bh R bd)

abbrev Q00.J33 (bw bu bz bv bx bt : Nat) (a0 bh : Addr) (R : RW) (br : World) : Prop :=
 Calls Try.prog 47 #[.slice none bx bt] br fun bq bc => ∃ (av az b8 bf be b2 : Int) (b4 : Option Addr) (b6 b1 : Nat) (bd ar : Int), bq = .returned (.tuple #[.agg #[.int .i64 av, .int .i64 az, .int .u64 b8, .int .i64 bf, .int .i64 be, .int .i64 b2, .slice b4 b6 b1, .int .u64 bd], .int .i64 ar]) ∧
 thenW (bc.alloc (.cells #[.int .i64 0, .int .i64 0, .int .u64 0, .int .i64 0, .int .i64 0, .int .i64 0, .slice none 0 0, .int .u64 0] 27)) fun bp =>
 putsK bp (blk bc.heap.size) [.int .i64 av, .int .i64 az, .int .u64 b8, .int .i64 bf, .int .i64 be, .int .i64 b2, .slice b4 b6 b1, .int .u64 bd] 0 fun b7 =>
 bif ar != 0 then (
 putsK b7 bh [.int .i64 0, .int .i64 0, .int .i64 0, .int .u64 0, .int .i64 0, .int .i64 0, .int .i64 0, .slice none 0 0, .int .u64 0, .int .i64 0, .int .i64 0, .int .u64 0, .int .i64 0, .int .i64 0, .int .i64 0, .slice none 0 0, .int .u64 0, .int .i64 0, .slice none 0 0, .int .u64 0] 0 fun bj =>
 ∃ (ai a2 a8 ae am af a6 : Int) (a4 : Option Addr) (a9 ac : Nat) (al a1 a3 ad ag aj a7 : Int) (ab : Option Addr) (a5 aa : Nat) (ak aw : Int) (b0 : Option Addr) (ay b5 : Nat) (aq : Int), cellsAt bj bh [.int .i64 ai, .int .i64 a2, .int .i64 a8, .int .u64 ae, .int .i64 am, .int .i64 af, .int .i64 a6, .slice a4 a9 ac, .int .u64 al, .int .i64 a1, .int .i64 a3, .int .u64 ad, .int .i64 ag, .int .i64 aj, .int .i64 a7, .slice ab a5 aa, .int .u64 ak, .int .i64 aw, .slice b0 ay b5, .int .u64 aq] 0 ∧
 R (.tuple #[.agg #[.int .i64 ai, .int .i64 a2, .int .i64 a8, .int .u64 ae, .int .i64 am, .int .i64 af, .int .i64 a6, .slice a4 a9 ac, .int .u64 al, .int .i64 a1, .int .i64 a3, .int .u64 ad, .int .i64 ag, .int .i64 aj, .int .i64 a7, .slice ab a5 aa, .int .u64 ak, .int .i64 aw, .slice b0 ay b5, .int .u64 aq], .int .i64 ar]) bj) else (
 ∃ (ah ao b3 b9 bb ax : Int) (an : Option Addr) (ap au : Nat) (ba : Int), cellsAt b7 (blk bc.heap.size) [.int .i64 ah, .int .i64 ao, .int .u64 b3, .int .i64 b9, .int .i64 bb, .int .i64 ax, .slice an ap au, .int .u64 ba] 0 ∧
 Q01 b7 ((a0.add 1).add 0) ∧
 thenW (b7.setCell ((a0.add 1).add 0) (.int .i64 ah)) fun bm =>
 Q01 bm ((a0.add 1).add 1) ∧
 thenW (bm.setCell ((a0.add 1).add 1) (.int .i64 ao)) fun bn =>
 Q01 bn ((a0.add 1).add 2) ∧
 thenW (bn.setCell ((a0.add 1).add 2) (.int .u64 b3)) fun bl =>
 Q01 bl ((a0.add 1).add 3) ∧
 thenW (bl.setCell ((a0.add 1).add 3) (.int .i64 b9)) fun bk =>
 Q01 bk ((a0.add 1).add 4) ∧
 thenW (bk.setCell ((a0.add 1).add 4) (.int .i64 bb)) fun bo =>
 Q01 bo ((a0.add 1).add 5) ∧
 thenW (bo.setCell ((a0.add 1).add 5) (.int .i64 ax)) fun bi =>
 Q01 bi ((a0.add 1).add 6) ∧
 thenW (bi.setCell ((a0.add 1).add 6) (.slice an ap au)) fun bg =>
 Q01 bg ((a0.add 1).add 7) ∧
 thenW (bg.setCell ((a0.add 1).add 7) (.int .u64 ba)) fun bs =>
 Q00.J32 bw bu bz bv a0 bh R bs)

abbrev Q00.J34 (c0 : Bool) (bt br bq bs bx bz : Nat) (a0 bd : Addr) (R : RW) (bj : World) : Prop :=
 bif c0 then (
 Calls Try.prog 47 #[.slice none bx bz] bj fun bu bc => ∃ (an b1 bb bf bg b3 : Int) (b0 : Option Addr) (b6 b5 : Nat) (be au : Int), bu = .returned (.tuple #[.agg #[.int .i64 an, .int .i64 b1, .int .u64 bb, .int .i64 bf, .int .i64 bg, .int .i64 b3, .slice b0 b6 b5, .int .u64 be], .int .i64 au]) ∧
 thenW (bc.alloc (.cells #[.int .i64 0, .int .i64 0, .int .u64 0, .int .i64 0, .int .i64 0, .int .i64 0, .slice none 0 0, .int .u64 0] 27)) fun bw =>
 putsK bw (blk bc.heap.size) [.int .i64 an, .int .i64 b1, .int .u64 bb, .int .i64 bf, .int .i64 bg, .int .i64 b3, .slice b0 b6 b5, .int .u64 be] 0 fun b7 =>
 bif au != 0 then (
 putsK b7 bd [.int .i64 0, .int .i64 0, .int .i64 0, .int .u64 0, .int .i64 0, .int .i64 0, .int .i64 0, .slice none 0 0, .int .u64 0, .int .i64 0, .int .i64 0, .int .u64 0, .int .i64 0, .int .i64 0, .int .i64 0, .slice none 0 0, .int .u64 0, .int .i64 0, .slice none 0 0, .int .u64 0] 0 fun bk =>
 ∃ (aj a2 a9 ad af ah a7 : Int) (a3 : Option Addr) (a8 ab : Nat) (al a1 ac ae ai ak aa : Int) (a6 : Option Addr) (a4 a5 : Nat) (am aw : Int) (az : Option Addr) (b2 b4 : Nat) (ap : Int), cellsAt bk bd [.int .i64 aj, .int .i64 a2, .int .i64 a9, .int .u64 ad, .int .i64 af, .int .i64 ah, .int .i64 a7, .slice a3 a8 ab, .int .u64 al, .int .i64 a1, .int .i64 ac, .int .u64 ae, .int .i64 ai, .int .i64 ak, .int .i64 aa, .slice a6 a4 a5, .int .u64 am, .int .i64 aw, .slice az b2 b4, .int .u64 ap] 0 ∧
 R (.tuple #[.agg #[.int .i64 aj, .int .i64 a2, .int .i64 a9, .int .u64 ad, .int .i64 af, .int .i64 ah, .int .i64 a7, .slice a3 a8 ab, .int .u64 al, .int .i64 a1, .int .i64 ac, .int .u64 ae, .int .i64 ai, .int .i64 ak, .int .i64 aa, .slice a6 a4 a5, .int .u64 am, .int .i64 aw, .slice az b2 b4, .int .u64 ap], .int .i64 au]) bk) else (
 ∃ (ag av ay ba b8 ar : Int) (ao : Option Addr) (aq ax : Nat) (b9 : Int), cellsAt b7 (blk bc.heap.size) [.int .i64 ag, .int .i64 av, .int .u64 ay, .int .i64 ba, .int .i64 b8, .int .i64 ar, .slice ao aq ax, .int .u64 b9] 0 ∧
 Q01 b7 ((a0.add 1).add 0) ∧
 thenW (b7.setCell ((a0.add 1).add 0) (.int .i64 ag)) fun bh =>
 Q01 bh ((a0.add 1).add 1) ∧
 thenW (bh.setCell ((a0.add 1).add 1) (.int .i64 av)) fun bi =>
 Q01 bi ((a0.add 1).add 2) ∧
 thenW (bi.setCell ((a0.add 1).add 2) (.int .u64 ay)) fun bl =>
 Q01 bl ((a0.add 1).add 3) ∧
 thenW (bl.setCell ((a0.add 1).add 3) (.int .i64 ba)) fun bn =>
 Q01 bn ((a0.add 1).add 4) ∧
 thenW (bn.setCell ((a0.add 1).add 4) (.int .i64 b8)) fun bp =>
 Q01 bp ((a0.add 1).add 5) ∧
 thenW (bp.setCell ((a0.add 1).add 5) (.int .i64 ar)) fun bo =>
 Q01 bo ((a0.add 1).add 6) ∧
 thenW (bo.setCell ((a0.add 1).add 6) (.slice ao aq ax)) fun bm =>
 Q01 bm ((a0.add 1).add 7) ∧
 thenW (bm.setCell ((a0.add 1).add 7) (.int .u64 b9)) fun bv =>
 Q00.J32 bt br bq bs a0 bd R bv)) else (
 Q00.J32 bt br bq bs a0 bd R bj)

abbrev Q00.J35 (a9 a6 a4 aa a5 a8 : Nat) (a3 a7 : Addr) (R : RW) (a0 : World) : Prop :=
 ∃ (a2 : Int), a0.cell? (a3.add 0) = some (.int .i64 a2) ∧
 bif a2 == 1 then (
 Q00.J33 a9 a6 a4 aa a5 a8 a3 a7 R a0) else (
 ∃ (a1 : Int), a0.cell? (a3.add 0) = some (.int .i64 a1) ∧
 Q00.J34 (a1 == 4) a9 a6 a4 aa a5 a8 a3 a7 R a0)

abbrev Q00.J36 (b3 b5 b2 b1 b4 az : Nat) (ay b0 ar : Addr) (R : RW) (ax : World) : Prop :=
 Calls Try.prog 46 #[.pointer (some b0)] ax fun aw av => ∃ (an : Int), aw = .returned (.int .i64 an) ∧
 bif an != 0 then (
 putsK av ar [.int .i64 0, .int .i64 0, .int .i64 0, .int .u64 0, .int .i64 0, .int .i64 0, .int .i64 0, .slice none 0 0, .int .u64 0, .int .i64 0, .int .i64 0, .int .u64 0, .int .i64 0, .int .i64 0, .int .i64 0, .slice none 0 0, .int .u64 0, .int .i64 0, .slice none 0 0, .int .u64 0] 0 fun au =>
 ∃ (ag a1 a9 ad aj ak a7 : Int) (a6 : Option Addr) (a4 a5 : Nat) (af a0 ab ac ai ae aa : Int) (a2 : Option Addr) (a8 a3 : Nat) (ah am : Int) (ao : Option Addr) (ap aq : Nat) (al : Int), cellsAt au ar [.int .i64 ag, .int .i64 a1, .int .i64 a9, .int .u64 ad, .int .i64 aj, .int .i64 ak, .int .i64 a7, .slice a6 a4 a5, .int .u64 af, .int .i64 a0, .int .i64 ab, .int .u64 ac, .int .i64 ai, .int .i64 ae, .int .i64 aa, .slice a2 a8 a3, .int .u64 ah, .int .i64 am, .slice ao ap aq, .int .u64 al] 0 ∧
 R (.tuple #[.agg #[.int .i64 ag, .int .i64 a1, .int .i64 a9, .int .u64 ad, .int .i64 aj, .int .i64 ak, .int .i64 a7, .slice a6 a4 a5, .int .u64 af, .int .i64 a0, .int .i64 ab, .int .u64 ac, .int .i64 ai, .int .i64 ae, .int .i64 aa, .slice a2 a8 a3, .int .u64 ah, .int .i64 am, .slice ao ap aq, .int .u64 al], .int .i64 an]) au) else (
 Q00.J35 b3 b5 b2 b1 b4 az ay ar R av)

abbrev Q00.J37 (b0 : Bool) (b1 : Int) (ao an ai al ah ak : Nat) (a3 a4 ag : Addr) (R : RW) (ae : World) : Prop :=
 bif b0 then (
 Calls Try.prog 43 #[.pointer (some a4), .int .i64 7] ae fun ar aj => ∃ (ab : Int), ar = .returned (.int .i64 ab) ∧
 Q01 aj ((a3.add 17).add 0) ∧
 thenW (aj.setCell ((a3.add 17).add 0) (.int .i64 ab)) fun av =>
 Calls Try.prog 44 #[.pointer (some a4), .int .i64 4000] av fun ap ad => ∃ (a1 : Option Addr) (a2 a0 : Nat), ap = .returned (.slice a1 a2 a0) ∧
 ∃ (ac : Int), ad.cell? (a3.add 0) = some (.int .i64 ac) ∧
 bif ac == 3 then (
 Calls Try.prog 45 #[.pointer (some a4)] ad fun az am => ∃ (af : Int), az = .returned (.int .u64 af) ∧
 Q01 am ((a3.add 19).add 0) ∧
 thenW (am.setCell ((a3.add 19).add 0) (.int .u64 af)) fun ay =>
 Q00.J18 a1 a2 a0 ai al ah ak a3 a4 ag R ay) else (
 Q00.J18 a1 a2 a0 ai al ah ak a3 a4 ag R ad)) else (
 bif b1 == 4 then (
 Calls Try.prog 44 #[.pointer (some a4), .int .i64 4000] ae fun au aw => ∃ (a8 : Option Addr) (a5 aa : Nat), au = .returned (.slice a8 a5 aa) ∧
 Calls Try.prog 44 #[.pointer (some a4), .int .i64 4000] aw fun ax aq => ∃ (a6 : Option Addr) (a9 a7 : Nat), ax = .returned (.slice a6 a9 a7) ∧
 Q00.J27 a6 a9 a7 a8 a5 aa ao an a3 a4 ag R aq) else (
 Q00.J36 ao an ai al ah ak a3 a4 ag R ae))

abbrev Q00.J38 (ad : Addr) (af : Option Addr) (ae ag : Nat) (R : RW) (a5 : World) : Prop :=
 thenW (a5.alloc (.cells #[.slice af ae ag, .int .i64 0] 83)) fun a8 =>
 Calls Try.prog 43 #[.pointer (some (blk a5.heap.size)), .int .i64 4] a8 fun aa a6 => ∃ (a4 : Int), aa = .returned (.int .i64 a4) ∧
 thenW (a6.alloc (.cells #[.int .i64 0, .int .i64 0, .int .i64 0, .int .u64 0, .int .i64 0, .int .i64 0, .int .i64 0, .slice none 0 0, .int .u64 0, .int .i64 0, .int .i64 0, .int .u64 0, .int .i64 0, .int .i64 0, .int .i64 0, .slice none 0 0, .int .u64 0, .int .i64 0, .slice none 0 0, .int .u64 0] 30)) fun ac =>
 putsK ac (blk a6.heap.size) [.int .i64 a4, .int .i64 0, .int .i64 0, .int .u64 0, .int .i64 0, .int .i64 0, .int .i64 0, .slice none 0 0, .int .u64 0, .int .i64 0, .int .i64 0, .int .u64 0, .int .i64 0, .int .i64 0, .int .i64 0, .slice none 0 0, .int .u64 0, .int .i64 0, .slice none 0 0, .int .u64 0] 0 fun a7 =>
 ∃ (a0 : Int), a7.cell? ((blk a6.heap.size).add 0) = some (.int .i64 a0) ∧
 bif a0 == 1 then (
 Calls Try.prog 44 #[.pointer (some (blk a5.heap.size)), .int .i64 4000] a7 fun ab a9 => ∃ (a3 : Option Addr) (a2 a1 : Nat), ab = .returned (.slice a3 a2 a1) ∧
 Q00.J9 a3 a2 a1 0 0 0 0 (blk a6.heap.size) (blk a5.heap.size) ad R a9) else (
 bif a0 == 2 then (
 Q00.J37 (a0 == 2) a0 0 0 0 0 0 0 (blk a6.heap.size) (blk a5.heap.size) ad R a7) else (
 Q00.J37 (a0 == 3) a0 0 0 0 0 0 0 (blk a6.heap.size) (blk a5.heap.size) ad R a7))

def Q00.M (aw : Option Addr) (au av : Nat) (R : RW) (w : World) : Prop :=
 thenW (w.alloc (.cells #[.int .i64 0, .int .i64 0, .int .i64 0, .int .u64 0, .int .i64 0, .int .i64 0, .int .i64 0, .slice none 0 0, .int .u64 0, .int .i64 0, .int .i64 0, .int .u64 0, .int .i64 0, .int .i64 0, .int .i64 0, .slice none 0 0, .int .u64 0, .int .i64 0, .slice none 0 0, .int .u64 0] 30)) fun aq =>
 bif decide ((au : Int) > 4000) then (
 putsK aq (blk w.heap.size) [.int .i64 0, .int .i64 0, .int .i64 0, .int .u64 0, .int .i64 0, .int .i64 0, .int .i64 0, .slice none 0 0, .int .u64 0, .int .i64 0, .int .i64 0, .int .u64 0, .int .i64 0, .int .i64 0, .int .i64 0, .slice none 0 0, .int .u64 0, .int .i64 0, .slice none 0 0, .int .u64 0] 0 fun ar =>
 ∃ (ak a9 ac ag aj ai a5 : Int) (a8 : Option Addr) (a2 a3 : Nat) (ae a0 a1 ab ad ah aa : Int) (a6 : Option Addr) (a7 a4 : Nat) (af al : Int) (ao : Option Addr) (ap an : Nat) (am : Int), cellsAt ar (blk w.heap.size) [.int .i64 ak, .int .i64 a9, .int .i64 ac, .int .u64 ag, .int .i64 aj, .int .i64 ai, .int .i64 a5, .slice a8 a2 a3, .int .u64 ae, .int .i64 a0, .int .i64 a1, .int .u64 ab, .int .i64 ad, .int .i64 ah, .int .i64 aa, .slice a6 a7 a4, .int .u64 af, .int .i64 al, .slice ao ap an, .int .u64 am] 0 ∧
 R (.tuple #[.agg #[.int .i64 ak, .int .i64 a9, .int .i64 ac, .int .u64 ag, .int .i64 aj, .int .i64 ai, .int .i64 a5, .slice a8 a2 a3, .int .u64 ae, .int .i64 a0, .int .i64 a1, .int .u64 ab, .int .i64 ad, .int .i64 ah, .int .i64 aa, .slice a6 a7 a4, .int .u64 af, .int .i64 al, .slice ao ap an, .int .u64 am], .int .i64 3]) ar) else (
 Q00.J38 (blk w.heap.size) aw au av R aq)

theorem Q00.ok (a0 : Option Addr) (a1 a2 : Nat) {R : RW} {w : World} (h : Q00.M a0 a1 a2 R w) : Calls Try.prog 18 #[.slice a0 a1 a2] w fun e w' => ∃ v, e = .returned v ∧ R v w' :=
  Q08 follows (H := []) (args := [.slice a0 a1 a2]) (cast (by kernel_rfl) h)

def Q00.N (ls : Option Addr) (ll lr : Nat) (R : RW) (w : World) : Prop :=
 ((ll : Int) > 4000 →
 ∀ (lq : World), Ext no w lq →
 R (.tuple #[.agg #[.int .i64 0, .int .i64 0, .int .i64 0, .int .u64 0, .int .i64 0, .int .i64 0, .int .i64 0, .slice none 0 0, .int .u64 0, .int .i64 0, .int .i64 0, .int .u64 0, .int .i64 0, .int .i64 0, .int .i64 0, .slice none 0 0, .int .u64 0, .int .i64 0, .slice none 0 0, .int .u64 0], .int .i64 3]) lq) ∧
 ((ll : Int) ≤ 4000 →
 ∀ (l3 : World) (q7 p8 : Nat), Ext no w l3 → Blk l3 q7 83 [.slice ls ll lr, .int .i64 0] → w.heap.size ≤ q7 → q7 < l3.heap.size → Privq w q7 [p8] →
 Calls Try.prog 43 #[.pointer (some (blk q7)), .int .i64 4] l3 fun lf bv => ∃ (a0 : Int), lf = .returned (.int .i64 a0) ∧
 Keep [p8] l3 bv ∧
 (a0 = 1 →
 ∀ (aa : World) (b4 : Nat), Ext no bv aa → Priv bv aa [b4] →
 Calls Try.prog 44 #[.pointer (some (blk q7)), .int .i64 4000] aa fun lg jv => ∃ (ez : Option Addr) (f1 ey : Nat), lg = .returned (.slice ez f1 ey) ∧
 Keep [p8, b4] aa jv ∧
 Calls Try.prog 46 #[.pointer (some (blk q7))] jv fun lp ia => ∃ (ee : Int), lp = .returned (.int .i64 ee) ∧
 Keep [p8, b4] jv ia ∧
 (ee ≠ 0 →
 ∀ (kl : World), Ext (fun b => b = p8) ia kl →
 R (.tuple #[.agg #[.int .i64 0, .int .i64 0, .int .i64 0, .int .u64 0, .int .i64 0, .int .i64 0, .int .i64 0, .slice none 0 0, .int .u64 0, .int .i64 0, .int .i64 0, .int .u64 0, .int .i64 0, .int .i64 0, .int .i64 0, .slice none 0 0, .int .u64 0, .int .i64 0, .slice none 0 0, .int .u64 0], .int .i64 ee]) kl) ∧
 (ee = 0 →
 Calls Try.prog 47 #[.slice ez f1 ey] ia fun lo ft => ∃ (a1 a4 a9 ad ah a6 : Int) (a3 : Option Addr) (a5 a2 : Nat) (ae eq : Int), lo = .returned (.tuple #[.agg #[.int .i64 a1, .int .i64 a4, .int .u64 a9, .int .i64 ad, .int .i64 ah, .int .i64 a6, .slice a3 a5 a2, .int .u64 ae], .int .i64 eq]) ∧
 Keep [p8, b4] ia ft ∧
 (eq ≠ 0 →
 ∀ (l5 : World), Ext (fun b => b = p8) ft l5 →
 R (.tuple #[.agg #[.int .i64 0, .int .i64 0, .int .i64 0, .int .u64 0, .int .i64 0, .int .i64 0, .int .i64 0, .slice none 0 0, .int .u64 0, .int .i64 0, .int .i64 0, .int .u64 0, .int .i64 0, .int .i64 0, .int .i64 0, .slice none 0 0, .int .u64 0, .int .i64 0, .slice none 0 0, .int .u64 0], .int .i64 eq]) l5) ∧
 (eq = 0 →
 (a0 = 4 →
 ∀ (aq : World), Ext (fun b => b = b4) ft aq →
 Calls Try.prog 47 #[.slice none 0 0] aq fun ln gx => ∃ (ab ak ap bx du al : Int) (aj : Option Addr) (ai am : Nat) (dv ex : Int), ln = .returned (.tuple #[.agg #[.int .i64 ab, .int .i64 ak, .int .u64 ap, .int .i64 bx, .int .i64 du, .int .i64 al, .slice aj ai am, .int .u64 dv], .int .i64 ex]) ∧
 Keep [p8, b4] aq gx ∧
 (ex ≠ 0 →
 ∀ (kw : World), Ext (fun b => b = p8) gx kw →
 R (.tuple #[.agg #[.int .i64 0, .int .i64 0, .int .i64 0, .int .u64 0, .int .i64 0, .int .i64 0, .int .i64 0, .slice none 0 0, .int .u64 0, .int .i64 0, .int .i64 0, .int .u64 0, .int .i64 0, .int .i64 0, .int .i64 0, .slice none 0 0, .int .u64 0, .int .i64 0, .slice none 0 0, .int .u64 0], .int .i64 ex]) kw) ∧
 (ex = 0 →
 (a0 = 2 →
 ∀ (dq : World), Ext (fun b => b = b4) gx dq →
 Calls Try.prog 48 #[.slice none 0 0] dq fun lh js => ∃ (eh : Option Addr) (ed ep : Nat) (e8 : Int), lh = .returned (.tuple #[.slice eh ed ep, .int .i64 e8]) ∧
 Keep [p8, b4] dq js ∧
 (e8 ≠ 0 →
 ∀ (kd : World), Ext (fun b => b = p8) js kd →
 R (.tuple #[.agg #[.int .i64 0, .int .i64 0, .int .i64 0, .int .u64 0, .int .i64 0, .int .i64 0, .int .i64 0, .slice none 0 0, .int .u64 0, .int .i64 0, .int .i64 0, .int .u64 0, .int .i64 0, .int .i64 0, .int .i64 0, .slice none 0 0, .int .u64 0, .int .i64 0, .slice none 0 0, .int .u64 0], .int .i64 e8]) kd) ∧
 (e8 = 0 →
 ∀ (jt : World), Ext (fun b => b = b4) js jt →
 Calls Try.prog 19 #[.agg #[.int .i64 a0, .int .i64 a1, .int .i64 a4, .int .u64 a9, .int .i64 ad, .int .i64 ah, .int .i64 a6, .slice a3 a5 a2, .int .u64 ae, .int .i64 ab, .int .i64 ak, .int .u64 ap, .int .i64 bx, .int .i64 du, .int .i64 al, .slice aj ai am, .int .u64 dv, .int .i64 0, .slice eh ed ep, .int .u64 0]] jt fun lj jr => ∃ (eu : Bool), lj = .returned (.bool eu) ∧
 Keep [p8, b4] jt jr ∧
 (eu = false →
 ∀ (l2 : World), Ext (fun b => b = p8) jr l2 →
 R (.tuple #[.agg #[.int .i64 0, .int .i64 0, .int .i64 0, .int .u64 0, .int .i64 0, .int .i64 0, .int .i64 0, .slice none 0 0, .int .u64 0, .int .i64 0, .int .i64 0, .int .u64 0, .int .i64 0, .int .i64 0, .int .i64 0, .slice none 0 0, .int .u64 0, .int .i64 0, .slice none 0 0, .int .u64 0], .int .i64 4]) l2) ∧
 (eu = true →
 ∀ (kx : World), Ext (fun b => b = p8) jr kx →
 R (.tuple #[.agg #[.int .i64 a0, .int .i64 a1, .int .i64 a4, .int .u64 a9, .int .i64 ad, .int .i64 ah, .int .i64 a6, .slice a3 a5 a2, .int .u64 ae, .int .i64 ab, .int .i64 ak, .int .u64 ap, .int .i64 bx, .int .i64 du, .int .i64 al, .slice aj ai am, .int .u64 dv, .int .i64 0, .slice eh ed ep, .int .u64 0], .int .i64 0]) kx))) ∧
 (a0 ≠ 2 →
 (a0 = 3 →
 ∀ (dq : World), Ext (fun b => b = b4) gx dq →
 Calls Try.prog 48 #[.slice none 0 0] dq fun lk jw => ∃ (ei : Option Addr) (ev es : Nat) (e9 : Int), lk = .returned (.tuple #[.slice ei ev es, .int .i64 e9]) ∧
 Keep [p8, b4] dq jw ∧
 (e9 ≠ 0 →
 ∀ (l0 : World), Ext (fun b => b = p8) jw l0 →
 R (.tuple #[.agg #[.int .i64 0, .int .i64 0, .int .i64 0, .int .u64 0, .int .i64 0, .int .i64 0, .int .i64 0, .slice none 0 0, .int .u64 0, .int .i64 0, .int .i64 0, .int .u64 0, .int .i64 0, .int .i64 0, .int .i64 0, .slice none 0 0, .int .u64 0, .int .i64 0, .slice none 0 0, .int .u64 0], .int .i64 e9]) l0) ∧
 (e9 = 0 →
 ∀ (ju : World), Ext (fun b => b = b4) jw ju →
 Calls Try.prog 19 #[.agg #[.int .i64 a0, .int .i64 a1, .int .i64 a4, .int .u64 a9, .int .i64 ad, .int .i64 ah, .int .i64 a6, .slice a3 a5 a2, .int .u64 ae, .int .i64 ab, .int .i64 ak, .int .u64 ap, .int .i64 bx, .int .i64 du, .int .i64 al, .slice aj ai am, .int .u64 dv, .int .i64 0, .slice ei ev es, .int .u64 0]] ju fun li jy => ∃ (ea : Bool), li = .returned (.bool ea) ∧
 Keep [p8, b4] ju jy ∧
 (ea = false →
 ∀ (l1 : World), Ext (fun b => b = p8) jy l1 →
 R (.tuple #[.agg #[.int .i64 0, .int .i64 0, .int .i64 0, .int .u64 0, .int .i64 0, .int .i64 0, .int .i64 0, .slice none 0 0, .int .u64 0, .int .i64 0, .int .i64 0, .int .u64 0, .int .i64 0, .int .i64 0, .int .i64 0, .slice none 0 0, .int .u64 0, .int .i64 0, .slice none 0 0, .int .u64 0], .int .i64 4]) l1) ∧
 (ea = true →
 ∀ (kv : World), Ext (fun b => b = p8) jy kv →
 R (.tuple #[.agg #[.int .i64 a0, .int .i64 a1, .int .i64 a4, .int .u64 a9, .int .i64 ad, .int .i64 ah, .int .i64 a6, .slice a3 a5 a2, .int .u64 ae, .int .i64 ab, .int .i64 ak, .int .u64 ap, .int .i64 bx, .int .i64 du, .int .i64 al, .slice aj ai am, .int .u64 dv, .int .i64 0, .slice ei ev es, .int .u64 0], .int .i64 0]) kv))) ∧
 (a0 ≠ 3 →
 ∀ (dq : World), Ext (fun b => b = b4) gx dq →
 Calls Try.prog 19 #[.agg #[.int .i64 a0, .int .i64 a1, .int .i64 a4, .int .u64 a9, .int .i64 ad, .int .i64 ah, .int .i64 a6, .slice a3 a5 a2, .int .u64 ae, .int .i64 ab, .int .i64 ak, .int .u64 ap, .int .i64 bx, .int .i64 du, .int .i64 al, .slice aj ai am, .int .u64 dv, .int .i64 0, .slice none 0 0, .int .u64 0]] dq fun lm jq => ∃ (eg : Bool), lm = .returned (.bool eg) ∧
 Keep [p8, b4] dq jq ∧
 (eg = false →
 ∀ (kz : World), Ext (fun b => b = p8) jq kz →
 R (.tuple #[.agg #[.int .i64 0, .int .i64 0, .int .i64 0, .int .u64 0, .int .i64 0, .int .i64 0, .int .i64 0, .slice none 0 0, .int .u64 0, .int .i64 0, .int .i64 0, .int .u64 0, .int .i64 0, .int .i64 0, .int .i64 0, .slice none 0 0, .int .u64 0, .int .i64 0, .slice none 0 0, .int .u64 0], .int .i64 4]) kz) ∧
 (eg = true →
 ∀ (ki : World), Ext (fun b => b = p8) jq ki →
 R (.tuple #[.agg #[.int .i64 a0, .int .i64 a1, .int .i64 a4, .int .u64 a9, .int .i64 ad, .int .i64 ah, .int .i64 a6, .slice a3 a5 a2, .int .u64 ae, .int .i64 ab, .int .i64 ak, .int .u64 ap, .int .i64 bx, .int .i64 du, .int .i64 al, .slice aj ai am, .int .u64 dv, .int .i64 0, .slice none 0 0, .int .u64 0], .int .i64 0]) ki))))) ∧
 (a0 ≠ 4 →
 (a0 = 2 →
 ∀ (aq : World), Ext (fun b => b = b4) ft aq →
 Calls Try.prog 48 #[.slice none 0 0] aq fun kn fw => ∃ (ew : Option Addr) (eb ec : Nat) (b9 : Int), kn = .returned (.tuple #[.slice ew eb ec, .int .i64 b9]) ∧
 Keep [p8, b4] aq fw ∧
 (b9 ≠ 0 →
 ∀ (ix : World), Ext (fun b => b = p8) fw ix →
 R (.tuple #[.agg #[.int .i64 0, .int .i64 0, .int .i64 0, .int .u64 0, .int .i64 0, .int .i64 0, .int .i64 0, .slice none 0 0, .int .u64 0, .int .i64 0, .int .i64 0, .int .u64 0, .int .i64 0, .int .i64 0, .int .i64 0, .slice none 0 0, .int .u64 0, .int .i64 0, .slice none 0 0, .int .u64 0], .int .i64 b9]) ix) ∧
 (b9 = 0 →
 ∀ (g4 : World), Ext (fun b => b = b4) fw g4 →
 Calls Try.prog 19 #[.agg #[.int .i64 a0, .int .i64 a1, .int .i64 a4, .int .u64 a9, .int .i64 ad, .int .i64 ah, .int .i64 a6, .slice a3 a5 a2, .int .u64 ae, .int .i64 0, .int .i64 0, .int .u64 0, .int .i64 0, .int .i64 0, .int .i64 0, .slice none 0 0, .int .u64 0, .int .i64 0, .slice ew eb ec, .int .u64 0]] g4 fun lb gq => ∃ (cr : Bool), lb = .returned (.bool cr) ∧
 Keep [p8, b4] g4 gq ∧
 (cr = false →
 ∀ (j2 : World), Ext (fun b => b = p8) gq j2 →
 R (.tuple #[.agg #[.int .i64 0, .int .i64 0, .int .i64 0, .int .u64 0, .int .i64 0, .int .i64 0, .int .i64 0, .slice none 0 0, .int .u64 0, .int .i64 0, .int .i64 0, .int .u64 0, .int .i64 0, .int .i64 0, .int .i64 0, .slice none 0 0, .int .u64 0, .int .i64 0, .slice none 0 0, .int .u64 0], .int .i64 4]) j2) ∧
 (cr = true →
 ∀ (ib : World), Ext (fun b => b = p8) gq ib →
 R (.tuple #[.agg #[.int .i64 a0, .int .i64 a1, .int .i64 a4, .int .u64 a9, .int .i64 ad, .int .i64 ah, .int .i64 a6, .slice a3 a5 a2, .int .u64 ae, .int .i64 0, .int .i64 0, .int .u64 0, .int .i64 0, .int .i64 0, .int .i64 0, .slice none 0 0, .int .u64 0, .int .i64 0, .slice ew eb ec, .int .u64 0], .int .i64 0]) ib))) ∧
 (a0 ≠ 2 →
 (a0 = 3 →
 ∀ (aq : World), Ext (fun b => b = b4) ft aq →
 Calls Try.prog 48 #[.slice none 0 0] aq fun lc g3 => ∃ (dg : Option Addr) (cv cq : Nat) (bf : Int), lc = .returned (.tuple #[.slice dg cv cq, .int .i64 bf]) ∧
 Keep [p8, b4] aq g3 ∧
 (bf ≠ 0 →
 ∀ (ie : World), Ext (fun b => b = p8) g3 ie →
 R (.tuple #[.agg #[.int .i64 0, .int .i64 0, .int .i64 0, .int .u64 0, .int .i64 0, .int .i64 0, .int .i64 0, .slice none 0 0, .int .u64 0, .int .i64 0, .int .i64 0, .int .u64 0, .int .i64 0, .int .i64 0, .int .i64 0, .slice none 0 0, .int .u64 0, .int .i64 0, .slice none 0 0, .int .u64 0], .int .i64 bf]) ie) ∧
 (bf = 0 →
 ∀ (g1 : World), Ext (fun b => b = b4) g3 g1 →
 Calls Try.prog 19 #[.agg #[.int .i64 a0, .int .i64 a1, .int .i64 a4, .int .u64 a9, .int .i64 ad, .int .i64 ah, .int .i64 a6, .slice a3 a5 a2, .int .u64 ae, .int .i64 0, .int .i64 0, .int .u64 0, .int .i64 0, .int .i64 0, .int .i64 0, .slice none 0 0, .int .u64 0, .int .i64 0, .slice dg cv cq, .int .u64 0]] g1 fun k1 i2 => ∃ (d5 : Bool), k1 = .returned (.bool d5) ∧
 Keep [p8, b4] g1 i2 ∧
 (d5 = false →
 ∀ (jp : World), Ext (fun b => b = p8) i2 jp →
 R (.tuple #[.agg #[.int .i64 0, .int .i64 0, .int .i64 0, .int .u64 0, .int .i64 0, .int .i64 0, .int .i64 0, .slice none 0 0, .int .u64 0, .int .i64 0, .int .i64 0, .int .u64 0, .int .i64 0, .int .i64 0, .int .i64 0, .slice none 0 0, .int .u64 0, .int .i64 0, .slice none 0 0, .int .u64 0], .int .i64 4]) jp) ∧
 (d5 = true →
 ∀ (im : World), Ext (fun b => b = p8) i2 im →
 R (.tuple #[.agg #[.int .i64 a0, .int .i64 a1, .int .i64 a4, .int .u64 a9, .int .i64 ad, .int .i64 ah, .int .i64 a6, .slice a3 a5 a2, .int .u64 ae, .int .i64 0, .int .i64 0, .int .u64 0, .int .i64 0, .int .i64 0, .int .i64 0, .slice none 0 0, .int .u64 0, .int .i64 0, .slice dg cv cq, .int .u64 0], .int .i64 0]) im))) ∧
 (a0 ≠ 3 →
 ∀ (aq : World), Ext (fun b => b = b4) ft aq →
 Calls Try.prog 19 #[.agg #[.int .i64 a0, .int .i64 a1, .int .i64 a4, .int .u64 a9, .int .i64 ad, .int .i64 ah, .int .i64 a6, .slice a3 a5 a2, .int .u64 ae, .int .i64 0, .int .i64 0, .int .u64 0, .int .i64 0, .int .i64 0, .int .i64 0, .slice none 0 0, .int .u64 0, .int .i64 0, .slice none 0 0, .int .u64 0]] aq fun kf g7 => ∃ (cz : Bool), kf = .returned (.bool cz) ∧
 Keep [p8, b4] aq g7 ∧
 (cz = false →
 ∀ (jg : World), Ext (fun b => b = p8) g7 jg →
 R (.tuple #[.agg #[.int .i64 0, .int .i64 0, .int .i64 0, .int .u64 0, .int .i64 0, .int .i64 0, .int .i64 0, .slice none 0 0, .int .u64 0, .int .i64 0, .int .i64 0, .int .u64 0, .int .i64 0, .int .i64 0, .int .i64 0, .slice none 0 0, .int .u64 0, .int .i64 0, .slice none 0 0, .int .u64 0], .int .i64 4]) jg) ∧
 (cz = true →
 ∀ (j5 : World), Ext (fun b => b = p8) g7 j5 →
 R (.tuple #[.agg #[.int .i64 a0, .int .i64 a1, .int .i64 a4, .int .u64 a9, .int .i64 ad, .int .i64 ah, .int .i64 a6, .slice a3 a5 a2, .int .u64 ae, .int .i64 0, .int .i64 0, .int .u64 0, .int .i64 0, .int .i64 0, .int .i64 0, .slice none 0 0, .int .u64 0, .int .i64 0, .slice none 0 0, .int .u64 0], .int .i64 0]) j5))))))) ∧
 (a0 ≠ 1 →
 (a0 = 2 →
 ∀ (aa : World) (a8 : Nat), Ext no bv aa → Priv bv aa [a8] →
 Calls Try.prog 43 #[.pointer (some (blk q7)), .int .i64 7] aa fun l7 iq => ∃ (a7 : Int), l7 = .returned (.int .i64 a7) ∧
 Keep [p8, a8] aa iq ∧
 ∀ (gr : World), Ext (fun b => b = a8) iq gr →
 Calls Try.prog 44 #[.pointer (some (blk q7)), .int .i64 4000] gr fun kt f0 => ∃ (ag : Option Addr) (af ac : Nat), kt = .returned (.slice ag af ac) ∧
 Keep [p8, a8] gr f0 ∧
 (a0 = 3 →
 Calls Try.prog 45 #[.pointer (some (blk q7))] f0 fun kh j4 => ∃ (db : Int), kh = .returned (.int .u64 db) ∧
 Keep [p8, a8] f0 j4 ∧
 ∀ (gn : World), Ext (fun b => b = a8) j4 gn →
 Calls Try.prog 46 #[.pointer (some (blk q7))] gn fun km e7 => ∃ (bh : Int), km = .returned (.int .i64 bh) ∧
 Keep [p8, a8] gn e7 ∧
 (bh ≠ 0 →
 ∀ (jl : World), Ext (fun b => b = p8) e7 jl →
 R (.tuple #[.agg #[.int .i64 0, .int .i64 0, .int .i64 0, .int .u64 0, .int .i64 0, .int .i64 0, .int .i64 0, .slice none 0 0, .int .u64 0, .int .i64 0, .int .i64 0, .int .u64 0, .int .i64 0, .int .i64 0, .int .i64 0, .slice none 0 0, .int .u64 0, .int .i64 0, .slice none 0 0, .int .u64 0], .int .i64 bh]) jl) ∧
 (bh = 0 →
 (a0 = 4 →
 Calls Try.prog 47 #[.slice none 0 0] e7 fun ld gh => ∃ (ay cu el f2 fg dr : Int) (di : Option Addr) (dx dk : Nat) (fl bm : Int), ld = .returned (.tuple #[.agg #[.int .i64 ay, .int .i64 cu, .int .u64 el, .int .i64 f2, .int .i64 fg, .int .i64 dr, .slice di dx dk, .int .u64 fl], .int .i64 bm]) ∧
 Keep [p8, a8] e7 gh ∧
 (bm ≠ 0 →
 ∀ (jo : World), Ext (fun b => b = p8) gh jo →
 R (.tuple #[.agg #[.int .i64 0, .int .i64 0, .int .i64 0, .int .u64 0, .int .i64 0, .int .i64 0, .int .i64 0, .slice none 0 0, .int .u64 0, .int .i64 0, .int .i64 0, .int .u64 0, .int .i64 0, .int .i64 0, .int .i64 0, .slice none 0 0, .int .u64 0, .int .i64 0, .slice none 0 0, .int .u64 0], .int .i64 bm]) jo) ∧
 (bm = 0 →
 ∀ (gu : World), Ext (fun b => b = a8) gh gu →
 Calls Try.prog 47 #[.slice none 0 0] gu fun l4 g2 => ∃ (az bt eo f4 fk d6 : Int) (dh : Option Addr) (c4 dd : Nat) (ff bb : Int), l4 = .returned (.tuple #[.agg #[.int .i64 az, .int .i64 bt, .int .u64 eo, .int .i64 f4, .int .i64 fk, .int .i64 d6, .slice dh c4 dd, .int .u64 ff], .int .i64 bb]) ∧
 Keep [p8, a8] gu g2 ∧
 (bb ≠ 0 →
 ∀ (j6 : World), Ext (fun b => b = p8) g2 j6 →
 R (.tuple #[.agg #[.int .i64 0, .int .i64 0, .int .i64 0, .int .u64 0, .int .i64 0, .int .i64 0, .int .i64 0, .slice none 0 0, .int .u64 0, .int .i64 0, .int .i64 0, .int .u64 0, .int .i64 0, .int .i64 0, .int .i64 0, .slice none 0 0, .int .u64 0, .int .i64 0, .slice none 0 0, .int .u64 0], .int .i64 bb]) j6) ∧
 (bb = 0 →
 ∀ (fy : World), Ext (fun b => b = a8) g2 fy →
 Calls Try.prog 48 #[.slice ag af ac] fy fun la gw => ∃ (d2 : Option Addr) (dy df : Nat) (bi : Int), la = .returned (.tuple #[.slice d2 dy df, .int .i64 bi]) ∧
 Keep [p8, a8] fy gw ∧
 (bi ≠ 0 →
 ∀ (j9 : World), Ext (fun b => b = p8) gw j9 →
 R (.tuple #[.agg #[.int .i64 0, .int .i64 0, .int .i64 0, .int .u64 0, .int .i64 0, .int .i64 0, .int .i64 0, .slice none 0 0, .int .u64 0, .int .i64 0, .int .i64 0, .int .u64 0, .int .i64 0, .int .i64 0, .int .i64 0, .slice none 0 0, .int .u64 0, .int .i64 0, .slice none 0 0, .int .u64 0], .int .i64 bi]) j9) ∧
 (bi = 0 →
 ∀ (g9 : World), Ext (fun b => b = a8) gw g9 →
 Calls Try.prog 19 #[.agg #[.int .i64 a0, .int .i64 ay, .int .i64 cu, .int .u64 el, .int .i64 f2, .int .i64 fg, .int .i64 dr, .slice di dx dk, .int .u64 fl, .int .i64 az, .int .i64 bt, .int .u64 eo, .int .i64 f4, .int .i64 fk, .int .i64 d6, .slice dh c4 dd, .int .u64 ff, .int .i64 a7, .slice d2 dy df, .int .u64 db]] g9 fun jz g6 => ∃ (ci : Bool), jz = .returned (.bool ci) ∧
 Keep [p8, a8] g9 g6 ∧
 (ci = false →
 ∀ (jn : World), Ext (fun b => b = p8) g6 jn →
 R (.tuple #[.agg #[.int .i64 0, .int .i64 0, .int .i64 0, .int .u64 0, .int .i64 0, .int .i64 0, .int .i64 0, .slice none 0 0, .int .u64 0, .int .i64 0, .int .i64 0, .int .u64 0, .int .i64 0, .int .i64 0, .int .i64 0, .slice none 0 0, .int .u64 0, .int .i64 0, .slice none 0 0, .int .u64 0], .int .i64 4]) jn) ∧
 (ci = true →
 ∀ (jc : World), Ext (fun b => b = p8) g6 jc →
 R (.tuple #[.agg #[.int .i64 a0, .int .i64 ay, .int .i64 cu, .int .u64 el, .int .i64 f2, .int .i64 fg, .int .i64 dr, .slice di dx dk, .int .u64 fl, .int .i64 az, .int .i64 bt, .int .u64 eo, .int .i64 f4, .int .i64 fk, .int .i64 d6, .slice dh c4 dd, .int .u64 ff, .int .i64 a7, .slice d2 dy df, .int .u64 db], .int .i64 0]) jc))))) ∧
 (a0 ≠ 4 →
 Calls Try.prog 48 #[.slice ag af ac] e7 fun kg gt => ∃ (dp : Option Addr) (cc ch : Nat) (bp : Int), kg = .returned (.tuple #[.slice dp cc ch, .int .i64 bp]) ∧
 Keep [p8, a8] e7 gt ∧
 (bp ≠ 0 →
 ∀ (ik : World), Ext (fun b => b = p8) gt ik →
 R (.tuple #[.agg #[.int .i64 0, .int .i64 0, .int .i64 0, .int .u64 0, .int .i64 0, .int .i64 0, .int .i64 0, .slice none 0 0, .int .u64 0, .int .i64 0, .int .i64 0, .int .u64 0, .int .i64 0, .int .i64 0, .int .i64 0, .slice none 0 0, .int .u64 0, .int .i64 0, .slice none 0 0, .int .u64 0], .int .i64 bp]) ik) ∧
 (bp = 0 →
 ∀ (fx : World), Ext (fun b => b = a8) gt fx →
 Calls Try.prog 19 #[.agg #[.int .i64 a0, .int .i64 0, .int .i64 0, .int .u64 0, .int .i64 0, .int .i64 0, .int .i64 0, .slice none 0 0, .int .u64 0, .int .i64 0, .int .i64 0, .int .u64 0, .int .i64 0, .int .i64 0, .int .i64 0, .slice none 0 0, .int .u64 0, .int .i64 a7, .slice dp cc ch, .int .u64 db]] fx fun k2 i8 => ∃ (dj : Bool), k2 = .returned (.bool dj) ∧
 Keep [p8, a8] fx i8 ∧
 (dj = false →
 ∀ (j8 : World), Ext (fun b => b = p8) i8 j8 →
 R (.tuple #[.agg #[.int .i64 0, .int .i64 0, .int .i64 0, .int .u64 0, .int .i64 0, .int .i64 0, .int .i64 0, .slice none 0 0, .int .u64 0, .int .i64 0, .int .i64 0, .int .u64 0, .int .i64 0, .int .i64 0, .int .i64 0, .slice none 0 0, .int .u64 0, .int .i64 0, .slice none 0 0, .int .u64 0], .int .i64 4]) j8) ∧
 (dj = true →
 ∀ (il : World), Ext (fun b => b = p8) i8 il →
 R (.tuple #[.agg #[.int .i64 a0, .int .i64 0, .int .i64 0, .int .u64 0, .int .i64 0, .int .i64 0, .int .i64 0, .slice none 0 0, .int .u64 0, .int .i64 0, .int .i64 0, .int .u64 0, .int .i64 0, .int .i64 0, .int .i64 0, .slice none 0 0, .int .u64 0, .int .i64 a7, .slice dp cc ch, .int .u64 db], .int .i64 0]) il))))) ∧
 (a0 ≠ 3 →
 Calls Try.prog 46 #[.pointer (some (blk q7))] f0 fun ke e4 => ∃ (bg : Int), ke = .returned (.int .i64 bg) ∧
 Keep [p8, a8] f0 e4 ∧
 (bg ≠ 0 →
 ∀ (jj : World), Ext (fun b => b = p8) e4 jj →
 R (.tuple #[.agg #[.int .i64 0, .int .i64 0, .int .i64 0, .int .u64 0, .int .i64 0, .int .i64 0, .int .i64 0, .slice none 0 0, .int .u64 0, .int .i64 0, .int .i64 0, .int .u64 0, .int .i64 0, .int .i64 0, .int .i64 0, .slice none 0 0, .int .u64 0, .int .i64 0, .slice none 0 0, .int .u64 0], .int .i64 bg]) jj) ∧
 (bg = 0 →
 (a0 = 4 →
 Calls Try.prog 47 #[.slice none 0 0] e4 fun ks fv => ∃ (b2 dl er fb fe c9 : Int) (d9 : Option Addr) (c1 dn : Nat) (fp bk : Int), ks = .returned (.tuple #[.agg #[.int .i64 b2, .int .i64 dl, .int .u64 er, .int .i64 fb, .int .i64 fe, .int .i64 c9, .slice d9 c1 dn, .int .u64 fp], .int .i64 bk]) ∧
 Keep [p8, a8] e4 fv ∧
 (bk ≠ 0 →
 ∀ (ih : World), Ext (fun b => b = p8) fv ih →
 R (.tuple #[.agg #[.int .i64 0, .int .i64 0, .int .i64 0, .int .u64 0, .int .i64 0, .int .i64 0, .int .i64 0, .slice none 0 0, .int .u64 0, .int .i64 0, .int .i64 0, .int .u64 0, .int .i64 0, .int .i64 0, .int .i64 0, .slice none 0 0, .int .u64 0, .int .i64 0, .slice none 0 0, .int .u64 0], .int .i64 bk]) ih) ∧
 (bk = 0 →
 ∀ (i0 : World), Ext (fun b => b = a8) fv i0 →
 Calls Try.prog 47 #[.slice none 0 0] i0 fun kq gd => ∃ (b3 bs ek fq fd de : Int) (dm : Option Addr) (cj cg : Nat) (f7 b5 : Int), kq = .returned (.tuple #[.agg #[.int .i64 b3, .int .i64 bs, .int .u64 ek, .int .i64 fq, .int .i64 fd, .int .i64 de, .slice dm cj cg, .int .u64 f7], .int .i64 b5]) ∧
 Keep [p8, a8] i0 gd ∧
 (b5 ≠ 0 →
 ∀ (je : World), Ext (fun b => b = p8) gd je →
 R (.tuple #[.agg #[.int .i64 0, .int .i64 0, .int .i64 0, .int .u64 0, .int .i64 0, .int .i64 0, .int .i64 0, .slice none 0 0, .int .u64 0, .int .i64 0, .int .i64 0, .int .u64 0, .int .i64 0, .int .i64 0, .int .i64 0, .slice none 0 0, .int .u64 0, .int .i64 0, .slice none 0 0, .int .u64 0], .int .i64 b5]) je) ∧
 (b5 = 0 →
 ∀ (gs : World), Ext (fun b => b = a8) gd gs →
 Calls Try.prog 48 #[.slice ag af ac] gs fun ko gp => ∃ (c2 : Option Addr) (cl cm : Nat) (bd : Int), ko = .returned (.tuple #[.slice c2 cl cm, .int .i64 bd]) ∧
 Keep [p8, a8] gs gp ∧
 (bd ≠ 0 →
 ∀ (j0 : World), Ext (fun b => b = p8) gp j0 →
 R (.tuple #[.agg #[.int .i64 0, .int .i64 0, .int .i64 0, .int .u64 0, .int .i64 0, .int .i64 0, .int .i64 0, .slice none 0 0, .int .u64 0, .int .i64 0, .int .i64 0, .int .u64 0, .int .i64 0, .int .i64 0, .int .i64 0, .slice none 0 0, .int .u64 0, .int .i64 0, .slice none 0 0, .int .u64 0], .int .i64 bd]) j0) ∧
 (bd = 0 →
 ∀ (gb : World), Ext (fun b => b = a8) gp gb →
 Calls Try.prog 19 #[.agg #[.int .i64 a0, .int .i64 b2, .int .i64 dl, .int .u64 er, .int .i64 fb, .int .i64 fe, .int .i64 c9, .slice d9 c1 dn, .int .u64 fp, .int .i64 b3, .int .i64 bs, .int .u64 ek, .int .i64 fq, .int .i64 fd, .int .i64 de, .slice dm cj cg, .int .u64 f7, .int .i64 a7, .slice c2 cl cm, .int .u64 0]] gb fun le g0 => ∃ (ca : Bool), le = .returned (.bool ca) ∧
 Keep [p8, a8] gb g0 ∧
 (ca = false →
 ∀ (it : World), Ext (fun b => b = p8) g0 it →
 R (.tuple #[.agg #[.int .i64 0, .int .i64 0, .int .i64 0, .int .u64 0, .int .i64 0, .int .i64 0, .int .i64 0, .slice none 0 0, .int .u64 0, .int .i64 0, .int .i64 0, .int .u64 0, .int .i64 0, .int .i64 0, .int .i64 0, .slice none 0 0, .int .u64 0, .int .i64 0, .slice none 0 0, .int .u64 0], .int .i64 4]) it) ∧
 (ca = true →
 ∀ (ig : World), Ext (fun b => b = p8) g0 ig →
 R (.tuple #[.agg #[.int .i64 a0, .int .i64 b2, .int .i64 dl, .int .u64 er, .int .i64 fb, .int .i64 fe, .int .i64 c9, .slice d9 c1 dn, .int .u64 fp, .int .i64 b3, .int .i64 bs, .int .u64 ek, .int .i64 fq, .int .i64 fd, .int .i64 de, .slice dm cj cg, .int .u64 f7, .int .i64 a7, .slice c2 cl cm, .int .u64 0], .int .i64 0]) ig))))) ∧
 (a0 ≠ 4 →
 Calls Try.prog 48 #[.slice ag af ac] e4 fun k9 gg => ∃ (cn : Option Addr) (co da : Nat) (bl : Int), k9 = .returned (.tuple #[.slice cn co da, .int .i64 bl]) ∧
 Keep [p8, a8] e4 gg ∧
 (bl ≠ 0 →
 ∀ (j1 : World), Ext (fun b => b = p8) gg j1 →
 R (.tuple #[.agg #[.int .i64 0, .int .i64 0, .int .i64 0, .int .u64 0, .int .i64 0, .int .i64 0, .int .i64 0, .slice none 0 0, .int .u64 0, .int .i64 0, .int .i64 0, .int .u64 0, .int .i64 0, .int .i64 0, .int .i64 0, .slice none 0 0, .int .u64 0, .int .i64 0, .slice none 0 0, .int .u64 0], .int .i64 bl]) j1) ∧
 (bl = 0 →
 ∀ (gk : World), Ext (fun b => b = a8) gg gk →
 Calls Try.prog 19 #[.agg #[.int .i64 a0, .int .i64 0, .int .i64 0, .int .u64 0, .int .i64 0, .int .i64 0, .int .i64 0, .slice none 0 0, .int .u64 0, .int .i64 0, .int .i64 0, .int .u64 0, .int .i64 0, .int .i64 0, .int .i64 0, .slice none 0 0, .int .u64 0, .int .i64 a7, .slice cn co da, .int .u64 0]] gk fun kk i3 => ∃ (cp : Bool), kk = .returned (.bool cp) ∧
 Keep [p8, a8] gk i3 ∧
 (cp = false →
 ∀ (iw : World), Ext (fun b => b = p8) i3 iw →
 R (.tuple #[.agg #[.int .i64 0, .int .i64 0, .int .i64 0, .int .u64 0, .int .i64 0, .int .i64 0, .int .i64 0, .slice none 0 0, .int .u64 0, .int .i64 0, .int .i64 0, .int .u64 0, .int .i64 0, .int .i64 0, .int .i64 0, .slice none 0 0, .int .u64 0, .int .i64 0, .slice none 0 0, .int .u64 0], .int .i64 4]) iw) ∧
 (cp = true →
 ∀ (ii : World), Ext (fun b => b = p8) i3 ii →
 R (.tuple #[.agg #[.int .i64 a0, .int .i64 0, .int .i64 0, .int .u64 0, .int .i64 0, .int .i64 0, .int .i64 0, .slice none 0 0, .int .u64 0, .int .i64 0, .int .i64 0, .int .u64 0, .int .i64 0, .int .i64 0, .int .i64 0, .slice none 0 0, .int .u64 0, .int .i64 a7, .slice cn co da, .int .u64 0], .int .i64 0]) ii)))))) ∧
 (a0 ≠ 2 →
 (a0 = 3 →
 ∀ (aa : World) (an : Nat), Ext no bv aa → Priv bv aa [an] →
 Calls Try.prog 43 #[.pointer (some (blk q7)), .int .i64 7] aa fun ka iu => ∃ (ao : Int), ka = .returned (.int .i64 ao) ∧
 Keep [p8, an] aa iu ∧
 ∀ (gc : World), Ext (fun b => b = an) iu gc →
 Calls Try.prog 44 #[.pointer (some (blk q7)), .int .i64 4000] gc fun k7 ge => ∃ (av : Option Addr) (ax au : Nat), k7 = .returned (.slice av ax au) ∧
 Keep [p8, an] gc ge ∧
 Calls Try.prog 45 #[.pointer (some (blk q7))] ge fun k4 ir => ∃ (dc : Int), k4 = .returned (.int .u64 dc) ∧
 Keep [p8, an] ge ir ∧
 ∀ (i5 : World), Ext (fun b => b = an) ir i5 →
 Calls Try.prog 46 #[.pointer (some (blk q7))] i5 fun l9 dz => ∃ (b6 : Int), l9 = .returned (.int .i64 b6) ∧
 Keep [p8, an] i5 dz ∧
 (b6 ≠ 0 →
 ∀ (jm : World), Ext (fun b => b = p8) dz jm →
 R (.tuple #[.agg #[.int .i64 0, .int .i64 0, .int .i64 0, .int .u64 0, .int .i64 0, .int .i64 0, .int .i64 0, .slice none 0 0, .int .u64 0, .int .i64 0, .int .i64 0, .int .u64 0, .int .i64 0, .int .i64 0, .int .i64 0, .slice none 0 0, .int .u64 0, .int .i64 0, .slice none 0 0, .int .u64 0], .int .i64 b6]) jm) ∧
 (b6 = 0 →
 (a0 = 4 →
 Calls Try.prog 47 #[.slice none 0 0] dz fun k0 gz => ∃ (ar d1 em f9 fa d4 : Int) (d0 : Option Addr) (d7 dw : Nat) (f5 bj : Int), k0 = .returned (.tuple #[.agg #[.int .i64 ar, .int .i64 d1, .int .u64 em, .int .i64 f9, .int .i64 fa, .int .i64 d4, .slice d0 d7 dw, .int .u64 f5], .int .i64 bj]) ∧
 Keep [p8, an] dz gz ∧
 (bj ≠ 0 →
 ∀ (ic : World), Ext (fun b => b = p8) gz ic →
 R (.tuple #[.agg #[.int .i64 0, .int .i64 0, .int .i64 0, .int .u64 0, .int .i64 0, .int .i64 0, .int .i64 0, .slice none 0 0, .int .u64 0, .int .i64 0, .int .i64 0, .int .u64 0, .int .i64 0, .int .i64 0, .int .i64 0, .slice none 0 0, .int .u64 0, .int .i64 0, .slice none 0 0, .int .u64 0], .int .i64 bj]) ic) ∧
 (bj = 0 →
 ∀ (fz : World), Ext (fun b => b = an) gz fz →
 Calls Try.prog 47 #[.slice none 0 0] fz fun k8 i6 => ∃ (b1 cx et fo fh c3 : Int) (bz : Option Addr) (cs c5 : Nat) (f3 ba : Int), k8 = .returned (.tuple #[.agg #[.int .i64 b1, .int .i64 cx, .int .u64 et, .int .i64 fo, .int .i64 fh, .int .i64 c3, .slice bz cs c5, .int .u64 f3], .int .i64 ba]) ∧
 Keep [p8, an] fz i6 ∧
 (ba ≠ 0 →
 ∀ (jd : World), Ext (fun b => b = p8) i6 jd →
 R (.tuple #[.agg #[.int .i64 0, .int .i64 0, .int .i64 0, .int .u64 0, .int .i64 0, .int .i64 0, .int .i64 0, .slice none 0 0, .int .u64 0, .int .i64 0, .int .i64 0, .int .u64 0, .int .i64 0, .int .i64 0, .int .i64 0, .slice none 0 0, .int .u64 0, .int .i64 0, .slice none 0 0, .int .u64 0], .int .i64 ba]) jd) ∧
 (ba = 0 →
 ∀ (i4 : World), Ext (fun b => b = an) i6 i4 →
 Calls Try.prog 48 #[.slice av ax au] i4 fun kr gv => ∃ (c6 : Option Addr) (c7 ds : Nat) (b8 : Int), kr = .returned (.tuple #[.slice c6 c7 ds, .int .i64 b8]) ∧
 Keep [p8, an] i4 gv ∧
 (b8 ≠ 0 →
 ∀ (jk : World), Ext (fun b => b = p8) gv jk →
 R (.tuple #[.agg #[.int .i64 0, .int .i64 0, .int .i64 0, .int .u64 0, .int .i64 0, .int .i64 0, .int .i64 0, .slice none 0 0, .int .u64 0, .int .i64 0, .int .i64 0, .int .u64 0, .int .i64 0, .int .i64 0, .int .i64 0, .slice none 0 0, .int .u64 0, .int .i64 0, .slice none 0 0, .int .u64 0], .int .i64 b8]) jk) ∧
 (b8 = 0 →
 ∀ (gf : World), Ext (fun b => b = an) gv gf →
 Calls Try.prog 19 #[.agg #[.int .i64 a0, .int .i64 ar, .int .i64 d1, .int .u64 em, .int .i64 f9, .int .i64 fa, .int .i64 d4, .slice d0 d7 dw, .int .u64 f5, .int .i64 b1, .int .i64 cx, .int .u64 et, .int .i64 fo, .int .i64 fh, .int .i64 c3, .slice bz cs c5, .int .u64 f3, .int .i64 ao, .slice c6 c7 ds, .int .u64 dc]] gf fun k5 fu => ∃ (d8 : Bool), k5 = .returned (.bool d8) ∧
 Keep [p8, an] gf fu ∧
 (d8 = false →
 ∀ (jh : World), Ext (fun b => b = p8) fu jh →
 R (.tuple #[.agg #[.int .i64 0, .int .i64 0, .int .i64 0, .int .u64 0, .int .i64 0, .int .i64 0, .int .i64 0, .slice none 0 0, .int .u64 0, .int .i64 0, .int .i64 0, .int .u64 0, .int .i64 0, .int .i64 0, .int .i64 0, .slice none 0 0, .int .u64 0, .int .i64 0, .slice none 0 0, .int .u64 0], .int .i64 4]) jh) ∧
 (d8 = true →
 ∀ (jf : World), Ext (fun b => b = p8) fu jf →
 R (.tuple #[.agg #[.int .i64 a0, .int .i64 ar, .int .i64 d1, .int .u64 em, .int .i64 f9, .int .i64 fa, .int .i64 d4, .slice d0 d7 dw, .int .u64 f5, .int .i64 b1, .int .i64 cx, .int .u64 et, .int .i64 fo, .int .i64 fh, .int .i64 c3, .slice bz cs c5, .int .u64 f3, .int .i64 ao, .slice c6 c7 ds, .int .u64 dc], .int .i64 0]) jf))))) ∧
 (a0 ≠ 4 →
 Calls Try.prog 48 #[.slice av ax au] dz fun ky i7 => ∃ (ct : Option Addr) (cd cw : Nat) (be : Int), ky = .returned (.tuple #[.slice ct cd cw, .int .i64 be]) ∧
 Keep [p8, an] dz i7 ∧
 (be ≠ 0 →
 ∀ (iz : World), Ext (fun b => b = p8) i7 iz →
 R (.tuple #[.agg #[.int .i64 0, .int .i64 0, .int .i64 0, .int .u64 0, .int .i64 0, .int .i64 0, .int .i64 0, .slice none 0 0, .int .u64 0, .int .i64 0, .int .i64 0, .int .u64 0, .int .i64 0, .int .i64 0, .int .i64 0, .slice none 0 0, .int .u64 0, .int .i64 0, .slice none 0 0, .int .u64 0], .int .i64 be]) iz) ∧
 (be = 0 →
 ∀ (ga : World), Ext (fun b => b = an) i7 ga →
 Calls Try.prog 19 #[.agg #[.int .i64 a0, .int .i64 0, .int .i64 0, .int .u64 0, .int .i64 0, .int .i64 0, .int .i64 0, .slice none 0 0, .int .u64 0, .int .i64 0, .int .i64 0, .int .u64 0, .int .i64 0, .int .i64 0, .int .i64 0, .slice none 0 0, .int .u64 0, .int .i64 ao, .slice ct cd cw, .int .u64 dc]] ga fun l6 i1 => ∃ (c0 : Bool), l6 = .returned (.bool c0) ∧
 Keep [p8, an] ga i1 ∧
 (c0 = false →
 ∀ (j7 : World), Ext (fun b => b = p8) i1 j7 →
 R (.tuple #[.agg #[.int .i64 0, .int .i64 0, .int .i64 0, .int .u64 0, .int .i64 0, .int .i64 0, .int .i64 0, .slice none 0 0, .int .u64 0, .int .i64 0, .int .i64 0, .int .u64 0, .int .i64 0, .int .i64 0, .int .i64 0, .slice none 0 0, .int .u64 0, .int .i64 0, .slice none 0 0, .int .u64 0], .int .i64 4]) j7) ∧
 (c0 = true →
 ∀ (ip : World), Ext (fun b => b = p8) i1 ip →
 R (.tuple #[.agg #[.int .i64 a0, .int .i64 0, .int .i64 0, .int .u64 0, .int .i64 0, .int .i64 0, .int .i64 0, .slice none 0 0, .int .u64 0, .int .i64 0, .int .i64 0, .int .u64 0, .int .i64 0, .int .i64 0, .int .i64 0, .slice none 0 0, .int .u64 0, .int .i64 ao, .slice ct cd cw, .int .u64 dc], .int .i64 0]) ip))))) ∧
 (a0 ≠ 3 →
 (a0 = 4 →
 ∀ (aa : World) (ej : Nat), Ext no bv aa → Priv bv aa [ej] →
 Calls Try.prog 44 #[.pointer (some (blk q7)), .int .i64 4000] aa fun kj gm => ∃ (e1 : Option Addr) (e6 e2 : Nat), kj = .returned (.slice e1 e6 e2) ∧
 Keep [p8, ej] aa gm ∧
 Calls Try.prog 44 #[.pointer (some (blk q7)), .int .i64 4000] gm fun kb gy => ∃ (e3 : Option Addr) (e5 e0 : Nat), kb = .returned (.slice e3 e5 e0) ∧
 Keep [p8, ej] gm gy ∧
 Calls Try.prog 46 #[.pointer (some (blk q7))] gy fun kp fr => ∃ (b7 : Int), kp = .returned (.int .i64 b7) ∧
 Keep [p8, ej] gy fr ∧
 (b7 ≠ 0 →
 ∀ (iy : World), Ext (fun b => b = p8) fr iy →
 R (.tuple #[.agg #[.int .i64 0, .int .i64 0, .int .i64 0, .int .u64 0, .int .i64 0, .int .i64 0, .int .i64 0, .slice none 0 0, .int .u64 0, .int .i64 0, .int .i64 0, .int .u64 0, .int .i64 0, .int .i64 0, .int .i64 0, .slice none 0 0, .int .u64 0, .int .i64 0, .slice none 0 0, .int .u64 0], .int .i64 b7]) iy) ∧
 (b7 = 0 →
 Calls Try.prog 47 #[.slice e1 e6 e2] fr fun ku gl => ∃ (aw br ef fi fc cb : Int) (cy : Option Addr) (d3 c8 : Nat) (fj bc : Int), ku = .returned (.tuple #[.agg #[.int .i64 aw, .int .i64 br, .int .u64 ef, .int .i64 fi, .int .i64 fc, .int .i64 cb, .slice cy d3 c8, .int .u64 fj], .int .i64 bc]) ∧
 Keep [p8, ej] fr gl ∧
 (bc ≠ 0 →
 ∀ (ij : World), Ext (fun b => b = p8) gl ij →
 R (.tuple #[.agg #[.int .i64 0, .int .i64 0, .int .i64 0, .int .u64 0, .int .i64 0, .int .i64 0, .int .i64 0, .slice none 0 0, .int .u64 0, .int .i64 0, .int .i64 0, .int .u64 0, .int .i64 0, .int .i64 0, .int .i64 0, .slice none 0 0, .int .u64 0, .int .i64 0, .slice none 0 0, .int .u64 0], .int .i64 bc]) ij) ∧
 (bc = 0 →
 ∀ (i9 : World), Ext (fun b => b = ej) gl i9 →
 Calls Try.prog 47 #[.slice e3 e5 e0] i9 fun k6 gj => ∃ (b0 bu en f6 fm dt : Int) (bq : Option Addr) (ce bw : Nat) (f8 bn : Int), k6 = .returned (.tuple #[.agg #[.int .i64 b0, .int .i64 bu, .int .u64 en, .int .i64 f6, .int .i64 fm, .int .i64 dt, .slice bq ce bw, .int .u64 f8], .int .i64 bn]) ∧
 Keep [p8, ej] i9 gj ∧
 (bn ≠ 0 →
 ∀ (ja : World), Ext (fun b => b = p8) gj ja →
 R (.tuple #[.agg #[.int .i64 0, .int .i64 0, .int .i64 0, .int .u64 0, .int .i64 0, .int .i64 0, .int .i64 0, .slice none 0 0, .int .u64 0, .int .i64 0, .int .i64 0, .int .u64 0, .int .i64 0, .int .i64 0, .int .i64 0, .slice none 0 0, .int .u64 0, .int .i64 0, .slice none 0 0, .int .u64 0], .int .i64 bn]) ja) ∧
 (bn = 0 →
 ∀ (gi : World), Ext (fun b => b = ej) gj gi →
 Calls Try.prog 19 #[.agg #[.int .i64 a0, .int .i64 aw, .int .i64 br, .int .u64 ef, .int .i64 fi, .int .i64 fc, .int .i64 cb, .slice cy d3 c8, .int .u64 fj, .int .i64 b0, .int .i64 bu, .int .u64 en, .int .i64 f6, .int .i64 fm, .int .i64 dt, .slice bq ce bw, .int .u64 f8, .int .i64 0, .slice none 0 0, .int .u64 0]] gi fun l8 g8 => ∃ (cf : Bool), l8 = .returned (.bool cf) ∧
 Keep [p8, ej] gi g8 ∧
 (cf = false →
 ∀ (j3 : World), Ext (fun b => b = p8) g8 j3 →
 R (.tuple #[.agg #[.int .i64 0, .int .i64 0, .int .i64 0, .int .u64 0, .int .i64 0, .int .i64 0, .int .i64 0, .slice none 0 0, .int .u64 0, .int .i64 0, .int .i64 0, .int .u64 0, .int .i64 0, .int .i64 0, .int .i64 0, .slice none 0 0, .int .u64 0, .int .i64 0, .slice none 0 0, .int .u64 0], .int .i64 4]) j3) ∧
 (cf = true →
 ∀ (io : World), Ext (fun b => b = p8) g8 io →
 R (.tuple #[.agg #[.int .i64 a0, .int .i64 aw, .int .i64 br, .int .u64 ef, .int .i64 fi, .int .i64 fc, .int .i64 cb, .slice cy d3 c8, .int .u64 fj, .int .i64 b0, .int .i64 bu, .int .u64 en, .int .i64 f6, .int .i64 fm, .int .i64 dt, .slice bq ce bw, .int .u64 f8, .int .i64 0, .slice none 0 0, .int .u64 0], .int .i64 0]) io))))) ∧
 (a0 ≠ 4 →
 ∀ (aa : World) (jx : Nat), Ext no bv aa → Priv bv aa [jx] →
 Calls Try.prog 46 #[.pointer (some (blk q7))] aa fun kc fs => ∃ (bo : Int), kc = .returned (.int .i64 bo) ∧
 Keep [p8, jx] aa fs ∧
 (bo ≠ 0 →
 ∀ (jb : World), Ext (fun b => b = p8) fs jb →
 R (.tuple #[.agg #[.int .i64 0, .int .i64 0, .int .i64 0, .int .u64 0, .int .i64 0, .int .i64 0, .int .i64 0, .slice none 0 0, .int .u64 0, .int .i64 0, .int .i64 0, .int .u64 0, .int .i64 0, .int .i64 0, .int .i64 0, .slice none 0 0, .int .u64 0, .int .i64 0, .slice none 0 0, .int .u64 0], .int .i64 bo]) jb) ∧
 (bo = 0 →
 Calls Try.prog 19 #[.agg #[.int .i64 a0, .int .i64 0, .int .i64 0, .int .u64 0, .int .i64 0, .int .i64 0, .int .i64 0, .slice none 0 0, .int .u64 0, .int .i64 0, .int .i64 0, .int .u64 0, .int .i64 0, .int .i64 0, .int .i64 0, .slice none 0 0, .int .u64 0, .int .i64 0, .slice none 0 0, .int .u64 0]] fs fun k3 g5 => ∃ (ck : Bool), k3 = .returned (.bool ck) ∧
 Keep [p8, jx] fs g5 ∧
 (ck = false →
 ∀ (iv : World), Ext (fun b => b = p8) g5 iv →
 R (.tuple #[.agg #[.int .i64 0, .int .i64 0, .int .i64 0, .int .u64 0, .int .i64 0, .int .i64 0, .int .i64 0, .slice none 0 0, .int .u64 0, .int .i64 0, .int .i64 0, .int .u64 0, .int .i64 0, .int .i64 0, .int .i64 0, .slice none 0 0, .int .u64 0, .int .i64 0, .slice none 0 0, .int .u64 0], .int .i64 4]) iv) ∧
 (ck = true →
 ∀ (ji : World), Ext (fun b => b = p8) g5 ji →
 R (.tuple #[.agg #[.int .i64 a0, .int .i64 0, .int .i64 0, .int .u64 0, .int .i64 0, .int .i64 0, .int .i64 0, .slice none 0 0, .int .u64 0, .int .i64 0, .int .i64 0, .int .u64 0, .int .i64 0, .int .i64 0, .int .i64 0, .slice none 0 0, .int .u64 0, .int .i64 0, .slice none 0 0, .int .u64 0], .int .i64 0]) ji)))))))

theorem Q00.up (xj : Option Addr) (xc x7 : Nat) {R : RW} {w : World} (h : Q00.N xj xc x7 R w) : Q00.M xj xc x7 R w := by
  unfold Q00.M
  unfold Q00.N at h
  refine Q02 fun yf e2 => ?_
  have a0 := Blk.of_new e2
  have xn := ((Ext.refl no w)).size
  have ql := (Ext.refl no w).x_alloc e2
  refine bif_of (fun c3 => ?_) (fun c3 => ?_)
  ·have h := h.1 (of_decide_eq_true c3)
   refine Q0a (k := 0) (j := 0) a0 (by exact Nat.le_of_ble_eq_true rfl) fun vl X4 b4 => ?_
   have y7 := ql.x_puts X4 (.inr xn)
   have a0 : Blk vl w.heap.size 30 [.int .i64 0, .int .i64 0, .int .i64 0, .int .u64 0, .int .i64 0, .int .i64 0, .int .i64 0, .slice none 0 0, .int .u64 0, .int .i64 0, .int .i64 0, .int .u64 0, .int .i64 0, .int .i64 0, .int .i64 0, .slice none 0 0, .int .u64 0, .int .i64 0, .slice none 0 0, .int .u64 0] := by simpa only [setAll, Nat.zero_add, Nat.add_zero, List.set_cons_zero, List.set_cons_succ] using b4
   refine ⟨0, 0, 0, 0, 0, 0, 0, none, 0, 0, 0, 0, 0, 0, 0, 0, 0, none, 0, 0, 0, 0, none, 0, 0, 0, ⟨a0.celli 0 rfl rfl, a0.celli 1 rfl rfl, a0.celli 2 rfl rfl, a0.celli 3 rfl rfl, a0.celli 4 rfl rfl, a0.celli 5 rfl rfl, a0.celli 6 rfl rfl, a0.celli 7 rfl rfl, a0.celli 8 rfl rfl, a0.celli 9 rfl rfl, a0.celli 10 rfl rfl, a0.celli 11 rfl rfl, a0.celli 12 rfl rfl, a0.celli 13 rfl rfl, a0.celli 14 rfl rfl, a0.celli 15 rfl rfl, a0.celli 16 rfl rfl, a0.celli 17 rfl rfl, a0.celli 18 rfl rfl, a0.celli 19 rfl rfl, trivial⟩, ?_⟩
   have h := h vl y7
   exact h
  have h := h.2 (Int.not_lt.1 (of_decide_eq_false c3))
  first | unfold Q00.J38 | skip
  refine Q02 fun yr e6 => ?_
  have y6 := a0.lt
  have a0 := a0.x_alloc e6
  have h := h yr yf.heap.size (w.heap.size) (ql.x_alloc e6) (Blk.of_new e6) (ql).size (Q0M e6) (Privq.cons xn y6 Privq.nil)
  refine h.mono fun xv a4 h => ?_
  obtain ⟨a2, he, hk, h⟩ := h
  refine ⟨a2, he, ?_⟩
  have a0 := hk.blk a0 (by simp)
  refine Q02 fun ye u4 => ?_
  have a1 := Blk.of_new u4
  have lm := ((Ext.refl no a4)).size
  have b7 := Nat.ne_of_lt a0.lt
  have a0 := a0.x_alloc u4
  have qn := (Ext.refl no a4).x_alloc u4
  refine Q0a (k := 0) (j := 0) a1 (by exact Nat.le_of_ble_eq_true rfl) fun eg x6 yl => ?_
  have ff := qn.x_puts x6 (.inr lm)
  have a0 := a0.x_puts x6 b7
  have a1 : Blk eg a4.heap.size 30 [.int .i64 a2, .int .i64 0, .int .i64 0, .int .u64 0, .int .i64 0, .int .i64 0, .int .i64 0, .slice none 0 0, .int .u64 0, .int .i64 0, .int .i64 0, .int .u64 0, .int .i64 0, .int .i64 0, .int .i64 0, .slice none 0 0, .int .u64 0, .int .i64 0, .slice none 0 0, .int .u64 0] := by simpa only [setAll, Nat.zero_add, Nat.add_zero, List.set_cons_zero, List.set_cons_succ] using yl
  refine ⟨a2, a1.celli 0 rfl rfl, ?_⟩
  refine bif_of (fun g6 => ?_) (fun g6 => ?_)
  ·have h := h.1 (beq_t g6)
   have h := h eg (a4.heap.size) ff (Priv.cons lm a1.lt Priv.nil)
   refine h.mono fun xx yi h => ?_
   obtain ⟨ey, fl, er, he, hk, h⟩ := h
   refine ⟨ey, fl, er, he, ?_⟩
   have a0 := hk.blk a0 (by simp)
   have a1 := hk.blk a1 (by simp)
   first | unfold Q00.J9 | unfold Q00.J18 | unfold Q00.J27 | unfold Q00.J36 | skip
   refine h.mono fun z1 ld h => ?_
   obtain ⟨kb, he, hk, h⟩ := h
   refine ⟨kb, he, ?_⟩
   have a0 := hk.blk a0 (by simp)
   have a1 := hk.blk a1 (by simp)
   refine bif_of (fun sv => ?_) (fun sv => ?_)
   ·have h := h.1 (bne_t sv)
    have u2 : Ext (fun b => b = w.heap.size) ld ld := ((Ext.refl no ld)).none
    refine Q0a (k := 0) (j := 0) a0 (by exact Nat.le_of_ble_eq_true rfl) fun nj xw yg => ?_
    have qd := u2.x_puts xw (.inl rfl)
    have a0 : Blk nj w.heap.size 30 [.int .i64 0, .int .i64 0, .int .i64 0, .int .u64 0, .int .i64 0, .int .i64 0, .int .i64 0, .slice none 0 0, .int .u64 0, .int .i64 0, .int .i64 0, .int .u64 0, .int .i64 0, .int .i64 0, .int .i64 0, .slice none 0 0, .int .u64 0, .int .i64 0, .slice none 0 0, .int .u64 0] := by simpa only [setAll, Nat.zero_add, Nat.add_zero, List.set_cons_zero, List.set_cons_succ] using yg
    refine ⟨0, 0, 0, 0, 0, 0, 0, none, 0, 0, 0, 0, 0, 0, 0, 0, 0, none, 0, 0, 0, 0, none, 0, 0, 0, ⟨a0.celli 0 rfl rfl, a0.celli 1 rfl rfl, a0.celli 2 rfl rfl, a0.celli 3 rfl rfl, a0.celli 4 rfl rfl, a0.celli 5 rfl rfl, a0.celli 6 rfl rfl, a0.celli 7 rfl rfl, a0.celli 8 rfl rfl, a0.celli 9 rfl rfl, a0.celli 10 rfl rfl, a0.celli 11 rfl rfl, a0.celli 12 rfl rfl, a0.celli 13 rfl rfl, a0.celli 14 rfl rfl, a0.celli 15 rfl rfl, a0.celli 16 rfl rfl, a0.celli 17 rfl rfl, a0.celli 18 rfl rfl, a0.celli 19 rfl rfl, trivial⟩, ?_⟩
    have h := h nj qd
    exact h
   have h := h.2 (bne_f sv)
   first | unfold Q00.J8 | unfold Q00.J17 | unfold Q00.J26 | unfold Q00.J35 | skip
   refine ⟨a2, a1.celli 0 rfl rfl, ?_⟩
   refine bif_tt g6 ?_
   first | unfold Q00.J6 | unfold Q00.J7 | unfold Q00.J15 | unfold Q00.J16 | unfold Q00.J24 | unfold Q00.J25 | unfold Q00.J33 | unfold Q00.J34 | skip
   refine h.mono fun yx f8 h => ?_
   obtain ⟨a5, a9, ak, av, ax, ab, a8, aa, a7, aw, lc, he, hk, h⟩ := h
   refine ⟨a5, a9, ak, av, ax, ab, a8, aa, a7, aw, lc, he, ?_⟩
   have a0 := hk.blk a0 (by simp)
   have a1 := hk.blk a1 (by simp)
   refine Q02 fun ya q5 => ?_
   have fq := Blk.of_new q5
   have y4 := ((Ext.refl no f8)).size
   have ot := Nat.ne_of_lt a0.lt
   have a0 := a0.x_alloc q5
   have ow := Nat.ne_of_lt a1.lt
   have a1 := a1.x_alloc q5
   have ub := (Ext.refl no f8).x_alloc q5
   refine Q0a (k := 0) (j := 0) fq (by exact Nat.le_of_ble_eq_true rfl) fun kw ue yz => ?_
   have ol := ub.x_puts ue (.inr y4)
   have a0 := a0.x_puts ue ot
   have a1 := a1.x_puts ue ow
   have fq : Blk kw f8.heap.size 27 [.int .i64 a5, .int .i64 a9, .int .u64 ak, .int .i64 av, .int .i64 ax, .int .i64 ab, .slice a8 aa a7, .int .u64 aw] := by simpa only [setAll, Nat.zero_add, Nat.add_zero, List.set_cons_zero, List.set_cons_succ] using yz
   refine bif_of (fun uk => ?_) (fun uk => ?_)
   ·have h := h.1 (bne_t uk)
    have ua : Ext (fun b => b = w.heap.size) f8 kw := (ol).none
    refine Q0a (k := 0) (j := 0) a0 (by exact Nat.le_of_ble_eq_true rfl) fun pa yj yn => ?_
    have ui := ua.x_puts yj (.inl rfl)
    have a0 : Blk pa w.heap.size 30 [.int .i64 0, .int .i64 0, .int .i64 0, .int .u64 0, .int .i64 0, .int .i64 0, .int .i64 0, .slice none 0 0, .int .u64 0, .int .i64 0, .int .i64 0, .int .u64 0, .int .i64 0, .int .i64 0, .int .i64 0, .slice none 0 0, .int .u64 0, .int .i64 0, .slice none 0 0, .int .u64 0] := by simpa only [setAll, Nat.zero_add, Nat.add_zero, List.set_cons_zero, List.set_cons_succ] using yn
    refine ⟨0, 0, 0, 0, 0, 0, 0, none, 0, 0, 0, 0, 0, 0, 0, 0, 0, none, 0, 0, 0, 0, none, 0, 0, 0, ⟨a0.celli 0 rfl rfl, a0.celli 1 rfl rfl, a0.celli 2 rfl rfl, a0.celli 3 rfl rfl, a0.celli 4 rfl rfl, a0.celli 5 rfl rfl, a0.celli 6 rfl rfl, a0.celli 7 rfl rfl, a0.celli 8 rfl rfl, a0.celli 9 rfl rfl, a0.celli 10 rfl rfl, a0.celli 11 rfl rfl, a0.celli 12 rfl rfl, a0.celli 13 rfl rfl, a0.celli 14 rfl rfl, a0.celli 15 rfl rfl, a0.celli 16 rfl rfl, a0.celli 17 rfl rfl, a0.celli 18 rfl rfl, a0.celli 19 rfl rfl, trivial⟩, ?_⟩
    have h := h pa ui
    exact h
   have h := h.2 (bne_f uk)
   refine ⟨a5, a9, ak, av, ax, ab, a8, aa, a7, aw, ⟨fq.celli 0 rfl rfl, fq.celli 1 rfl rfl, fq.celli 2 rfl rfl, fq.celli 3 rfl rfl, fq.celli 4 rfl rfl, fq.celli 5 rfl rfl, fq.celli 6 rfl rfl, fq.celli 7 rfl rfl, trivial⟩, ?_⟩
   have u6 : Ext (fun b => b = a4.heap.size) f8 kw := (ol).none
   refine Q0a (k := 1) (j := 0) (vs := [.int .i64 a5, .int .i64 a9, .int .u64 ak, .int .i64 av, .int .i64 ax, .int .i64 ab, .slice a8 aa a7, .int .u64 aw]) a1 (by exact Nat.le_of_ble_eq_true rfl) fun fe xd yq => ?_
   have gg := u6.x_puts xd (.inl rfl)
   have a0 := a0.x_puts xd b7
   have a1 : Blk fe a4.heap.size 30 [.int .i64 a2, .int .i64 a5, .int .i64 a9, .int .u64 ak, .int .i64 av, .int .i64 ax, .int .i64 ab, .slice a8 aa a7, .int .u64 aw, .int .i64 0, .int .i64 0, .int .u64 0, .int .i64 0, .int .i64 0, .int .i64 0, .slice none 0 0, .int .u64 0, .int .i64 0, .slice none 0 0, .int .u64 0] := by simpa only [setAll, Nat.zero_add, Nat.add_zero, List.set_cons_zero, List.set_cons_succ] using yq
   first | unfold Q00.J5 | unfold Q00.J14 | unfold Q00.J23 | unfold Q00.J32 | skip
   refine ⟨a2, a1.celli 0 rfl rfl, ?_⟩
   refine bif_fo (fun uz => ?_) (fun uz => ?_)
   ·have h := h.2 (beq_f uz)
    first | unfold Q00.J4 | unfold Q00.J13 | unfold Q00.J22 | unfold Q00.J31 | skip
    refine ⟨a2, a1.celli 0 rfl rfl, ?_⟩
    refine bif_of (fun tm => ?_) (fun tm => ?_)
    have h := h.1 (beq_t tm)
    first | unfold Q00.J2 | unfold Q00.J3 | unfold Q00.J11 | unfold Q00.J12 | unfold Q00.J20 | unfold Q00.J21 | unfold Q00.J29 | unfold Q00.J30 | skip
    have h := h fe gg
    refine h.mono fun vr d9 h => ?_
    obtain ⟨cd, c7, c8, fy, he, hk, h⟩ := h
    refine ⟨cd, c7, c8, fy, he, ?_⟩
    have a0 := hk.blk a0 (by simp)
    have a1 := hk.blk a1 (by simp)
    refine bif_of (fun kr => ?_) (fun kr => ?_)
    ·have h := h.1 (bne_t kr)
     have pl : Ext (fun b => b = w.heap.size) d9 d9 := ((Ext.refl no d9)).none
     refine Q0a (k := 0) (j := 0) a0 (by exact Nat.le_of_ble_eq_true rfl) fun ik qu qe => ?_
     have mo := pl.x_puts qu (.inl rfl)
     have a0 : Blk ik w.heap.size 30 [.int .i64 0, .int .i64 0, .int .i64 0, .int .u64 0, .int .i64 0, .int .i64 0, .int .i64 0, .slice none 0 0, .int .u64 0, .int .i64 0, .int .i64 0, .int .u64 0, .int .i64 0, .int .i64 0, .int .i64 0, .slice none 0 0, .int .u64 0, .int .i64 0, .slice none 0 0, .int .u64 0] := by simpa only [setAll, Nat.zero_add, Nat.add_zero, List.set_cons_zero, List.set_cons_succ] using qe
     refine ⟨0, 0, 0, 0, 0, 0, 0, none, 0, 0, 0, 0, 0, 0, 0, 0, 0, none, 0, 0, 0, 0, none, 0, 0, 0, ⟨a0.celli 0 rfl rfl, a0.celli 1 rfl rfl, a0.celli 2 rfl rfl, a0.celli 3 rfl rfl, a0.celli 4 rfl rfl, a0.celli 5 rfl rfl, a0.celli 6 rfl rfl, a0.celli 7 rfl rfl, a0.celli 8 rfl rfl, a0.celli 9 rfl rfl, a0.celli 10 rfl rfl, a0.celli 11 rfl rfl, a0.celli 12 rfl rfl, a0.celli 13 rfl rfl, a0.celli 14 rfl rfl, a0.celli 15 rfl rfl, a0.celli 16 rfl rfl, a0.celli 17 rfl rfl, a0.celli 18 rfl rfl, a0.celli 19 rfl rfl, trivial⟩, ?_⟩
     have h := h ik mo
     exact h
    have h := h.2 (bne_f kr)
    have mu : Ext (fun b => b = a4.heap.size) d9 d9 := ((Ext.refl no d9)).none
    refine ⟨a1.cani 18 rfl rfl, Q02 fun e1 l5 => ?_⟩
    have i7 := mu.x_set (q := a4.heap.size) (i := 18) rfl (.inl rfl) l5
    have a0 := a0.oth (q := a4.heap.size) (i := 18) rfl b7 l5
    have a1 : Blk e1 a4.heap.size 30 [.int .i64 a2, .int .i64 a5, .int .i64 a9, .int .u64 ak, .int .i64 av, .int .i64 ax, .int .i64 ab, .slice a8 aa a7, .int .u64 aw, .int .i64 0, .int .i64 0, .int .u64 0, .int .i64 0, .int .i64 0, .int .i64 0, .slice none 0 0, .int .u64 0, .int .i64 0, .slice cd c7 c8, .int .u64 0] := a1.seti 18 rfl l5
    rotate_left
    have h := h.2 (beq_f tm)
    refine ⟨a2, a1.celli 0 rfl rfl, ?_⟩
    first | unfold Q00.J2 | unfold Q00.J3 | unfold Q00.J11 | unfold Q00.J12 | unfold Q00.J20 | unfold Q00.J21 | unfold Q00.J29 | unfold Q00.J30 | skip
    refine bif_fo (fun la => ?_) (fun la => ?_)
    ·have h := h.2 (beq_f la)
     first | unfold Q00.J1 | unfold Q00.J10 | unfold Q00.J19 | unfold Q00.J28 | skip
     refine ⟨a2, a5, a9, ak, av, ax, ab, a8, aa, a7, aw, 0, 0, 0, 0, 0, 0, none, 0, 0, 0, 0, none, 0, 0, 0, ⟨a1.celli 0 rfl rfl, a1.celli 1 rfl rfl, a1.celli 2 rfl rfl, a1.celli 3 rfl rfl, a1.celli 4 rfl rfl, a1.celli 5 rfl rfl, a1.celli 6 rfl rfl, a1.celli 7 rfl rfl, a1.celli 8 rfl rfl, a1.celli 9 rfl rfl, a1.celli 10 rfl rfl, a1.celli 11 rfl rfl, a1.celli 12 rfl rfl, a1.celli 13 rfl rfl, a1.celli 14 rfl rfl, a1.celli 15 rfl rfl, a1.celli 16 rfl rfl, a1.celli 17 rfl rfl, a1.celli 18 rfl rfl, a1.celli 19 rfl rfl, trivial⟩, ?_⟩
     have h := h fe gg
     refine h.mono fun vi de h => ?_
     obtain ⟨f6, he, hk, h⟩ := h
     refine ⟨f6, he, ?_⟩
     have a0 := hk.blk a0 (by simp)
     have a1 := hk.blk a1 (by simp)
     refine bif_of (fun ke => ?_) (fun ke => ?_)
     ·have h := h.1 (not_t ke)
      have mi : Ext (fun b => b = w.heap.size) de de := ((Ext.refl no de)).none
      refine Q0a (k := 0) (j := 0) a0 (by exact Nat.le_of_ble_eq_true rfl) fun jf tr td => ?_
      have pc := mi.x_puts tr (.inl rfl)
      have a0 : Blk jf w.heap.size 30 [.int .i64 0, .int .i64 0, .int .i64 0, .int .u64 0, .int .i64 0, .int .i64 0, .int .i64 0, .slice none 0 0, .int .u64 0, .int .i64 0, .int .i64 0, .int .u64 0, .int .i64 0, .int .i64 0, .int .i64 0, .slice none 0 0, .int .u64 0, .int .i64 0, .slice none 0 0, .int .u64 0] := by simpa only [setAll, Nat.zero_add, Nat.add_zero, List.set_cons_zero, List.set_cons_succ] using td
      refine ⟨0, 0, 0, 0, 0, 0, 0, none, 0, 0, 0, 0, 0, 0, 0, 0, 0, none, 0, 0, 0, 0, none, 0, 0, 0, ⟨a0.celli 0 rfl rfl, a0.celli 1 rfl rfl, a0.celli 2 rfl rfl, a0.celli 3 rfl rfl, a0.celli 4 rfl rfl, a0.celli 5 rfl rfl, a0.celli 6 rfl rfl, a0.celli 7 rfl rfl, a0.celli 8 rfl rfl, a0.celli 9 rfl rfl, a0.celli 10 rfl rfl, a0.celli 11 rfl rfl, a0.celli 12 rfl rfl, a0.celli 13 rfl rfl, a0.celli 14 rfl rfl, a0.celli 15 rfl rfl, a0.celli 16 rfl rfl, a0.celli 17 rfl rfl, a0.celli 18 rfl rfl, a0.celli 19 rfl rfl, trivial⟩, ?_⟩
      have h := h jf pc
      exact h
     have h := h.2 (not_f ke)
     refine ⟨a2, a5, a9, ak, av, ax, ab, a8, aa, a7, aw, 0, 0, 0, 0, 0, 0, none, 0, 0, 0, 0, none, 0, 0, 0, ⟨a1.celli 0 rfl rfl, a1.celli 1 rfl rfl, a1.celli 2 rfl rfl, a1.celli 3 rfl rfl, a1.celli 4 rfl rfl, a1.celli 5 rfl rfl, a1.celli 6 rfl rfl, a1.celli 7 rfl rfl, a1.celli 8 rfl rfl, a1.celli 9 rfl rfl, a1.celli 10 rfl rfl, a1.celli 11 rfl rfl, a1.celli 12 rfl rfl, a1.celli 13 rfl rfl, a1.celli 14 rfl rfl, a1.celli 15 rfl rfl, a1.celli 16 rfl rfl, a1.celli 17 rfl rfl, a1.celli 18 rfl rfl, a1.celli 19 rfl rfl, trivial⟩, ?_⟩
     have m6 : Ext (fun b => b = w.heap.size) de de := ((Ext.refl no de)).none
     refine Q0a (k := 0) (j := 0) a0 (by exact Nat.le_of_ble_eq_true rfl) fun j0 tk tn => ?_
     have me := m6.x_puts tk (.inl rfl)
     have a0 : Blk j0 w.heap.size 30 [.int .i64 a2, .int .i64 a5, .int .i64 a9, .int .u64 ak, .int .i64 av, .int .i64 ax, .int .i64 ab, .slice a8 aa a7, .int .u64 aw, .int .i64 0, .int .i64 0, .int .u64 0, .int .i64 0, .int .i64 0, .int .i64 0, .slice none 0 0, .int .u64 0, .int .i64 0, .slice none 0 0, .int .u64 0] := by simpa only [setAll, Nat.zero_add, Nat.add_zero, List.set_cons_zero, List.set_cons_succ] using tn
     refine ⟨a2, a5, a9, ak, av, ax, ab, a8, aa, a7, aw, 0, 0, 0, 0, 0, 0, none, 0, 0, 0, 0, none, 0, 0, 0, ⟨a0.celli 0 rfl rfl, a0.celli 1 rfl rfl, a0.celli 2 rfl rfl, a0.celli 3 rfl rfl, a0.celli 4 rfl rfl, a0.celli 5 rfl rfl, a0.celli 6 rfl rfl, a0.celli 7 rfl rfl, a0.celli 8 rfl rfl, a0.celli 9 rfl rfl, a0.celli 10 rfl rfl, a0.celli 11 rfl rfl, a0.celli 12 rfl rfl, a0.celli 13 rfl rfl, a0.celli 14 rfl rfl, a0.celli 15 rfl rfl, a0.celli 16 rfl rfl, a0.celli 17 rfl rfl, a0.celli 18 rfl rfl, a0.celli 19 rfl rfl, trivial⟩, ?_⟩
     have h := h j0 me
     exact h
    have h := h.1 (beq_t la)
    have h := h fe gg
    refine h.mono fun xo db h => ?_
    obtain ⟨cd, c7, c8, g7, he, hk, h⟩ := h
    refine ⟨cd, c7, c8, g7, he, ?_⟩
    have a0 := hk.blk a0 (by simp)
    have a1 := hk.blk a1 (by simp)
    refine bif_of (fun k3 => ?_) (fun k3 => ?_)
    ·have h := h.1 (bne_t k3)
     have py : Ext (fun b => b = w.heap.size) db db := ((Ext.refl no db)).none
     refine Q0a (k := 0) (j := 0) a0 (by exact Nat.le_of_ble_eq_true rfl) fun i0 st ug => ?_
     have my := py.x_puts st (.inl rfl)
     have a0 : Blk i0 w.heap.size 30 [.int .i64 0, .int .i64 0, .int .i64 0, .int .u64 0, .int .i64 0, .int .i64 0, .int .i64 0, .slice none 0 0, .int .u64 0, .int .i64 0, .int .i64 0, .int .u64 0, .int .i64 0, .int .i64 0, .int .i64 0, .slice none 0 0, .int .u64 0, .int .i64 0, .slice none 0 0, .int .u64 0] := by simpa only [setAll, Nat.zero_add, Nat.add_zero, List.set_cons_zero, List.set_cons_succ] using ug
     refine ⟨0, 0, 0, 0, 0, 0, 0, none, 0, 0, 0, 0, 0, 0, 0, 0, 0, none, 0, 0, 0, 0, none, 0, 0, 0, ⟨a0.celli 0 rfl rfl, a0.celli 1 rfl rfl, a0.celli 2 rfl rfl, a0.celli 3 rfl rfl, a0.celli 4 rfl rfl, a0.celli 5 rfl rfl, a0.celli 6 rfl rfl, a0.celli 7 rfl rfl, a0.celli 8 rfl rfl, a0.celli 9 rfl rfl, a0.celli 10 rfl rfl, a0.celli 11 rfl rfl, a0.celli 12 rfl rfl, a0.celli 13 rfl rfl, a0.celli 14 rfl rfl, a0.celli 15 rfl rfl, a0.celli 16 rfl rfl, a0.celli 17 rfl rfl, a0.celli 18 rfl rfl, a0.celli 19 rfl rfl, trivial⟩, ?_⟩
     have h := h i0 my
     exact h
    have h := h.2 (bne_f k3)
    have lu : Ext (fun b => b = a4.heap.size) db db := ((Ext.refl no db)).none
    refine ⟨a1.cani 18 rfl rfl, Q02 fun e1 l1 => ?_⟩
    have i7 := lu.x_set (q := a4.heap.size) (i := 18) rfl (.inl rfl) l1
    have a0 := a0.oth (q := a4.heap.size) (i := 18) rfl b7 l1
    have a1 : Blk e1 a4.heap.size 30 [.int .i64 a2, .int .i64 a5, .int .i64 a9, .int .u64 ak, .int .i64 av, .int .i64 ax, .int .i64 ab, .slice a8 aa a7, .int .u64 aw, .int .i64 0, .int .i64 0, .int .u64 0, .int .i64 0, .int .i64 0, .int .i64 0, .slice none 0 0, .int .u64 0, .int .i64 0, .slice cd c7 c8, .int .u64 0] := a1.seti 18 rfl l1
    rotate_left
    all_goals
     first | unfold Q00.J1 | unfold Q00.J10 | unfold Q00.J19 | unfold Q00.J28 | skip
     refine ⟨a2, a5, a9, ak, av, ax, ab, a8, aa, a7, aw, 0, 0, 0, 0, 0, 0, none, 0, 0, 0, 0, cd, c7, c8, 0, ⟨a1.celli 0 rfl rfl, a1.celli 1 rfl rfl, a1.celli 2 rfl rfl, a1.celli 3 rfl rfl, a1.celli 4 rfl rfl, a1.celli 5 rfl rfl, a1.celli 6 rfl rfl, a1.celli 7 rfl rfl, a1.celli 8 rfl rfl, a1.celli 9 rfl rfl, a1.celli 10 rfl rfl, a1.celli 11 rfl rfl, a1.celli 12 rfl rfl, a1.celli 13 rfl rfl, a1.celli 14 rfl rfl, a1.celli 15 rfl rfl, a1.celli 16 rfl rfl, a1.celli 17 rfl rfl, a1.celli 18 rfl rfl, a1.celli 19 rfl rfl, trivial⟩, ?_⟩
     have h := h e1 i7
     refine h.mono fun xm di h => ?_
     obtain ⟨f5, he, hk, h⟩ := h
     refine ⟨f5, he, ?_⟩
     have a0 := hk.blk a0 (by simp)
     have a1 := hk.blk a1 (by simp)
     refine bif_of (fun k9 => ?_) (fun k9 => ?_)
     ·have h := h.1 (not_t k9)
      have n1 : Ext (fun b => b = w.heap.size) di di := ((Ext.refl no di)).none
      refine Q0a (k := 0) (j := 0) a0 (by exact Nat.le_of_ble_eq_true rfl) fun iy uj q9 => ?_
      have mr := n1.x_puts uj (.inl rfl)
      have a0 : Blk iy w.heap.size 30 [.int .i64 0, .int .i64 0, .int .i64 0, .int .u64 0, .int .i64 0, .int .i64 0, .int .i64 0, .slice none 0 0, .int .u64 0, .int .i64 0, .int .i64 0, .int .u64 0, .int .i64 0, .int .i64 0, .int .i64 0, .slice none 0 0, .int .u64 0, .int .i64 0, .slice none 0 0, .int .u64 0] := by simpa only [setAll, Nat.zero_add, Nat.add_zero, List.set_cons_zero, List.set_cons_succ] using q9
      refine ⟨0, 0, 0, 0, 0, 0, 0, none, 0, 0, 0, 0, 0, 0, 0, 0, 0, none, 0, 0, 0, 0, none, 0, 0, 0, ⟨a0.celli 0 rfl rfl, a0.celli 1 rfl rfl, a0.celli 2 rfl rfl, a0.celli 3 rfl rfl, a0.celli 4 rfl rfl, a0.celli 5 rfl rfl, a0.celli 6 rfl rfl, a0.celli 7 rfl rfl, a0.celli 8 rfl rfl, a0.celli 9 rfl rfl, a0.celli 10 rfl rfl, a0.celli 11 rfl rfl, a0.celli 12 rfl rfl, a0.celli 13 rfl rfl, a0.celli 14 rfl rfl, a0.celli 15 rfl rfl, a0.celli 16 rfl rfl, a0.celli 17 rfl rfl, a0.celli 18 rfl rfl, a0.celli 19 rfl rfl, trivial⟩, ?_⟩
      have h := h iy mr
      exact h
     have h := h.2 (not_f k9)
     refine ⟨a2, a5, a9, ak, av, ax, ab, a8, aa, a7, aw, 0, 0, 0, 0, 0, 0, none, 0, 0, 0, 0, cd, c7, c8, 0, ⟨a1.celli 0 rfl rfl, a1.celli 1 rfl rfl, a1.celli 2 rfl rfl, a1.celli 3 rfl rfl, a1.celli 4 rfl rfl, a1.celli 5 rfl rfl, a1.celli 6 rfl rfl, a1.celli 7 rfl rfl, a1.celli 8 rfl rfl, a1.celli 9 rfl rfl, a1.celli 10 rfl rfl, a1.celli 11 rfl rfl, a1.celli 12 rfl rfl, a1.celli 13 rfl rfl, a1.celli 14 rfl rfl, a1.celli 15 rfl rfl, a1.celli 16 rfl rfl, a1.celli 17 rfl rfl, a1.celli 18 rfl rfl, a1.celli 19 rfl rfl, trivial⟩, ?_⟩
     have oh : Ext (fun b => b = w.heap.size) di di := ((Ext.refl no di)).none
     refine Q0a (k := 0) (j := 0) a0 (by exact Nat.le_of_ble_eq_true rfl) fun gx t1 sj => ?_
     have pt := oh.x_puts t1 (.inl rfl)
     have a0 : Blk gx w.heap.size 30 [.int .i64 a2, .int .i64 a5, .int .i64 a9, .int .u64 ak, .int .i64 av, .int .i64 ax, .int .i64 ab, .slice a8 aa a7, .int .u64 aw, .int .i64 0, .int .i64 0, .int .u64 0, .int .i64 0, .int .i64 0, .int .i64 0, .slice none 0 0, .int .u64 0, .int .i64 0, .slice cd c7 c8, .int .u64 0] := by simpa only [setAll, Nat.zero_add, Nat.add_zero, List.set_cons_zero, List.set_cons_succ] using sj
     refine ⟨a2, a5, a9, ak, av, ax, ab, a8, aa, a7, aw, 0, 0, 0, 0, 0, 0, none, 0, 0, 0, 0, cd, c7, c8, 0, ⟨a0.celli 0 rfl rfl, a0.celli 1 rfl rfl, a0.celli 2 rfl rfl, a0.celli 3 rfl rfl, a0.celli 4 rfl rfl, a0.celli 5 rfl rfl, a0.celli 6 rfl rfl, a0.celli 7 rfl rfl, a0.celli 8 rfl rfl, a0.celli 9 rfl rfl, a0.celli 10 rfl rfl, a0.celli 11 rfl rfl, a0.celli 12 rfl rfl, a0.celli 13 rfl rfl, a0.celli 14 rfl rfl, a0.celli 15 rfl rfl, a0.celli 16 rfl rfl, a0.celli 17 rfl rfl, a0.celli 18 rfl rfl, a0.celli 19 rfl rfl, trivial⟩, ?_⟩
     have h := h gx pt
     exact h
   have h := h.1 (beq_t uz)
   have h := h fe gg
   refine h.mono fun yv fd h => ?_
   obtain ⟨aq, b1, bt, ce, ch, b2, b0, az, b6, ci, lj, he, hk, h⟩ := h
   refine ⟨aq, b1, bt, ce, ch, b2, b0, az, b6, ci, lj, he, ?_⟩
   have a0 := hk.blk a0 (by simp)
   have a1 := hk.blk a1 (by simp)
   refine Q02 fun ys q4 => ?_
   have fr := Blk.of_new q4
   have yw := ((Ext.refl no fd)).size
   have nz := Nat.ne_of_lt a0.lt
   have a0 := a0.x_alloc q4
   have mn := Nat.ne_of_lt a1.lt
   have a1 := a1.x_alloc q4
   have si := (Ext.refl no fd).x_alloc q4
   refine Q0a (k := 0) (j := 0) fr (by exact Nat.le_of_ble_eq_true rfl) fun lh s5 yd => ?_
   have os := si.x_puts s5 (.inr yw)
   have a0 := a0.x_puts s5 nz
   have a1 := a1.x_puts s5 mn
   have fr : Blk lh fd.heap.size 27 [.int .i64 aq, .int .i64 b1, .int .u64 bt, .int .i64 ce, .int .i64 ch, .int .i64 b2, .slice b0 az b6, .int .u64 ci] := by simpa only [setAll, Nat.zero_add, Nat.add_zero, List.set_cons_zero, List.set_cons_succ] using yd
   refine bif_of (fun qp => ?_) (fun qp => ?_)
   ·have h := h.1 (bne_t qp)
    have sb : Ext (fun b => b = w.heap.size) fd lh := (os).none
    refine Q0a (k := 0) (j := 0) a0 (by exact Nat.le_of_ble_eq_true rfl) fun oc yp xr => ?_
    have sd := sb.x_puts yp (.inl rfl)
    have a0 : Blk oc w.heap.size 30 [.int .i64 0, .int .i64 0, .int .i64 0, .int .u64 0, .int .i64 0, .int .i64 0, .int .i64 0, .slice none 0 0, .int .u64 0, .int .i64 0, .int .i64 0, .int .u64 0, .int .i64 0, .int .i64 0, .int .i64 0, .slice none 0 0, .int .u64 0, .int .i64 0, .slice none 0 0, .int .u64 0] := by simpa only [setAll, Nat.zero_add, Nat.add_zero, List.set_cons_zero, List.set_cons_succ] using xr
    refine ⟨0, 0, 0, 0, 0, 0, 0, none, 0, 0, 0, 0, 0, 0, 0, 0, 0, none, 0, 0, 0, 0, none, 0, 0, 0, ⟨a0.celli 0 rfl rfl, a0.celli 1 rfl rfl, a0.celli 2 rfl rfl, a0.celli 3 rfl rfl, a0.celli 4 rfl rfl, a0.celli 5 rfl rfl, a0.celli 6 rfl rfl, a0.celli 7 rfl rfl, a0.celli 8 rfl rfl, a0.celli 9 rfl rfl, a0.celli 10 rfl rfl, a0.celli 11 rfl rfl, a0.celli 12 rfl rfl, a0.celli 13 rfl rfl, a0.celli 14 rfl rfl, a0.celli 15 rfl rfl, a0.celli 16 rfl rfl, a0.celli 17 rfl rfl, a0.celli 18 rfl rfl, a0.celli 19 rfl rfl, trivial⟩, ?_⟩
    have h := h oc sd
    exact h
   have h := h.2 (bne_f qp)
   refine ⟨aq, b1, bt, ce, ch, b2, b0, az, b6, ci, ⟨fr.celli 0 rfl rfl, fr.celli 1 rfl rfl, fr.celli 2 rfl rfl, fr.celli 3 rfl rfl, fr.celli 4 rfl rfl, fr.celli 5 rfl rfl, fr.celli 6 rfl rfl, fr.celli 7 rfl rfl, trivial⟩, ?_⟩
   have s3 : Ext (fun b => b = a4.heap.size) fd lh := (os).none
   refine Q0a (k := 9) (j := 0) (vs := [.int .i64 aq, .int .i64 b1, .int .u64 bt, .int .i64 ce, .int .i64 ch, .int .i64 b2, .slice b0 az b6, .int .u64 ci]) a1 (by exact Nat.le_of_ble_eq_true rfl) fun gn vx z0 => ?_
   have jz := s3.x_puts vx (.inl rfl)
   have a0 := a0.x_puts vx b7
   have a1 : Blk gn a4.heap.size 30 [.int .i64 a2, .int .i64 a5, .int .i64 a9, .int .u64 ak, .int .i64 av, .int .i64 ax, .int .i64 ab, .slice a8 aa a7, .int .u64 aw, .int .i64 aq, .int .i64 b1, .int .u64 bt, .int .i64 ce, .int .i64 ch, .int .i64 b2, .slice b0 az b6, .int .u64 ci, .int .i64 0, .slice none 0 0, .int .u64 0] := by simpa only [setAll, Nat.zero_add, Nat.add_zero, List.set_cons_zero, List.set_cons_succ] using z0
   first | unfold Q00.J4 | unfold Q00.J13 | unfold Q00.J22 | unfold Q00.J31 | skip
   refine ⟨a2, a1.celli 0 rfl rfl, ?_⟩
   refine bif_of (fun sh => ?_) (fun sh => ?_)
   have h := h.1 (beq_t sh)
   first | unfold Q00.J2 | unfold Q00.J3 | unfold Q00.J11 | unfold Q00.J12 | unfold Q00.J20 | unfold Q00.J21 | unfold Q00.J29 | unfold Q00.J30 | skip
   have h := h gn jz
   refine h.mono fun xy ea h => ?_
   obtain ⟨ca, c9, cc, jt, he, hk, h⟩ := h
   refine ⟨ca, c9, cc, jt, he, ?_⟩
   have a0 := hk.blk a0 (by simp)
   have a1 := hk.blk a1 (by simp)
   refine bif_of (fun ut => ?_) (fun ut => ?_)
   ·have h := h.1 (bne_t ut)
    have s9 : Ext (fun b => b = w.heap.size) ea ea := ((Ext.refl no ea)).none
    refine Q0a (k := 0) (j := 0) a0 (by exact Nat.le_of_ble_eq_true rfl) fun mm xu y2 => ?_
    have qh := s9.x_puts xu (.inl rfl)
    have a0 : Blk mm w.heap.size 30 [.int .i64 0, .int .i64 0, .int .i64 0, .int .u64 0, .int .i64 0, .int .i64 0, .int .i64 0, .slice none 0 0, .int .u64 0, .int .i64 0, .int .i64 0, .int .u64 0, .int .i64 0, .int .i64 0, .int .i64 0, .slice none 0 0, .int .u64 0, .int .i64 0, .slice none 0 0, .int .u64 0] := by simpa only [setAll, Nat.zero_add, Nat.add_zero, List.set_cons_zero, List.set_cons_succ] using y2
    refine ⟨0, 0, 0, 0, 0, 0, 0, none, 0, 0, 0, 0, 0, 0, 0, 0, 0, none, 0, 0, 0, 0, none, 0, 0, 0, ⟨a0.celli 0 rfl rfl, a0.celli 1 rfl rfl, a0.celli 2 rfl rfl, a0.celli 3 rfl rfl, a0.celli 4 rfl rfl, a0.celli 5 rfl rfl, a0.celli 6 rfl rfl, a0.celli 7 rfl rfl, a0.celli 8 rfl rfl, a0.celli 9 rfl rfl, a0.celli 10 rfl rfl, a0.celli 11 rfl rfl, a0.celli 12 rfl rfl, a0.celli 13 rfl rfl, a0.celli 14 rfl rfl, a0.celli 15 rfl rfl, a0.celli 16 rfl rfl, a0.celli 17 rfl rfl, a0.celli 18 rfl rfl, a0.celli 19 rfl rfl, trivial⟩, ?_⟩
    have h := h mm qh
    exact h
   have h := h.2 (bne_f ut)
   have qv : Ext (fun b => b = a4.heap.size) ea ea := ((Ext.refl no ea)).none
   refine ⟨a1.cani 18 rfl rfl, Q02 fun g4 v2 => ?_⟩
   have nn := qv.x_set (q := a4.heap.size) (i := 18) rfl (.inl rfl) v2
   have a0 := a0.oth (q := a4.heap.size) (i := 18) rfl b7 v2
   have a1 : Blk g4 a4.heap.size 30 [.int .i64 a2, .int .i64 a5, .int .i64 a9, .int .u64 ak, .int .i64 av, .int .i64 ax, .int .i64 ab, .slice a8 aa a7, .int .u64 aw, .int .i64 aq, .int .i64 b1, .int .u64 bt, .int .i64 ce, .int .i64 ch, .int .i64 b2, .slice b0 az b6, .int .u64 ci, .int .i64 0, .slice ca c9 cc, .int .u64 0] := a1.seti 18 rfl v2
   rotate_left
   have h := h.2 (beq_f sh)
   refine ⟨a2, a1.celli 0 rfl rfl, ?_⟩
   first | unfold Q00.J2 | unfold Q00.J3 | unfold Q00.J11 | unfold Q00.J12 | unfold Q00.J20 | unfold Q00.J21 | unfold Q00.J29 | unfold Q00.J30 | skip
   refine bif_fo (fun t3 => ?_) (fun t3 => ?_)
   ·have h := h.2 (beq_f t3)
    first | unfold Q00.J1 | unfold Q00.J10 | unfold Q00.J19 | unfold Q00.J28 | skip
    refine ⟨a2, a5, a9, ak, av, ax, ab, a8, aa, a7, aw, aq, b1, bt, ce, ch, b2, b0, az, b6, ci, 0, none, 0, 0, 0, ⟨a1.celli 0 rfl rfl, a1.celli 1 rfl rfl, a1.celli 2 rfl rfl, a1.celli 3 rfl rfl, a1.celli 4 rfl rfl, a1.celli 5 rfl rfl, a1.celli 6 rfl rfl, a1.celli 7 rfl rfl, a1.celli 8 rfl rfl, a1.celli 9 rfl rfl, a1.celli 10 rfl rfl, a1.celli 11 rfl rfl, a1.celli 12 rfl rfl, a1.celli 13 rfl rfl, a1.celli 14 rfl rfl, a1.celli 15 rfl rfl, a1.celli 16 rfl rfl, a1.celli 17 rfl rfl, a1.celli 18 rfl rfl, a1.celli 19 rfl rfl, trivial⟩, ?_⟩
    have h := h gn jz
    refine h.mono fun yt e4 h => ?_
    obtain ⟨g8, he, hk, h⟩ := h
    refine ⟨g8, he, ?_⟩
    have a0 := hk.blk a0 (by simp)
    have a1 := hk.blk a1 (by simp)
    refine bif_of (fun v1 => ?_) (fun v1 => ?_)
    ·have h := h.1 (not_t v1)
     have tf : Ext (fun b => b = w.heap.size) e4 e4 := ((Ext.refl no e4)).none
     refine Q0a (k := 0) (j := 0) a0 (by exact Nat.le_of_ble_eq_true rfl) fun oq ym y5 => ?_
     have tx := tf.x_puts ym (.inl rfl)
     have a0 : Blk oq w.heap.size 30 [.int .i64 0, .int .i64 0, .int .i64 0, .int .u64 0, .int .i64 0, .int .i64 0, .int .i64 0, .slice none 0 0, .int .u64 0, .int .i64 0, .int .i64 0, .int .u64 0, .int .i64 0, .int .i64 0, .int .i64 0, .slice none 0 0, .int .u64 0, .int .i64 0, .slice none 0 0, .int .u64 0] := by simpa only [setAll, Nat.zero_add, Nat.add_zero, List.set_cons_zero, List.set_cons_succ] using y5
     refine ⟨0, 0, 0, 0, 0, 0, 0, none, 0, 0, 0, 0, 0, 0, 0, 0, 0, none, 0, 0, 0, 0, none, 0, 0, 0, ⟨a0.celli 0 rfl rfl, a0.celli 1 rfl rfl, a0.celli 2 rfl rfl, a0.celli 3 rfl rfl, a0.celli 4 rfl rfl, a0.celli 5 rfl rfl, a0.celli 6 rfl rfl, a0.celli 7 rfl rfl, a0.celli 8 rfl rfl, a0.celli 9 rfl rfl, a0.celli 10 rfl rfl, a0.celli 11 rfl rfl, a0.celli 12 rfl rfl, a0.celli 13 rfl rfl, a0.celli 14 rfl rfl, a0.celli 15 rfl rfl, a0.celli 16 rfl rfl, a0.celli 17 rfl rfl, a0.celli 18 rfl rfl, a0.celli 19 rfl rfl, trivial⟩, ?_⟩
     have h := h oq tx
     exact h
    have h := h.2 (not_f v1)
    refine ⟨a2, a5, a9, ak, av, ax, ab, a8, aa, a7, aw, aq, b1, bt, ce, ch, b2, b0, az, b6, ci, 0, none, 0, 0, 0, ⟨a1.celli 0 rfl rfl, a1.celli 1 rfl rfl, a1.celli 2 rfl rfl, a1.celli 3 rfl rfl, a1.celli 4 rfl rfl, a1.celli 5 rfl rfl, a1.celli 6 rfl rfl, a1.celli 7 rfl rfl, a1.celli 8 rfl rfl, a1.celli 9 rfl rfl, a1.celli 10 rfl rfl, a1.celli 11 rfl rfl, a1.celli 12 rfl rfl, a1.celli 13 rfl rfl, a1.celli 14 rfl rfl, a1.celli 15 rfl rfl, a1.celli 16 rfl rfl, a1.celli 17 rfl rfl, a1.celli 18 rfl rfl, a1.celli 19 rfl rfl, trivial⟩, ?_⟩
    have uf : Ext (fun b => b = w.heap.size) e4 e4 := ((Ext.refl no e4)).none
    refine Q0a (k := 0) (j := 0) a0 (by exact Nat.le_of_ble_eq_true rfl) fun n6 xs y3 => ?_
    have u1 := uf.x_puts xs (.inl rfl)
    have a0 : Blk n6 w.heap.size 30 [.int .i64 a2, .int .i64 a5, .int .i64 a9, .int .u64 ak, .int .i64 av, .int .i64 ax, .int .i64 ab, .slice a8 aa a7, .int .u64 aw, .int .i64 aq, .int .i64 b1, .int .u64 bt, .int .i64 ce, .int .i64 ch, .int .i64 b2, .slice b0 az b6, .int .u64 ci, .int .i64 0, .slice none 0 0, .int .u64 0] := by simpa only [setAll, Nat.zero_add, Nat.add_zero, List.set_cons_zero, List.set_cons_succ] using y3
    refine ⟨a2, a5, a9, ak, av, ax, ab, a8, aa, a7, aw, aq, b1, bt, ce, ch, b2, b0, az, b6, ci, 0, none, 0, 0, 0, ⟨a0.celli 0 rfl rfl, a0.celli 1 rfl rfl, a0.celli 2 rfl rfl, a0.celli 3 rfl rfl, a0.celli 4 rfl rfl, a0.celli 5 rfl rfl, a0.celli 6 rfl rfl, a0.celli 7 rfl rfl, a0.celli 8 rfl rfl, a0.celli 9 rfl rfl, a0.celli 10 rfl rfl, a0.celli 11 rfl rfl, a0.celli 12 rfl rfl, a0.celli 13 rfl rfl, a0.celli 14 rfl rfl, a0.celli 15 rfl rfl, a0.celli 16 rfl rfl, a0.celli 17 rfl rfl, a0.celli 18 rfl rfl, a0.celli 19 rfl rfl, trivial⟩, ?_⟩
    have h := h n6 u1
    exact h
   have h := h.1 (beq_t t3)
   have h := h gn jz
   refine h.mono fun yo ei h => ?_
   obtain ⟨ca, c9, cc, jy, he, hk, h⟩ := h
   refine ⟨ca, c9, cc, jy, he, ?_⟩
   have a0 := hk.blk a0 (by simp)
   have a1 := hk.blk a1 (by simp)
   refine bif_of (fun te => ?_) (fun te => ?_)
   ·have h := h.1 (bne_t te)
    have qq : Ext (fun b => b = w.heap.size) ei ei := ((Ext.refl no ei)).none
    refine Q0a (k := 0) (j := 0) a0 (by exact Nat.le_of_ble_eq_true rfl) fun p1 xt y8 => ?_
    have qy := qq.x_puts xt (.inl rfl)
    have a0 : Blk p1 w.heap.size 30 [.int .i64 0, .int .i64 0, .int .i64 0, .int .u64 0, .int .i64 0, .int .i64 0, .int .i64 0, .slice none 0 0, .int .u64 0, .int .i64 0, .int .i64 0, .int .u64 0, .int .i64 0, .int .i64 0, .int .i64 0, .slice none 0 0, .int .u64 0, .int .i64 0, .slice none 0 0, .int .u64 0] := by simpa only [setAll, Nat.zero_add, Nat.add_zero, List.set_cons_zero, List.set_cons_succ] using y8
    refine ⟨0, 0, 0, 0, 0, 0, 0, none, 0, 0, 0, 0, 0, 0, 0, 0, 0, none, 0, 0, 0, 0, none, 0, 0, 0, ⟨a0.celli 0 rfl rfl, a0.celli 1 rfl rfl, a0.celli 2 rfl rfl, a0.celli 3 rfl rfl, a0.celli 4 rfl rfl, a0.celli 5 rfl rfl, a0.celli 6 rfl rfl, a0.celli 7 rfl rfl, a0.celli 8 rfl rfl, a0.celli 9 rfl rfl, a0.celli 10 rfl rfl, a0.celli 11 rfl rfl, a0.celli 12 rfl rfl, a0.celli 13 rfl rfl, a0.celli 14 rfl rfl, a0.celli 15 rfl rfl, a0.celli 16 rfl rfl, a0.celli 17 rfl rfl, a0.celli 18 rfl rfl, a0.celli 19 rfl rfl, trivial⟩, ?_⟩
    have h := h p1 qy
    exact h
   have h := h.2 (bne_f te)
   have ts : Ext (fun b => b = a4.heap.size) ei ei := ((Ext.refl no ei)).none
   refine ⟨a1.cani 18 rfl rfl, Q02 fun g4 t7 => ?_⟩
   have nn := ts.x_set (q := a4.heap.size) (i := 18) rfl (.inl rfl) t7
   have a0 := a0.oth (q := a4.heap.size) (i := 18) rfl b7 t7
   have a1 : Blk g4 a4.heap.size 30 [.int .i64 a2, .int .i64 a5, .int .i64 a9, .int .u64 ak, .int .i64 av, .int .i64 ax, .int .i64 ab, .slice a8 aa a7, .int .u64 aw, .int .i64 aq, .int .i64 b1, .int .u64 bt, .int .i64 ce, .int .i64 ch, .int .i64 b2, .slice b0 az b6, .int .u64 ci, .int .i64 0, .slice ca c9 cc, .int .u64 0] := a1.seti 18 rfl t7
   rotate_left
   all_goals
    first | unfold Q00.J1 | unfold Q00.J10 | unfold Q00.J19 | unfold Q00.J28 | skip
    refine ⟨a2, a5, a9, ak, av, ax, ab, a8, aa, a7, aw, aq, b1, bt, ce, ch, b2, b0, az, b6, ci, 0, ca, c9, cc, 0, ⟨a1.celli 0 rfl rfl, a1.celli 1 rfl rfl, a1.celli 2 rfl rfl, a1.celli 3 rfl rfl, a1.celli 4 rfl rfl, a1.celli 5 rfl rfl, a1.celli 6 rfl rfl, a1.celli 7 rfl rfl, a1.celli 8 rfl rfl, a1.celli 9 rfl rfl, a1.celli 10 rfl rfl, a1.celli 11 rfl rfl, a1.celli 12 rfl rfl, a1.celli 13 rfl rfl, a1.celli 14 rfl rfl, a1.celli 15 rfl rfl, a1.celli 16 rfl rfl, a1.celli 17 rfl rfl, a1.celli 18 rfl rfl, a1.celli 19 rfl rfl, trivial⟩, ?_⟩
    have h := h g4 nn
    refine h.mono fun yh e7 h => ?_
    obtain ⟨gs, he, hk, h⟩ := h
    refine ⟨gs, he, ?_⟩
    have a0 := hk.blk a0 (by simp)
    have a1 := hk.blk a1 (by simp)
    refine bif_of (fun u7 => ?_) (fun u7 => ?_)
    ·have h := h.1 (not_t u7)
     have tl : Ext (fun b => b = w.heap.size) e7 e7 := ((Ext.refl no e7)).none
     refine Q0a (k := 0) (j := 0) a0 (by exact Nat.le_of_ble_eq_true rfl) fun p4 yu yb => ?_
     have t4 := tl.x_puts yu (.inl rfl)
     have a0 : Blk p4 w.heap.size 30 [.int .i64 0, .int .i64 0, .int .i64 0, .int .u64 0, .int .i64 0, .int .i64 0, .int .i64 0, .slice none 0 0, .int .u64 0, .int .i64 0, .int .i64 0, .int .u64 0, .int .i64 0, .int .i64 0, .int .i64 0, .slice none 0 0, .int .u64 0, .int .i64 0, .slice none 0 0, .int .u64 0] := by simpa only [setAll, Nat.zero_add, Nat.add_zero, List.set_cons_zero, List.set_cons_succ] using yb
     refine ⟨0, 0, 0, 0, 0, 0, 0, none, 0, 0, 0, 0, 0, 0, 0, 0, 0, none, 0, 0, 0, 0, none, 0, 0, 0, ⟨a0.celli 0 rfl rfl, a0.celli 1 rfl rfl, a0.celli 2 rfl rfl, a0.celli 3 rfl rfl, a0.celli 4 rfl rfl, a0.celli 5 rfl rfl, a0.celli 6 rfl rfl, a0.celli 7 rfl rfl, a0.celli 8 rfl rfl, a0.celli 9 rfl rfl, a0.celli 10 rfl rfl, a0.celli 11 rfl rfl, a0.celli 12 rfl rfl, a0.celli 13 rfl rfl, a0.celli 14 rfl rfl, a0.celli 15 rfl rfl, a0.celli 16 rfl rfl, a0.celli 17 rfl rfl, a0.celli 18 rfl rfl, a0.celli 19 rfl rfl, trivial⟩, ?_⟩
     have h := h p4 t4
     exact h
    have h := h.2 (not_f u7)
    refine ⟨a2, a5, a9, ak, av, ax, ab, a8, aa, a7, aw, aq, b1, bt, ce, ch, b2, b0, az, b6, ci, 0, ca, c9, cc, 0, ⟨a1.celli 0 rfl rfl, a1.celli 1 rfl rfl, a1.celli 2 rfl rfl, a1.celli 3 rfl rfl, a1.celli 4 rfl rfl, a1.celli 5 rfl rfl, a1.celli 6 rfl rfl, a1.celli 7 rfl rfl, a1.celli 8 rfl rfl, a1.celli 9 rfl rfl, a1.celli 10 rfl rfl, a1.celli 11 rfl rfl, a1.celli 12 rfl rfl, a1.celli 13 rfl rfl, a1.celli 14 rfl rfl, a1.celli 15 rfl rfl, a1.celli 16 rfl rfl, a1.celli 17 rfl rfl, a1.celli 18 rfl rfl, a1.celli 19 rfl rfl, trivial⟩, ?_⟩
    have qo : Ext (fun b => b = w.heap.size) e7 e7 := ((Ext.refl no e7)).none
    refine Q0a (k := 0) (j := 0) a0 (by exact Nat.le_of_ble_eq_true rfl) fun ok y1 yc => ?_
    have q6 := qo.x_puts y1 (.inl rfl)
    have a0 : Blk ok w.heap.size 30 [.int .i64 a2, .int .i64 a5, .int .i64 a9, .int .u64 ak, .int .i64 av, .int .i64 ax, .int .i64 ab, .slice a8 aa a7, .int .u64 aw, .int .i64 aq, .int .i64 b1, .int .u64 bt, .int .i64 ce, .int .i64 ch, .int .i64 b2, .slice b0 az b6, .int .u64 ci, .int .i64 0, .slice ca c9 cc, .int .u64 0] := by simpa only [setAll, Nat.zero_add, Nat.add_zero, List.set_cons_zero, List.set_cons_succ] using yc
    refine ⟨a2, a5, a9, ak, av, ax, ab, a8, aa, a7, aw, aq, b1, bt, ce, ch, b2, b0, az, b6, ci, 0, ca, c9, cc, 0, ⟨a0.celli 0 rfl rfl, a0.celli 1 rfl rfl, a0.celli 2 rfl rfl, a0.celli 3 rfl rfl, a0.celli 4 rfl rfl, a0.celli 5 rfl rfl, a0.celli 6 rfl rfl, a0.celli 7 rfl rfl, a0.celli 8 rfl rfl, a0.celli 9 rfl rfl, a0.celli 10 rfl rfl, a0.celli 11 rfl rfl, a0.celli 12 rfl rfl, a0.celli 13 rfl rfl, a0.celli 14 rfl rfl, a0.celli 15 rfl rfl, a0.celli 16 rfl rfl, a0.celli 17 rfl rfl, a0.celli 18 rfl rfl, a0.celli 19 rfl rfl, trivial⟩, ?_⟩
    have h := h ok q6
    exact h
  have h := h.2 (beq_f g6)
  refine bif_of (fun d5 => ?_) (fun d5 => ?_)
  have h := h.1 (beq_t d5)
  first | unfold Q00.J37 | skip
  refine bif_tt d5 ?_
  have h := h eg (a4.heap.size) ff (Priv.cons lm a1.lt Priv.nil)
  refine h.mono fun xh ez h => ?_
  obtain ⟨a3, he, hk, h⟩ := h
  refine ⟨a3, he, ?_⟩
  have a0 := hk.blk a0 (by simp)
  have a1 := hk.blk a1 (by simp)
  have ma : Ext (fun b => b = a4.heap.size) ez ez := ((Ext.refl no ez)).none
  refine ⟨a1.cani 17 rfl rfl, Q02 fun iq kf => ?_⟩
  have oo := ma.x_set (q := a4.heap.size) (i := 17) rfl (.inl rfl) kf
  have a0 := a0.oth (q := a4.heap.size) (i := 17) rfl b7 kf
  have a1 : Blk iq a4.heap.size 30 [.int .i64 a2, .int .i64 0, .int .i64 0, .int .u64 0, .int .i64 0, .int .i64 0, .int .i64 0, .slice none 0 0, .int .u64 0, .int .i64 0, .int .i64 0, .int .u64 0, .int .i64 0, .int .i64 0, .int .i64 0, .slice none 0 0, .int .u64 0, .int .i64 a3, .slice none 0 0, .int .u64 0] := a1.seti 17 rfl kf
  have h := h iq oo
  refine h.mono fun x3 vu h => ?_
  obtain ⟨el, ek, e5, he, hk, h⟩ := h
  refine ⟨el, ek, e5, he, ?_⟩
  have a0 := hk.blk a0 (by simp)
  have a1 := hk.blk a1 (by simp)
  refine ⟨a2, a1.celli 0 rfl rfl, ?_⟩
  refine bif_fo (fun ko => ?_) (fun ko => ?_)
  ·have h := h.2 (beq_f ko)
   first | unfold Q00.J9 | unfold Q00.J18 | unfold Q00.J27 | unfold Q00.J36 | skip
   refine h.mono fun vh f9 h => ?_
   obtain ⟨gb, he, hk, h⟩ := h
   refine ⟨gb, he, ?_⟩
   have a0 := hk.blk a0 (by simp)
   have a1 := hk.blk a1 (by simp)
   refine bif_of (fun k7 => ?_) (fun k7 => ?_)
   ·have h := h.1 (bne_t k7)
    have nu : Ext (fun b => b = w.heap.size) f9 f9 := ((Ext.refl no f9)).none
    refine Q0a (k := 0) (j := 0) a0 (by exact Nat.le_of_ble_eq_true rfl) fun jj sy s0 => ?_
    have pb := nu.x_puts sy (.inl rfl)
    have a0 : Blk jj w.heap.size 30 [.int .i64 0, .int .i64 0, .int .i64 0, .int .u64 0, .int .i64 0, .int .i64 0, .int .i64 0, .slice none 0 0, .int .u64 0, .int .i64 0, .int .i64 0, .int .u64 0, .int .i64 0, .int .i64 0, .int .i64 0, .slice none 0 0, .int .u64 0, .int .i64 0, .slice none 0 0, .int .u64 0] := by simpa only [setAll, Nat.zero_add, Nat.add_zero, List.set_cons_zero, List.set_cons_succ] using s0
    refine ⟨0, 0, 0, 0, 0, 0, 0, none, 0, 0, 0, 0, 0, 0, 0, 0, 0, none, 0, 0, 0, 0, none, 0, 0, 0, ⟨a0.celli 0 rfl rfl, a0.celli 1 rfl rfl, a0.celli 2 rfl rfl, a0.celli 3 rfl rfl, a0.celli 4 rfl rfl, a0.celli 5 rfl rfl, a0.celli 6 rfl rfl, a0.celli 7 rfl rfl, a0.celli 8 rfl rfl, a0.celli 9 rfl rfl, a0.celli 10 rfl rfl, a0.celli 11 rfl rfl, a0.celli 12 rfl rfl, a0.celli 13 rfl rfl, a0.celli 14 rfl rfl, a0.celli 15 rfl rfl, a0.celli 16 rfl rfl, a0.celli 17 rfl rfl, a0.celli 18 rfl rfl, a0.celli 19 rfl rfl, trivial⟩, ?_⟩
    have h := h jj pb
    exact h
   have h := h.2 (bne_f k7)
   first | unfold Q00.J8 | unfold Q00.J17 | unfold Q00.J26 | unfold Q00.J35 | skip
   refine ⟨a2, a1.celli 0 rfl rfl, ?_⟩
   refine bif_ff g6 ?_
   refine ⟨a2, a1.celli 0 rfl rfl, ?_⟩
   first | unfold Q00.J6 | unfold Q00.J7 | unfold Q00.J15 | unfold Q00.J16 | unfold Q00.J24 | unfold Q00.J25 | unfold Q00.J33 | unfold Q00.J34 | skip
   refine bif_fo (fun ex => ?_) (fun ex => ?_)
   ·have h := h.2 (beq_f ex)
    first | unfold Q00.J5 | unfold Q00.J14 | unfold Q00.J23 | unfold Q00.J32 | skip
    refine ⟨a2, a1.celli 0 rfl rfl, ?_⟩
    refine bif_ff ex ?_
    first | unfold Q00.J4 | unfold Q00.J13 | unfold Q00.J22 | unfold Q00.J31 | skip
    refine ⟨a2, a1.celli 0 rfl rfl, ?_⟩
    refine bif_tt d5 ?_
    first | unfold Q00.J2 | unfold Q00.J3 | unfold Q00.J11 | unfold Q00.J12 | unfold Q00.J20 | unfold Q00.J21 | unfold Q00.J29 | unfold Q00.J30 | skip
    refine h.mono fun vd dg h => ?_
    obtain ⟨cw, cx, d0, gk, he, hk, h⟩ := h
    refine ⟨cw, cx, d0, gk, he, ?_⟩
    have a0 := hk.blk a0 (by simp)
    have a1 := hk.blk a1 (by simp)
    refine bif_of (fun ka => ?_) (fun ka => ?_)
    ·have h := h.1 (bne_t ka)
     have oy : Ext (fun b => b = w.heap.size) dg dg := ((Ext.refl no dg)).none
     refine Q0a (k := 0) (j := 0) a0 (by exact Nat.le_of_ble_eq_true rfl) fun ix tz qw => ?_
     have o0 := oy.x_puts tz (.inl rfl)
     have a0 : Blk ix w.heap.size 30 [.int .i64 0, .int .i64 0, .int .i64 0, .int .u64 0, .int .i64 0, .int .i64 0, .int .i64 0, .slice none 0 0, .int .u64 0, .int .i64 0, .int .i64 0, .int .u64 0, .int .i64 0, .int .i64 0, .int .i64 0, .slice none 0 0, .int .u64 0, .int .i64 0, .slice none 0 0, .int .u64 0] := by simpa only [setAll, Nat.zero_add, Nat.add_zero, List.set_cons_zero, List.set_cons_succ] using qw
     refine ⟨0, 0, 0, 0, 0, 0, 0, none, 0, 0, 0, 0, 0, 0, 0, 0, 0, none, 0, 0, 0, 0, none, 0, 0, 0, ⟨a0.celli 0 rfl rfl, a0.celli 1 rfl rfl, a0.celli 2 rfl rfl, a0.celli 3 rfl rfl, a0.celli 4 rfl rfl, a0.celli 5 rfl rfl, a0.celli 6 rfl rfl, a0.celli 7 rfl rfl, a0.celli 8 rfl rfl, a0.celli 9 rfl rfl, a0.celli 10 rfl rfl, a0.celli 11 rfl rfl, a0.celli 12 rfl rfl, a0.celli 13 rfl rfl, a0.celli 14 rfl rfl, a0.celli 15 rfl rfl, a0.celli 16 rfl rfl, a0.celli 17 rfl rfl, a0.celli 18 rfl rfl, a0.celli 19 rfl rfl, trivial⟩, ?_⟩
     have h := h ix o0
     exact h
    have h := h.2 (bne_f ka)
    have ph : Ext (fun b => b = a4.heap.size) dg dg := ((Ext.refl no dg)).none
    refine ⟨a1.cani 18 rfl rfl, Q02 fun im jx => ?_⟩
    have m4 := ph.x_set (q := a4.heap.size) (i := 18) rfl (.inl rfl) jx
    have a0 := a0.oth (q := a4.heap.size) (i := 18) rfl b7 jx
    have a1 : Blk im a4.heap.size 30 [.int .i64 a2, .int .i64 0, .int .i64 0, .int .u64 0, .int .i64 0, .int .i64 0, .int .i64 0, .slice none 0 0, .int .u64 0, .int .i64 0, .int .i64 0, .int .u64 0, .int .i64 0, .int .i64 0, .int .i64 0, .slice none 0 0, .int .u64 0, .int .i64 a3, .slice cw cx d0, .int .u64 0] := a1.seti 18 rfl jx
    first | unfold Q00.J1 | unfold Q00.J10 | unfold Q00.J19 | unfold Q00.J28 | skip
    refine ⟨a2, 0, 0, 0, 0, 0, 0, none, 0, 0, 0, 0, 0, 0, 0, 0, 0, none, 0, 0, 0, a3, cw, cx, d0, 0, ⟨a1.celli 0 rfl rfl, a1.celli 1 rfl rfl, a1.celli 2 rfl rfl, a1.celli 3 rfl rfl, a1.celli 4 rfl rfl, a1.celli 5 rfl rfl, a1.celli 6 rfl rfl, a1.celli 7 rfl rfl, a1.celli 8 rfl rfl, a1.celli 9 rfl rfl, a1.celli 10 rfl rfl, a1.celli 11 rfl rfl, a1.celli 12 rfl rfl, a1.celli 13 rfl rfl, a1.celli 14 rfl rfl, a1.celli 15 rfl rfl, a1.celli 16 rfl rfl, a1.celli 17 rfl rfl, a1.celli 18 rfl rfl, a1.celli 19 rfl rfl, trivial⟩, ?_⟩
    have h := h im m4
    refine h.mono fun vn dn h => ?_
    obtain ⟨f4, he, hk, h⟩ := h
    refine ⟨f4, he, ?_⟩
    have a0 := hk.blk a0 (by simp)
    have a1 := hk.blk a1 (by simp)
    refine bif_of (fun k5 => ?_) (fun k5 => ?_)
    ·have h := h.1 (not_t k5)
     have pd : Ext (fun b => b = w.heap.size) dn dn := ((Ext.refl no dn)).none
     refine Q0a (k := 0) (j := 0) a0 (by exact Nat.le_of_ble_eq_true rfl) fun ij u8 uq => ?_
     have oz := pd.x_puts u8 (.inl rfl)
     have a0 : Blk ij w.heap.size 30 [.int .i64 0, .int .i64 0, .int .i64 0, .int .u64 0, .int .i64 0, .int .i64 0, .int .i64 0, .slice none 0 0, .int .u64 0, .int .i64 0, .int .i64 0, .int .u64 0, .int .i64 0, .int .i64 0, .int .i64 0, .slice none 0 0, .int .u64 0, .int .i64 0, .slice none 0 0, .int .u64 0] := by simpa only [setAll, Nat.zero_add, Nat.add_zero, List.set_cons_zero, List.set_cons_succ] using uq
     refine ⟨0, 0, 0, 0, 0, 0, 0, none, 0, 0, 0, 0, 0, 0, 0, 0, 0, none, 0, 0, 0, 0, none, 0, 0, 0, ⟨a0.celli 0 rfl rfl, a0.celli 1 rfl rfl, a0.celli 2 rfl rfl, a0.celli 3 rfl rfl, a0.celli 4 rfl rfl, a0.celli 5 rfl rfl, a0.celli 6 rfl rfl, a0.celli 7 rfl rfl, a0.celli 8 rfl rfl, a0.celli 9 rfl rfl, a0.celli 10 rfl rfl, a0.celli 11 rfl rfl, a0.celli 12 rfl rfl, a0.celli 13 rfl rfl, a0.celli 14 rfl rfl, a0.celli 15 rfl rfl, a0.celli 16 rfl rfl, a0.celli 17 rfl rfl, a0.celli 18 rfl rfl, a0.celli 19 rfl rfl, trivial⟩, ?_⟩
     have h := h ij oz
     exact h
    have h := h.2 (not_f k5)
    refine ⟨a2, 0, 0, 0, 0, 0, 0, none, 0, 0, 0, 0, 0, 0, 0, 0, 0, none, 0, 0, 0, a3, cw, cx, d0, 0, ⟨a1.celli 0 rfl rfl, a1.celli 1 rfl rfl, a1.celli 2 rfl rfl, a1.celli 3 rfl rfl, a1.celli 4 rfl rfl, a1.celli 5 rfl rfl, a1.celli 6 rfl rfl, a1.celli 7 rfl rfl, a1.celli 8 rfl rfl, a1.celli 9 rfl rfl, a1.celli 10 rfl rfl, a1.celli 11 rfl rfl, a1.celli 12 rfl rfl, a1.celli 13 rfl rfl, a1.celli 14 rfl rfl, a1.celli 15 rfl rfl, a1.celli 16 rfl rfl, a1.celli 17 rfl rfl, a1.celli 18 rfl rfl, a1.celli 19 rfl rfl, trivial⟩, ?_⟩
    have nr : Ext (fun b => b = w.heap.size) dn dn := ((Ext.refl no dn)).none
    refine Q0a (k := 0) (j := 0) a0 (by exact Nat.le_of_ble_eq_true rfl) fun i3 sk s8 => ?_
    have nb := nr.x_puts sk (.inl rfl)
    have a0 : Blk i3 w.heap.size 30 [.int .i64 a2, .int .i64 0, .int .i64 0, .int .u64 0, .int .i64 0, .int .i64 0, .int .i64 0, .slice none 0 0, .int .u64 0, .int .i64 0, .int .i64 0, .int .u64 0, .int .i64 0, .int .i64 0, .int .i64 0, .slice none 0 0, .int .u64 0, .int .i64 a3, .slice cw cx d0, .int .u64 0] := by simpa only [setAll, Nat.zero_add, Nat.add_zero, List.set_cons_zero, List.set_cons_succ] using s8
    refine ⟨a2, 0, 0, 0, 0, 0, 0, none, 0, 0, 0, 0, 0, 0, 0, 0, 0, none, 0, 0, 0, a3, cw, cx, d0, 0, ⟨a0.celli 0 rfl rfl, a0.celli 1 rfl rfl, a0.celli 2 rfl rfl, a0.celli 3 rfl rfl, a0.celli 4 rfl rfl, a0.celli 5 rfl rfl, a0.celli 6 rfl rfl, a0.celli 7 rfl rfl, a0.celli 8 rfl rfl, a0.celli 9 rfl rfl, a0.celli 10 rfl rfl, a0.celli 11 rfl rfl, a0.celli 12 rfl rfl, a0.celli 13 rfl rfl, a0.celli 14 rfl rfl, a0.celli 15 rfl rfl, a0.celli 16 rfl rfl, a0.celli 17 rfl rfl, a0.celli 18 rfl rfl, a0.celli 19 rfl rfl, trivial⟩, ?_⟩
    have h := h i3 nb
    exact h
   have h := h.1 (beq_t ex)
   refine h.mono fun x2 dr h => ?_
   obtain ⟨au, bg, c1, cf, cg, bc, bd, ba, bh, cj, gj, he, hk, h⟩ := h
   refine ⟨au, bg, c1, cf, cg, bc, bd, ba, bh, cj, gj, he, ?_⟩
   have a0 := hk.blk a0 (by simp)
   have a1 := hk.blk a1 (by simp)
   refine Q02 fun x0 ga => ?_
   have ft := Blk.of_new ga
   have y0 := ((Ext.refl no dr)).size
   have m0 := Nat.ne_of_lt a0.lt
   have a0 := a0.x_alloc ga
   have na := Nat.ne_of_lt a1.lt
   have a1 := a1.x_alloc ga
   have mc := (Ext.refl no dr).x_alloc ga
   refine Q0a (k := 0) (j := 0) ft (by exact Nat.le_of_ble_eq_true rfl) fun fi kp th => ?_
   have ig := mc.x_puts kp (.inr y0)
   have a0 := a0.x_puts kp m0
   have a1 := a1.x_puts kp na
   have ft : Blk fi dr.heap.size 27 [.int .i64 au, .int .i64 bg, .int .u64 c1, .int .i64 cf, .int .i64 cg, .int .i64 bc, .slice bd ba bh, .int .u64 cj] := by simpa only [setAll, Nat.zero_add, Nat.add_zero, List.set_cons_zero, List.set_cons_succ] using th
   refine bif_of (fun k1 => ?_) (fun k1 => ?_)
   ·have h := h.1 (bne_t k1)
    have n2 : Ext (fun b => b = w.heap.size) dr fi := (ig).none
    refine Q0a (k := 0) (j := 0) a0 (by exact Nat.le_of_ble_eq_true rfl) fun i2 sz uv => ?_
    have ny := n2.x_puts sz (.inl rfl)
    have a0 : Blk i2 w.heap.size 30 [.int .i64 0, .int .i64 0, .int .i64 0, .int .u64 0, .int .i64 0, .int .i64 0, .int .i64 0, .slice none 0 0, .int .u64 0, .int .i64 0, .int .i64 0, .int .u64 0, .int .i64 0, .int .i64 0, .int .i64 0, .slice none 0 0, .int .u64 0, .int .i64 0, .slice none 0 0, .int .u64 0] := by simpa only [setAll, Nat.zero_add, Nat.add_zero, List.set_cons_zero, List.set_cons_succ] using uv
    refine ⟨0, 0, 0, 0, 0, 0, 0, none, 0, 0, 0, 0, 0, 0, 0, 0, 0, none, 0, 0, 0, 0, none, 0, 0, 0, ⟨a0.celli 0 rfl rfl, a0.celli 1 rfl rfl, a0.celli 2 rfl rfl, a0.celli 3 rfl rfl, a0.celli 4 rfl rfl, a0.celli 5 rfl rfl, a0.celli 6 rfl rfl, a0.celli 7 rfl rfl, a0.celli 8 rfl rfl, a0.celli 9 rfl rfl, a0.celli 10 rfl rfl, a0.celli 11 rfl rfl, a0.celli 12 rfl rfl, a0.celli 13 rfl rfl, a0.celli 14 rfl rfl, a0.celli 15 rfl rfl, a0.celli 16 rfl rfl, a0.celli 17 rfl rfl, a0.celli 18 rfl rfl, a0.celli 19 rfl rfl, trivial⟩, ?_⟩
    have h := h i2 ny
    exact h
   have h := h.2 (bne_f k1)
   refine ⟨au, bg, c1, cf, cg, bc, bd, ba, bh, cj, ⟨ft.celli 0 rfl rfl, ft.celli 1 rfl rfl, ft.celli 2 rfl rfl, ft.celli 3 rfl rfl, ft.celli 4 rfl rfl, ft.celli 5 rfl rfl, ft.celli 6 rfl rfl, ft.celli 7 rfl rfl, trivial⟩, ?_⟩
   have pq : Ext (fun b => b = a4.heap.size) dr fi := (ig).none
   refine Q0a (k := 1) (j := 0) (vs := [.int .i64 au, .int .i64 bg, .int .u64 c1, .int .i64 cf, .int .i64 cg, .int .i64 bc, .slice bd ba bh, .int .u64 cj]) a1 (by exact Nat.le_of_ble_eq_true rfl) fun j5 o4 s4 => ?_
   have o7 := pq.x_puts o4 (.inl rfl)
   have a0 := a0.x_puts o4 b7
   have a1 : Blk j5 a4.heap.size 30 [.int .i64 a2, .int .i64 au, .int .i64 bg, .int .u64 c1, .int .i64 cf, .int .i64 cg, .int .i64 bc, .slice bd ba bh, .int .u64 cj, .int .i64 0, .int .i64 0, .int .u64 0, .int .i64 0, .int .i64 0, .int .i64 0, .slice none 0 0, .int .u64 0, .int .i64 a3, .slice none 0 0, .int .u64 0] := by simpa only [setAll, Nat.zero_add, Nat.add_zero, List.set_cons_zero, List.set_cons_succ] using s4
   first | unfold Q00.J5 | unfold Q00.J14 | unfold Q00.J23 | unfold Q00.J32 | skip
   refine ⟨a2, a1.celli 0 rfl rfl, ?_⟩
   refine bif_tt ex ?_
   have h := h j5 o7
   refine h.mono fun vz dt h => ?_
   obtain ⟨b9, bk, c6, cp, cm, br, bs, bo, bn, ck, fu, he, hk, h⟩ := h
   refine ⟨b9, bk, c6, cp, cm, br, bs, bo, bn, ck, fu, he, ?_⟩
   have a0 := hk.blk a0 (by simp)
   have a1 := hk.blk a1 (by simp)
   refine Q02 fun x9 gc => ?_
   have fm := Blk.of_new gc
   have yk := ((Ext.refl no dt)).size
   have pu := Nat.ne_of_lt a0.lt
   have a0 := a0.x_alloc gc
   have ne := Nat.ne_of_lt a1.lt
   have a1 := a1.x_alloc gc
   have mv := (Ext.refl no dt).x_alloc gc
   refine Q0a (k := 0) (j := 0) fm (by exact Nat.le_of_ble_eq_true rfl) fun ev li tg => ?_
   have j6 := mv.x_puts li (.inr yk)
   have a0 := a0.x_puts li pu
   have a1 := a1.x_puts li ne
   have fm : Blk ev dt.heap.size 27 [.int .i64 b9, .int .i64 bk, .int .u64 c6, .int .i64 cp, .int .i64 cm, .int .i64 br, .slice bs bo bn, .int .u64 ck] := by simpa only [setAll, Nat.zero_add, Nat.add_zero, List.set_cons_zero, List.set_cons_succ] using tg
   refine bif_of (fun l3 => ?_) (fun l3 => ?_)
   ·have h := h.1 (bne_t l3)
    have mb : Ext (fun b => b = w.heap.size) dt ev := (j6).none
    refine Q0a (k := 0) (j := 0) a0 (by exact Nat.le_of_ble_eq_true rfl) fun jd u0 ty => ?_
    have pk := mb.x_puts u0 (.inl rfl)
    have a0 : Blk jd w.heap.size 30 [.int .i64 0, .int .i64 0, .int .i64 0, .int .u64 0, .int .i64 0, .int .i64 0, .int .i64 0, .slice none 0 0, .int .u64 0, .int .i64 0, .int .i64 0, .int .u64 0, .int .i64 0, .int .i64 0, .int .i64 0, .slice none 0 0, .int .u64 0, .int .i64 0, .slice none 0 0, .int .u64 0] := by simpa only [setAll, Nat.zero_add, Nat.add_zero, List.set_cons_zero, List.set_cons_succ] using ty
    refine ⟨0, 0, 0, 0, 0, 0, 0, none, 0, 0, 0, 0, 0, 0, 0, 0, 0, none, 0, 0, 0, 0, none, 0, 0, 0, ⟨a0.celli 0 rfl rfl, a0.celli 1 rfl rfl, a0.celli 2 rfl rfl, a0.celli 3 rfl rfl, a0.celli 4 rfl rfl, a0.celli 5 rfl rfl, a0.celli 6 rfl rfl, a0.celli 7 rfl rfl, a0.celli 8 rfl rfl, a0.celli 9 rfl rfl, a0.celli 10 rfl rfl, a0.celli 11 rfl rfl, a0.celli 12 rfl rfl, a0.celli 13 rfl rfl, a0.celli 14 rfl rfl, a0.celli 15 rfl rfl, a0.celli 16 rfl rfl, a0.celli 17 rfl rfl, a0.celli 18 rfl rfl, a0.celli 19 rfl rfl, trivial⟩, ?_⟩
    have h := h jd pk
    exact h
   have h := h.2 (bne_f l3)
   refine ⟨b9, bk, c6, cp, cm, br, bs, bo, bn, ck, ⟨fm.celli 0 rfl rfl, fm.celli 1 rfl rfl, fm.celli 2 rfl rfl, fm.celli 3 rfl rfl, fm.celli 4 rfl rfl, fm.celli 5 rfl rfl, fm.celli 6 rfl rfl, fm.celli 7 rfl rfl, trivial⟩, ?_⟩
   have n4 : Ext (fun b => b = a4.heap.size) dt ev := (j6).none
   refine Q0a (k := 9) (j := 0) (vs := [.int .i64 b9, .int .i64 bk, .int .u64 c6, .int .i64 cp, .int .i64 cm, .int .i64 br, .slice bs bo bn, .int .u64 ck]) a1 (by exact Nat.le_of_ble_eq_true rfl) fun it m9 sa => ?_
   have mz := n4.x_puts m9 (.inl rfl)
   have a0 := a0.x_puts m9 b7
   have a1 : Blk it a4.heap.size 30 [.int .i64 a2, .int .i64 au, .int .i64 bg, .int .u64 c1, .int .i64 cf, .int .i64 cg, .int .i64 bc, .slice bd ba bh, .int .u64 cj, .int .i64 b9, .int .i64 bk, .int .u64 c6, .int .i64 cp, .int .i64 cm, .int .i64 br, .slice bs bo bn, .int .u64 ck, .int .i64 a3, .slice none 0 0, .int .u64 0] := by simpa only [setAll, Nat.zero_add, Nat.add_zero, List.set_cons_zero, List.set_cons_succ] using sa
   first | unfold Q00.J4 | unfold Q00.J13 | unfold Q00.J22 | unfold Q00.J31 | skip
   refine ⟨a2, a1.celli 0 rfl rfl, ?_⟩
   refine bif_tt d5 ?_
   first | unfold Q00.J2 | unfold Q00.J3 | unfold Q00.J11 | unfold Q00.J12 | unfold Q00.J20 | unfold Q00.J21 | unfold Q00.J29 | unfold Q00.J30 | skip
   have h := h it mz
   refine h.mono fun vv dh h => ?_
   obtain ⟨cq, cu, cv, g3, he, hk, h⟩ := h
   refine ⟨cq, cu, cv, g3, he, ?_⟩
   have a0 := hk.blk a0 (by simp)
   have a1 := hk.blk a1 (by simp)
   refine bif_of (fun kh => ?_) (fun kh => ?_)
   ·have h := h.1 (bne_t kh)
    have ls : Ext (fun b => b = w.heap.size) dh dh := ((Ext.refl no dh)).none
    refine Q0a (k := 0) (j := 0) a0 (by exact Nat.le_of_ble_eq_true rfl) fun iv s1 sl => ?_
    have m1 := ls.x_puts s1 (.inl rfl)
    have a0 : Blk iv w.heap.size 30 [.int .i64 0, .int .i64 0, .int .i64 0, .int .u64 0, .int .i64 0, .int .i64 0, .int .i64 0, .slice none 0 0, .int .u64 0, .int .i64 0, .int .i64 0, .int .u64 0, .int .i64 0, .int .i64 0, .int .i64 0, .slice none 0 0, .int .u64 0, .int .i64 0, .slice none 0 0, .int .u64 0] := by simpa only [setAll, Nat.zero_add, Nat.add_zero, List.set_cons_zero, List.set_cons_succ] using sl
    refine ⟨0, 0, 0, 0, 0, 0, 0, none, 0, 0, 0, 0, 0, 0, 0, 0, 0, none, 0, 0, 0, 0, none, 0, 0, 0, ⟨a0.celli 0 rfl rfl, a0.celli 1 rfl rfl, a0.celli 2 rfl rfl, a0.celli 3 rfl rfl, a0.celli 4 rfl rfl, a0.celli 5 rfl rfl, a0.celli 6 rfl rfl, a0.celli 7 rfl rfl, a0.celli 8 rfl rfl, a0.celli 9 rfl rfl, a0.celli 10 rfl rfl, a0.celli 11 rfl rfl, a0.celli 12 rfl rfl, a0.celli 13 rfl rfl, a0.celli 14 rfl rfl, a0.celli 15 rfl rfl, a0.celli 16 rfl rfl, a0.celli 17 rfl rfl, a0.celli 18 rfl rfl, a0.celli 19 rfl rfl, trivial⟩, ?_⟩
    have h := h iv m1
    exact h
   have h := h.2 (bne_f kh)
   have pj : Ext (fun b => b = a4.heap.size) dh dh := ((Ext.refl no dh)).none
   refine ⟨a1.cani 18 rfl rfl, Q02 fun ib kk => ?_⟩
   have pg := pj.x_set (q := a4.heap.size) (i := 18) rfl (.inl rfl) kk
   have a0 := a0.oth (q := a4.heap.size) (i := 18) rfl b7 kk
   have a1 : Blk ib a4.heap.size 30 [.int .i64 a2, .int .i64 au, .int .i64 bg, .int .u64 c1, .int .i64 cf, .int .i64 cg, .int .i64 bc, .slice bd ba bh, .int .u64 cj, .int .i64 b9, .int .i64 bk, .int .u64 c6, .int .i64 cp, .int .i64 cm, .int .i64 br, .slice bs bo bn, .int .u64 ck, .int .i64 a3, .slice cq cu cv, .int .u64 0] := a1.seti 18 rfl kk
   first | unfold Q00.J1 | unfold Q00.J10 | unfold Q00.J19 | unfold Q00.J28 | skip
   refine ⟨a2, au, bg, c1, cf, cg, bc, bd, ba, bh, cj, b9, bk, c6, cp, cm, br, bs, bo, bn, ck, a3, cq, cu, cv, 0, ⟨a1.celli 0 rfl rfl, a1.celli 1 rfl rfl, a1.celli 2 rfl rfl, a1.celli 3 rfl rfl, a1.celli 4 rfl rfl, a1.celli 5 rfl rfl, a1.celli 6 rfl rfl, a1.celli 7 rfl rfl, a1.celli 8 rfl rfl, a1.celli 9 rfl rfl, a1.celli 10 rfl rfl, a1.celli 11 rfl rfl, a1.celli 12 rfl rfl, a1.celli 13 rfl rfl, a1.celli 14 rfl rfl, a1.celli 15 rfl rfl, a1.celli 16 rfl rfl, a1.celli 17 rfl rfl, a1.celli 18 rfl rfl, a1.celli 19 rfl rfl, trivial⟩, ?_⟩
   have h := h ib pg
   refine h.mono fun xq da h => ?_
   obtain ⟨es, he, hk, h⟩ := h
   refine ⟨es, he, ?_⟩
   have a0 := hk.blk a0 (by simp)
   have a1 := hk.blk a1 (by simp)
   refine bif_of (fun km => ?_) (fun km => ?_)
   ·have h := h.1 (not_t km)
    have lr : Ext (fun b => b = w.heap.size) da da := ((Ext.refl no da)).none
    refine Q0a (k := 0) (j := 0) a0 (by exact Nat.le_of_ble_eq_true rfl) fun ie qj tq => ?_
    have nk := lr.x_puts qj (.inl rfl)
    have a0 : Blk ie w.heap.size 30 [.int .i64 0, .int .i64 0, .int .i64 0, .int .u64 0, .int .i64 0, .int .i64 0, .int .i64 0, .slice none 0 0, .int .u64 0, .int .i64 0, .int .i64 0, .int .u64 0, .int .i64 0, .int .i64 0, .int .i64 0, .slice none 0 0, .int .u64 0, .int .i64 0, .slice none 0 0, .int .u64 0] := by simpa only [setAll, Nat.zero_add, Nat.add_zero, List.set_cons_zero, List.set_cons_succ] using tq
    refine ⟨0, 0, 0, 0, 0, 0, 0, none, 0, 0, 0, 0, 0, 0, 0, 0, 0, none, 0, 0, 0, 0, none, 0, 0, 0, ⟨a0.celli 0 rfl rfl, a0.celli 1 rfl rfl, a0.celli 2 rfl rfl, a0.celli 3 rfl rfl, a0.celli 4 rfl rfl, a0.celli 5 rfl rfl, a0.celli 6 rfl rfl, a0.celli 7 rfl rfl, a0.celli 8 rfl rfl, a0.celli 9 rfl rfl, a0.celli 10 rfl rfl, a0.celli 11 rfl rfl, a0.celli 12 rfl rfl, a0.celli 13 rfl rfl, a0.celli 14 rfl rfl, a0.celli 15 rfl rfl, a0.celli 16 rfl rfl, a0.celli 17 rfl rfl, a0.celli 18 rfl rfl, a0.celli 19 rfl rfl, trivial⟩, ?_⟩
    have h := h ie nk
    exact h
   have h := h.2 (not_f km)
   refine ⟨a2, au, bg, c1, cf, cg, bc, bd, ba, bh, cj, b9, bk, c6, cp, cm, br, bs, bo, bn, ck, a3, cq, cu, cv, 0, ⟨a1.celli 0 rfl rfl, a1.celli 1 rfl rfl, a1.celli 2 rfl rfl, a1.celli 3 rfl rfl, a1.celli 4 rfl rfl, a1.celli 5 rfl rfl, a1.celli 6 rfl rfl, a1.celli 7 rfl rfl, a1.celli 8 rfl rfl, a1.celli 9 rfl rfl, a1.celli 10 rfl rfl, a1.celli 11 rfl rfl, a1.celli 12 rfl rfl, a1.celli 13 rfl rfl, a1.celli 14 rfl rfl, a1.celli 15 rfl rfl, a1.celli 16 rfl rfl, a1.celli 17 rfl rfl, a1.celli 18 rfl rfl, a1.celli 19 rfl rfl, trivial⟩, ?_⟩
   have pf : Ext (fun b => b = w.heap.size) da da := ((Ext.refl no da)).none
   refine Q0a (k := 0) (j := 0) a0 (by exact Nat.le_of_ble_eq_true rfl) fun i1 tb tp => ?_
   have mf := pf.x_puts tb (.inl rfl)
   have a0 : Blk i1 w.heap.size 30 [.int .i64 a2, .int .i64 au, .int .i64 bg, .int .u64 c1, .int .i64 cf, .int .i64 cg, .int .i64 bc, .slice bd ba bh, .int .u64 cj, .int .i64 b9, .int .i64 bk, .int .u64 c6, .int .i64 cp, .int .i64 cm, .int .i64 br, .slice bs bo bn, .int .u64 ck, .int .i64 a3, .slice cq cu cv, .int .u64 0] := by simpa only [setAll, Nat.zero_add, Nat.add_zero, List.set_cons_zero, List.set_cons_succ] using tp
   refine ⟨a2, au, bg, c1, cf, cg, bc, bd, ba, bh, cj, b9, bk, c6, cp, cm, br, bs, bo, bn, ck, a3, cq, cu, cv, 0, ⟨a0.celli 0 rfl rfl, a0.celli 1 rfl rfl, a0.celli 2 rfl rfl, a0.celli 3 rfl rfl, a0.celli 4 rfl rfl, a0.celli 5 rfl rfl, a0.celli 6 rfl rfl, a0.celli 7 rfl rfl, a0.celli 8 rfl rfl, a0.celli 9 rfl rfl, a0.celli 10 rfl rfl, a0.celli 11 rfl rfl, a0.celli 12 rfl rfl, a0.celli 13 rfl rfl, a0.celli 14 rfl rfl, a0.celli 15 rfl rfl, a0.celli 16 rfl rfl, a0.celli 17 rfl rfl, a0.celli 18 rfl rfl, a0.celli 19 rfl rfl, trivial⟩, ?_⟩
   have h := h i1 mf
   exact h
  have h := h.1 (beq_t ko)
  refine h.mono fun vk fa h => ?_
  obtain ⟨ao, he, hk, h⟩ := h
  refine ⟨ao, he, ?_⟩
  have a0 := hk.blk a0 (by simp)
  have a1 := hk.blk a1 (by simp)
  have oj : Ext (fun b => b = a4.heap.size) fa fa := ((Ext.refl no fa)).none
  refine ⟨a1.cani 19 rfl rfl, Q02 fun ip l8 => ?_⟩
  have om := oj.x_set (q := a4.heap.size) (i := 19) rfl (.inl rfl) l8
  have a0 := a0.oth (q := a4.heap.size) (i := 19) rfl b7 l8
  have a1 : Blk ip a4.heap.size 30 [.int .i64 a2, .int .i64 0, .int .i64 0, .int .u64 0, .int .i64 0, .int .i64 0, .int .i64 0, .slice none 0 0, .int .u64 0, .int .i64 0, .int .i64 0, .int .u64 0, .int .i64 0, .int .i64 0, .int .i64 0, .slice none 0 0, .int .u64 0, .int .i64 a3, .slice none 0 0, .int .u64 ao] := a1.seti 19 rfl l8
  first | unfold Q00.J9 | unfold Q00.J18 | unfold Q00.J27 | unfold Q00.J36 | skip
  have h := h ip om
  refine h.mono fun vq fg h => ?_
  obtain ⟨gd, he, hk, h⟩ := h
  refine ⟨gd, he, ?_⟩
  have a0 := hk.blk a0 (by simp)
  have a1 := hk.blk a1 (by simp)
  refine bif_of (fun lf => ?_) (fun lf => ?_)
  ·have h := h.1 (bne_t lf)
   have nd : Ext (fun b => b = w.heap.size) fg fg := ((Ext.refl no fg)).none
   refine Q0a (k := 0) (j := 0) a0 (by exact Nat.le_of_ble_eq_true rfl) fun jl qk t0 => ?_
   have m8 := nd.x_puts qk (.inl rfl)
   have a0 : Blk jl w.heap.size 30 [.int .i64 0, .int .i64 0, .int .i64 0, .int .u64 0, .int .i64 0, .int .i64 0, .int .i64 0, .slice none 0 0, .int .u64 0, .int .i64 0, .int .i64 0, .int .u64 0, .int .i64 0, .int .i64 0, .int .i64 0, .slice none 0 0, .int .u64 0, .int .i64 0, .slice none 0 0, .int .u64 0] := by simpa only [setAll, Nat.zero_add, Nat.add_zero, List.set_cons_zero, List.set_cons_succ] using t0
   refine ⟨0, 0, 0, 0, 0, 0, 0, none, 0, 0, 0, 0, 0, 0, 0, 0, 0, none, 0, 0, 0, 0, none, 0, 0, 0, ⟨a0.celli 0 rfl rfl, a0.celli 1 rfl rfl, a0.celli 2 rfl rfl, a0.celli 3 rfl rfl, a0.celli 4 rfl rfl, a0.celli 5 rfl rfl, a0.celli 6 rfl rfl, a0.celli 7 rfl rfl, a0.celli 8 rfl rfl, a0.celli 9 rfl rfl, a0.celli 10 rfl rfl, a0.celli 11 rfl rfl, a0.celli 12 rfl rfl, a0.celli 13 rfl rfl, a0.celli 14 rfl rfl, a0.celli 15 rfl rfl, a0.celli 16 rfl rfl, a0.celli 17 rfl rfl, a0.celli 18 rfl rfl, a0.celli 19 rfl rfl, trivial⟩, ?_⟩
   have h := h jl m8
   exact h
  have h := h.2 (bne_f lf)
  first | unfold Q00.J8 | unfold Q00.J17 | unfold Q00.J26 | unfold Q00.J35 | skip
  refine ⟨a2, a1.celli 0 rfl rfl, ?_⟩
  refine bif_ff g6 ?_
  refine ⟨a2, a1.celli 0 rfl rfl, ?_⟩
  first | unfold Q00.J6 | unfold Q00.J7 | unfold Q00.J15 | unfold Q00.J16 | unfold Q00.J24 | unfold Q00.J25 | unfold Q00.J33 | unfold Q00.J34 | skip
  refine bif_fo (fun fk => ?_) (fun fk => ?_)
  ·have h := h.2 (beq_f fk)
   first | unfold Q00.J5 | unfold Q00.J14 | unfold Q00.J23 | unfold Q00.J32 | skip
   refine ⟨a2, a1.celli 0 rfl rfl, ?_⟩
   refine bif_ff fk ?_
   first | unfold Q00.J4 | unfold Q00.J13 | unfold Q00.J22 | unfold Q00.J31 | skip
   refine ⟨a2, a1.celli 0 rfl rfl, ?_⟩
   refine bif_tt d5 ?_
   first | unfold Q00.J2 | unfold Q00.J3 | unfold Q00.J11 | unfold Q00.J12 | unfold Q00.J20 | unfold Q00.J21 | unfold Q00.J29 | unfold Q00.J30 | skip
   refine h.mono fun vj dj h => ?_
   obtain ⟨d1, cr, ct, gt, he, hk, h⟩ := h
   refine ⟨d1, cr, ct, gt, he, ?_⟩
   have a0 := hk.blk a0 (by simp)
   have a1 := hk.blk a1 (by simp)
   refine bif_of (fun k0 => ?_) (fun k0 => ?_)
   ·have h := h.1 (bne_t k0)
    have n9 : Ext (fun b => b = w.heap.size) dj dj := ((Ext.refl no dj)).none
    refine Q0a (k := 0) (j := 0) a0 (by exact Nat.le_of_ble_eq_true rfl) fun i5 un um => ?_
    have p0 := n9.x_puts un (.inl rfl)
    have a0 : Blk i5 w.heap.size 30 [.int .i64 0, .int .i64 0, .int .i64 0, .int .u64 0, .int .i64 0, .int .i64 0, .int .i64 0, .slice none 0 0, .int .u64 0, .int .i64 0, .int .i64 0, .int .u64 0, .int .i64 0, .int .i64 0, .int .i64 0, .slice none 0 0, .int .u64 0, .int .i64 0, .slice none 0 0, .int .u64 0] := by simpa only [setAll, Nat.zero_add, Nat.add_zero, List.set_cons_zero, List.set_cons_succ] using um
    refine ⟨0, 0, 0, 0, 0, 0, 0, none, 0, 0, 0, 0, 0, 0, 0, 0, 0, none, 0, 0, 0, 0, none, 0, 0, 0, ⟨a0.celli 0 rfl rfl, a0.celli 1 rfl rfl, a0.celli 2 rfl rfl, a0.celli 3 rfl rfl, a0.celli 4 rfl rfl, a0.celli 5 rfl rfl, a0.celli 6 rfl rfl, a0.celli 7 rfl rfl, a0.celli 8 rfl rfl, a0.celli 9 rfl rfl, a0.celli 10 rfl rfl, a0.celli 11 rfl rfl, a0.celli 12 rfl rfl, a0.celli 13 rfl rfl, a0.celli 14 rfl rfl, a0.celli 15 rfl rfl, a0.celli 16 rfl rfl, a0.celli 17 rfl rfl, a0.celli 18 rfl rfl, a0.celli 19 rfl rfl, trivial⟩, ?_⟩
    have h := h i5 p0
    exact h
   have h := h.2 (bne_f k0)
   have p6 : Ext (fun b => b = a4.heap.size) dj dj := ((Ext.refl no dj)).none
   refine ⟨a1.cani 18 rfl rfl, Q02 fun gu le => ?_⟩
   have nc := p6.x_set (q := a4.heap.size) (i := 18) rfl (.inl rfl) le
   have a0 := a0.oth (q := a4.heap.size) (i := 18) rfl b7 le
   have a1 : Blk gu a4.heap.size 30 [.int .i64 a2, .int .i64 0, .int .i64 0, .int .u64 0, .int .i64 0, .int .i64 0, .int .i64 0, .slice none 0 0, .int .u64 0, .int .i64 0, .int .i64 0, .int .u64 0, .int .i64 0, .int .i64 0, .int .i64 0, .slice none 0 0, .int .u64 0, .int .i64 a3, .slice d1 cr ct, .int .u64 ao] := a1.seti 18 rfl le
   first | unfold Q00.J1 | unfold Q00.J10 | unfold Q00.J19 | unfold Q00.J28 | skip
   refine ⟨a2, 0, 0, 0, 0, 0, 0, none, 0, 0, 0, 0, 0, 0, 0, 0, 0, none, 0, 0, 0, a3, d1, cr, ct, ao, ⟨a1.celli 0 rfl rfl, a1.celli 1 rfl rfl, a1.celli 2 rfl rfl, a1.celli 3 rfl rfl, a1.celli 4 rfl rfl, a1.celli 5 rfl rfl, a1.celli 6 rfl rfl, a1.celli 7 rfl rfl, a1.celli 8 rfl rfl, a1.celli 9 rfl rfl, a1.celli 10 rfl rfl, a1.celli 11 rfl rfl, a1.celli 12 rfl rfl, a1.celli 13 rfl rfl, a1.celli 14 rfl rfl, a1.celli 15 rfl rfl, a1.celli 16 rfl rfl, a1.celli 17 rfl rfl, a1.celli 18 rfl rfl, a1.celli 19 rfl rfl, trivial⟩, ?_⟩
   have h := h gu nc
   refine h.mono fun v6 dq h => ?_
   obtain ⟨fh, he, hk, h⟩ := h
   refine ⟨fh, he, ?_⟩
   have a0 := hk.blk a0 (by simp)
   have a1 := hk.blk a1 (by simp)
   refine bif_of (fun ll => ?_) (fun ll => ?_)
   ·have h := h.1 (not_t ll)
    have o5 : Ext (fun b => b = w.heap.size) dq dq := ((Ext.refl no dq)).none
    refine Q0a (k := 0) (j := 0) a0 (by exact Nat.le_of_ble_eq_true rfl) fun j3 s2 t8 => ?_
    have mq := o5.x_puts s2 (.inl rfl)
    have a0 : Blk j3 w.heap.size 30 [.int .i64 0, .int .i64 0, .int .i64 0, .int .u64 0, .int .i64 0, .int .i64 0, .int .i64 0, .slice none 0 0, .int .u64 0, .int .i64 0, .int .i64 0, .int .u64 0, .int .i64 0, .int .i64 0, .int .i64 0, .slice none 0 0, .int .u64 0, .int .i64 0, .slice none 0 0, .int .u64 0] := by simpa only [setAll, Nat.zero_add, Nat.add_zero, List.set_cons_zero, List.set_cons_succ] using t8
    refine ⟨0, 0, 0, 0, 0, 0, 0, none, 0, 0, 0, 0, 0, 0, 0, 0, 0, none, 0, 0, 0, 0, none, 0, 0, 0, ⟨a0.celli 0 rfl rfl, a0.celli 1 rfl rfl, a0.celli 2 rfl rfl, a0.celli 3 rfl rfl, a0.celli 4 rfl rfl, a0.celli 5 rfl rfl, a0.celli 6 rfl rfl, a0.celli 7 rfl rfl, a0.celli 8 rfl rfl, a0.celli 9 rfl rfl, a0.celli 10 rfl rfl, a0.celli 11 rfl rfl, a0.celli 12 rfl rfl, a0.celli 13 rfl rfl, a0.celli 14 rfl rfl, a0.celli 15 rfl rfl, a0.celli 16 rfl rfl, a0.celli 17 rfl rfl, a0.celli 18 rfl rfl, a0.celli 19 rfl rfl, trivial⟩, ?_⟩
    have h := h j3 mq
    exact h
   have h := h.2 (not_f ll)
   refine ⟨a2, 0, 0, 0, 0, 0, 0, none, 0, 0, 0, 0, 0, 0, 0, 0, 0, none, 0, 0, 0, a3, d1, cr, ct, ao, ⟨a1.celli 0 rfl rfl, a1.celli 1 rfl rfl, a1.celli 2 rfl rfl, a1.celli 3 rfl rfl, a1.celli 4 rfl rfl, a1.celli 5 rfl rfl, a1.celli 6 rfl rfl, a1.celli 7 rfl rfl, a1.celli 8 rfl rfl, a1.celli 9 rfl rfl, a1.celli 10 rfl rfl, a1.celli 11 rfl rfl, a1.celli 12 rfl rfl, a1.celli 13 rfl rfl, a1.celli 14 rfl rfl, a1.celli 15 rfl rfl, a1.celli 16 rfl rfl, a1.celli 17 rfl rfl, a1.celli 18 rfl rfl, a1.celli 19 rfl rfl, trivial⟩, ?_⟩
   have lw : Ext (fun b => b = w.heap.size) dq dq := ((Ext.refl no dq)).none
   refine Q0a (k := 0) (j := 0) a0 (by exact Nat.le_of_ble_eq_true rfl) fun i6 q8 ta => ?_
   have nm := lw.x_puts q8 (.inl rfl)
   have a0 : Blk i6 w.heap.size 30 [.int .i64 a2, .int .i64 0, .int .i64 0, .int .u64 0, .int .i64 0, .int .i64 0, .int .i64 0, .slice none 0 0, .int .u64 0, .int .i64 0, .int .i64 0, .int .u64 0, .int .i64 0, .int .i64 0, .int .i64 0, .slice none 0 0, .int .u64 0, .int .i64 a3, .slice d1 cr ct, .int .u64 ao] := by simpa only [setAll, Nat.zero_add, Nat.add_zero, List.set_cons_zero, List.set_cons_succ] using ta
   refine ⟨a2, 0, 0, 0, 0, 0, 0, none, 0, 0, 0, 0, 0, 0, 0, 0, 0, none, 0, 0, 0, a3, d1, cr, ct, ao, ⟨a0.celli 0 rfl rfl, a0.celli 1 rfl rfl, a0.celli 2 rfl rfl, a0.celli 3 rfl rfl, a0.celli 4 rfl rfl, a0.celli 5 rfl rfl, a0.celli 6 rfl rfl, a0.celli 7 rfl rfl, a0.celli 8 rfl rfl, a0.celli 9 rfl rfl, a0.celli 10 rfl rfl, a0.celli 11 rfl rfl, a0.celli 12 rfl rfl, a0.celli 13 rfl rfl, a0.celli 14 rfl rfl, a0.celli 15 rfl rfl, a0.celli 16 rfl rfl, a0.celli 17 rfl rfl, a0.celli 18 rfl rfl, a0.celli 19 rfl rfl, trivial⟩, ?_⟩
   have h := h i6 nm
   exact h
  have h := h.1 (beq_t fk)
  refine h.mono fun xp du h => ?_
  obtain ⟨a6, ad, ap, ay, b3, ag, ae, ah, af, b5, gl, he, hk, h⟩ := h
  refine ⟨a6, ad, ap, ay, b3, ag, ae, ah, af, b5, gl, he, ?_⟩
  have a0 := hk.blk a0 (by simp)
  have a1 := hk.blk a1 (by simp)
  refine Q02 fun vt gm => ?_
  have fp := Blk.of_new gm
  have xz := ((Ext.refl no du)).size
  have pe := Nat.ne_of_lt a0.lt
  have a0 := a0.x_alloc gm
  have nx := Nat.ne_of_lt a1.lt
  have a1 := a1.x_alloc gm
  have o9 := (Ext.refl no du).x_alloc gm
  refine Q0a (k := 0) (j := 0) fp (by exact Nat.le_of_ble_eq_true rfl) fun fj lb qz => ?_
  have gw := o9.x_puts lb (.inr xz)
  have a0 := a0.x_puts lb pe
  have a1 := a1.x_puts lb nx
  have fp : Blk fj du.heap.size 27 [.int .i64 a6, .int .i64 ad, .int .u64 ap, .int .i64 ay, .int .i64 b3, .int .i64 ag, .slice ae ah af, .int .u64 b5] := by simpa only [setAll, Nat.zero_add, Nat.add_zero, List.set_cons_zero, List.set_cons_succ] using qz
  refine bif_of (fun kg => ?_) (fun kg => ?_)
  ·have h := h.1 (bne_t kg)
   have n8 : Ext (fun b => b = w.heap.size) du fj := (gw).none
   refine Q0a (k := 0) (j := 0) a0 (by exact Nat.le_of_ble_eq_true rfl) fun jo tt tc => ?_
   have mh := n8.x_puts tt (.inl rfl)
   have a0 : Blk jo w.heap.size 30 [.int .i64 0, .int .i64 0, .int .i64 0, .int .u64 0, .int .i64 0, .int .i64 0, .int .i64 0, .slice none 0 0, .int .u64 0, .int .i64 0, .int .i64 0, .int .u64 0, .int .i64 0, .int .i64 0, .int .i64 0, .slice none 0 0, .int .u64 0, .int .i64 0, .slice none 0 0, .int .u64 0] := by simpa only [setAll, Nat.zero_add, Nat.add_zero, List.set_cons_zero, List.set_cons_succ] using tc
   refine ⟨0, 0, 0, 0, 0, 0, 0, none, 0, 0, 0, 0, 0, 0, 0, 0, 0, none, 0, 0, 0, 0, none, 0, 0, 0, ⟨a0.celli 0 rfl rfl, a0.celli 1 rfl rfl, a0.celli 2 rfl rfl, a0.celli 3 rfl rfl, a0.celli 4 rfl rfl, a0.celli 5 rfl rfl, a0.celli 6 rfl rfl, a0.celli 7 rfl rfl, a0.celli 8 rfl rfl, a0.celli 9 rfl rfl, a0.celli 10 rfl rfl, a0.celli 11 rfl rfl, a0.celli 12 rfl rfl, a0.celli 13 rfl rfl, a0.celli 14 rfl rfl, a0.celli 15 rfl rfl, a0.celli 16 rfl rfl, a0.celli 17 rfl rfl, a0.celli 18 rfl rfl, a0.celli 19 rfl rfl, trivial⟩, ?_⟩
   have h := h jo mh
   exact h
  have h := h.2 (bne_f kg)
  refine ⟨a6, ad, ap, ay, b3, ag, ae, ah, af, b5, ⟨fp.celli 0 rfl rfl, fp.celli 1 rfl rfl, fp.celli 2 rfl rfl, fp.celli 3 rfl rfl, fp.celli 4 rfl rfl, fp.celli 5 rfl rfl, fp.celli 6 rfl rfl, fp.celli 7 rfl rfl, trivial⟩, ?_⟩
  have ps : Ext (fun b => b = a4.heap.size) du fj := (gw).none
  refine Q0a (k := 1) (j := 0) (vs := [.int .i64 a6, .int .i64 ad, .int .u64 ap, .int .i64 ay, .int .i64 b3, .int .i64 ag, .slice ae ah af, .int .u64 b5]) a1 (by exact Nat.le_of_ble_eq_true rfl) fun iw md qb => ?_
  have pw := ps.x_puts md (.inl rfl)
  have a0 := a0.x_puts md b7
  have a1 : Blk iw a4.heap.size 30 [.int .i64 a2, .int .i64 a6, .int .i64 ad, .int .u64 ap, .int .i64 ay, .int .i64 b3, .int .i64 ag, .slice ae ah af, .int .u64 b5, .int .i64 0, .int .i64 0, .int .u64 0, .int .i64 0, .int .i64 0, .int .i64 0, .slice none 0 0, .int .u64 0, .int .i64 a3, .slice none 0 0, .int .u64 ao] := by simpa only [setAll, Nat.zero_add, Nat.add_zero, List.set_cons_zero, List.set_cons_succ] using qb
  first | unfold Q00.J5 | unfold Q00.J14 | unfold Q00.J23 | unfold Q00.J32 | skip
  refine ⟨a2, a1.celli 0 rfl rfl, ?_⟩
  refine bif_tt fk ?_
  have h := h iw pw
  refine h.mono fun xe ds h => ?_
  obtain ⟨ac, ai, ar, bb, be, al, an, aj, am, bf, g0, he, hk, h⟩ := h
  refine ⟨ac, ai, ar, bb, be, al, an, aj, am, bf, g0, he, ?_⟩
  have a0 := hk.blk a0 (by simp)
  have a1 := hk.blk a1 (by simp)
  refine Q02 fun xa g9 => ?_
  have fo := Blk.of_new g9
  have y9 := ((Ext.refl no ds)).size
  have pp := Nat.ne_of_lt a0.lt
  have a0 := a0.x_alloc g9
  have ln := Nat.ne_of_lt a1.lt
  have a1 := a1.x_alloc g9
  have ns := (Ext.refl no ds).x_alloc g9
  refine Q0a (k := 0) (j := 0) fo (by exact Nat.le_of_ble_eq_true rfl) fun f7 kn se => ?_
  have j9 := ns.x_puts kn (.inr y9)
  have a0 := a0.x_puts kn pp
  have a1 := a1.x_puts kn ln
  have fo : Blk f7 ds.heap.size 27 [.int .i64 ac, .int .i64 ai, .int .u64 ar, .int .i64 bb, .int .i64 be, .int .i64 al, .slice an aj am, .int .u64 bf] := by simpa only [setAll, Nat.zero_add, Nat.add_zero, List.set_cons_zero, List.set_cons_succ] using se
  refine bif_of (fun k8 => ?_) (fun k8 => ?_)
  ·have h := h.1 (bne_t k8)
   have o1 : Ext (fun b => b = w.heap.size) ds f7 := (j9).none
   refine Q0a (k := 0) (j := 0) a0 (by exact Nat.le_of_ble_eq_true rfl) fun j1 uo su => ?_
   have og := o1.x_puts uo (.inl rfl)
   have a0 : Blk j1 w.heap.size 30 [.int .i64 0, .int .i64 0, .int .i64 0, .int .u64 0, .int .i64 0, .int .i64 0, .int .i64 0, .slice none 0 0, .int .u64 0, .int .i64 0, .int .i64 0, .int .u64 0, .int .i64 0, .int .i64 0, .int .i64 0, .slice none 0 0, .int .u64 0, .int .i64 0, .slice none 0 0, .int .u64 0] := by simpa only [setAll, Nat.zero_add, Nat.add_zero, List.set_cons_zero, List.set_cons_succ] using su
   refine ⟨0, 0, 0, 0, 0, 0, 0, none, 0, 0, 0, 0, 0, 0, 0, 0, 0, none, 0, 0, 0, 0, none, 0, 0, 0, ⟨a0.celli 0 rfl rfl, a0.celli 1 rfl rfl, a0.celli 2 rfl rfl, a0.celli 3 rfl rfl, a0.celli 4 rfl rfl, a0.celli 5 rfl rfl, a0.celli 6 rfl rfl, a0.celli 7 rfl rfl, a0.celli 8 rfl rfl, a0.celli 9 rfl rfl, a0.celli 10 rfl rfl, a0.celli 11 rfl rfl, a0.celli 12 rfl rfl, a0.celli 13 rfl rfl, a0.celli 14 rfl rfl, a0.celli 15 rfl rfl, a0.celli 16 rfl rfl, a0.celli 17 rfl rfl, a0.celli 18 rfl rfl, a0.celli 19 rfl rfl, trivial⟩, ?_⟩
   have h := h j1 og
   exact h
  have h := h.2 (bne_f k8)
  refine ⟨ac, ai, ar, bb, be, al, an, aj, am, bf, ⟨fo.celli 0 rfl rfl, fo.celli 1 rfl rfl, fo.celli 2 rfl rfl, fo.celli 3 rfl rfl, fo.celli 4 rfl rfl, fo.celli 5 rfl rfl, fo.celli 6 rfl rfl, fo.celli 7 rfl rfl, trivial⟩, ?_⟩
  have p2 : Ext (fun b => b = a4.heap.size) ds f7 := (j9).none
  refine Q0a (k := 9) (j := 0) (vs := [.int .i64 ac, .int .i64 ai, .int .u64 ar, .int .i64 bb, .int .i64 be, .int .i64 al, .slice an aj am, .int .u64 bf]) a1 (by exact Nat.le_of_ble_eq_true rfl) fun gv nt v3 => ?_
  have ni := p2.x_puts nt (.inl rfl)
  have a0 := a0.x_puts nt b7
  have a1 : Blk gv a4.heap.size 30 [.int .i64 a2, .int .i64 a6, .int .i64 ad, .int .u64 ap, .int .i64 ay, .int .i64 b3, .int .i64 ag, .slice ae ah af, .int .u64 b5, .int .i64 ac, .int .i64 ai, .int .u64 ar, .int .i64 bb, .int .i64 be, .int .i64 al, .slice an aj am, .int .u64 bf, .int .i64 a3, .slice none 0 0, .int .u64 ao] := by simpa only [setAll, Nat.zero_add, Nat.add_zero, List.set_cons_zero, List.set_cons_succ] using v3
  first | unfold Q00.J4 | unfold Q00.J13 | unfold Q00.J22 | unfold Q00.J31 | skip
  refine ⟨a2, a1.celli 0 rfl rfl, ?_⟩
  refine bif_tt d5 ?_
  first | unfold Q00.J2 | unfold Q00.J3 | unfold Q00.J11 | unfold Q00.J12 | unfold Q00.J20 | unfold Q00.J21 | unfold Q00.J29 | unfold Q00.J30 | skip
  have h := h gv ni
  refine h.mono fun xl dl h => ?_
  obtain ⟨bz, c4, c0, ge, he, hk, h⟩ := h
  refine ⟨bz, c4, c0, ge, he, ?_⟩
  have a0 := hk.blk a0 (by simp)
  have a1 := hk.blk a1 (by simp)
  refine bif_of (fun l7 => ?_) (fun l7 => ?_)
  ·have h := h.1 (bne_t l7)
   have mj : Ext (fun b => b = w.heap.size) dl dl := ((Ext.refl no dl)).none
   refine Q0a (k := 0) (j := 0) a0 (by exact Nat.le_of_ble_eq_true rfl) fun j4 ul q7 => ?_
   have nh := mj.x_puts ul (.inl rfl)
   have a0 : Blk j4 w.heap.size 30 [.int .i64 0, .int .i64 0, .int .i64 0, .int .u64 0, .int .i64 0, .int .i64 0, .int .i64 0, .slice none 0 0, .int .u64 0, .int .i64 0, .int .i64 0, .int .u64 0, .int .i64 0, .int .i64 0, .int .i64 0, .slice none 0 0, .int .u64 0, .int .i64 0, .slice none 0 0, .int .u64 0] := by simpa only [setAll, Nat.zero_add, Nat.add_zero, List.set_cons_zero, List.set_cons_succ] using q7
   refine ⟨0, 0, 0, 0, 0, 0, 0, none, 0, 0, 0, 0, 0, 0, 0, 0, 0, none, 0, 0, 0, 0, none, 0, 0, 0, ⟨a0.celli 0 rfl rfl, a0.celli 1 rfl rfl, a0.celli 2 rfl rfl, a0.celli 3 rfl rfl, a0.celli 4 rfl rfl, a0.celli 5 rfl rfl, a0.celli 6 rfl rfl, a0.celli 7 rfl rfl, a0.celli 8 rfl rfl, a0.celli 9 rfl rfl, a0.celli 10 rfl rfl, a0.celli 11 rfl rfl, a0.celli 12 rfl rfl, a0.celli 13 rfl rfl, a0.celli 14 rfl rfl, a0.celli 15 rfl rfl, a0.celli 16 rfl rfl, a0.celli 17 rfl rfl, a0.celli 18 rfl rfl, a0.celli 19 rfl rfl, trivial⟩, ?_⟩
   have h := h j4 nh
   exact h
  have h := h.2 (bne_f l7)
  have oa : Ext (fun b => b = a4.heap.size) dl dl := ((Ext.refl no dl)).none
  refine ⟨a1.cani 18 rfl rfl, Q02 fun e3 l6 => ?_⟩
  have jp := oa.x_set (q := a4.heap.size) (i := 18) rfl (.inl rfl) l6
  have a0 := a0.oth (q := a4.heap.size) (i := 18) rfl b7 l6
  have a1 : Blk e3 a4.heap.size 30 [.int .i64 a2, .int .i64 a6, .int .i64 ad, .int .u64 ap, .int .i64 ay, .int .i64 b3, .int .i64 ag, .slice ae ah af, .int .u64 b5, .int .i64 ac, .int .i64 ai, .int .u64 ar, .int .i64 bb, .int .i64 be, .int .i64 al, .slice an aj am, .int .u64 bf, .int .i64 a3, .slice bz c4 c0, .int .u64 ao] := a1.seti 18 rfl l6
  rotate_left
  have h := h.2 (beq_f d5)
  first | unfold Q00.J37 | skip
  refine bif_fo (fun dy => ?_) (fun dy => ?_)
  ·have h := h.2 (beq_f dy)
   refine bif_fo (fun e0 => ?_) (fun e0 => ?_)
   ·have h := h.2 (beq_f e0)
    first | unfold Q00.J9 | unfold Q00.J18 | unfold Q00.J27 | unfold Q00.J36 | skip
    have h := h eg (a4.heap.size) ff (Priv.cons lm a1.lt Priv.nil)
    refine h.mono fun vg en h => ?_
    obtain ⟨gr, he, hk, h⟩ := h
    refine ⟨gr, he, ?_⟩
    have a0 := hk.blk a0 (by simp)
    have a1 := hk.blk a1 (by simp)
    refine bif_of (fun kz => ?_) (fun kz => ?_)
    ·have h := h.1 (bne_t kz)
     have m5 : Ext (fun b => b = w.heap.size) en en := ((Ext.refl no en)).none
     refine Q0a (k := 0) (j := 0) a0 (by exact Nat.le_of_ble_eq_true rfl) fun j8 tw ti => ?_
     have ov := m5.x_puts tw (.inl rfl)
     have a0 : Blk j8 w.heap.size 30 [.int .i64 0, .int .i64 0, .int .i64 0, .int .u64 0, .int .i64 0, .int .i64 0, .int .i64 0, .slice none 0 0, .int .u64 0, .int .i64 0, .int .i64 0, .int .u64 0, .int .i64 0, .int .i64 0, .int .i64 0, .slice none 0 0, .int .u64 0, .int .i64 0, .slice none 0 0, .int .u64 0] := by simpa only [setAll, Nat.zero_add, Nat.add_zero, List.set_cons_zero, List.set_cons_succ] using ti
     refine ⟨0, 0, 0, 0, 0, 0, 0, none, 0, 0, 0, 0, 0, 0, 0, 0, 0, none, 0, 0, 0, 0, none, 0, 0, 0, ⟨a0.celli 0 rfl rfl, a0.celli 1 rfl rfl, a0.celli 2 rfl rfl, a0.celli 3 rfl rfl, a0.celli 4 rfl rfl, a0.celli 5 rfl rfl, a0.celli 6 rfl rfl, a0.celli 7 rfl rfl, a0.celli 8 rfl rfl, a0.celli 9 rfl rfl, a0.celli 10 rfl rfl, a0.celli 11 rfl rfl, a0.celli 12 rfl rfl, a0.celli 13 rfl rfl, a0.celli 14 rfl rfl, a0.celli 15 rfl rfl, a0.celli 16 rfl rfl, a0.celli 17 rfl rfl, a0.celli 18 rfl rfl, a0.celli 19 rfl rfl, trivial⟩, ?_⟩
     have h := h j8 ov
     exact h
    have h := h.2 (bne_f kz)
    first | unfold Q00.J8 | unfold Q00.J17 | unfold Q00.J26 | unfold Q00.J35 | skip
    refine ⟨a2, a1.celli 0 rfl rfl, ?_⟩
    refine bif_ff g6 ?_
    refine ⟨a2, a1.celli 0 rfl rfl, ?_⟩
    first | unfold Q00.J6 | unfold Q00.J7 | unfold Q00.J15 | unfold Q00.J16 | unfold Q00.J24 | unfold Q00.J25 | unfold Q00.J33 | unfold Q00.J34 | skip
    refine bif_ff e0 ?_
    first | unfold Q00.J5 | unfold Q00.J14 | unfold Q00.J23 | unfold Q00.J32 | skip
    refine ⟨a2, a1.celli 0 rfl rfl, ?_⟩
    refine bif_ff e0 ?_
    first | unfold Q00.J4 | unfold Q00.J13 | unfold Q00.J22 | unfold Q00.J31 | skip
    refine ⟨a2, a1.celli 0 rfl rfl, ?_⟩
    refine bif_ff d5 ?_
    refine ⟨a2, a1.celli 0 rfl rfl, ?_⟩
    first | unfold Q00.J2 | unfold Q00.J3 | unfold Q00.J11 | unfold Q00.J12 | unfold Q00.J20 | unfold Q00.J21 | unfold Q00.J29 | unfold Q00.J30 | skip
    refine bif_ff dy ?_
    first | unfold Q00.J1 | unfold Q00.J10 | unfold Q00.J19 | unfold Q00.J28 | skip
    refine ⟨a2, 0, 0, 0, 0, 0, 0, none, 0, 0, 0, 0, 0, 0, 0, 0, 0, none, 0, 0, 0, 0, none, 0, 0, 0, ⟨a1.celli 0 rfl rfl, a1.celli 1 rfl rfl, a1.celli 2 rfl rfl, a1.celli 3 rfl rfl, a1.celli 4 rfl rfl, a1.celli 5 rfl rfl, a1.celli 6 rfl rfl, a1.celli 7 rfl rfl, a1.celli 8 rfl rfl, a1.celli 9 rfl rfl, a1.celli 10 rfl rfl, a1.celli 11 rfl rfl, a1.celli 12 rfl rfl, a1.celli 13 rfl rfl, a1.celli 14 rfl rfl, a1.celli 15 rfl rfl, a1.celli 16 rfl rfl, a1.celli 17 rfl rfl, a1.celli 18 rfl rfl, a1.celli 19 rfl rfl, trivial⟩, ?_⟩
    refine h.mono fun v7 dc h => ?_
    obtain ⟨f1, he, hk, h⟩ := h
    refine ⟨f1, he, ?_⟩
    have a0 := hk.blk a0 (by simp)
    have a1 := hk.blk a1 (by simp)
    refine bif_of (fun kq => ?_) (fun kq => ?_)
    ·have h := h.1 (not_t kq)
     have mt : Ext (fun b => b = w.heap.size) dc dc := ((Ext.refl no dc)).none
     refine Q0a (k := 0) (j := 0) a0 (by exact Nat.le_of_ble_eq_true rfl) fun ii uu sm => ?_
     have op := mt.x_puts uu (.inl rfl)
     have a0 : Blk ii w.heap.size 30 [.int .i64 0, .int .i64 0, .int .i64 0, .int .u64 0, .int .i64 0, .int .i64 0, .int .i64 0, .slice none 0 0, .int .u64 0, .int .i64 0, .int .i64 0, .int .u64 0, .int .i64 0, .int .i64 0, .int .i64 0, .slice none 0 0, .int .u64 0, .int .i64 0, .slice none 0 0, .int .u64 0] := by simpa only [setAll, Nat.zero_add, Nat.add_zero, List.set_cons_zero, List.set_cons_succ] using sm
     refine ⟨0, 0, 0, 0, 0, 0, 0, none, 0, 0, 0, 0, 0, 0, 0, 0, 0, none, 0, 0, 0, 0, none, 0, 0, 0, ⟨a0.celli 0 rfl rfl, a0.celli 1 rfl rfl, a0.celli 2 rfl rfl, a0.celli 3 rfl rfl, a0.celli 4 rfl rfl, a0.celli 5 rfl rfl, a0.celli 6 rfl rfl, a0.celli 7 rfl rfl, a0.celli 8 rfl rfl, a0.celli 9 rfl rfl, a0.celli 10 rfl rfl, a0.celli 11 rfl rfl, a0.celli 12 rfl rfl, a0.celli 13 rfl rfl, a0.celli 14 rfl rfl, a0.celli 15 rfl rfl, a0.celli 16 rfl rfl, a0.celli 17 rfl rfl, a0.celli 18 rfl rfl, a0.celli 19 rfl rfl, trivial⟩, ?_⟩
     have h := h ii op
     exact h
    have h := h.2 (not_f kq)
    refine ⟨a2, 0, 0, 0, 0, 0, 0, none, 0, 0, 0, 0, 0, 0, 0, 0, 0, none, 0, 0, 0, 0, none, 0, 0, 0, ⟨a1.celli 0 rfl rfl, a1.celli 1 rfl rfl, a1.celli 2 rfl rfl, a1.celli 3 rfl rfl, a1.celli 4 rfl rfl, a1.celli 5 rfl rfl, a1.celli 6 rfl rfl, a1.celli 7 rfl rfl, a1.celli 8 rfl rfl, a1.celli 9 rfl rfl, a1.celli 10 rfl rfl, a1.celli 11 rfl rfl, a1.celli 12 rfl rfl, a1.celli 13 rfl rfl, a1.celli 14 rfl rfl, a1.celli 15 rfl rfl, a1.celli 16 rfl rfl, a1.celli 17 rfl rfl, a1.celli 18 rfl rfl, a1.celli 19 rfl rfl, trivial⟩, ?_⟩
    have mp : Ext (fun b => b = w.heap.size) dc dc := ((Ext.refl no dc)).none
    refine Q0a (k := 0) (j := 0) a0 (by exact Nat.le_of_ble_eq_true rfl) fun jg t5 uc => ?_
    have mw := mp.x_puts t5 (.inl rfl)
    have a0 : Blk jg w.heap.size 30 [.int .i64 a2, .int .i64 0, .int .i64 0, .int .u64 0, .int .i64 0, .int .i64 0, .int .i64 0, .slice none 0 0, .int .u64 0, .int .i64 0, .int .i64 0, .int .u64 0, .int .i64 0, .int .i64 0, .int .i64 0, .slice none 0 0, .int .u64 0, .int .i64 0, .slice none 0 0, .int .u64 0] := by simpa only [setAll, Nat.zero_add, Nat.add_zero, List.set_cons_zero, List.set_cons_succ] using uc
    refine ⟨a2, 0, 0, 0, 0, 0, 0, none, 0, 0, 0, 0, 0, 0, 0, 0, 0, none, 0, 0, 0, 0, none, 0, 0, 0, ⟨a0.celli 0 rfl rfl, a0.celli 1 rfl rfl, a0.celli 2 rfl rfl, a0.celli 3 rfl rfl, a0.celli 4 rfl rfl, a0.celli 5 rfl rfl, a0.celli 6 rfl rfl, a0.celli 7 rfl rfl, a0.celli 8 rfl rfl, a0.celli 9 rfl rfl, a0.celli 10 rfl rfl, a0.celli 11 rfl rfl, a0.celli 12 rfl rfl, a0.celli 13 rfl rfl, a0.celli 14 rfl rfl, a0.celli 15 rfl rfl, a0.celli 16 rfl rfl, a0.celli 17 rfl rfl, a0.celli 18 rfl rfl, a0.celli 19 rfl rfl, trivial⟩, ?_⟩
    have h := h jg mw
    exact h
   have h := h.1 (beq_t e0)
   have h := h eg (a4.heap.size) ff (Priv.cons lm a1.lt Priv.nil)
   refine h.mono fun vm vy h => ?_
   obtain ⟨ec, ej, ee, he, hk, h⟩ := h
   refine ⟨ec, ej, ee, he, ?_⟩
   have a0 := hk.blk a0 (by simp)
   have a1 := hk.blk a1 (by simp)
   refine h.mono fun vf x8 h => ?_
   obtain ⟨ef, eh, eb, he, hk, h⟩ := h
   refine ⟨ef, eh, eb, he, ?_⟩
   have a0 := hk.blk a0 (by simp)
   have a1 := hk.blk a1 (by simp)
   first | unfold Q00.J9 | unfold Q00.J18 | unfold Q00.J27 | unfold Q00.J36 | skip
   refine h.mono fun vw em h => ?_
   obtain ⟨fw, he, hk, h⟩ := h
   refine ⟨fw, he, ?_⟩
   have a0 := hk.blk a0 (by simp)
   have a1 := hk.blk a1 (by simp)
   refine bif_of (fun ku => ?_) (fun ku => ?_)
   ·have h := h.1 (bne_t ku)
    have pm : Ext (fun b => b = w.heap.size) em em := ((Ext.refl no em)).none
    refine Q0a (k := 0) (j := 0) a0 (by exact Nat.le_of_ble_eq_true rfl) fun ir qm tj => ?_
    have o6 := pm.x_puts qm (.inl rfl)
    have a0 : Blk ir w.heap.size 30 [.int .i64 0, .int .i64 0, .int .i64 0, .int .u64 0, .int .i64 0, .int .i64 0, .int .i64 0, .slice none 0 0, .int .u64 0, .int .i64 0, .int .i64 0, .int .u64 0, .int .i64 0, .int .i64 0, .int .i64 0, .slice none 0 0, .int .u64 0, .int .i64 0, .slice none 0 0, .int .u64 0] := by simpa only [setAll, Nat.zero_add, Nat.add_zero, List.set_cons_zero, List.set_cons_succ] using tj
    refine ⟨0, 0, 0, 0, 0, 0, 0, none, 0, 0, 0, 0, 0, 0, 0, 0, 0, none, 0, 0, 0, 0, none, 0, 0, 0, ⟨a0.celli 0 rfl rfl, a0.celli 1 rfl rfl, a0.celli 2 rfl rfl, a0.celli 3 rfl rfl, a0.celli 4 rfl rfl, a0.celli 5 rfl rfl, a0.celli 6 rfl rfl, a0.celli 7 rfl rfl, a0.celli 8 rfl rfl, a0.celli 9 rfl rfl, a0.celli 10 rfl rfl, a0.celli 11 rfl rfl, a0.celli 12 rfl rfl, a0.celli 13 rfl rfl, a0.celli 14 rfl rfl, a0.celli 15 rfl rfl, a0.celli 16 rfl rfl, a0.celli 17 rfl rfl, a0.celli 18 rfl rfl, a0.celli 19 rfl rfl, trivial⟩, ?_⟩
    have h := h ir o6
    exact h
   have h := h.2 (bne_f ku)
   first | unfold Q00.J8 | unfold Q00.J17 | unfold Q00.J26 | unfold Q00.J35 | skip
   refine ⟨a2, a1.celli 0 rfl rfl, ?_⟩
   refine bif_ff g6 ?_
   refine ⟨a2, a1.celli 0 rfl rfl, ?_⟩
   first | unfold Q00.J6 | unfold Q00.J7 | unfold Q00.J15 | unfold Q00.J16 | unfold Q00.J24 | unfold Q00.J25 | unfold Q00.J33 | unfold Q00.J34 | skip
   refine bif_tt e0 ?_
   refine h.mono fun x4 dw h => ?_
   obtain ⟨b8, bj, c5, cn, cl, bm, bp, bq, bl, co, g2, he, hk, h⟩ := h
   refine ⟨b8, bj, c5, cn, cl, bm, bp, bq, bl, co, g2, he, ?_⟩
   have a0 := hk.blk a0 (by simp)
   have a1 := hk.blk a1 (by simp)
   refine Q02 fun v9 gh => ?_
   have d8 := Blk.of_new gh
   have s6 := ((Ext.refl no dw)).size
   have kl := Nat.ne_of_lt a0.lt
   have a0 := a0.x_alloc gh
   have kd := Nat.ne_of_lt a1.lt
   have a1 := a1.x_alloc gh
   have ng := (Ext.refl no dw).x_alloc gh
   refine Q0a (k := 0) (j := 0) d8 (by exact Nat.le_of_ble_eq_true rfl) fun fc kj u9 => ?_
   have io := ng.x_puts kj (.inr s6)
   have a0 := a0.x_puts kj kl
   have a1 := a1.x_puts kj kd
   have d8 : Blk fc dw.heap.size 27 [.int .i64 b8, .int .i64 bj, .int .u64 c5, .int .i64 cn, .int .i64 cl, .int .i64 bm, .slice bp bq bl, .int .u64 co] := by simpa only [setAll, Nat.zero_add, Nat.add_zero, List.set_cons_zero, List.set_cons_succ] using u9
   refine bif_of (fun jw => ?_) (fun jw => ?_)
   ·have h := h.1 (bne_t jw)
    have ou : Ext (fun b => b = w.heap.size) dw fc := (io).none
    refine Q0a (k := 0) (j := 0) a0 (by exact Nat.le_of_ble_eq_true rfl) fun i4 sp sx => ?_
    have m3 := ou.x_puts sp (.inl rfl)
    have a0 : Blk i4 w.heap.size 30 [.int .i64 0, .int .i64 0, .int .i64 0, .int .u64 0, .int .i64 0, .int .i64 0, .int .i64 0, .slice none 0 0, .int .u64 0, .int .i64 0, .int .i64 0, .int .u64 0, .int .i64 0, .int .i64 0, .int .i64 0, .slice none 0 0, .int .u64 0, .int .i64 0, .slice none 0 0, .int .u64 0] := by simpa only [setAll, Nat.zero_add, Nat.add_zero, List.set_cons_zero, List.set_cons_succ] using sx
    refine ⟨0, 0, 0, 0, 0, 0, 0, none, 0, 0, 0, 0, 0, 0, 0, 0, 0, none, 0, 0, 0, 0, none, 0, 0, 0, ⟨a0.celli 0 rfl rfl, a0.celli 1 rfl rfl, a0.celli 2 rfl rfl, a0.celli 3 rfl rfl, a0.celli 4 rfl rfl, a0.celli 5 rfl rfl, a0.celli 6 rfl rfl, a0.celli 7 rfl rfl, a0.celli 8 rfl rfl, a0.celli 9 rfl rfl, a0.celli 10 rfl rfl, a0.celli 11 rfl rfl, a0.celli 12 rfl rfl, a0.celli 13 rfl rfl, a0.celli 14 rfl rfl, a0.celli 15 rfl rfl, a0.celli 16 rfl rfl, a0.celli 17 rfl rfl, a0.celli 18 rfl rfl, a0.celli 19 rfl rfl, trivial⟩, ?_⟩
    have h := h i4 m3
    exact h
   have h := h.2 (bne_f jw)
   refine ⟨b8, bj, c5, cn, cl, bm, bp, bq, bl, co, ⟨d8.celli 0 rfl rfl, d8.celli 1 rfl rfl, d8.celli 2 rfl rfl, d8.celli 3 rfl rfl, d8.celli 4 rfl rfl, d8.celli 5 rfl rfl, d8.celli 6 rfl rfl, d8.celli 7 rfl rfl, trivial⟩, ?_⟩
   have lq : Ext (fun b => b = a4.heap.size) dw fc := (io).none
   refine Q0a (k := 1) (j := 0) (vs := [.int .i64 b8, .int .i64 bj, .int .u64 c5, .int .i64 cn, .int .i64 cl, .int .i64 bm, .slice bp bq bl, .int .u64 co]) a1 (by exact Nat.le_of_ble_eq_true rfl) fun jq po ux => ?_
   have ms := lq.x_puts po (.inl rfl)
   have a0 := a0.x_puts po b7
   have a1 : Blk jq a4.heap.size 30 [.int .i64 a2, .int .i64 b8, .int .i64 bj, .int .u64 c5, .int .i64 cn, .int .i64 cl, .int .i64 bm, .slice bp bq bl, .int .u64 co, .int .i64 0, .int .i64 0, .int .u64 0, .int .i64 0, .int .i64 0, .int .i64 0, .slice none 0 0, .int .u64 0, .int .i64 0, .slice none 0 0, .int .u64 0] := by simpa only [setAll, Nat.zero_add, Nat.add_zero, List.set_cons_zero, List.set_cons_succ] using ux
   first | unfold Q00.J5 | unfold Q00.J14 | unfold Q00.J23 | unfold Q00.J32 | skip
   refine ⟨a2, a1.celli 0 rfl rfl, ?_⟩
   refine bif_tt e0 ?_
   have h := h jq ms
   refine h.mono fun va dv h => ?_
   obtain ⟨bi, bv, cb, d2, d4, c2, bu, bx, bw, d3, gp, he, hk, h⟩ := h
   refine ⟨bi, bv, cb, d2, d4, c2, bu, bx, bw, d3, gp, he, ?_⟩
   have a0 := hk.blk a0 (by simp)
   have a1 := hk.blk a1 (by simp)
   refine Q02 fun x5 g1 => ?_
   have d7 := Blk.of_new g1
   have qi := ((Ext.refl no dv)).size
   have ju := Nat.ne_of_lt a0.lt
   have a0 := a0.x_alloc g1
   have jr := Nat.ne_of_lt a1.lt
   have a1 := a1.x_alloc g1
   have pi := (Ext.refl no dv).x_alloc g1
   refine Q0a (k := 0) (j := 0) d7 (by exact Nat.le_of_ble_eq_true rfl) fun fb kt qt => ?_
   have ji := pi.x_puts kt (.inr qi)
   have a0 := a0.x_puts kt ju
   have a1 := a1.x_puts kt jr
   have d7 : Blk fb dv.heap.size 27 [.int .i64 bi, .int .i64 bv, .int .u64 cb, .int .i64 d2, .int .i64 d4, .int .i64 c2, .slice bu bx bw, .int .u64 d3] := by simpa only [setAll, Nat.zero_add, Nat.add_zero, List.set_cons_zero, List.set_cons_succ] using qt
   refine bif_of (fun k4 => ?_) (fun k4 => ?_)
   ·have h := h.1 (bne_t k4)
    have o2 : Ext (fun b => b = w.heap.size) dv fb := (ji).none
    refine Q0a (k := 0) (j := 0) a0 (by exact Nat.le_of_ble_eq_true rfl) fun j7 qa u5 => ?_
    have pz := o2.x_puts qa (.inl rfl)
    have a0 : Blk j7 w.heap.size 30 [.int .i64 0, .int .i64 0, .int .i64 0, .int .u64 0, .int .i64 0, .int .i64 0, .int .i64 0, .slice none 0 0, .int .u64 0, .int .i64 0, .int .i64 0, .int .u64 0, .int .i64 0, .int .i64 0, .int .i64 0, .slice none 0 0, .int .u64 0, .int .i64 0, .slice none 0 0, .int .u64 0] := by simpa only [setAll, Nat.zero_add, Nat.add_zero, List.set_cons_zero, List.set_cons_succ] using u5
    refine ⟨0, 0, 0, 0, 0, 0, 0, none, 0, 0, 0, 0, 0, 0, 0, 0, 0, none, 0, 0, 0, 0, none, 0, 0, 0, ⟨a0.celli 0 rfl rfl, a0.celli 1 rfl rfl, a0.celli 2 rfl rfl, a0.celli 3 rfl rfl, a0.celli 4 rfl rfl, a0.celli 5 rfl rfl, a0.celli 6 rfl rfl, a0.celli 7 rfl rfl, a0.celli 8 rfl rfl, a0.celli 9 rfl rfl, a0.celli 10 rfl rfl, a0.celli 11 rfl rfl, a0.celli 12 rfl rfl, a0.celli 13 rfl rfl, a0.celli 14 rfl rfl, a0.celli 15 rfl rfl, a0.celli 16 rfl rfl, a0.celli 17 rfl rfl, a0.celli 18 rfl rfl, a0.celli 19 rfl rfl, trivial⟩, ?_⟩
    have h := h j7 pz
    exact h
   have h := h.2 (bne_f k4)
   refine ⟨bi, bv, cb, d2, d4, c2, bu, bx, bw, d3, ⟨d7.celli 0 rfl rfl, d7.celli 1 rfl rfl, d7.celli 2 rfl rfl, d7.celli 3 rfl rfl, d7.celli 4 rfl rfl, d7.celli 5 rfl rfl, d7.celli 6 rfl rfl, d7.celli 7 rfl rfl, trivial⟩, ?_⟩
   have p9 : Ext (fun b => b = a4.heap.size) dv fb := (ji).none
   refine Q0a (k := 9) (j := 0) (vs := [.int .i64 bi, .int .i64 bv, .int .u64 cb, .int .i64 d2, .int .i64 d4, .int .i64 c2, .slice bu bx bw, .int .u64 d3]) a1 (by exact Nat.le_of_ble_eq_true rfl) fun il lv uw => ?_
   have n0 := p9.x_puts lv (.inl rfl)
   have a0 := a0.x_puts lv b7
   have a1 : Blk il a4.heap.size 30 [.int .i64 a2, .int .i64 b8, .int .i64 bj, .int .u64 c5, .int .i64 cn, .int .i64 cl, .int .i64 bm, .slice bp bq bl, .int .u64 co, .int .i64 bi, .int .i64 bv, .int .u64 cb, .int .i64 d2, .int .i64 d4, .int .i64 c2, .slice bu bx bw, .int .u64 d3, .int .i64 0, .slice none 0 0, .int .u64 0] := by simpa only [setAll, Nat.zero_add, Nat.add_zero, List.set_cons_zero, List.set_cons_succ] using uw
   first | unfold Q00.J4 | unfold Q00.J13 | unfold Q00.J22 | unfold Q00.J31 | skip
   refine ⟨a2, a1.celli 0 rfl rfl, ?_⟩
   refine bif_ff d5 ?_
   refine ⟨a2, a1.celli 0 rfl rfl, ?_⟩
   first | unfold Q00.J2 | unfold Q00.J3 | unfold Q00.J11 | unfold Q00.J12 | unfold Q00.J20 | unfold Q00.J21 | unfold Q00.J29 | unfold Q00.J30 | skip
   refine bif_ff dy ?_
   first | unfold Q00.J1 | unfold Q00.J10 | unfold Q00.J19 | unfold Q00.J28 | skip
   refine ⟨a2, b8, bj, c5, cn, cl, bm, bp, bq, bl, co, bi, bv, cb, d2, d4, c2, bu, bx, bw, d3, 0, none, 0, 0, 0, ⟨a1.celli 0 rfl rfl, a1.celli 1 rfl rfl, a1.celli 2 rfl rfl, a1.celli 3 rfl rfl, a1.celli 4 rfl rfl, a1.celli 5 rfl rfl, a1.celli 6 rfl rfl, a1.celli 7 rfl rfl, a1.celli 8 rfl rfl, a1.celli 9 rfl rfl, a1.celli 10 rfl rfl, a1.celli 11 rfl rfl, a1.celli 12 rfl rfl, a1.celli 13 rfl rfl, a1.celli 14 rfl rfl, a1.celli 15 rfl rfl, a1.celli 16 rfl rfl, a1.celli 17 rfl rfl, a1.celli 18 rfl rfl, a1.celli 19 rfl rfl, trivial⟩, ?_⟩
   have h := h il n0
   refine h.mono fun xi df h => ?_
   obtain ⟨eu, he, hk, h⟩ := h
   refine ⟨eu, he, ?_⟩
   have a0 := hk.blk a0 (by simp)
   have a1 := hk.blk a1 (by simp)
   refine bif_of (fun ki => ?_) (fun ki => ?_)
   ·have h := h.1 (not_t ki)
    have n3 : Ext (fun b => b = w.heap.size) df df := ((Ext.refl no df)).none
    refine Q0a (k := 0) (j := 0) a0 (by exact Nat.le_of_ble_eq_true rfl) fun iz sg sr => ?_
    have nv := n3.x_puts sg (.inl rfl)
    have a0 : Blk iz w.heap.size 30 [.int .i64 0, .int .i64 0, .int .i64 0, .int .u64 0, .int .i64 0, .int .i64 0, .int .i64 0, .slice none 0 0, .int .u64 0, .int .i64 0, .int .i64 0, .int .u64 0, .int .i64 0, .int .i64 0, .int .i64 0, .slice none 0 0, .int .u64 0, .int .i64 0, .slice none 0 0, .int .u64 0] := by simpa only [setAll, Nat.zero_add, Nat.add_zero, List.set_cons_zero, List.set_cons_succ] using sr
    refine ⟨0, 0, 0, 0, 0, 0, 0, none, 0, 0, 0, 0, 0, 0, 0, 0, 0, none, 0, 0, 0, 0, none, 0, 0, 0, ⟨a0.celli 0 rfl rfl, a0.celli 1 rfl rfl, a0.celli 2 rfl rfl, a0.celli 3 rfl rfl, a0.celli 4 rfl rfl, a0.celli 5 rfl rfl, a0.celli 6 rfl rfl, a0.celli 7 rfl rfl, a0.celli 8 rfl rfl, a0.celli 9 rfl rfl, a0.celli 10 rfl rfl, a0.celli 11 rfl rfl, a0.celli 12 rfl rfl, a0.celli 13 rfl rfl, a0.celli 14 rfl rfl, a0.celli 15 rfl rfl, a0.celli 16 rfl rfl, a0.celli 17 rfl rfl, a0.celli 18 rfl rfl, a0.celli 19 rfl rfl, trivial⟩, ?_⟩
    have h := h iz nv
    exact h
   have h := h.2 (not_f ki)
   refine ⟨a2, b8, bj, c5, cn, cl, bm, bp, bq, bl, co, bi, bv, cb, d2, d4, c2, bu, bx, bw, d3, 0, none, 0, 0, 0, ⟨a1.celli 0 rfl rfl, a1.celli 1 rfl rfl, a1.celli 2 rfl rfl, a1.celli 3 rfl rfl, a1.celli 4 rfl rfl, a1.celli 5 rfl rfl, a1.celli 6 rfl rfl, a1.celli 7 rfl rfl, a1.celli 8 rfl rfl, a1.celli 9 rfl rfl, a1.celli 10 rfl rfl, a1.celli 11 rfl rfl, a1.celli 12 rfl rfl, a1.celli 13 rfl rfl, a1.celli 14 rfl rfl, a1.celli 15 rfl rfl, a1.celli 16 rfl rfl, a1.celli 17 rfl rfl, a1.celli 18 rfl rfl, a1.celli 19 rfl rfl, trivial⟩, ?_⟩
   have np : Ext (fun b => b = w.heap.size) df df := ((Ext.refl no df)).none
   refine Q0a (k := 0) (j := 0) a0 (by exact Nat.le_of_ble_eq_true rfl) fun i9 qs s7 => ?_
   have pn := np.x_puts qs (.inl rfl)
   have a0 : Blk i9 w.heap.size 30 [.int .i64 a2, .int .i64 b8, .int .i64 bj, .int .u64 c5, .int .i64 cn, .int .i64 cl, .int .i64 bm, .slice bp bq bl, .int .u64 co, .int .i64 bi, .int .i64 bv, .int .u64 cb, .int .i64 d2, .int .i64 d4, .int .i64 c2, .slice bu bx bw, .int .u64 d3, .int .i64 0, .slice none 0 0, .int .u64 0] := by simpa only [setAll, Nat.zero_add, Nat.add_zero, List.set_cons_zero, List.set_cons_succ] using s7
   refine ⟨a2, b8, bj, c5, cn, cl, bm, bp, bq, bl, co, bi, bv, cb, d2, d4, c2, bu, bx, bw, d3, 0, none, 0, 0, 0, ⟨a0.celli 0 rfl rfl, a0.celli 1 rfl rfl, a0.celli 2 rfl rfl, a0.celli 3 rfl rfl, a0.celli 4 rfl rfl, a0.celli 5 rfl rfl, a0.celli 6 rfl rfl, a0.celli 7 rfl rfl, a0.celli 8 rfl rfl, a0.celli 9 rfl rfl, a0.celli 10 rfl rfl, a0.celli 11 rfl rfl, a0.celli 12 rfl rfl, a0.celli 13 rfl rfl, a0.celli 14 rfl rfl, a0.celli 15 rfl rfl, a0.celli 16 rfl rfl, a0.celli 17 rfl rfl, a0.celli 18 rfl rfl, a0.celli 19 rfl rfl, trivial⟩, ?_⟩
   have h := h i9 pn
   exact h
  have h := h.1 (beq_t dy)
  have h := h eg (a4.heap.size) ff (Priv.cons lm a1.lt Priv.nil)
  refine h.mono fun ve f3 h => ?_
  obtain ⟨a3, he, hk, h⟩ := h
  refine ⟨a3, he, ?_⟩
  have a0 := hk.blk a0 (by simp)
  have a1 := hk.blk a1 (by simp)
  have ob : Ext (fun b => b = a4.heap.size) f3 f3 := ((Ext.refl no f3)).none
  refine ⟨a1.cani 17 rfl rfl, Q02 fun ic js => ?_⟩
  have ox := ob.x_set (q := a4.heap.size) (i := 17) rfl (.inl rfl) js
  have a0 := a0.oth (q := a4.heap.size) (i := 17) rfl b7 js
  have a1 : Blk ic a4.heap.size 30 [.int .i64 a2, .int .i64 0, .int .i64 0, .int .u64 0, .int .i64 0, .int .i64 0, .int .i64 0, .slice none 0 0, .int .u64 0, .int .i64 0, .int .i64 0, .int .u64 0, .int .i64 0, .int .i64 0, .int .i64 0, .slice none 0 0, .int .u64 0, .int .i64 a3, .slice none 0 0, .int .u64 0] := a1.seti 17 rfl js
  have h := h ic ox
  refine h.mono fun vb vp h => ?_
  obtain ⟨e9, ed, e8, he, hk, h⟩ := h
  refine ⟨e9, ed, e8, he, ?_⟩
  have a0 := hk.blk a0 (by simp)
  have a1 := hk.blk a1 (by simp)
  refine ⟨a2, a1.celli 0 rfl rfl, ?_⟩
  refine bif_tt dy ?_
  refine h.mono fun v8 f0 h => ?_
  obtain ⟨ao, he, hk, h⟩ := h
  refine ⟨ao, he, ?_⟩
  have a0 := hk.blk a0 (by simp)
  have a1 := hk.blk a1 (by simp)
  have p5 : Ext (fun b => b = a4.heap.size) f0 f0 := ((Ext.refl no f0)).none
  refine ⟨a1.cani 19 rfl rfl, Q02 fun je l2 => ?_⟩
  have p3 := p5.x_set (q := a4.heap.size) (i := 19) rfl (.inl rfl) l2
  have a0 := a0.oth (q := a4.heap.size) (i := 19) rfl b7 l2
  have a1 : Blk je a4.heap.size 30 [.int .i64 a2, .int .i64 0, .int .i64 0, .int .u64 0, .int .i64 0, .int .i64 0, .int .i64 0, .slice none 0 0, .int .u64 0, .int .i64 0, .int .i64 0, .int .u64 0, .int .i64 0, .int .i64 0, .int .i64 0, .slice none 0 0, .int .u64 0, .int .i64 a3, .slice none 0 0, .int .u64 ao] := a1.seti 19 rfl l2
  first | unfold Q00.J9 | unfold Q00.J18 | unfold Q00.J27 | unfold Q00.J36 | skip
  have h := h je p3
  refine h.mono fun xk et h => ?_
  obtain ⟨fv, he, hk, h⟩ := h
  refine ⟨fv, he, ?_⟩
  have a0 := hk.blk a0 (by simp)
  have a1 := hk.blk a1 (by simp)
  refine bif_of (fun kv => ?_) (fun kv => ?_)
  ·have h := h.1 (bne_t kv)
   have o8 : Ext (fun b => b = w.heap.size) et et := ((Ext.refl no et)).none
   refine Q0a (k := 0) (j := 0) a0 (by exact Nat.le_of_ble_eq_true rfl) fun jm qx t2 => ?_
   have oi := o8.x_puts qx (.inl rfl)
   have a0 : Blk jm w.heap.size 30 [.int .i64 0, .int .i64 0, .int .i64 0, .int .u64 0, .int .i64 0, .int .i64 0, .int .i64 0, .slice none 0 0, .int .u64 0, .int .i64 0, .int .i64 0, .int .u64 0, .int .i64 0, .int .i64 0, .int .i64 0, .slice none 0 0, .int .u64 0, .int .i64 0, .slice none 0 0, .int .u64 0] := by simpa only [setAll, Nat.zero_add, Nat.add_zero, List.set_cons_zero, List.set_cons_succ] using t2
   refine ⟨0, 0, 0, 0, 0, 0, 0, none, 0, 0, 0, 0, 0, 0, 0, 0, 0, none, 0, 0, 0, 0, none, 0, 0, 0, ⟨a0.celli 0 rfl rfl, a0.celli 1 rfl rfl, a0.celli 2 rfl rfl, a0.celli 3 rfl rfl, a0.celli 4 rfl rfl, a0.celli 5 rfl rfl, a0.celli 6 rfl rfl, a0.celli 7 rfl rfl, a0.celli 8 rfl rfl, a0.celli 9 rfl rfl, a0.celli 10 rfl rfl, a0.celli 11 rfl rfl, a0.celli 12 rfl rfl, a0.celli 13 rfl rfl, a0.celli 14 rfl rfl, a0.celli 15 rfl rfl, a0.celli 16 rfl rfl, a0.celli 17 rfl rfl, a0.celli 18 rfl rfl, a0.celli 19 rfl rfl, trivial⟩, ?_⟩
   have h := h jm oi
   exact h
  have h := h.2 (bne_f kv)
  first | unfold Q00.J8 | unfold Q00.J17 | unfold Q00.J26 | unfold Q00.J35 | skip
  refine ⟨a2, a1.celli 0 rfl rfl, ?_⟩
  refine bif_ff g6 ?_
  refine ⟨a2, a1.celli 0 rfl rfl, ?_⟩
  first | unfold Q00.J6 | unfold Q00.J7 | unfold Q00.J15 | unfold Q00.J16 | unfold Q00.J24 | unfold Q00.J25 | unfold Q00.J33 | unfold Q00.J34 | skip
  refine bif_fo (fun eo => ?_) (fun eo => ?_)
  ·have h := h.2 (beq_f eo)
   first | unfold Q00.J5 | unfold Q00.J14 | unfold Q00.J23 | unfold Q00.J32 | skip
   refine ⟨a2, a1.celli 0 rfl rfl, ?_⟩
   refine bif_ff eo ?_
   first | unfold Q00.J4 | unfold Q00.J13 | unfold Q00.J22 | unfold Q00.J31 | skip
   refine ⟨a2, a1.celli 0 rfl rfl, ?_⟩
   refine bif_ff d5 ?_
   refine ⟨a2, a1.celli 0 rfl rfl, ?_⟩
   first | unfold Q00.J2 | unfold Q00.J3 | unfold Q00.J11 | unfold Q00.J12 | unfold Q00.J20 | unfold Q00.J21 | unfold Q00.J29 | unfold Q00.J30 | skip
   refine bif_tt dy ?_
   refine h.mono fun xb dp h => ?_
   obtain ⟨cy, cs, cz, g5, he, hk, h⟩ := h
   refine ⟨cy, cs, cz, g5, he, ?_⟩
   have a0 := hk.blk a0 (by simp)
   have a1 := hk.blk a1 (by simp)
   refine bif_of (fun ky => ?_) (fun ky => ?_)
   ·have h := h.1 (bne_t ky)
    have lp : Ext (fun b => b = w.heap.size) dp dp := ((Ext.refl no dp)).none
    refine Q0a (k := 0) (j := 0) a0 (by exact Nat.le_of_ble_eq_true rfl) fun iu sw uh => ?_
    have lx := lp.x_puts sw (.inl rfl)
    have a0 : Blk iu w.heap.size 30 [.int .i64 0, .int .i64 0, .int .i64 0, .int .u64 0, .int .i64 0, .int .i64 0, .int .i64 0, .slice none 0 0, .int .u64 0, .int .i64 0, .int .i64 0, .int .u64 0, .int .i64 0, .int .i64 0, .int .i64 0, .slice none 0 0, .int .u64 0, .int .i64 0, .slice none 0 0, .int .u64 0] := by simpa only [setAll, Nat.zero_add, Nat.add_zero, List.set_cons_zero, List.set_cons_succ] using uh
    refine ⟨0, 0, 0, 0, 0, 0, 0, none, 0, 0, 0, 0, 0, 0, 0, 0, 0, none, 0, 0, 0, 0, none, 0, 0, 0, ⟨a0.celli 0 rfl rfl, a0.celli 1 rfl rfl, a0.celli 2 rfl rfl, a0.celli 3 rfl rfl, a0.celli 4 rfl rfl, a0.celli 5 rfl rfl, a0.celli 6 rfl rfl, a0.celli 7 rfl rfl, a0.celli 8 rfl rfl, a0.celli 9 rfl rfl, a0.celli 10 rfl rfl, a0.celli 11 rfl rfl, a0.celli 12 rfl rfl, a0.celli 13 rfl rfl, a0.celli 14 rfl rfl, a0.celli 15 rfl rfl, a0.celli 16 rfl rfl, a0.celli 17 rfl rfl, a0.celli 18 rfl rfl, a0.celli 19 rfl rfl, trivial⟩, ?_⟩
    have h := h iu lx
    exact h
   have h := h.2 (bne_f ky)
   have nl : Ext (fun b => b = a4.heap.size) dp dp := ((Ext.refl no dp)).none
   refine ⟨a1.cani 18 rfl rfl, Q02 fun i8 kx => ?_⟩
   have pr := nl.x_set (q := a4.heap.size) (i := 18) rfl (.inl rfl) kx
   have a0 := a0.oth (q := a4.heap.size) (i := 18) rfl b7 kx
   have a1 : Blk i8 a4.heap.size 30 [.int .i64 a2, .int .i64 0, .int .i64 0, .int .u64 0, .int .i64 0, .int .i64 0, .int .i64 0, .slice none 0 0, .int .u64 0, .int .i64 0, .int .i64 0, .int .u64 0, .int .i64 0, .int .i64 0, .int .i64 0, .slice none 0 0, .int .u64 0, .int .i64 a3, .slice cy cs cz, .int .u64 ao] := a1.seti 18 rfl kx
   first | unfold Q00.J1 | unfold Q00.J10 | unfold Q00.J19 | unfold Q00.J28 | skip
   refine ⟨a2, 0, 0, 0, 0, 0, 0, none, 0, 0, 0, 0, 0, 0, 0, 0, 0, none, 0, 0, 0, a3, cy, cs, cz, ao, ⟨a1.celli 0 rfl rfl, a1.celli 1 rfl rfl, a1.celli 2 rfl rfl, a1.celli 3 rfl rfl, a1.celli 4 rfl rfl, a1.celli 5 rfl rfl, a1.celli 6 rfl rfl, a1.celli 7 rfl rfl, a1.celli 8 rfl rfl, a1.celli 9 rfl rfl, a1.celli 10 rfl rfl, a1.celli 11 rfl rfl, a1.celli 12 rfl rfl, a1.celli 13 rfl rfl, a1.celli 14 rfl rfl, a1.celli 15 rfl rfl, a1.celli 16 rfl rfl, a1.celli 17 rfl rfl, a1.celli 18 rfl rfl, a1.celli 19 rfl rfl, trivial⟩, ?_⟩
   have h := h i8 pr
   refine h.mono fun xf dm h => ?_
   obtain ⟨ep, he, hk, h⟩ := h
   refine ⟨ep, he, ?_⟩
   have a0 := hk.blk a0 (by simp)
   have a1 := hk.blk a1 (by simp)
   refine bif_of (fun l9 => ?_) (fun l9 => ?_)
   ·have h := h.1 (not_t l9)
    have nw : Ext (fun b => b = w.heap.size) dm dm := ((Ext.refl no dm)).none
    refine Q0a (k := 0) (j := 0) a0 (by exact Nat.le_of_ble_eq_true rfl) fun j2 ss us => ?_
    have q0 := nw.x_puts ss (.inl rfl)
    have a0 : Blk j2 w.heap.size 30 [.int .i64 0, .int .i64 0, .int .i64 0, .int .u64 0, .int .i64 0, .int .i64 0, .int .i64 0, .slice none 0 0, .int .u64 0, .int .i64 0, .int .i64 0, .int .u64 0, .int .i64 0, .int .i64 0, .int .i64 0, .slice none 0 0, .int .u64 0, .int .i64 0, .slice none 0 0, .int .u64 0] := by simpa only [setAll, Nat.zero_add, Nat.add_zero, List.set_cons_zero, List.set_cons_succ] using us
    refine ⟨0, 0, 0, 0, 0, 0, 0, none, 0, 0, 0, 0, 0, 0, 0, 0, 0, none, 0, 0, 0, 0, none, 0, 0, 0, ⟨a0.celli 0 rfl rfl, a0.celli 1 rfl rfl, a0.celli 2 rfl rfl, a0.celli 3 rfl rfl, a0.celli 4 rfl rfl, a0.celli 5 rfl rfl, a0.celli 6 rfl rfl, a0.celli 7 rfl rfl, a0.celli 8 rfl rfl, a0.celli 9 rfl rfl, a0.celli 10 rfl rfl, a0.celli 11 rfl rfl, a0.celli 12 rfl rfl, a0.celli 13 rfl rfl, a0.celli 14 rfl rfl, a0.celli 15 rfl rfl, a0.celli 16 rfl rfl, a0.celli 17 rfl rfl, a0.celli 18 rfl rfl, a0.celli 19 rfl rfl, trivial⟩, ?_⟩
    have h := h j2 q0
    exact h
   have h := h.2 (not_f l9)
   refine ⟨a2, 0, 0, 0, 0, 0, 0, none, 0, 0, 0, 0, 0, 0, 0, 0, 0, none, 0, 0, 0, a3, cy, cs, cz, ao, ⟨a1.celli 0 rfl rfl, a1.celli 1 rfl rfl, a1.celli 2 rfl rfl, a1.celli 3 rfl rfl, a1.celli 4 rfl rfl, a1.celli 5 rfl rfl, a1.celli 6 rfl rfl, a1.celli 7 rfl rfl, a1.celli 8 rfl rfl, a1.celli 9 rfl rfl, a1.celli 10 rfl rfl, a1.celli 11 rfl rfl, a1.celli 12 rfl rfl, a1.celli 13 rfl rfl, a1.celli 14 rfl rfl, a1.celli 15 rfl rfl, a1.celli 16 rfl rfl, a1.celli 17 rfl rfl, a1.celli 18 rfl rfl, a1.celli 19 rfl rfl, trivial⟩, ?_⟩
   have n7 : Ext (fun b => b = w.heap.size) dm dm := ((Ext.refl no dm)).none
   refine Q0a (k := 0) (j := 0) a0 (by exact Nat.le_of_ble_eq_true rfl) fun ia sc qc => ?_
   have pv := n7.x_puts sc (.inl rfl)
   have a0 : Blk ia w.heap.size 30 [.int .i64 a2, .int .i64 0, .int .i64 0, .int .u64 0, .int .i64 0, .int .i64 0, .int .i64 0, .slice none 0 0, .int .u64 0, .int .i64 0, .int .i64 0, .int .u64 0, .int .i64 0, .int .i64 0, .int .i64 0, .slice none 0 0, .int .u64 0, .int .i64 a3, .slice cy cs cz, .int .u64 ao] := by simpa only [setAll, Nat.zero_add, Nat.add_zero, List.set_cons_zero, List.set_cons_succ] using qc
   refine ⟨a2, 0, 0, 0, 0, 0, 0, none, 0, 0, 0, 0, 0, 0, 0, 0, 0, none, 0, 0, 0, a3, cy, cs, cz, ao, ⟨a0.celli 0 rfl rfl, a0.celli 1 rfl rfl, a0.celli 2 rfl rfl, a0.celli 3 rfl rfl, a0.celli 4 rfl rfl, a0.celli 5 rfl rfl, a0.celli 6 rfl rfl, a0.celli 7 rfl rfl, a0.celli 8 rfl rfl, a0.celli 9 rfl rfl, a0.celli 10 rfl rfl, a0.celli 11 rfl rfl, a0.celli 12 rfl rfl, a0.celli 13 rfl rfl, a0.celli 14 rfl rfl, a0.celli 15 rfl rfl, a0.celli 16 rfl rfl, a0.celli 17 rfl rfl, a0.celli 18 rfl rfl, a0.celli 19 rfl rfl, trivial⟩, ?_⟩
   have h := h ia pv
   exact h
  have h := h.1 (beq_t eo)
  refine h.mono fun v5 dx h => ?_
  obtain ⟨a6, ad, ap, ay, b3, ag, ae, ah, af, b5, gf, he, hk, h⟩ := h
  refine ⟨a6, ad, ap, ay, b3, ag, ae, ah, af, b5, gf, he, ?_⟩
  have a0 := hk.blk a0 (by simp)
  have a1 := hk.blk a1 (by simp)
  refine Q02 fun vo gq => ?_
  have fs := Blk.of_new gq
  have yy := ((Ext.refl no dx)).size
  have q1 := Nat.ne_of_lt a0.lt
  have a0 := a0.x_alloc gq
  have p8 := Nat.ne_of_lt a1.lt
  have a1 := a1.x_alloc gq
  have oe := (Ext.refl no dx).x_alloc gq
  refine Q0a (k := 0) (j := 0) fs (by exact Nat.le_of_ble_eq_true rfl) fun f2 lk v0 => ?_
  have jh := oe.x_puts lk (.inr yy)
  have a0 := a0.x_puts lk q1
  have a1 := a1.x_puts lk p8
  have fs : Blk f2 dx.heap.size 27 [.int .i64 a6, .int .i64 ad, .int .u64 ap, .int .i64 ay, .int .i64 b3, .int .i64 ag, .slice ae ah af, .int .u64 b5] := by simpa only [setAll, Nat.zero_add, Nat.add_zero, List.set_cons_zero, List.set_cons_succ] using v0
  refine bif_of (fun k6 => ?_) (fun k6 => ?_)
  ·have h := h.1 (bne_t k6)
   have m2 : Ext (fun b => b = w.heap.size) dx f2 := (jh).none
   refine Q0a (k := 0) (j := 0) a0 (by exact Nat.le_of_ble_eq_true rfl) fun gz sn t6 => ?_
   have mg := m2.x_puts sn (.inl rfl)
   have a0 : Blk gz w.heap.size 30 [.int .i64 0, .int .i64 0, .int .i64 0, .int .u64 0, .int .i64 0, .int .i64 0, .int .i64 0, .slice none 0 0, .int .u64 0, .int .i64 0, .int .i64 0, .int .u64 0, .int .i64 0, .int .i64 0, .int .i64 0, .slice none 0 0, .int .u64 0, .int .i64 0, .slice none 0 0, .int .u64 0] := by simpa only [setAll, Nat.zero_add, Nat.add_zero, List.set_cons_zero, List.set_cons_succ] using t6
   refine ⟨0, 0, 0, 0, 0, 0, 0, none, 0, 0, 0, 0, 0, 0, 0, 0, 0, none, 0, 0, 0, 0, none, 0, 0, 0, ⟨a0.celli 0 rfl rfl, a0.celli 1 rfl rfl, a0.celli 2 rfl rfl, a0.celli 3 rfl rfl, a0.celli 4 rfl rfl, a0.celli 5 rfl rfl, a0.celli 6 rfl rfl, a0.celli 7 rfl rfl, a0.celli 8 rfl rfl, a0.celli 9 rfl rfl, a0.celli 10 rfl rfl, a0.celli 11 rfl rfl, a0.celli 12 rfl rfl, a0.celli 13 rfl rfl, a0.celli 14 rfl rfl, a0.celli 15 rfl rfl, a0.celli 16 rfl rfl, a0.celli 17 rfl rfl, a0.celli 18 rfl rfl, a0.celli 19 rfl rfl, trivial⟩, ?_⟩
   have h := h gz mg
   exact h
  have h := h.2 (bne_f k6)
  refine ⟨a6, ad, ap, ay, b3, ag, ae, ah, af, b5, ⟨fs.celli 0 rfl rfl, fs.celli 1 rfl rfl, fs.celli 2 rfl rfl, fs.celli 3 rfl rfl, fs.celli 4 rfl rfl, fs.celli 5 rfl rfl, fs.celli 6 rfl rfl, fs.celli 7 rfl rfl, trivial⟩, ?_⟩
  have mx : Ext (fun b => b = a4.heap.size) dx f2 := (jh).none
  refine Q0a (k := 1) (j := 0) (vs := [.int .i64 a6, .int .i64 ad, .int .u64 ap, .int .i64 ay, .int .i64 b3, .int .i64 ag, .slice ae ah af, .int .u64 b5]) a1 (by exact Nat.le_of_ble_eq_true rfl) fun gy ml t9 => ?_
  have nq := mx.x_puts ml (.inl rfl)
  have a0 := a0.x_puts ml b7
  have a1 : Blk gy a4.heap.size 30 [.int .i64 a2, .int .i64 a6, .int .i64 ad, .int .u64 ap, .int .i64 ay, .int .i64 b3, .int .i64 ag, .slice ae ah af, .int .u64 b5, .int .i64 0, .int .i64 0, .int .u64 0, .int .i64 0, .int .i64 0, .int .i64 0, .slice none 0 0, .int .u64 0, .int .i64 a3, .slice none 0 0, .int .u64 ao] := by simpa only [setAll, Nat.zero_add, Nat.add_zero, List.set_cons_zero, List.set_cons_succ] using t9
  first | unfold Q00.J5 | unfold Q00.J14 | unfold Q00.J23 | unfold Q00.J32 | skip
  refine ⟨a2, a1.celli 0 rfl rfl, ?_⟩
  refine bif_tt eo ?_
  have h := h gy nq
  refine h.mono fun vc dz h => ?_
  obtain ⟨ac, ai, ar, bb, be, al, an, aj, am, bf, fz, he, hk, h⟩ := h
  refine ⟨ac, ai, ar, bb, be, al, an, aj, am, bf, fz, he, ?_⟩
  have a0 := hk.blk a0 (by simp)
  have a1 := hk.blk a1 (by simp)
  refine Q02 fun xg gi => ?_
  have d6 := Blk.of_new gi
  have u3 := ((Ext.refl no dz)).size
  have jv := Nat.ne_of_lt a0.lt
  have a0 := a0.x_alloc gi
  have l4 := Nat.ne_of_lt a1.lt
  have a1 := a1.x_alloc gi
  have q3 := (Ext.refl no dz).x_alloc gi
  refine Q0a (k := 0) (j := 0) d6 (by exact Nat.le_of_ble_eq_true rfl) fun eq k2 sq => ?_
  have ih := q3.x_puts k2 (.inr u3)
  have a0 := a0.x_puts k2 jv
  have a1 := a1.x_puts k2 l4
  have d6 : Blk eq dz.heap.size 27 [.int .i64 ac, .int .i64 ai, .int .u64 ar, .int .i64 bb, .int .i64 be, .int .i64 al, .slice an aj am, .int .u64 bf] := by simpa only [setAll, Nat.zero_add, Nat.add_zero, List.set_cons_zero, List.set_cons_succ] using sq
  refine bif_of (fun kc => ?_) (fun kc => ?_)
  ·have h := h.1 (bne_t kc)
   have px : Ext (fun b => b = w.heap.size) dz eq := (ih).none
   refine Q0a (k := 0) (j := 0) a0 (by exact Nat.le_of_ble_eq_true rfl) fun jb tv ur => ?_
   have o3 := px.x_puts tv (.inl rfl)
   have a0 : Blk jb w.heap.size 30 [.int .i64 0, .int .i64 0, .int .i64 0, .int .u64 0, .int .i64 0, .int .i64 0, .int .i64 0, .slice none 0 0, .int .u64 0, .int .i64 0, .int .i64 0, .int .u64 0, .int .i64 0, .int .i64 0, .int .i64 0, .slice none 0 0, .int .u64 0, .int .i64 0, .slice none 0 0, .int .u64 0] := by simpa only [setAll, Nat.zero_add, Nat.add_zero, List.set_cons_zero, List.set_cons_succ] using ur
   refine ⟨0, 0, 0, 0, 0, 0, 0, none, 0, 0, 0, 0, 0, 0, 0, 0, 0, none, 0, 0, 0, 0, none, 0, 0, 0, ⟨a0.celli 0 rfl rfl, a0.celli 1 rfl rfl, a0.celli 2 rfl rfl, a0.celli 3 rfl rfl, a0.celli 4 rfl rfl, a0.celli 5 rfl rfl, a0.celli 6 rfl rfl, a0.celli 7 rfl rfl, a0.celli 8 rfl rfl, a0.celli 9 rfl rfl, a0.celli 10 rfl rfl, a0.celli 11 rfl rfl, a0.celli 12 rfl rfl, a0.celli 13 rfl rfl, a0.celli 14 rfl rfl, a0.celli 15 rfl rfl, a0.celli 16 rfl rfl, a0.celli 17 rfl rfl, a0.celli 18 rfl rfl, a0.celli 19 rfl rfl, trivial⟩, ?_⟩
   have h := h jb o3
   exact h
  have h := h.2 (bne_f kc)
  refine ⟨ac, ai, ar, bb, be, al, an, aj, am, bf, ⟨d6.celli 0 rfl rfl, d6.celli 1 rfl rfl, d6.celli 2 rfl rfl, d6.celli 3 rfl rfl, d6.celli 4 rfl rfl, d6.celli 5 rfl rfl, d6.celli 6 rfl rfl, d6.celli 7 rfl rfl, trivial⟩, ?_⟩
  have n5 : Ext (fun b => b = a4.heap.size) dz eq := (ih).none
  refine Q0a (k := 9) (j := 0) (vs := [.int .i64 ac, .int .i64 ai, .int .u64 ar, .int .i64 bb, .int .i64 be, .int .i64 al, .slice an aj am, .int .u64 bf]) a1 (by exact Nat.le_of_ble_eq_true rfl) fun jc mk qf => ?_
  have p7 := n5.x_puts mk (.inl rfl)
  have a0 := a0.x_puts mk b7
  have a1 : Blk jc a4.heap.size 30 [.int .i64 a2, .int .i64 a6, .int .i64 ad, .int .u64 ap, .int .i64 ay, .int .i64 b3, .int .i64 ag, .slice ae ah af, .int .u64 b5, .int .i64 ac, .int .i64 ai, .int .u64 ar, .int .i64 bb, .int .i64 be, .int .i64 al, .slice an aj am, .int .u64 bf, .int .i64 a3, .slice none 0 0, .int .u64 ao] := by simpa only [setAll, Nat.zero_add, Nat.add_zero, List.set_cons_zero, List.set_cons_succ] using qf
  first | unfold Q00.J4 | unfold Q00.J13 | unfold Q00.J22 | unfold Q00.J31 | skip
  refine ⟨a2, a1.celli 0 rfl rfl, ?_⟩
  refine bif_ff d5 ?_
  refine ⟨a2, a1.celli 0 rfl rfl, ?_⟩
  first | unfold Q00.J2 | unfold Q00.J3 | unfold Q00.J11 | unfold Q00.J12 | unfold Q00.J20 | unfold Q00.J21 | unfold Q00.J29 | unfold Q00.J30 | skip
  refine bif_tt dy ?_
  have h := h jc p7
  refine h.mono fun x1 dk h => ?_
  obtain ⟨bz, c4, c0, fx, he, hk, h⟩ := h
  refine ⟨bz, c4, c0, fx, he, ?_⟩
  have a0 := hk.blk a0 (by simp)
  have a1 := hk.blk a1 (by simp)
  refine bif_of (fun ks => ?_) (fun ks => ?_)
  ·have h := h.1 (bne_t ks)
   have lz : Ext (fun b => b = w.heap.size) dk dk := ((Ext.refl no dk)).none
   refine Q0a (k := 0) (j := 0) a0 (by exact Nat.le_of_ble_eq_true rfl) fun jk uy qr => ?_
   have m7 := lz.x_puts uy (.inl rfl)
   have a0 : Blk jk w.heap.size 30 [.int .i64 0, .int .i64 0, .int .i64 0, .int .u64 0, .int .i64 0, .int .i64 0, .int .i64 0, .slice none 0 0, .int .u64 0, .int .i64 0, .int .i64 0, .int .u64 0, .int .i64 0, .int .i64 0, .int .i64 0, .slice none 0 0, .int .u64 0, .int .i64 0, .slice none 0 0, .int .u64 0] := by simpa only [setAll, Nat.zero_add, Nat.add_zero, List.set_cons_zero, List.set_cons_succ] using qr
   refine ⟨0, 0, 0, 0, 0, 0, 0, none, 0, 0, 0, 0, 0, 0, 0, 0, 0, none, 0, 0, 0, 0, none, 0, 0, 0, ⟨a0.celli 0 rfl rfl, a0.celli 1 rfl rfl, a0.celli 2 rfl rfl, a0.celli 3 rfl rfl, a0.celli 4 rfl rfl, a0.celli 5 rfl rfl, a0.celli 6 rfl rfl, a0.celli 7 rfl rfl, a0.celli 8 rfl rfl, a0.celli 9 rfl rfl, a0.celli 10 rfl rfl, a0.celli 11 rfl rfl, a0.celli 12 rfl rfl, a0.celli 13 rfl rfl, a0.celli 14 rfl rfl, a0.celli 15 rfl rfl, a0.celli 16 rfl rfl, a0.celli 17 rfl rfl, a0.celli 18 rfl rfl, a0.celli 19 rfl rfl, trivial⟩, ?_⟩
   have h := h jk m7
   exact h
  have h := h.2 (bne_f ks)
  have od : Ext (fun b => b = a4.heap.size) dk dk := ((Ext.refl no dk)).none
  refine ⟨a1.cani 18 rfl rfl, Q02 fun e3 lg => ?_⟩
  have jp := od.x_set (q := a4.heap.size) (i := 18) rfl (.inl rfl) lg
  have a0 := a0.oth (q := a4.heap.size) (i := 18) rfl b7 lg
  have a1 : Blk e3 a4.heap.size 30 [.int .i64 a2, .int .i64 a6, .int .i64 ad, .int .u64 ap, .int .i64 ay, .int .i64 b3, .int .i64 ag, .slice ae ah af, .int .u64 b5, .int .i64 ac, .int .i64 ai, .int .u64 ar, .int .i64 bb, .int .i64 be, .int .i64 al, .slice an aj am, .int .u64 bf, .int .i64 a3, .slice bz c4 c0, .int .u64 ao] := a1.seti 18 rfl lg
  rotate_left
  all_goals
   first | unfold Q00.J1 | unfold Q00.J10 | unfold Q00.J19 | unfold Q00.J28 | skip
   refine ⟨a2, a6, ad, ap, ay, b3, ag, ae, ah, af, b5, ac, ai, ar, bb, be, al, an, aj, am, bf, a3, bz, c4, c0, ao, ⟨a1.celli 0 rfl rfl, a1.celli 1 rfl rfl, a1.celli 2 rfl rfl, a1.celli 3 rfl rfl, a1.celli 4 rfl rfl, a1.celli 5 rfl rfl, a1.celli 6 rfl rfl, a1.celli 7 rfl rfl, a1.celli 8 rfl rfl, a1.celli 9 rfl rfl, a1.celli 10 rfl rfl, a1.celli 11 rfl rfl, a1.celli 12 rfl rfl, a1.celli 13 rfl rfl, a1.celli 14 rfl rfl, a1.celli 15 rfl rfl, a1.celli 16 rfl rfl, a1.celli 17 rfl rfl, a1.celli 18 rfl rfl, a1.celli 19 rfl rfl, trivial⟩, ?_⟩
   have h := h e3 jp
   refine h.mono fun v4 dd h => ?_
   obtain ⟨ew, he, hk, h⟩ := h
   refine ⟨ew, he, ?_⟩
   have a0 := hk.blk a0 (by simp)
   have a1 := hk.blk a1 (by simp)
   refine bif_of (fun l0 => ?_) (fun l0 => ?_)
   ·have h := h.1 (not_t l0)
    have lo : Ext (fun b => b = w.heap.size) dd dd := ((Ext.refl no dd)).none
    refine Q0a (k := 0) (j := 0) a0 (by exact Nat.le_of_ble_eq_true rfl) fun jn tu sf => ?_
    have q2 := lo.x_puts tu (.inl rfl)
    have a0 : Blk jn w.heap.size 30 [.int .i64 0, .int .i64 0, .int .i64 0, .int .u64 0, .int .i64 0, .int .i64 0, .int .i64 0, .slice none 0 0, .int .u64 0, .int .i64 0, .int .i64 0, .int .u64 0, .int .i64 0, .int .i64 0, .int .i64 0, .slice none 0 0, .int .u64 0, .int .i64 0, .slice none 0 0, .int .u64 0] := by simpa only [setAll, Nat.zero_add, Nat.add_zero, List.set_cons_zero, List.set_cons_succ] using sf
    refine ⟨0, 0, 0, 0, 0, 0, 0, none, 0, 0, 0, 0, 0, 0, 0, 0, 0, none, 0, 0, 0, 0, none, 0, 0, 0, ⟨a0.celli 0 rfl rfl, a0.celli 1 rfl rfl, a0.celli 2 rfl rfl, a0.celli 3 rfl rfl, a0.celli 4 rfl rfl, a0.celli 5 rfl rfl, a0.celli 6 rfl rfl, a0.celli 7 rfl rfl, a0.celli 8 rfl rfl, a0.celli 9 rfl rfl, a0.celli 10 rfl rfl, a0.celli 11 rfl rfl, a0.celli 12 rfl rfl, a0.celli 13 rfl rfl, a0.celli 14 rfl rfl, a0.celli 15 rfl rfl, a0.celli 16 rfl rfl, a0.celli 17 rfl rfl, a0.celli 18 rfl rfl, a0.celli 19 rfl rfl, trivial⟩, ?_⟩
    have h := h jn q2
    exact h
   have h := h.2 (not_f l0)
   refine ⟨a2, a6, ad, ap, ay, b3, ag, ae, ah, af, b5, ac, ai, ar, bb, be, al, an, aj, am, bf, a3, bz, c4, c0, ao, ⟨a1.celli 0 rfl rfl, a1.celli 1 rfl rfl, a1.celli 2 rfl rfl, a1.celli 3 rfl rfl, a1.celli 4 rfl rfl, a1.celli 5 rfl rfl, a1.celli 6 rfl rfl, a1.celli 7 rfl rfl, a1.celli 8 rfl rfl, a1.celli 9 rfl rfl, a1.celli 10 rfl rfl, a1.celli 11 rfl rfl, a1.celli 12 rfl rfl, a1.celli 13 rfl rfl, a1.celli 14 rfl rfl, a1.celli 15 rfl rfl, a1.celli 16 rfl rfl, a1.celli 17 rfl rfl, a1.celli 18 rfl rfl, a1.celli 19 rfl rfl, trivial⟩, ?_⟩
   have ly : Ext (fun b => b = w.heap.size) dd dd := ((Ext.refl no dd)).none
   refine Q0a (k := 0) (j := 0) a0 (by exact Nat.le_of_ble_eq_true rfl) fun ja ud qg => ?_
   have nf := ly.x_puts ud (.inl rfl)
   have a0 : Blk ja w.heap.size 30 [.int .i64 a2, .int .i64 a6, .int .i64 ad, .int .u64 ap, .int .i64 ay, .int .i64 b3, .int .i64 ag, .slice ae ah af, .int .u64 b5, .int .i64 ac, .int .i64 ai, .int .u64 ar, .int .i64 bb, .int .i64 be, .int .i64 al, .slice an aj am, .int .u64 bf, .int .i64 a3, .slice bz c4 c0, .int .u64 ao] := by simpa only [setAll, Nat.zero_add, Nat.add_zero, List.set_cons_zero, List.set_cons_succ] using qg
   refine ⟨a2, a6, ad, ap, ay, b3, ag, ae, ah, af, b5, ac, ai, ar, bb, be, al, an, aj, am, bf, a3, bz, c4, c0, ao, ⟨a0.celli 0 rfl rfl, a0.celli 1 rfl rfl, a0.celli 2 rfl rfl, a0.celli 3 rfl rfl, a0.celli 4 rfl rfl, a0.celli 5 rfl rfl, a0.celli 6 rfl rfl, a0.celli 7 rfl rfl, a0.celli 8 rfl rfl, a0.celli 9 rfl rfl, a0.celli 10 rfl rfl, a0.celli 11 rfl rfl, a0.celli 12 rfl rfl, a0.celli 13 rfl rfl, a0.celli 14 rfl rfl, a0.celli 15 rfl rfl, a0.celli 16 rfl rfl, a0.celli 17 rfl rfl, a0.celli 18 rfl rfl, a0.celli 19 rfl rfl, trivial⟩, ?_⟩
   have h := h ja nf
   exact h

theorem Q00.go (a0 : Option Addr) (a1 a2 : Nat) {R : RW} {w : World} (h : Q00.N a0 a1 a2 R w) : Calls Try.prog 18 #[.slice a0 a1 a2] w fun e w' => ∃ v, e = .returned v ∧ R v w' := Q00.ok a0 a1 a2 (Q00.up a0 a1 a2 h)
end Go.Proofs.Ytoempemllkebkaa
