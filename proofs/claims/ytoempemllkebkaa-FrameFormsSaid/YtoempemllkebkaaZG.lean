/- Frames: predicates of cachetteref21.Read. -/
import Derived.Test.YtoempemllkebkaaZD
import Derived.Test.YtoempemllkebkaaZE
import Derived.Test.YtoempemllkebkaaZF
set_option linter.unusedVariables false
set_option linter.unusedSimpArgs false
set_option maxRecDepth 100000
set_option maxHeartbeats 40000000
namespace Go.Proofs.Ytoempemllkebkaa
open Go Go.Mx Go.Proofs
abbrev Q00.J1 (d5 cv : Addr) (R : RW) (d4 : World) : Prop :=
 ∃ (c8 ar bn c4 cd cf ay : Int) (bv : Option Addr) (b8 b7 : Nat) (c9 au b6 c2 cc c5 b2 : Int) (bp : Option Addr) (bi bu : Nat) (ch cs : Int) (cx : Option Addr) (d0 cw : Nat) (ct : Int), cellsAt d4 d5 [.int .i64 c8, .int .i64 ar, .int .i64 bn, .int .u64 c4, .int .i64 cd, .int .i64 cf, .int .i64 ay, .slice bv b8 b7, .int .u64 c9, .int .i64 au, .int .i64 b6, .int .u64 c2, .int .i64 cc, .int .i64 c5, .int .i64 b2, .slice bp bi bu, .int .u64 ch, .int .i64 cs, .slice cx d0 cw, .int .u64 ct] 0 ∧
 Calls Try.prog 19 #[.agg #[.int .i64 c8, .int .i64 ar, .int .i64 bn, .int .u64 c4, .int .i64 cd, .int .i64 cf, .int .i64 ay, .slice bv b8 b7, .int .u64 c9, .int .i64 au, .int .i64 b6, .int .u64 c2, .int .i64 cc, .int .i64 c5, .int .i64 b2, .slice bp bi bu, .int .u64 ch, .int .i64 cs, .slice cx d0 cw, .int .u64 ct]] d4 fun d6 cu => ∃ (c7 : Bool), d6 = .returned (.bool c7) ∧
 bif !c7 then (
 putsK cu cv [.int .i64 0, .int .i64 0, .int .i64 0, .int .u64 0, .int .i64 0, .int .i64 0, .int .i64 0, .slice none 0 0, .int .u64 0, .int .i64 0, .int .i64 0, .int .u64 0, .int .i64 0, .int .i64 0, .int .i64 0, .slice none 0 0, .int .u64 0, .int .i64 0, .slice none 0 0, .int .u64 0] 0 fun d2 =>
 ∃ (bm a0 ag ax bt be ad : Int) (a8 : Option Addr) (ae a6 : Nat) (bo a1 ak aq bb bj ab : Int) (aa : Option Addr) (al ah : Nat) (ba c3 : Int) (cb : Option Addr) (ci co : Nat) (bx : Int), cellsAt d2 cv [.int .i64 bm, .int .i64 a0, .int .i64 ag, .int .u64 ax, .int .i64 bt, .int .i64 be, .int .i64 ad, .slice a8 ae a6, .int .u64 bo, .int .i64 a1, .int .i64 ak, .int .u64 aq, .int .i64 bb, .int .i64 bj, .int .i64 ab, .slice aa al ah, .int .u64 ba, .int .i64 c3, .slice cb ci co, .int .u64 bx] 0 ∧
 R (.tuple #[.agg #[.int .i64 bm, .int .i64 a0, .int .i64 ag, .int .u64 ax, .int .i64 bt, .int .i64 be, .int .i64 ad, .slice a8 ae a6, .int .u64 bo, .int .i64 a1, .int .i64 ak, .int .u64 aq, .int .i64 bb, .int .i64 bj, .int .i64 ab, .slice aa al ah, .int .u64 ba, .int .i64 c3, .slice cb ci co, .int .u64 bx], .int .i64 4]) d2) else (
 ∃ (c6 ap bd c0 ca cm b5 : Int) (az : Option Addr) (b9 b1 : Nat) (cn ao bc bw cj cp bk : Int) (b3 : Option Addr) (bl bs : Nat) (ce cr : Int) (cz : Option Addr) (d1 cy : Nat) (cq : Int), cellsAt cu d5 [.int .i64 c6, .int .i64 ap, .int .i64 bd, .int .u64 c0, .int .i64 ca, .int .i64 cm, .int .i64 b5, .slice az b9 b1, .int .u64 cn, .int .i64 ao, .int .i64 bc, .int .u64 bw, .int .i64 cj, .int .i64 cp, .int .i64 bk, .slice b3 bl bs, .int .u64 ce, .int .i64 cr, .slice cz d1 cy, .int .u64 cq] 0 ∧
 putsK cu cv [.int .i64 c6, .int .i64 ap, .int .i64 bd, .int .u64 c0, .int .i64 ca, .int .i64 cm, .int .i64 b5, .slice az b9 b1, .int .u64 cn, .int .i64 ao, .int .i64 bc, .int .u64 bw, .int .i64 cj, .int .i64 cp, .int .i64 bk, .slice b3 bl bs, .int .u64 ce, .int .i64 cr, .slice cz d1 cy, .int .u64 cq] 0 fun d3 =>
 ∃ (br a3 ai aw b0 bh a9 : Int) (an : Option Addr) (a4 a5 : Nat) (bg a2 aj av b4 bq am : Int) (af : Option Addr) (a7 ac : Nat) (bf c1 : Int) (cl : Option Addr) (ck cg : Nat) (bz : Int), cellsAt d3 cv [.int .i64 br, .int .i64 a3, .int .i64 ai, .int .u64 aw, .int .i64 b0, .int .i64 bh, .int .i64 a9, .slice an a4 a5, .int .u64 bg, .int .i64 a2, .int .i64 aj, .int .u64 av, .int .i64 b4, .int .i64 bq, .int .i64 am, .slice af a7 ac, .int .u64 bf, .int .i64 c1, .slice cl ck cg, .int .u64 bz] 0 ∧
 R (.tuple #[.agg #[.int .i64 br, .int .i64 a3, .int .i64 ai, .int .u64 aw, .int .i64 b0, .int .i64 bh, .int .i64 a9, .slice an a4 a5, .int .u64 bg, .int .i64 a2, .int .i64 aj, .int .u64 av, .int .i64 b4, .int .i64 bq, .int .i64 am, .slice af a7 ac, .int .u64 bf, .int .i64 c1, .slice cl ck cg, .int .u64 bz], .int .i64 0]) d3)

abbrev Q00.J2 (b4 b3 : Nat) (ay az : Addr) (R : RW) (b1 : World) : Prop :=
 Calls Try.prog 48 #[.slice none b4 b3] b1 fun b0 aw => ∃ (ap : Option Addr) (aq ar : Nat) (an : Int), b0 = .returned (.tuple #[.slice ap aq ar, .int .i64 an]) ∧
 bif an != 0 then (
 putsK aw az [.int .i64 0, .int .i64 0, .int .i64 0, .int .u64 0, .int .i64 0, .int .i64 0, .int .i64 0, .slice none 0 0, .int .u64 0, .int .i64 0, .int .i64 0, .int .u64 0, .int .i64 0, .int .i64 0, .int .i64 0, .slice none 0 0, .int .u64 0, .int .i64 0, .slice none 0 0, .int .u64 0] 0 fun ax =>
 ∃ (ae a1 ab ad ag ah a8 : Int) (a5 : Option Addr) (aa a7 : Nat) (ai a0 a3 ac aj ak a2 : Int) (a9 : Option Addr) (a4 a6 : Nat) (af am : Int) (ao : Option Addr) (av au : Nat) (al : Int), cellsAt ax az [.int .i64 ae, .int .i64 a1, .int .i64 ab, .int .u64 ad, .int .i64 ag, .int .i64 ah, .int .i64 a8, .slice a5 aa a7, .int .u64 ai, .int .i64 a0, .int .i64 a3, .int .u64 ac, .int .i64 aj, .int .i64 ak, .int .i64 a2, .slice a9 a4 a6, .int .u64 af, .int .i64 am, .slice ao av au, .int .u64 al] 0 ∧
 R (.tuple #[.agg #[.int .i64 ae, .int .i64 a1, .int .i64 ab, .int .u64 ad, .int .i64 ag, .int .i64 ah, .int .i64 a8, .slice a5 aa a7, .int .u64 ai, .int .i64 a0, .int .i64 a3, .int .u64 ac, .int .i64 aj, .int .i64 ak, .int .i64 a2, .slice a9 a4 a6, .int .u64 af, .int .i64 am, .slice ao av au, .int .u64 al], .int .i64 an]) ax) else (
 Q01 aw ((ay.add 18).add 0) ∧
 thenW (aw.setCell ((ay.add 18).add 0) (.slice ap aq ar)) fun b2 =>
 Q00.J1 ay az R b2)

abbrev Q00.J3 (b4 : Bool) (b5 b3 : Nat) (ay ax : Addr) (R : RW) (b0 : World) : Prop :=
 bif b4 then (
 Calls Try.prog 48 #[.slice none b5 b3] b0 fun b1 aw => ∃ (ar : Option Addr) (au ap : Nat) (al : Int), b1 = .returned (.tuple #[.slice ar au ap, .int .i64 al]) ∧
 bif al != 0 then (
 putsK aw ax [.int .i64 0, .int .i64 0, .int .i64 0, .int .u64 0, .int .i64 0, .int .i64 0, .int .i64 0, .slice none 0 0, .int .u64 0, .int .i64 0, .int .i64 0, .int .u64 0, .int .i64 0, .int .i64 0, .int .i64 0, .slice none 0 0, .int .u64 0, .int .i64 0, .slice none 0 0, .int .u64 0] 0 fun az =>
 ∃ (ak a0 a2 ac aj ae a6 : Int) (a4 : Option Addr) (a5 a7 : Nat) (ag a1 ab ad ah ai a8 : Int) (a3 : Option Addr) (a9 aa : Nat) (af am : Int) (aq : Option Addr) (ao av : Nat) (an : Int), cellsAt az ax [.int .i64 ak, .int .i64 a0, .int .i64 a2, .int .u64 ac, .int .i64 aj, .int .i64 ae, .int .i64 a6, .slice a4 a5 a7, .int .u64 ag, .int .i64 a1, .int .i64 ab, .int .u64 ad, .int .i64 ah, .int .i64 ai, .int .i64 a8, .slice a3 a9 aa, .int .u64 af, .int .i64 am, .slice aq ao av, .int .u64 an] 0 ∧
 R (.tuple #[.agg #[.int .i64 ak, .int .i64 a0, .int .i64 a2, .int .u64 ac, .int .i64 aj, .int .i64 ae, .int .i64 a6, .slice a4 a5 a7, .int .u64 ag, .int .i64 a1, .int .i64 ab, .int .u64 ad, .int .i64 ah, .int .i64 ai, .int .i64 a8, .slice a3 a9 aa, .int .u64 af, .int .i64 am, .slice aq ao av, .int .u64 an], .int .i64 al]) az) else (
 Q01 aw ((ay.add 18).add 0) ∧
 thenW (aw.setCell ((ay.add 18).add 0) (.slice ar au ap)) fun b2 =>
 Q00.J1 ay ax R b2)) else (
 Q00.J1 ay ax R b0)

abbrev Q00.J4 (a4 a6 : Nat) (a3 a5 : Addr) (R : RW) (a1 : World) : Prop :=
 ∃ (a2 : Int), a1.cell? (a3.add 0) = some (.int .i64 a2) ∧
 bif a2 == 2 then (
 Q00.J2 a4 a6 a3 a5 R a1) else (
 ∃ (a0 : Int), a1.cell? (a3.add 0) = some (.int .i64 a0) ∧
 Q00.J3 (a0 == 3) a4 a6 a3 a5 R a1)

abbrev Q00.J5 (bs bt bw bx : Nat) (a0 bi : Addr) (R : RW) (be : World) : Prop :=
 ∃ (b7 : Int), be.cell? (a0.add 0) = some (.int .i64 b7) ∧
 bif b7 == 4 then (
 Calls Try.prog 47 #[.slice none bw bx] be fun br bf => ∃ (ap ay b9 bd bg b2 : Int) (b3 : Option Addr) (az b0 : Nat) (bh ax : Int), br = .returned (.tuple #[.agg #[.int .i64 ap, .int .i64 ay, .int .u64 b9, .int .i64 bd, .int .i64 bg, .int .i64 b2, .slice b3 az b0, .int .u64 bh], .int .i64 ax]) ∧
 thenW (bf.alloc (.cells #[.int .i64 0, .int .i64 0, .int .u64 0, .int .i64 0, .int .i64 0, .int .i64 0, .slice none 0 0, .int .u64 0] 27)) fun bv =>
 putsK bv (blk bf.heap.size) [.int .i64 ap, .int .i64 ay, .int .u64 b9, .int .i64 bd, .int .i64 bg, .int .i64 b2, .slice b3 az b0, .int .u64 bh] 0 fun bb =>
 bif ax != 0 then (
 putsK bb bi [.int .i64 0, .int .i64 0, .int .i64 0, .int .u64 0, .int .i64 0, .int .i64 0, .int .i64 0, .slice none 0 0, .int .u64 0, .int .i64 0, .int .i64 0, .int .u64 0, .int .i64 0, .int .i64 0, .int .i64 0, .slice none 0 0, .int .u64 0, .int .i64 0, .slice none 0 0, .int .u64 0] 0 fun bj =>
 ∃ (ak a2 aa ae af ai a4 : Int) (a3 : Option Addr) (ac a5 : Nat) (ag a1 a7 ad aj ah a9 : Int) (ab : Option Addr) (a8 a6 : Nat) (am aq : Int) (b5 : Option Addr) (b4 b6 : Nat) (au : Int), cellsAt bj bi [.int .i64 ak, .int .i64 a2, .int .i64 aa, .int .u64 ae, .int .i64 af, .int .i64 ai, .int .i64 a4, .slice a3 ac a5, .int .u64 ag, .int .i64 a1, .int .i64 a7, .int .u64 ad, .int .i64 aj, .int .i64 ah, .int .i64 a9, .slice ab a8 a6, .int .u64 am, .int .i64 aq, .slice b5 b4 b6, .int .u64 au] 0 ∧
 R (.tuple #[.agg #[.int .i64 ak, .int .i64 a2, .int .i64 aa, .int .u64 ae, .int .i64 af, .int .i64 ai, .int .i64 a4, .slice a3 ac a5, .int .u64 ag, .int .i64 a1, .int .i64 a7, .int .u64 ad, .int .i64 aj, .int .i64 ah, .int .i64 a9, .slice ab a8 a6, .int .u64 am, .int .i64 aq, .slice b5 b4 b6, .int .u64 au], .int .i64 ax]) bj) else (
 ∃ (al ao b1 ba bc ar : Int) (av : Option Addr) (an aw : Nat) (b8 : Int), cellsAt bb (blk bf.heap.size) [.int .i64 al, .int .i64 ao, .int .u64 b1, .int .i64 ba, .int .i64 bc, .int .i64 ar, .slice av an aw, .int .u64 b8] 0 ∧
 Q01 bb ((a0.add 9).add 0) ∧
 thenW (bb.setCell ((a0.add 9).add 0) (.int .i64 al)) fun bp =>
 Q01 bp ((a0.add 9).add 1) ∧
 thenW (bp.setCell ((a0.add 9).add 1) (.int .i64 ao)) fun bm =>
 Q01 bm ((a0.add 9).add 2) ∧
 thenW (bm.setCell ((a0.add 9).add 2) (.int .u64 b1)) fun bq =>
 Q01 bq ((a0.add 9).add 3) ∧
 thenW (bq.setCell ((a0.add 9).add 3) (.int .i64 ba)) fun bo =>
 Q01 bo ((a0.add 9).add 4) ∧
 thenW (bo.setCell ((a0.add 9).add 4) (.int .i64 bc)) fun bl =>
 Q01 bl ((a0.add 9).add 5) ∧
 thenW (bl.setCell ((a0.add 9).add 5) (.int .i64 ar)) fun bk =>
 Q01 bk ((a0.add 9).add 6) ∧
 thenW (bk.setCell ((a0.add 9).add 6) (.slice av an aw)) fun bn =>
 Q01 bn ((a0.add 9).add 7) ∧
 thenW (bn.setCell ((a0.add 9).add 7) (.int .u64 b8)) fun bu =>
 Q00.J4 bs bt a0 bi R bu)) else (
 Q00.J4 bs bt a0 bi R be)

abbrev Q00.J6 (bv : Option Addr) (bt bu c0 bw bz bx : Nat) (a0 bo : Addr) (R : RW) (bq : World) : Prop :=
 Calls Try.prog 47 #[.slice bv bt bu] bq fun bp bc => ∃ (ap b6 b7 bd be b5 : Int) (ay : Option Addr) (b3 az : Nat) (bf ax : Int), bp = .returned (.tuple #[.agg #[.int .i64 ap, .int .i64 b6, .int .u64 b7, .int .i64 bd, .int .i64 be, .int .i64 b5, .slice ay b3 az, .int .u64 bf], .int .i64 ax]) ∧
 thenW (bc.alloc (.cells #[.int .i64 0, .int .i64 0, .int .u64 0, .int .i64 0, .int .i64 0, .int .i64 0, .slice none 0 0, .int .u64 0] 27)) fun br =>
 putsK br (blk bc.heap.size) [.int .i64 ap, .int .i64 b6, .int .u64 b7, .int .i64 bd, .int .i64 be, .int .i64 b5, .slice ay b3 az, .int .u64 bf] 0 fun b9 =>
 bif ax != 0 then (
 putsK b9 bo [.int .i64 0, .int .i64 0, .int .i64 0, .int .u64 0, .int .i64 0, .int .i64 0, .int .i64 0, .slice none 0 0, .int .u64 0, .int .i64 0, .int .i64 0, .int .u64 0, .int .i64 0, .int .i64 0, .int .i64 0, .slice none 0 0, .int .u64 0, .int .i64 0, .slice none 0 0, .int .u64 0] 0 fun bh =>
 ∃ (ak a2 a8 ad am al a7 : Int) (aa : Option Addr) (a3 a9 : Nat) (ag a1 ab ae ai ah a5 : Int) (ac : Option Addr) (a6 a4 : Nat) (af aq : Int) (b0 : Option Addr) (b1 b4 : Nat) (aw : Int), cellsAt bh bo [.int .i64 ak, .int .i64 a2, .int .i64 a8, .int .u64 ad, .int .i64 am, .int .i64 al, .int .i64 a7, .slice aa a3 a9, .int .u64 ag, .int .i64 a1, .int .i64 ab, .int .u64 ae, .int .i64 ai, .int .i64 ah, .int .i64 a5, .slice ac a6 a4, .int .u64 af, .int .i64 aq, .slice b0 b1 b4, .int .u64 aw] 0 ∧
 R (.tuple #[.agg #[.int .i64 ak, .int .i64 a2, .int .i64 a8, .int .u64 ad, .int .i64 am, .int .i64 al, .int .i64 a7, .slice aa a3 a9, .int .u64 ag, .int .i64 a1, .int .i64 ab, .int .u64 ae, .int .i64 ai, .int .i64 ah, .int .i64 a5, .slice ac a6 a4, .int .u64 af, .int .i64 aq, .slice b0 b1 b4, .int .u64 aw], .int .i64 ax]) bh) else (
 ∃ (aj av b2 ba b8 ao : Int) (ar : Option Addr) (au an : Nat) (bb : Int), cellsAt b9 (blk bc.heap.size) [.int .i64 aj, .int .i64 av, .int .u64 b2, .int .i64 ba, .int .i64 b8, .int .i64 ao, .slice ar au an, .int .u64 bb] 0 ∧
 Q01 b9 ((a0.add 1).add 0) ∧
 thenW (b9.setCell ((a0.add 1).add 0) (.int .i64 aj)) fun bl =>
 Q01 bl ((a0.add 1).add 1) ∧
 thenW (bl.setCell ((a0.add 1).add 1) (.int .i64 av)) fun bi =>
 Q01 bi ((a0.add 1).add 2) ∧
 thenW (bi.setCell ((a0.add 1).add 2) (.int .u64 b2)) fun bg =>
 Q01 bg ((a0.add 1).add 3) ∧
 thenW (bg.setCell ((a0.add 1).add 3) (.int .i64 ba)) fun bk =>
 Q01 bk ((a0.add 1).add 4) ∧
 thenW (bk.setCell ((a0.add 1).add 4) (.int .i64 b8)) fun bj =>
 Q01 bj ((a0.add 1).add 5) ∧
 thenW (bj.setCell ((a0.add 1).add 5) (.int .i64 ao)) fun bm =>
 Q01 bm ((a0.add 1).add 6) ∧
 thenW (bm.setCell ((a0.add 1).add 6) (.slice ar au an)) fun bn =>
 Q01 bn ((a0.add 1).add 7) ∧
 thenW (bn.setCell ((a0.add 1).add 7) (.int .u64 bb)) fun bs =>
 Q00.J5 c0 bw bz bx a0 bo R bs)

abbrev Q00.J7 (c0 : Bool) (c1 : Option Addr) (bx bz br bt bs bq : Nat) (a0 bg : Addr) (R : RW) (bl : World) : Prop :=
 bif c0 then (
 Calls Try.prog 47 #[.slice c1 bx bz] bl fun bv bc => ∃ (ap ay b9 bd bf b4 : Int) (az : Option Addr) (b2 b0 : Nat) (be av : Int), bv = .returned (.tuple #[.agg #[.int .i64 ap, .int .i64 ay, .int .u64 b9, .int .i64 bd, .int .i64 bf, .int .i64 b4, .slice az b2 b0, .int .u64 be], .int .i64 av]) ∧
 thenW (bc.alloc (.cells #[.int .i64 0, .int .i64 0, .int .u64 0, .int .i64 0, .int .i64 0, .int .i64 0, .slice none 0 0, .int .u64 0] 27)) fun bu =>
 putsK bu (blk bc.heap.size) [.int .i64 ap, .int .i64 ay, .int .u64 b9, .int .i64 bd, .int .i64 bf, .int .i64 b4, .slice az b2 b0, .int .u64 be] 0 fun b7 =>
 bif av != 0 then (
 putsK b7 bg [.int .i64 0, .int .i64 0, .int .i64 0, .int .u64 0, .int .i64 0, .int .i64 0, .int .i64 0, .slice none 0 0, .int .u64 0, .int .i64 0, .int .i64 0, .int .u64 0, .int .i64 0, .int .i64 0, .int .i64 0, .slice none 0 0, .int .u64 0, .int .i64 0, .slice none 0 0, .int .u64 0] 0 fun bj =>
 ∃ (am a1 a9 ad af ag a4 : Int) (ac : Option Addr) (a3 a7 : Nat) (ah a2 a8 ae al ak ab : Int) (a5 : Option Addr) (a6 aa : Nat) (aj ao : Int) (b5 : Option Addr) (b1 b3 : Nat) (an : Int), cellsAt bj bg [.int .i64 am, .int .i64 a1, .int .i64 a9, .int .u64 ad, .int .i64 af, .int .i64 ag, .int .i64 a4, .slice ac a3 a7, .int .u64 ah, .int .i64 a2, .int .i64 a8, .int .u64 ae, .int .i64 al, .int .i64 ak, .int .i64 ab, .slice a5 a6 aa, .int .u64 aj, .int .i64 ao, .slice b5 b1 b3, .int .u64 an] 0 ∧
 R (.tuple #[.agg #[.int .i64 am, .int .i64 a1, .int .i64 a9, .int .u64 ad, .int .i64 af, .int .i64 ag, .int .i64 a4, .slice ac a3 a7, .int .u64 ah, .int .i64 a2, .int .i64 a8, .int .u64 ae, .int .i64 al, .int .i64 ak, .int .i64 ab, .slice a5 a6 aa, .int .u64 aj, .int .i64 ao, .slice b5 b1 b3, .int .u64 an], .int .i64 av]) bj) else (
 ∃ (ai au b6 bb ba aq : Int) (aw : Option Addr) (ax ar : Nat) (b8 : Int), cellsAt b7 (blk bc.heap.size) [.int .i64 ai, .int .i64 au, .int .u64 b6, .int .i64 bb, .int .i64 ba, .int .i64 aq, .slice aw ax ar, .int .u64 b8] 0 ∧
 Q01 b7 ((a0.add 1).add 0) ∧
 thenW (b7.setCell ((a0.add 1).add 0) (.int .i64 ai)) fun bk =>
 Q01 bk ((a0.add 1).add 1) ∧
 thenW (bk.setCell ((a0.add 1).add 1) (.int .i64 au)) fun bm =>
 Q01 bm ((a0.add 1).add 2) ∧
 thenW (bm.setCell ((a0.add 1).add 2) (.int .u64 b6)) fun bo =>
 Q01 bo ((a0.add 1).add 3) ∧
 thenW (bo.setCell ((a0.add 1).add 3) (.int .i64 bb)) fun bi =>
 Q01 bi ((a0.add 1).add 4) ∧
 thenW (bi.setCell ((a0.add 1).add 4) (.int .i64 ba)) fun bp =>
 Q01 bp ((a0.add 1).add 5) ∧
 thenW (bp.setCell ((a0.add 1).add 5) (.int .i64 aq)) fun bn =>
 Q01 bn ((a0.add 1).add 6) ∧
 thenW (bn.setCell ((a0.add 1).add 6) (.slice aw ax ar)) fun bh =>
 Q01 bh ((a0.add 1).add 7) ∧
 thenW (bh.setCell ((a0.add 1).add 7) (.int .u64 b8)) fun bw =>
 Q00.J5 br bt bs bq a0 bg R bw)) else (
 Q00.J5 br bt bs bq a0 bg R bl)

abbrev Q00.J8 (a4 : Option Addr) (aa a6 a5 a7 a9 ab : Nat) (a3 a8 : Addr) (R : RW) (a2 : World) : Prop :=
 ∃ (a1 : Int), a2.cell? (a3.add 0) = some (.int .i64 a1) ∧
 bif a1 == 1 then (
 Q00.J6 a4 aa a6 a5 a7 a9 ab a3 a8 R a2) else (
 ∃ (a0 : Int), a2.cell? (a3.add 0) = some (.int .i64 a0) ∧
 Q00.J7 (a0 == 4) a4 aa a6 a5 a7 a9 ab a3 a8 R a2)

abbrev Q00.J9 (az : Option Addr) (b5 ay b1 b6 b0 b4 : Nat) (b3 b2 av : Addr) (R : RW) (aw : World) : Prop :=
 Calls Try.prog 46 #[.pointer (some b2)] aw fun ax ar => ∃ (an : Int), ax = .returned (.int .i64 an) ∧
 bif an != 0 then (
 putsK ar av [.int .i64 0, .int .i64 0, .int .i64 0, .int .u64 0, .int .i64 0, .int .i64 0, .int .i64 0, .slice none 0 0, .int .u64 0, .int .i64 0, .int .i64 0, .int .u64 0, .int .i64 0, .int .i64 0, .int .i64 0, .slice none 0 0, .int .u64 0, .int .i64 0, .slice none 0 0, .int .u64 0] 0 fun au =>
 ∃ (aj a0 a7 ad af ai ab : Int) (a8 : Option Addr) (a3 a2 : Nat) (ae a1 aa ac ak ag a5 : Int) (a9 : Option Addr) (a4 a6 : Nat) (ah am : Int) (aq : Option Addr) (ao ap : Nat) (al : Int), cellsAt au av [.int .i64 aj, .int .i64 a0, .int .i64 a7, .int .u64 ad, .int .i64 af, .int .i64 ai, .int .i64 ab, .slice a8 a3 a2, .int .u64 ae, .int .i64 a1, .int .i64 aa, .int .u64 ac, .int .i64 ak, .int .i64 ag, .int .i64 a5, .slice a9 a4 a6, .int .u64 ah, .int .i64 am, .slice aq ao ap, .int .u64 al] 0 ∧
 R (.tuple #[.agg #[.int .i64 aj, .int .i64 a0, .int .i64 a7, .int .u64 ad, .int .i64 af, .int .i64 ai, .int .i64 ab, .slice a8 a3 a2, .int .u64 ae, .int .i64 a1, .int .i64 aa, .int .u64 ac, .int .i64 ak, .int .i64 ag, .int .i64 a5, .slice a9 a4 a6, .int .u64 ah, .int .i64 am, .slice aq ao ap, .int .u64 al], .int .i64 an]) au) else (
 Q00.J8 az b5 ay b1 b6 b0 b4 b3 av R ar)

abbrev Q00.J10 (d5 cv : Addr) (R : RW) (d2 : World) : Prop :=
 ∃ (c8 av bl c1 c5 cb b5 : Int) (bg : Option Addr) (bm bj : Nat) (ca ar bh c3 cf c7 bs : Int) (bu : Option Addr) (b8 b1 : Nat) (cl cs : Int) (d1 : Option Addr) (cy cx : Nat) (cq : Int), cellsAt d2 d5 [.int .i64 c8, .int .i64 av, .int .i64 bl, .int .u64 c1, .int .i64 c5, .int .i64 cb, .int .i64 b5, .slice bg bm bj, .int .u64 ca, .int .i64 ar, .int .i64 bh, .int .u64 c3, .int .i64 cf, .int .i64 c7, .int .i64 bs, .slice bu b8 b1, .int .u64 cl, .int .i64 cs, .slice d1 cy cx, .int .u64 cq] 0 ∧
 Calls Try.prog 19 #[.agg #[.int .i64 c8, .int .i64 av, .int .i64 bl, .int .u64 c1, .int .i64 c5, .int .i64 cb, .int .i64 b5, .slice bg bm bj, .int .u64 ca, .int .i64 ar, .int .i64 bh, .int .u64 c3, .int .i64 cf, .int .i64 c7, .int .i64 bs, .slice bu b8 b1, .int .u64 cl, .int .i64 cs, .slice d1 cy cx, .int .u64 cq]] d2 fun d6 cu => ∃ (cj : Bool), d6 = .returned (.bool cj) ∧
 bif !cj then (
 putsK cu cv [.int .i64 0, .int .i64 0, .int .i64 0, .int .u64 0, .int .i64 0, .int .i64 0, .int .i64 0, .slice none 0 0, .int .u64 0, .int .i64 0, .int .i64 0, .int .u64 0, .int .i64 0, .int .i64 0, .int .i64 0, .slice none 0 0, .int .u64 0, .int .i64 0, .slice none 0 0, .int .u64 0] 0 fun d3 =>
 ∃ (bq a0 ac aw b2 b0 an : Int) (ag : Option Addr) (a5 a9 : Nat) (ay a1 ak ap bk bb a8 : Int) (a4 : Option Addr) (af al : Nat) (b7 c2 : Int) (ci : Option Addr) (ck cn : Nat) (bz : Int), cellsAt d3 cv [.int .i64 bq, .int .i64 a0, .int .i64 ac, .int .u64 aw, .int .i64 b2, .int .i64 b0, .int .i64 an, .slice ag a5 a9, .int .u64 ay, .int .i64 a1, .int .i64 ak, .int .u64 ap, .int .i64 bk, .int .i64 bb, .int .i64 a8, .slice a4 af al, .int .u64 b7, .int .i64 c2, .slice ci ck cn, .int .u64 bz] 0 ∧
 R (.tuple #[.agg #[.int .i64 bq, .int .i64 a0, .int .i64 ac, .int .u64 aw, .int .i64 b2, .int .i64 b0, .int .i64 an, .slice ag a5 a9, .int .u64 ay, .int .i64 a1, .int .i64 ak, .int .u64 ap, .int .i64 bk, .int .i64 bb, .int .i64 a8, .slice a4 af al, .int .u64 b7, .int .i64 c2, .slice ci ck cn, .int .u64 bz], .int .i64 4]) d3) else (
 ∃ (ch ax b9 c4 cp cc bf : Int) (b4 : Option Addr) (az bc : Nat) (c9 aq be bx cg co bi : Int) (ba : Option Addr) (bd bo : Nat) (ce cr : Int) (d0 : Option Addr) (cw cz : Nat) (ct : Int), cellsAt cu d5 [.int .i64 ch, .int .i64 ax, .int .i64 b9, .int .u64 c4, .int .i64 cp, .int .i64 cc, .int .i64 bf, .slice b4 az bc, .int .u64 c9, .int .i64 aq, .int .i64 be, .int .u64 bx, .int .i64 cg, .int .i64 co, .int .i64 bi, .slice ba bd bo, .int .u64 ce, .int .i64 cr, .slice d0 cw cz, .int .u64 ct] 0 ∧
 putsK cu cv [.int .i64 ch, .int .i64 ax, .int .i64 b9, .int .u64 c4, .int .i64 cp, .int .i64 cc, .int .i64 bf, .slice b4 az bc, .int .u64 c9, .int .i64 aq, .int .i64 be, .int .u64 bx, .int .i64 cg, .int .i64 co, .int .i64 bi, .slice ba bd bo, .int .u64 ce, .int .i64 cr, .slice d0 cw cz, .int .u64 ct] 0 fun d4 =>
 ∃ (bn a3 aa ao b6 bv am : Int) (ad : Option Addr) (a6 ab : Nat) (br a2 ah au bt b3 ae : Int) (a7 : Option Addr) (ai aj : Nat) (bp c0 : Int) (cd : Option Addr) (c6 cm : Nat) (bw : Int), cellsAt d4 cv [.int .i64 bn, .int .i64 a3, .int .i64 aa, .int .u64 ao, .int .i64 b6, .int .i64 bv, .int .i64 am, .slice ad a6 ab, .int .u64 br, .int .i64 a2, .int .i64 ah, .int .u64 au, .int .i64 bt, .int .i64 b3, .int .i64 ae, .slice a7 ai aj, .int .u64 bp, .int .i64 c0, .slice cd c6 cm, .int .u64 bw] 0 ∧
 R (.tuple #[.agg #[.int .i64 bn, .int .i64 a3, .int .i64 aa, .int .u64 ao, .int .i64 b6, .int .i64 bv, .int .i64 am, .slice ad a6 ab, .int .u64 br, .int .i64 a2, .int .i64 ah, .int .u64 au, .int .i64 bt, .int .i64 b3, .int .i64 ae, .slice a7 ai aj, .int .u64 bp, .int .i64 c0, .slice cd c6 cm, .int .u64 bw], .int .i64 0]) d4)

abbrev Q00.J11 (b5 : Option Addr) (b4 b3 : Nat) (ax ay : Addr) (R : RW) (b2 : World) : Prop :=
 Calls Try.prog 48 #[.slice b5 b4 b3] b2 fun b0 aw => ∃ (ap : Option Addr) (aq au : Nat) (an : Int), b0 = .returned (.tuple #[.slice ap aq au, .int .i64 an]) ∧
 bif an != 0 then (
 putsK aw ay [.int .i64 0, .int .i64 0, .int .i64 0, .int .u64 0, .int .i64 0, .int .i64 0, .int .i64 0, .slice none 0 0, .int .u64 0, .int .i64 0, .int .i64 0, .int .u64 0, .int .i64 0, .int .i64 0, .int .i64 0, .slice none 0 0, .int .u64 0, .int .i64 0, .slice none 0 0, .int .u64 0] 0 fun az =>
 ∃ (ai a0 aa ad ak aj a6 : Int) (a8 : Option Addr) (a7 a5 : Nat) (ag a1 a4 ac ae ah a2 : Int) (a3 : Option Addr) (ab a9 : Nat) (af am : Int) (av : Option Addr) (ar ao : Nat) (al : Int), cellsAt az ay [.int .i64 ai, .int .i64 a0, .int .i64 aa, .int .u64 ad, .int .i64 ak, .int .i64 aj, .int .i64 a6, .slice a8 a7 a5, .int .u64 ag, .int .i64 a1, .int .i64 a4, .int .u64 ac, .int .i64 ae, .int .i64 ah, .int .i64 a2, .slice a3 ab a9, .int .u64 af, .int .i64 am, .slice av ar ao, .int .u64 al] 0 ∧
 R (.tuple #[.agg #[.int .i64 ai, .int .i64 a0, .int .i64 aa, .int .u64 ad, .int .i64 ak, .int .i64 aj, .int .i64 a6, .slice a8 a7 a5, .int .u64 ag, .int .i64 a1, .int .i64 a4, .int .u64 ac, .int .i64 ae, .int .i64 ah, .int .i64 a2, .slice a3 ab a9, .int .u64 af, .int .i64 am, .slice av ar ao, .int .u64 al], .int .i64 an]) az) else (
 Q01 aw ((ax.add 18).add 0) ∧
 thenW (aw.setCell ((ax.add 18).add 0) (.slice ap aq au)) fun b1 =>
 Q00.J10 ax ay R b1)

abbrev Q00.J12 (b5 : Bool) (b4 : Option Addr) (b3 b6 : Nat) (ax ay : Addr) (R : RW) (b0 : World) : Prop :=
 bif b5 then (
 Calls Try.prog 48 #[.slice b4 b3 b6] b0 fun b1 aw => ∃ (ar : Option Addr) (ap ao : Nat) (al : Int), b1 = .returned (.tuple #[.slice ar ap ao, .int .i64 al]) ∧
 bif al != 0 then (
 putsK aw ay [.int .i64 0, .int .i64 0, .int .i64 0, .int .u64 0, .int .i64 0, .int .i64 0, .int .i64 0, .slice none 0 0, .int .u64 0, .int .i64 0, .int .i64 0, .int .u64 0, .int .i64 0, .int .i64 0, .int .i64 0, .slice none 0 0, .int .u64 0, .int .i64 0, .slice none 0 0, .int .u64 0] 0 fun az =>
 ∃ (ah a0 a9 ac ak af a8 : Int) (a7 : Option Addr) (a6 ab : Nat) (ae a1 a2 ad ai ag aa : Int) (a5 : Option Addr) (a3 a4 : Nat) (aj am : Int) (au : Option Addr) (av aq : Nat) (an : Int), cellsAt az ay [.int .i64 ah, .int .i64 a0, .int .i64 a9, .int .u64 ac, .int .i64 ak, .int .i64 af, .int .i64 a8, .slice a7 a6 ab, .int .u64 ae, .int .i64 a1, .int .i64 a2, .int .u64 ad, .int .i64 ai, .int .i64 ag, .int .i64 aa, .slice a5 a3 a4, .int .u64 aj, .int .i64 am, .slice au av aq, .int .u64 an] 0 ∧
 R (.tuple #[.agg #[.int .i64 ah, .int .i64 a0, .int .i64 a9, .int .u64 ac, .int .i64 ak, .int .i64 af, .int .i64 a8, .slice a7 a6 ab, .int .u64 ae, .int .i64 a1, .int .i64 a2, .int .u64 ad, .int .i64 ai, .int .i64 ag, .int .i64 aa, .slice a5 a3 a4, .int .u64 aj, .int .i64 am, .slice au av aq, .int .u64 an], .int .i64 al]) az) else (
 Q01 aw ((ax.add 18).add 0) ∧
 thenW (aw.setCell ((ax.add 18).add 0) (.slice ar ap ao)) fun b2 =>
 Q00.J10 ax ay R b2)) else (
 Q00.J10 ax ay R b0)

abbrev Q00.J13 (a4 : Option Addr) (a7 a5 : Nat) (a3 a6 : Addr) (R : RW) (a0 : World) : Prop :=
 ∃ (a2 : Int), a0.cell? (a3.add 0) = some (.int .i64 a2) ∧
 bif a2 == 2 then (
 Q00.J11 a4 a7 a5 a3 a6 R a0) else (
 ∃ (a1 : Int), a0.cell? (a3.add 0) = some (.int .i64 a1) ∧
 Q00.J12 (a1 == 3) a4 a7 a5 a3 a6 R a0)

abbrev Q00.J14 (bs : Option Addr) (br bt bz bx : Nat) (a0 bg : Addr) (R : RW) (bd : World) : Prop :=
 ∃ (bc : Int), bd.cell? (a0.add 0) = some (.int .i64 bc) ∧
 bif bc == 4 then (
 Calls Try.prog 47 #[.slice none bz bx] bd fun bw be => ∃ (au b4 b8 bf bh ay : Int) (b0 : Option Addr) (b2 az : Nat) (bi ar : Int), bw = .returned (.tuple #[.agg #[.int .i64 au, .int .i64 b4, .int .u64 b8, .int .i64 bf, .int .i64 bh, .int .i64 ay, .slice b0 b2 az, .int .u64 bi], .int .i64 ar]) ∧
 thenW (be.alloc (.cells #[.int .i64 0, .int .i64 0, .int .u64 0, .int .i64 0, .int .i64 0, .int .i64 0, .slice none 0 0, .int .u64 0] 27)) fun bu =>
 putsK bu (blk be.heap.size) [.int .i64 au, .int .i64 b4, .int .u64 b8, .int .i64 bf, .int .i64 bh, .int .i64 ay, .slice b0 b2 az, .int .u64 bi] 0 fun b7 =>
 bif ar != 0 then (
 putsK b7 bg [.int .i64 0, .int .i64 0, .int .i64 0, .int .u64 0, .int .i64 0, .int .i64 0, .int .i64 0, .slice none 0 0, .int .u64 0, .int .i64 0, .int .i64 0, .int .u64 0, .int .i64 0, .int .i64 0, .int .i64 0, .slice none 0 0, .int .u64 0, .int .i64 0, .slice none 0 0, .int .u64 0] 0 fun bm =>
 ∃ (ak a1 a3 ad ai ag a4 : Int) (ac : Option Addr) (a5 a9 : Nat) (aj a2 a8 ae ah af ab : Int) (aa : Option Addr) (a7 a6 : Nat) (am ax : Int) (b1 : Option Addr) (b6 b5 : Nat) (ao : Int), cellsAt bm bg [.int .i64 ak, .int .i64 a1, .int .i64 a3, .int .u64 ad, .int .i64 ai, .int .i64 ag, .int .i64 a4, .slice ac a5 a9, .int .u64 aj, .int .i64 a2, .int .i64 a8, .int .u64 ae, .int .i64 ah, .int .i64 af, .int .i64 ab, .slice aa a7 a6, .int .u64 am, .int .i64 ax, .slice b1 b6 b5, .int .u64 ao] 0 ∧
 R (.tuple #[.agg #[.int .i64 ak, .int .i64 a1, .int .i64 a3, .int .u64 ad, .int .i64 ai, .int .i64 ag, .int .i64 a4, .slice ac a5 a9, .int .u64 aj, .int .i64 a2, .int .i64 a8, .int .u64 ae, .int .i64 ah, .int .i64 af, .int .i64 ab, .slice aa a7 a6, .int .u64 am, .int .i64 ax, .slice b1 b6 b5, .int .u64 ao], .int .i64 ar]) bm) else (
 ∃ (al ap b3 b9 bb av : Int) (an : Option Addr) (aq aw : Nat) (ba : Int), cellsAt b7 (blk be.heap.size) [.int .i64 al, .int .i64 ap, .int .u64 b3, .int .i64 b9, .int .i64 bb, .int .i64 av, .slice an aq aw, .int .u64 ba] 0 ∧
 Q01 b7 ((a0.add 9).add 0) ∧
 thenW (b7.setCell ((a0.add 9).add 0) (.int .i64 al)) fun bo =>
 Q01 bo ((a0.add 9).add 1) ∧
 thenW (bo.setCell ((a0.add 9).add 1) (.int .i64 ap)) fun bn =>
 Q01 bn ((a0.add 9).add 2) ∧
 thenW (bn.setCell ((a0.add 9).add 2) (.int .u64 b3)) fun bq =>
 Q01 bq ((a0.add 9).add 3) ∧
 thenW (bq.setCell ((a0.add 9).add 3) (.int .i64 b9)) fun bj =>
 Q01 bj ((a0.add 9).add 4) ∧
 thenW (bj.setCell ((a0.add 9).add 4) (.int .i64 bb)) fun bp =>
 Q01 bp ((a0.add 9).add 5) ∧
 thenW (bp.setCell ((a0.add 9).add 5) (.int .i64 av)) fun bl =>
 Q01 bl ((a0.add 9).add 6) ∧
 thenW (bl.setCell ((a0.add 9).add 6) (.slice an aq aw)) fun bk =>
 Q01 bk ((a0.add 9).add 7) ∧
 thenW (bk.setCell ((a0.add 9).add 7) (.int .u64 ba)) fun bv =>
 Q00.J13 bs br bt a0 bg R bv)) else (
 Q00.J13 bs br bt a0 bg R bd)

abbrev Q00.J15 (bw : Option Addr) (bv bt bu c0 bz bx : Nat) (a0 bm : Addr) (R : RW) (bs : World) : Prop :=
 Calls Try.prog 47 #[.slice none bz bx] bs fun br bc => ∃ (aq b6 b9 bd bf b5 : Int) (ay : Option Addr) (b2 b0 : Nat) (be ap : Int), br = .returned (.tuple #[.agg #[.int .i64 aq, .int .i64 b6, .int .u64 b9, .int .i64 bd, .int .i64 bf, .int .i64 b5, .slice ay b2 b0, .int .u64 be], .int .i64 ap]) ∧
 thenW (bc.alloc (.cells #[.int .i64 0, .int .i64 0, .int .u64 0, .int .i64 0, .int .i64 0, .int .i64 0, .slice none 0 0, .int .u64 0] 27)) fun bp =>
 putsK bp (blk bc.heap.size) [.int .i64 aq, .int .i64 b6, .int .u64 b9, .int .i64 bd, .int .i64 bf, .int .i64 b5, .slice ay b2 b0, .int .u64 be] 0 fun b7 =>
 bif ap != 0 then (
 putsK b7 bm [.int .i64 0, .int .i64 0, .int .i64 0, .int .u64 0, .int .i64 0, .int .i64 0, .int .i64 0, .slice none 0 0, .int .u64 0, .int .i64 0, .int .i64 0, .int .u64 0, .int .i64 0, .int .i64 0, .int .i64 0, .slice none 0 0, .int .u64 0, .int .i64 0, .slice none 0 0, .int .u64 0] 0 fun bi =>
 ∃ (ai a1 a3 ad aj ah aa : Int) (a4 : Option Addr) (ab ac : Nat) (af a2 a5 ae ag al a7 : Int) (a6 : Option Addr) (a9 a8 : Nat) (am ax : Int) (b4 : Option Addr) (b1 b3 : Nat) (au : Int), cellsAt bi bm [.int .i64 ai, .int .i64 a1, .int .i64 a3, .int .u64 ad, .int .i64 aj, .int .i64 ah, .int .i64 aa, .slice a4 ab ac, .int .u64 af, .int .i64 a2, .int .i64 a5, .int .u64 ae, .int .i64 ag, .int .i64 al, .int .i64 a7, .slice a6 a9 a8, .int .u64 am, .int .i64 ax, .slice b4 b1 b3, .int .u64 au] 0 ∧
 R (.tuple #[.agg #[.int .i64 ai, .int .i64 a1, .int .i64 a3, .int .u64 ad, .int .i64 aj, .int .i64 ah, .int .i64 aa, .slice a4 ab ac, .int .u64 af, .int .i64 a2, .int .i64 a5, .int .u64 ae, .int .i64 ag, .int .i64 al, .int .i64 a7, .slice a6 a9 a8, .int .u64 am, .int .i64 ax, .slice b4 b1 b3, .int .u64 au], .int .i64 ap]) bi) else (
 ∃ (ak ar az b8 bb ao : Int) (an : Option Addr) (aw av : Nat) (ba : Int), cellsAt b7 (blk bc.heap.size) [.int .i64 ak, .int .i64 ar, .int .u64 az, .int .i64 b8, .int .i64 bb, .int .i64 ao, .slice an aw av, .int .u64 ba] 0 ∧
 Q01 b7 ((a0.add 1).add 0) ∧
 thenW (b7.setCell ((a0.add 1).add 0) (.int .i64 ak)) fun bg =>
 Q01 bg ((a0.add 1).add 1) ∧
 thenW (bg.setCell ((a0.add 1).add 1) (.int .i64 ar)) fun bn =>
 Q01 bn ((a0.add 1).add 2) ∧
 thenW (bn.setCell ((a0.add 1).add 2) (.int .u64 az)) fun bk =>
 Q01 bk ((a0.add 1).add 3) ∧
 thenW (bk.setCell ((a0.add 1).add 3) (.int .i64 b8)) fun bj =>
 Q01 bj ((a0.add 1).add 4) ∧
 thenW (bj.setCell ((a0.add 1).add 4) (.int .i64 bb)) fun bo =>
 Q01 bo ((a0.add 1).add 5) ∧
 thenW (bo.setCell ((a0.add 1).add 5) (.int .i64 ao)) fun bl =>
 Q01 bl ((a0.add 1).add 6) ∧
 thenW (bl.setCell ((a0.add 1).add 6) (.slice an aw av)) fun bh =>
 Q01 bh ((a0.add 1).add 7) ∧
 thenW (bh.setCell ((a0.add 1).add 7) (.int .u64 ba)) fun bq =>
 Q00.J14 bw bv bt bu c0 a0 bm R bq)

abbrev Q00.J16 (c0 : Bool) (bu : Option Addr) (bt br bq bs bz c1 : Nat) (a0 bf : Addr) (R : RW) (bk : World) : Prop :=
 bif c0 then (
 Calls Try.prog 47 #[.slice none bz c1] bk fun bx bc => ∃ (aw b1 b8 bd bg b2 : Int) (az : Option Addr) (b6 ay : Nat) (be ar : Int), bx = .returned (.tuple #[.agg #[.int .i64 aw, .int .i64 b1, .int .u64 b8, .int .i64 bd, .int .i64 bg, .int .i64 b2, .slice az b6 ay, .int .u64 be], .int .i64 ar]) ∧
 thenW (bc.alloc (.cells #[.int .i64 0, .int .i64 0, .int .u64 0, .int .i64 0, .int .i64 0, .int .i64 0, .slice none 0 0, .int .u64 0] 27)) fun bv =>
 putsK bv (blk bc.heap.size) [.int .i64 aw, .int .i64 b1, .int .u64 b8, .int .i64 bd, .int .i64 bg, .int .i64 b2, .slice az b6 ay, .int .u64 be] 0 fun b7 =>
 bif ar != 0 then (
 putsK b7 bf [.int .i64 0, .int .i64 0, .int .i64 0, .int .u64 0, .int .i64 0, .int .i64 0, .int .i64 0, .slice none 0 0, .int .u64 0, .int .i64 0, .int .i64 0, .int .u64 0, .int .i64 0, .int .i64 0, .int .i64 0, .slice none 0 0, .int .u64 0, .int .i64 0, .slice none 0 0, .int .u64 0] 0 fun bo =>
 ∃ (ai a1 a7 ad aj am a9 : Int) (a3 : Option Addr) (a6 a4 : Nat) (ah a2 a5 ae ak af ac : Int) (ab : Option Addr) (a8 aa : Nat) (al ax : Int) (b4 : Option Addr) (b0 b3 : Nat) (ao : Int), cellsAt bo bf [.int .i64 ai, .int .i64 a1, .int .i64 a7, .int .u64 ad, .int .i64 aj, .int .i64 am, .int .i64 a9, .slice a3 a6 a4, .int .u64 ah, .int .i64 a2, .int .i64 a5, .int .u64 ae, .int .i64 ak, .int .i64 af, .int .i64 ac, .slice ab a8 aa, .int .u64 al, .int .i64 ax, .slice b4 b0 b3, .int .u64 ao] 0 ∧
 R (.tuple #[.agg #[.int .i64 ai, .int .i64 a1, .int .i64 a7, .int .u64 ad, .int .i64 aj, .int .i64 am, .int .i64 a9, .slice a3 a6 a4, .int .u64 ah, .int .i64 a2, .int .i64 a5, .int .u64 ae, .int .i64 ak, .int .i64 af, .int .i64 ac, .slice ab a8 aa, .int .u64 al, .int .i64 ax, .slice b4 b0 b3, .int .u64 ao], .int .i64 ar]) bo) else (
 ∃ (ag an b5 bb b9 av : Int) (aq : Option Addr) (ap au : Nat) (ba : Int), cellsAt b7 (blk bc.heap.size) [.int .i64 ag, .int .i64 an, .int .u64 b5, .int .i64 bb, .int .i64 b9, .int .i64 av, .slice aq ap au, .int .u64 ba] 0 ∧
 Q01 b7 ((a0.add 1).add 0) ∧
 thenW (b7.setCell ((a0.add 1).add 0) (.int .i64 ag)) fun bh =>
 Q01 bh ((a0.add 1).add 1) ∧
 thenW (bh.setCell ((a0.add 1).add 1) (.int .i64 an)) fun bl =>
 Q01 bl ((a0.add 1).add 2) ∧
 thenW (bl.setCell ((a0.add 1).add 2) (.int .u64 b5)) fun bm =>
 Q01 bm ((a0.add 1).add 3) ∧
 thenW (bm.setCell ((a0.add 1).add 3) (.int .i64 bb)) fun bi =>
 Q01 bi ((a0.add 1).add 4) ∧
 thenW (bi.setCell ((a0.add 1).add 4) (.int .i64 b9)) fun bj =>
 Q01 bj ((a0.add 1).add 5) ∧
 thenW (bj.setCell ((a0.add 1).add 5) (.int .i64 av)) fun bp =>
 Q01 bp ((a0.add 1).add 6) ∧
 thenW (bp.setCell ((a0.add 1).add 6) (.slice aq ap au)) fun bn =>
 Q01 bn ((a0.add 1).add 7) ∧
 thenW (bn.setCell ((a0.add 1).add 7) (.int .u64 ba)) fun bw =>
 Q00.J14 bu bt br bq bs a0 bf R bw)) else (
 Q00.J14 bu bt br bq bs a0 bf R bk)

abbrev Q00.J17 (a8 : Option Addr) (a7 a5 a4 ab a6 aa : Nat) (a3 a9 : Addr) (R : RW) (a0 : World) : Prop :=
 ∃ (a1 : Int), a0.cell? (a3.add 0) = some (.int .i64 a1) ∧
 bif a1 == 1 then (
 Q00.J15 a8 a7 a5 a4 ab a6 aa a3 a9 R a0) else (
 ∃ (a2 : Int), a0.cell? (a3.add 0) = some (.int .i64 a2) ∧
 Q00.J16 (a2 == 4) a8 a7 a5 a4 ab a6 aa a3 a9 R a0)

abbrev Q00.J18 (b3 : Option Addr) (b4 b2 b6 az b5 ay : Nat) (b1 b0 au : Addr) (R : RW) (aw : World) : Prop :=
 Calls Try.prog 46 #[.pointer (some b0)] aw fun ax ar => ∃ (al : Int), ax = .returned (.int .i64 al) ∧
 bif al != 0 then (
 putsK ar au [.int .i64 0, .int .i64 0, .int .i64 0, .int .u64 0, .int .i64 0, .int .i64 0, .int .i64 0, .slice none 0 0, .int .u64 0, .int .i64 0, .int .i64 0, .int .u64 0, .int .i64 0, .int .i64 0, .int .i64 0, .slice none 0 0, .int .u64 0, .int .i64 0, .slice none 0 0, .int .u64 0] 0 fun av =>
 ∃ (ae a0 a8 ad ai ah a2 : Int) (a3 : Option Addr) (a4 ab : Nat) (ag a1 aa ac aj af a7 : Int) (a9 : Option Addr) (a5 a6 : Nat) (ak an : Int) (ap : Option Addr) (ao aq : Nat) (am : Int), cellsAt av au [.int .i64 ae, .int .i64 a0, .int .i64 a8, .int .u64 ad, .int .i64 ai, .int .i64 ah, .int .i64 a2, .slice a3 a4 ab, .int .u64 ag, .int .i64 a1, .int .i64 aa, .int .u64 ac, .int .i64 aj, .int .i64 af, .int .i64 a7, .slice a9 a5 a6, .int .u64 ak, .int .i64 an, .slice ap ao aq, .int .u64 am] 0 ∧
 R (.tuple #[.agg #[.int .i64 ae, .int .i64 a0, .int .i64 a8, .int .u64 ad, .int .i64 ai, .int .i64 ah, .int .i64 a2, .slice a3 a4 ab, .int .u64 ag, .int .i64 a1, .int .i64 aa, .int .u64 ac, .int .i64 aj, .int .i64 af, .int .i64 a7, .slice a9 a5 a6, .int .u64 ak, .int .i64 an, .slice ap ao aq, .int .u64 am], .int .i64 al]) av) else (
 Q00.J17 b3 b4 b2 b6 az b5 ay b1 au R ar)

abbrev Q00.J19 (d5 cz : Addr) (R : RW) (d2 : World) : Prop :=
 ∃ (cj ar bb bw ci c9 bs : Int) (b5 : Option Addr) (b4 b7 : Nat) (cd ap b8 c2 cf ce bc : Int) (bt : Option Addr) (bg ba : Nat) (cb cq : Int) (d1 : Option Addr) (cy d0 : Nat) (cs : Int), cellsAt d2 d5 [.int .i64 cj, .int .i64 ar, .int .i64 bb, .int .u64 bw, .int .i64 ci, .int .i64 c9, .int .i64 bs, .slice b5 b4 b7, .int .u64 cd, .int .i64 ap, .int .i64 b8, .int .u64 c2, .int .i64 cf, .int .i64 ce, .int .i64 bc, .slice bt bg ba, .int .u64 cb, .int .i64 cq, .slice d1 cy d0, .int .u64 cs] 0 ∧
 Calls Try.prog 19 #[.agg #[.int .i64 cj, .int .i64 ar, .int .i64 bb, .int .u64 bw, .int .i64 ci, .int .i64 c9, .int .i64 bs, .slice b5 b4 b7, .int .u64 cd, .int .i64 ap, .int .i64 b8, .int .u64 c2, .int .i64 cf, .int .i64 ce, .int .i64 bc, .slice bt bg ba, .int .u64 cb, .int .i64 cq, .slice d1 cy d0, .int .u64 cs]] d2 fun d6 cu => ∃ (cc : Bool), d6 = .returned (.bool cc) ∧
 bif !cc then (
 putsK cu cz [.int .i64 0, .int .i64 0, .int .i64 0, .int .u64 0, .int .i64 0, .int .i64 0, .int .i64 0, .slice none 0 0, .int .u64 0, .int .i64 0, .int .i64 0, .int .u64 0, .int .i64 0, .int .i64 0, .int .i64 0, .slice none 0 0, .int .u64 0, .int .i64 0, .slice none 0 0, .int .u64 0] 0 fun d4 =>
 ∃ (bq a2 a4 ax ay br ae : Int) (a5 : Option Addr) (ah aj : Nat) (az a3 ai av bh bp ad : Int) (aa : Option Addr) (ab a6 : Nat) (b2 c0 : Int) (c7 : Option Addr) (ch c5 : Nat) (c3 : Int), cellsAt d4 cz [.int .i64 bq, .int .i64 a2, .int .i64 a4, .int .u64 ax, .int .i64 ay, .int .i64 br, .int .i64 ae, .slice a5 ah aj, .int .u64 az, .int .i64 a3, .int .i64 ai, .int .u64 av, .int .i64 bh, .int .i64 bp, .int .i64 ad, .slice aa ab a6, .int .u64 b2, .int .i64 c0, .slice c7 ch c5, .int .u64 c3] 0 ∧
 R (.tuple #[.agg #[.int .i64 bq, .int .i64 a2, .int .i64 a4, .int .u64 ax, .int .i64 ay, .int .i64 br, .int .i64 ae, .slice a5 ah aj, .int .u64 az, .int .i64 a3, .int .i64 ai, .int .u64 av, .int .i64 bh, .int .i64 bp, .int .i64 ad, .slice aa ab a6, .int .u64 b2, .int .i64 c0, .slice c7 ch c5, .int .u64 c3], .int .i64 4]) d4) else (
 ∃ (cp ao b3 c1 c8 ca bl : Int) (bu : Option Addr) (bd bm : Nat) (cg au bf bx co ck b9 : Int) (bo : Option Addr) (b0 bi : Nat) (cm ct : Int) (cx : Option Addr) (cw cv : Nat) (cr : Int), cellsAt cu d5 [.int .i64 cp, .int .i64 ao, .int .i64 b3, .int .u64 c1, .int .i64 c8, .int .i64 ca, .int .i64 bl, .slice bu bd bm, .int .u64 cg, .int .i64 au, .int .i64 bf, .int .u64 bx, .int .i64 co, .int .i64 ck, .int .i64 b9, .slice bo b0 bi, .int .u64 cm, .int .i64 ct, .slice cx cw cv, .int .u64 cr] 0 ∧
 putsK cu cz [.int .i64 cp, .int .i64 ao, .int .i64 b3, .int .u64 c1, .int .i64 c8, .int .i64 ca, .int .i64 bl, .slice bu bd bm, .int .u64 cg, .int .i64 au, .int .i64 bf, .int .u64 bx, .int .i64 co, .int .i64 ck, .int .i64 b9, .slice bo b0 bi, .int .u64 cm, .int .i64 ct, .slice cx cw cv, .int .u64 cr] 0 fun d3 =>
 ∃ (be a1 ac aq bn bv a8 : Int) (a7 : Option Addr) (ag af : Nat) (b1 a0 al aw bj bk a9 : Int) (an : Option Addr) (ak am : Nat) (b6 c4 : Int) (cl : Option Addr) (cn c6 : Nat) (bz : Int), cellsAt d3 cz [.int .i64 be, .int .i64 a1, .int .i64 ac, .int .u64 aq, .int .i64 bn, .int .i64 bv, .int .i64 a8, .slice a7 ag af, .int .u64 b1, .int .i64 a0, .int .i64 al, .int .u64 aw, .int .i64 bj, .int .i64 bk, .int .i64 a9, .slice an ak am, .int .u64 b6, .int .i64 c4, .slice cl cn c6, .int .u64 bz] 0 ∧
 R (.tuple #[.agg #[.int .i64 be, .int .i64 a1, .int .i64 ac, .int .u64 aq, .int .i64 bn, .int .i64 bv, .int .i64 a8, .slice a7 ag af, .int .u64 b1, .int .i64 a0, .int .i64 al, .int .u64 aw, .int .i64 bj, .int .i64 bk, .int .i64 a9, .slice an ak am, .int .u64 b6, .int .i64 c4, .slice cl cn c6, .int .u64 bz], .int .i64 0]) d3)

abbrev Q00.J20 (b3 b4 : Nat) (ax az : Addr) (R : RW) (b2 : World) : Prop :=
 Calls Try.prog 48 #[.slice none b3 b4] b2 fun b0 aw => ∃ (au : Option Addr) (ap av : Nat) (al : Int), b0 = .returned (.tuple #[.slice au ap av, .int .i64 al]) ∧
 bif al != 0 then (
 putsK aw az [.int .i64 0, .int .i64 0, .int .i64 0, .int .u64 0, .int .i64 0, .int .i64 0, .int .i64 0, .slice none 0 0, .int .u64 0, .int .i64 0, .int .i64 0, .int .u64 0, .int .i64 0, .int .i64 0, .int .i64 0, .slice none 0 0, .int .u64 0, .int .i64 0, .slice none 0 0, .int .u64 0] 0 fun ay =>
 ∃ (ae a0 aa ad ah ag a9 : Int) (a7 : Option Addr) (a2 a5 : Nat) (ak a1 ab ac ai aj a4 : Int) (a3 : Option Addr) (a6 a8 : Nat) (af am : Int) (ao : Option Addr) (aq ar : Nat) (an : Int), cellsAt ay az [.int .i64 ae, .int .i64 a0, .int .i64 aa, .int .u64 ad, .int .i64 ah, .int .i64 ag, .int .i64 a9, .slice a7 a2 a5, .int .u64 ak, .int .i64 a1, .int .i64 ab, .int .u64 ac, .int .i64 ai, .int .i64 aj, .int .i64 a4, .slice a3 a6 a8, .int .u64 af, .int .i64 am, .slice ao aq ar, .int .u64 an] 0 ∧
 R (.tuple #[.agg #[.int .i64 ae, .int .i64 a0, .int .i64 aa, .int .u64 ad, .int .i64 ah, .int .i64 ag, .int .i64 a9, .slice a7 a2 a5, .int .u64 ak, .int .i64 a1, .int .i64 ab, .int .u64 ac, .int .i64 ai, .int .i64 aj, .int .i64 a4, .slice a3 a6 a8, .int .u64 af, .int .i64 am, .slice ao aq ar, .int .u64 an], .int .i64 al]) ay) else (
 Q01 aw ((ax.add 18).add 0) ∧
 thenW (aw.setCell ((ax.add 18).add 0) (.slice au ap av)) fun b1 =>
 Q00.J19 ax az R b1)

abbrev Q00.J21 (b5 : Bool) (b3 b4 : Nat) (ax ay : Addr) (R : RW) (b0 : World) : Prop :=
 bif b5 then (
 Calls Try.prog 48 #[.slice none b3 b4] b0 fun b1 aw => ∃ (ao : Option Addr) (av ap : Nat) (am : Int), b1 = .returned (.tuple #[.slice ao av ap, .int .i64 am]) ∧
 bif am != 0 then (
 putsK aw ay [.int .i64 0, .int .i64 0, .int .i64 0, .int .u64 0, .int .i64 0, .int .i64 0, .int .i64 0, .slice none 0 0, .int .u64 0, .int .i64 0, .int .i64 0, .int .u64 0, .int .i64 0, .int .i64 0, .int .i64 0, .slice none 0 0, .int .u64 0, .int .i64 0, .slice none 0 0, .int .u64 0] 0 fun az =>
 ∃ (aj a1 a9 ac ak af a8 : Int) (a7 : Option Addr) (aa a2 : Nat) (ag a0 a4 ad ae ah ab : Int) (a6 : Option Addr) (a3 a5 : Nat) (ai al : Int) (au : Option Addr) (ar aq : Nat) (an : Int), cellsAt az ay [.int .i64 aj, .int .i64 a1, .int .i64 a9, .int .u64 ac, .int .i64 ak, .int .i64 af, .int .i64 a8, .slice a7 aa a2, .int .u64 ag, .int .i64 a0, .int .i64 a4, .int .u64 ad, .int .i64 ae, .int .i64 ah, .int .i64 ab, .slice a6 a3 a5, .int .u64 ai, .int .i64 al, .slice au ar aq, .int .u64 an] 0 ∧
 R (.tuple #[.agg #[.int .i64 aj, .int .i64 a1, .int .i64 a9, .int .u64 ac, .int .i64 ak, .int .i64 af, .int .i64 a8, .slice a7 aa a2, .int .u64 ag, .int .i64 a0, .int .i64 a4, .int .u64 ad, .int .i64 ae, .int .i64 ah, .int .i64 ab, .slice a6 a3 a5, .int .u64 ai, .int .i64 al, .slice au ar aq, .int .u64 an], .int .i64 am]) az) else (
 Q01 aw ((ax.add 18).add 0) ∧
 thenW (aw.setCell ((ax.add 18).add 0) (.slice ao av ap)) fun b2 =>
 Q00.J19 ax ay R b2)) else (
 Q00.J19 ax ay R b0)

abbrev Q00.J22 (a4 a5 : Nat) (a3 a6 : Addr) (R : RW) (a0 : World) : Prop :=
 ∃ (a2 : Int), a0.cell? (a3.add 0) = some (.int .i64 a2) ∧
 bif a2 == 2 then (
 Q00.J20 a4 a5 a3 a6 R a0) else (
 ∃ (a1 : Int), a0.cell? (a3.add 0) = some (.int .i64 a1) ∧
 Q00.J21 (a1 == 3) a4 a5 a3 a6 R a0)

abbrev Q00.J23 (bw : Option Addr) (bz bx br bs : Nat) (a0 bg : Addr) (R : RW) (bd : World) : Prop :=
 ∃ (bb : Int), bd.cell? (a0.add 0) = some (.int .i64 bb) ∧
 bif bb == 4 then (
 Calls Try.prog 47 #[.slice bw bz bx] bd fun bu be => ∃ (aq ay bc bi bf b5 : Int) (az : Option Addr) (b2 b6 : Nat) (bh ap : Int), bu = .returned (.tuple #[.agg #[.int .i64 aq, .int .i64 ay, .int .u64 bc, .int .i64 bi, .int .i64 bf, .int .i64 b5, .slice az b2 b6, .int .u64 bh], .int .i64 ap]) ∧
 thenW (be.alloc (.cells #[.int .i64 0, .int .i64 0, .int .u64 0, .int .i64 0, .int .i64 0, .int .i64 0, .slice none 0 0, .int .u64 0] 27)) fun bv =>
 putsK bv (blk be.heap.size) [.int .i64 aq, .int .i64 ay, .int .u64 bc, .int .i64 bi, .int .i64 bf, .int .i64 b5, .slice az b2 b6, .int .u64 bh] 0 fun b7 =>
 bif ap != 0 then (
 putsK b7 bg [.int .i64 0, .int .i64 0, .int .i64 0, .int .u64 0, .int .i64 0, .int .i64 0, .int .i64 0, .slice none 0 0, .int .u64 0, .int .i64 0, .int .i64 0, .int .u64 0, .int .i64 0, .int .i64 0, .int .i64 0, .slice none 0 0, .int .u64 0, .int .i64 0, .slice none 0 0, .int .u64 0] 0 fun bj =>
 ∃ (ai a2 a8 ae ag al aa : Int) (a9 : Option Addr) (ab a3 : Nat) (am a1 a4 ad af ak a6 : Int) (a5 : Option Addr) (ac a7 : Nat) (aj an : Int) (b4 : Option Addr) (b0 b1 : Nat) (aw : Int), cellsAt bj bg [.int .i64 ai, .int .i64 a2, .int .i64 a8, .int .u64 ae, .int .i64 ag, .int .i64 al, .int .i64 aa, .slice a9 ab a3, .int .u64 am, .int .i64 a1, .int .i64 a4, .int .u64 ad, .int .i64 af, .int .i64 ak, .int .i64 a6, .slice a5 ac a7, .int .u64 aj, .int .i64 an, .slice b4 b0 b1, .int .u64 aw] 0 ∧
 R (.tuple #[.agg #[.int .i64 ai, .int .i64 a2, .int .i64 a8, .int .u64 ae, .int .i64 ag, .int .i64 al, .int .i64 aa, .slice a9 ab a3, .int .u64 am, .int .i64 a1, .int .i64 a4, .int .u64 ad, .int .i64 af, .int .i64 ak, .int .i64 a6, .slice a5 ac a7, .int .u64 aj, .int .i64 an, .slice b4 b0 b1, .int .u64 aw], .int .i64 ap]) bj) else (
 ∃ (ah av b3 b8 b9 ao : Int) (au : Option Addr) (ax ar : Nat) (ba : Int), cellsAt b7 (blk be.heap.size) [.int .i64 ah, .int .i64 av, .int .u64 b3, .int .i64 b8, .int .i64 b9, .int .i64 ao, .slice au ax ar, .int .u64 ba] 0 ∧
 Q01 b7 ((a0.add 9).add 0) ∧
 thenW (b7.setCell ((a0.add 9).add 0) (.int .i64 ah)) fun bn =>
 Q01 bn ((a0.add 9).add 1) ∧
 thenW (bn.setCell ((a0.add 9).add 1) (.int .i64 av)) fun bo =>
 Q01 bo ((a0.add 9).add 2) ∧
 thenW (bo.setCell ((a0.add 9).add 2) (.int .u64 b3)) fun bq =>
 Q01 bq ((a0.add 9).add 3) ∧
 thenW (bq.setCell ((a0.add 9).add 3) (.int .i64 b8)) fun bl =>
 Q01 bl ((a0.add 9).add 4) ∧
 thenW (bl.setCell ((a0.add 9).add 4) (.int .i64 b9)) fun bk =>
 Q01 bk ((a0.add 9).add 5) ∧
 thenW (bk.setCell ((a0.add 9).add 5) (.int .i64 ao)) fun bm =>
 Q01 bm ((a0.add 9).add 6) ∧
 thenW (bm.setCell ((a0.add 9).add 6) (.slice au ax ar)) fun bp =>
 Q01 bp ((a0.add 9).add 7) ∧
 thenW (bp.setCell ((a0.add 9).add 7) (.int .u64 ba)) fun bt =>
 Q00.J22 br bs a0 bg R bt)) else (
 Q00.J22 br bs a0 bg R bd)

abbrev Q00.J24 (c0 : Option Addr) (bu bw : Nat) (bx : Option Addr) (c1 bt bz bv : Nat) (a0 bk : Addr) (R : RW) (br : World) : Prop :=
 Calls Try.prog 47 #[.slice bx c1 bt] br fun bq bc => ∃ (av b1 ba bf bd b4 : Int) (b6 : Option Addr) (b5 az : Nat) (be ao : Int), bq = .returned (.tuple #[.agg #[.int .i64 av, .int .i64 b1, .int .u64 ba, .int .i64 bf, .int .i64 bd, .int .i64 b4, .slice b6 b5 az, .int .u64 be], .int .i64 ao]) ∧
 thenW (bc.alloc (.cells #[.int .i64 0, .int .i64 0, .int .u64 0, .int .i64 0, .int .i64 0, .int .i64 0, .slice none 0 0, .int .u64 0] 27)) fun bp =>
 putsK bp (blk bc.heap.size) [.int .i64 av, .int .i64 b1, .int .u64 ba, .int .i64 bf, .int .i64 bd, .int .i64 b4, .slice b6 b5 az, .int .u64 be] 0 fun b7 =>
 bif ao != 0 then (
 putsK b7 bk [.int .i64 0, .int .i64 0, .int .i64 0, .int .u64 0, .int .i64 0, .int .i64 0, .int .i64 0, .slice none 0 0, .int .u64 0, .int .i64 0, .int .i64 0, .int .u64 0, .int .i64 0, .int .i64 0, .int .i64 0, .slice none 0 0, .int .u64 0, .int .i64 0, .slice none 0 0, .int .u64 0] 0 fun bn =>
 ∃ (aj a2 a6 ad ak ah a7 : Int) (a5 : Option Addr) (ab a3 : Nat) (af a1 ac ae ai al a4 : Int) (a8 : Option Addr) (aa a9 : Nat) (am au : Int) (b0 : Option Addr) (b3 b2 : Nat) (aq : Int), cellsAt bn bk [.int .i64 aj, .int .i64 a2, .int .i64 a6, .int .u64 ad, .int .i64 ak, .int .i64 ah, .int .i64 a7, .slice a5 ab a3, .int .u64 af, .int .i64 a1, .int .i64 ac, .int .u64 ae, .int .i64 ai, .int .i64 al, .int .i64 a4, .slice a8 aa a9, .int .u64 am, .int .i64 au, .slice b0 b3 b2, .int .u64 aq] 0 ∧
 R (.tuple #[.agg #[.int .i64 aj, .int .i64 a2, .int .i64 a6, .int .u64 ad, .int .i64 ak, .int .i64 ah, .int .i64 a7, .slice a5 ab a3, .int .u64 af, .int .i64 a1, .int .i64 ac, .int .u64 ae, .int .i64 ai, .int .i64 al, .int .i64 a4, .slice a8 aa a9, .int .u64 am, .int .i64 au, .slice b0 b3 b2, .int .u64 aq], .int .i64 ao]) bn) else (
 ∃ (ag aw ay bb b8 an : Int) (ax : Option Addr) (ap ar : Nat) (b9 : Int), cellsAt b7 (blk bc.heap.size) [.int .i64 ag, .int .i64 aw, .int .u64 ay, .int .i64 bb, .int .i64 b8, .int .i64 an, .slice ax ap ar, .int .u64 b9] 0 ∧
 Q01 b7 ((a0.add 1).add 0) ∧
 thenW (b7.setCell ((a0.add 1).add 0) (.int .i64 ag)) fun bm =>
 Q01 bm ((a0.add 1).add 1) ∧
 thenW (bm.setCell ((a0.add 1).add 1) (.int .i64 aw)) fun bg =>
 Q01 bg ((a0.add 1).add 2) ∧
 thenW (bg.setCell ((a0.add 1).add 2) (.int .u64 ay)) fun bo =>
 Q01 bo ((a0.add 1).add 3) ∧
 thenW (bo.setCell ((a0.add 1).add 3) (.int .i64 bb)) fun bh =>
 Q01 bh ((a0.add 1).add 4) ∧
 thenW (bh.setCell ((a0.add 1).add 4) (.int .i64 b8)) fun bi =>
 Q01 bi ((a0.add 1).add 5) ∧
 thenW (bi.setCell ((a0.add 1).add 5) (.int .i64 an)) fun bj =>
 Q01 bj ((a0.add 1).add 6) ∧
 thenW (bj.setCell ((a0.add 1).add 6) (.slice ax ap ar)) fun bl =>
 Q01 bl ((a0.add 1).add 7) ∧
 thenW (bl.setCell ((a0.add 1).add 7) (.int .u64 b9)) fun bs =>
 Q00.J23 c0 bu bw bz bv a0 bk R bs)

abbrev Q00.J25 (c2 : Bool) (bs : Option Addr) (br bu : Nat) (c1 : Option Addr) (bz c0 bt bq : Nat) (a0 be : Addr) (R : RW) (bo : World) : Prop :=
 bif c2 then (
 Calls Try.prog 47 #[.slice c1 bz c0] bo fun bx bc => ∃ (aq b6 b9 bg bd b2 : Int) (b5 : Option Addr) (b0 az : Nat) (bf ao : Int), bx = .returned (.tuple #[.agg #[.int .i64 aq, .int .i64 b6, .int .u64 b9, .int .i64 bg, .int .i64 bd, .int .i64 b2, .slice b5 b0 az, .int .u64 bf], .int .i64 ao]) ∧
 thenW (bc.alloc (.cells #[.int .i64 0, .int .i64 0, .int .u64 0, .int .i64 0, .int .i64 0, .int .i64 0, .slice none 0 0, .int .u64 0] 27)) fun bw =>
 putsK bw (blk bc.heap.size) [.int .i64 aq, .int .i64 b6, .int .u64 b9, .int .i64 bg, .int .i64 bd, .int .i64 b2, .slice b5 b0 az, .int .u64 bf] 0 fun b7 =>
 bif ao != 0 then (
 putsK b7 be [.int .i64 0, .int .i64 0, .int .i64 0, .int .u64 0, .int .i64 0, .int .i64 0, .int .i64 0, .slice none 0 0, .int .u64 0, .int .i64 0, .int .i64 0, .int .u64 0, .int .i64 0, .int .i64 0, .int .i64 0, .slice none 0 0, .int .u64 0, .int .i64 0, .slice none 0 0, .int .u64 0] 0 fun bp =>
 ∃ (aj a2 a7 ae am ag a4 : Int) (a5 : Option Addr) (a8 a3 : Nat) (al a1 ab ad ah af a9 : Int) (aa : Option Addr) (a6 ac : Nat) (ak ax : Int) (b3 : Option Addr) (b4 b1 : Nat) (ap : Int), cellsAt bp be [.int .i64 aj, .int .i64 a2, .int .i64 a7, .int .u64 ae, .int .i64 am, .int .i64 ag, .int .i64 a4, .slice a5 a8 a3, .int .u64 al, .int .i64 a1, .int .i64 ab, .int .u64 ad, .int .i64 ah, .int .i64 af, .int .i64 a9, .slice aa a6 ac, .int .u64 ak, .int .i64 ax, .slice b3 b4 b1, .int .u64 ap] 0 ∧
 R (.tuple #[.agg #[.int .i64 aj, .int .i64 a2, .int .i64 a7, .int .u64 ae, .int .i64 am, .int .i64 ag, .int .i64 a4, .slice a5 a8 a3, .int .u64 al, .int .i64 a1, .int .i64 ab, .int .u64 ad, .int .i64 ah, .int .i64 af, .int .i64 a9, .slice aa a6 ac, .int .u64 ak, .int .i64 ax, .slice b3 b4 b1, .int .u64 ap], .int .i64 ao]) bp) else (
 ∃ (ai au ay ba b8 av : Int) (an : Option Addr) (ar aw : Nat) (bb : Int), cellsAt b7 (blk bc.heap.size) [.int .i64 ai, .int .i64 au, .int .u64 ay, .int .i64 ba, .int .i64 b8, .int .i64 av, .slice an ar aw, .int .u64 bb] 0 ∧
 Q01 b7 ((a0.add 1).add 0) ∧
 thenW (b7.setCell ((a0.add 1).add 0) (.int .i64 ai)) fun bl =>
 Q01 bl ((a0.add 1).add 1) ∧
 thenW (bl.setCell ((a0.add 1).add 1) (.int .i64 au)) fun bh =>
 Q01 bh ((a0.add 1).add 2) ∧
 thenW (bh.setCell ((a0.add 1).add 2) (.int .u64 ay)) fun bi =>
 Q01 bi ((a0.add 1).add 3) ∧
 thenW (bi.setCell ((a0.add 1).add 3) (.int .i64 ba)) fun bm =>
 Q01 bm ((a0.add 1).add 4) ∧
 thenW (bm.setCell ((a0.add 1).add 4) (.int .i64 b8)) fun bj =>
 Q01 bj ((a0.add 1).add 5) ∧
 thenW (bj.setCell ((a0.add 1).add 5) (.int .i64 av)) fun bk =>
 Q01 bk ((a0.add 1).add 6) ∧
 thenW (bk.setCell ((a0.add 1).add 6) (.slice an ar aw)) fun bn =>
 Q01 bn ((a0.add 1).add 7) ∧
 thenW (bn.setCell ((a0.add 1).add 7) (.int .u64 bb)) fun bv =>
 Q00.J23 bs br bu bt bq a0 be R bv)) else (
 Q00.J23 bs br bu bt bq a0 be R bo)

abbrev Q00.J26 (a5 : Option Addr) (ab a8 : Nat) (a4 : Option Addr) (a9 aa a7 ac : Nat) (a3 a6 : Addr) (R : RW) (a0 : World) : Prop :=
 ∃ (a1 : Int), a0.cell? (a3.add 0) = some (.int .i64 a1) ∧
 bif a1 == 1 then (
 Q00.J24 a5 ab a8 a4 a9 aa a7 ac a3 a6 R a0) else (
 ∃ (a2 : Int), a0.cell? (a3.add 0) = some (.int .i64 a2) ∧
 Q00.J25 (a2 == 4) a5 ab a8 a4 a9 aa a7 ac a3 a6 R a0)

abbrev Q00.J27 (az : Option Addr) (b5 b6 : Nat) (b2 : Option Addr) (b1 b7 b4 b3 : Nat) (ay b0 ar : Addr) (R : RW) (aw : World) : Prop :=
 Calls Try.prog 46 #[.pointer (some b0)] aw fun ax au => ∃ (al : Int), ax = .returned (.int .i64 al) ∧
 bif al != 0 then (
 putsK au ar [.int .i64 0, .int .i64 0, .int .i64 0, .int .u64 0, .int .i64 0, .int .i64 0, .int .i64 0, .slice none 0 0, .int .u64 0, .int .i64 0, .int .i64 0, .int .u64 0, .int .i64 0, .int .i64 0, .int .i64 0, .slice none 0 0, .int .u64 0, .int .i64 0, .slice none 0 0, .int .u64 0] 0 fun av =>
 ∃ (ae a1 aa ad af aj a6 : Int) (a2 : Option Addr) (ab a4 : Nat) (ak a0 a8 ac ah ag a9 : Int) (a5 : Option Addr) (a7 a3 : Nat) (ai an : Int) (ao : Option Addr) (ap aq : Nat) (am : Int), cellsAt av ar [.int .i64 ae, .int .i64 a1, .int .i64 aa, .int .u64 ad, .int .i64 af, .int .i64 aj, .int .i64 a6, .slice a2 ab a4, .int .u64 ak, .int .i64 a0, .int .i64 a8, .int .u64 ac, .int .i64 ah, .int .i64 ag, .int .i64 a9, .slice a5 a7 a3, .int .u64 ai, .int .i64 an, .slice ao ap aq, .int .u64 am] 0 ∧
 R (.tuple #[.agg #[.int .i64 ae, .int .i64 a1, .int .i64 aa, .int .u64 ad, .int .i64 af, .int .i64 aj, .int .i64 a6, .slice a2 ab a4, .int .u64 ak, .int .i64 a0, .int .i64 a8, .int .u64 ac, .int .i64 ah, .int .i64 ag, .int .i64 a9, .slice a5 a7 a3, .int .u64 ai, .int .i64 an, .slice ao ap aq, .int .u64 am], .int .i64 al]) av) else (
 Q00.J26 az b5 b6 b2 b1 b7 b4 b3 ay ar R au)

abbrev Q00.J28 (d5 cy : Addr) (R : RW) (d3 : World) : Prop :=
 ∃ (cg ax b5 bz c7 ci bs : Int) (ba : Option Addr) (bu az : Nat) (cl ap br c2 cd cb ay : Int) (bk : Option Addr) (b9 bn : Nat) (ca cq : Int) (cz : Option Addr) (cx cw : Nat) (cs : Int), cellsAt d3 d5 [.int .i64 cg, .int .i64 ax, .int .i64 b5, .int .u64 bz, .int .i64 c7, .int .i64 ci, .int .i64 bs, .slice ba bu az, .int .u64 cl, .int .i64 ap, .int .i64 br, .int .u64 c2, .int .i64 cd, .int .i64 cb, .int .i64 ay, .slice bk b9 bn, .int .u64 ca, .int .i64 cq, .slice cz cx cw, .int .u64 cs] 0 ∧
 Calls Try.prog 19 #[.agg #[.int .i64 cg, .int .i64 ax, .int .i64 b5, .int .u64 bz, .int .i64 c7, .int .i64 ci, .int .i64 bs, .slice ba bu az, .int .u64 cl, .int .i64 ap, .int .i64 br, .int .u64 c2, .int .i64 cd, .int .i64 cb, .int .i64 ay, .slice bk b9 bn, .int .u64 ca, .int .i64 cq, .slice cz cx cw, .int .u64 cs]] d3 fun d6 cu => ∃ (c8 : Bool), d6 = .returned (.bool c8) ∧
 bif !c8 then (
 putsK cu cy [.int .i64 0, .int .i64 0, .int .i64 0, .int .u64 0, .int .i64 0, .int .i64 0, .int .i64 0, .slice none 0 0, .int .u64 0, .int .i64 0, .int .i64 0, .int .u64 0, .int .i64 0, .int .i64 0, .int .i64 0, .slice none 0 0, .int .u64 0, .int .i64 0, .slice none 0 0, .int .u64 0] 0 fun d4 =>
 ∃ (bi a3 a8 au b6 bj al : Int) (af : Option Addr) (a4 a9 : Nat) (be a1 aj aq bt b3 a6 : Int) (a7 : Option Addr) (aa ab : Nat) (b2 c3 : Int) (cj : Option Addr) (cc c9 : Nat) (c0 : Int), cellsAt d4 cy [.int .i64 bi, .int .i64 a3, .int .i64 a8, .int .u64 au, .int .i64 b6, .int .i64 bj, .int .i64 al, .slice af a4 a9, .int .u64 be, .int .i64 a1, .int .i64 aj, .int .u64 aq, .int .i64 bt, .int .i64 b3, .int .i64 a6, .slice a7 aa ab, .int .u64 b2, .int .i64 c3, .slice cj cc c9, .int .u64 c0] 0 ∧
 R (.tuple #[.agg #[.int .i64 bi, .int .i64 a3, .int .i64 a8, .int .u64 au, .int .i64 b6, .int .i64 bj, .int .i64 al, .slice af a4 a9, .int .u64 be, .int .i64 a1, .int .i64 aj, .int .u64 aq, .int .i64 bt, .int .i64 b3, .int .i64 a6, .slice a7 aa ab, .int .u64 b2, .int .i64 c3, .slice cj cc c9, .int .u64 c0], .int .i64 4]) d4) else (
 ∃ (ck av b0 c4 co c5 bb : Int) (b4 : Option Addr) (b7 bq : Nat) (cn ao bl bx cf c6 bd : Int) (b1 : Option Addr) (bg bf : Nat) (ce ct : Int) (d1 : Option Addr) (d0 cv : Nat) (cr : Int), cellsAt cu d5 [.int .i64 ck, .int .i64 av, .int .i64 b0, .int .u64 c4, .int .i64 co, .int .i64 c5, .int .i64 bb, .slice b4 b7 bq, .int .u64 cn, .int .i64 ao, .int .i64 bl, .int .u64 bx, .int .i64 cf, .int .i64 c6, .int .i64 bd, .slice b1 bg bf, .int .u64 ce, .int .i64 ct, .slice d1 d0 cv, .int .u64 cr] 0 ∧
 putsK cu cy [.int .i64 ck, .int .i64 av, .int .i64 b0, .int .u64 c4, .int .i64 co, .int .i64 c5, .int .i64 bb, .slice b4 b7 bq, .int .u64 cn, .int .i64 ao, .int .i64 bl, .int .u64 bx, .int .i64 cf, .int .i64 c6, .int .i64 bd, .slice b1 bg bf, .int .u64 ce, .int .i64 ct, .slice d1 d0 cv, .int .u64 cr] 0 fun d2 =>
 ∃ (bh a0 am ar b8 bm an : Int) (ak : Option Addr) (ae a5 : Nat) (bo a2 ac aw bc bv ah : Int) (ad : Option Addr) (ag ai : Nat) (bp c1 : Int) (cp : Option Addr) (ch cm : Nat) (bw : Int), cellsAt d2 cy [.int .i64 bh, .int .i64 a0, .int .i64 am, .int .u64 ar, .int .i64 b8, .int .i64 bm, .int .i64 an, .slice ak ae a5, .int .u64 bo, .int .i64 a2, .int .i64 ac, .int .u64 aw, .int .i64 bc, .int .i64 bv, .int .i64 ah, .slice ad ag ai, .int .u64 bp, .int .i64 c1, .slice cp ch cm, .int .u64 bw] 0 ∧
 R (.tuple #[.agg #[.int .i64 bh, .int .i64 a0, .int .i64 am, .int .u64 ar, .int .i64 b8, .int .i64 bm, .int .i64 an, .slice ak ae a5, .int .u64 bo, .int .i64 a2, .int .i64 ac, .int .u64 aw, .int .i64 bc, .int .i64 bv, .int .i64 ah, .slice ad ag ai, .int .u64 bp, .int .i64 c1, .slice cp ch cm, .int .u64 bw], .int .i64 0]) d2)

abbrev Q00.J29 (b3 b4 : Nat) (ax az : Addr) (R : RW) (b0 : World) : Prop :=
 Calls Try.prog 48 #[.slice none b3 b4] b0 fun b1 aw => ∃ (ao : Option Addr) (av aq : Nat) (al : Int), b1 = .returned (.tuple #[.slice ao av aq, .int .i64 al]) ∧
 bif al != 0 then (
 putsK aw az [.int .i64 0, .int .i64 0, .int .i64 0, .int .u64 0, .int .i64 0, .int .i64 0, .int .i64 0, .slice none 0 0, .int .u64 0, .int .i64 0, .int .i64 0, .int .u64 0, .int .i64 0, .int .i64 0, .int .i64 0, .slice none 0 0, .int .u64 0, .int .i64 0, .slice none 0 0, .int .u64 0] 0 fun ay =>
 ∃ (ai a0 aa ac ah af a7 : Int) (a6 : Option Addr) (a5 a9 : Nat) (ak a1 a2 ad aj ag a4 : Int) (a8 : Option Addr) (ab a3 : Nat) (ae an : Int) (au : Option Addr) (ar ap : Nat) (am : Int), cellsAt ay az [.int .i64 ai, .int .i64 a0, .int .i64 aa, .int .u64 ac, .int .i64 ah, .int .i64 af, .int .i64 a7, .slice a6 a5 a9, .int .u64 ak, .int .i64 a1, .int .i64 a2, .int .u64 ad, .int .i64 aj, .int .i64 ag, .int .i64 a4, .slice a8 ab a3, .int .u64 ae, .int .i64 an, .slice au ar ap, .int .u64 am] 0 ∧
 R (.tuple #[.agg #[.int .i64 ai, .int .i64 a0, .int .i64 aa, .int .u64 ac, .int .i64 ah, .int .i64 af, .int .i64 a7, .slice a6 a5 a9, .int .u64 ak, .int .i64 a1, .int .i64 a2, .int .u64 ad, .int .i64 aj, .int .i64 ag, .int .i64 a4, .slice a8 ab a3, .int .u64 ae, .int .i64 an, .slice au ar ap, .int .u64 am], .int .i64 al]) ay) else (
 Q01 aw ((ax.add 18).add 0) ∧
 thenW (aw.setCell ((ax.add 18).add 0) (.slice ao av aq)) fun b2 =>
 Q00.J28 ax az R b2)

abbrev Q00.J30 (b4 : Bool) (b5 b3 : Nat) (ax ay : Addr) (R : RW) (az : World) : Prop :=
 bif b4 then (
 Calls Try.prog 48 #[.slice none b5 b3] az fun b2 aw => ∃ (av : Option Addr) (aq ap : Nat) (al : Int), b2 = .returned (.tuple #[.slice av aq ap, .int .i64 al]) ∧
 bif al != 0 then (
 putsK aw ay [.int .i64 0, .int .i64 0, .int .i64 0, .int .u64 0, .int .i64 0, .int .i64 0, .int .i64 0, .slice none 0 0, .int .u64 0, .int .i64 0, .int .i64 0, .int .u64 0, .int .i64 0, .int .i64 0, .int .i64 0, .slice none 0 0, .int .u64 0, .int .i64 0, .slice none 0 0, .int .u64 0] 0 fun b0 =>
 ∃ (ag a1 a6 ac af ae a4 : Int) (a5 : Option Addr) (a9 a7 : Nat) (ai a0 a3 ad aj ak a2 : Int) (ab : Option Addr) (aa a8 : Nat) (ah am : Int) (ar : Option Addr) (ao au : Nat) (an : Int), cellsAt b0 ay [.int .i64 ag, .int .i64 a1, .int .i64 a6, .int .u64 ac, .int .i64 af, .int .i64 ae, .int .i64 a4, .slice a5 a9 a7, .int .u64 ai, .int .i64 a0, .int .i64 a3, .int .u64 ad, .int .i64 aj, .int .i64 ak, .int .i64 a2, .slice ab aa a8, .int .u64 ah, .int .i64 am, .slice ar ao au, .int .u64 an] 0 ∧
 R (.tuple #[.agg #[.int .i64 ag, .int .i64 a1, .int .i64 a6, .int .u64 ac, .int .i64 af, .int .i64 ae, .int .i64 a4, .slice a5 a9 a7, .int .u64 ai, .int .i64 a0, .int .i64 a3, .int .u64 ad, .int .i64 aj, .int .i64 ak, .int .i64 a2, .slice ab aa a8, .int .u64 ah, .int .i64 am, .slice ar ao au, .int .u64 an], .int .i64 al]) b0) else (
 Q01 aw ((ax.add 18).add 0) ∧
 thenW (aw.setCell ((ax.add 18).add 0) (.slice av aq ap)) fun b1 =>
 Q00.J28 ax ay R b1)) else (
 Q00.J28 ax ay R az)

abbrev Q00.J31 (a6 a4 : Nat) (a3 a5 : Addr) (R : RW) (a0 : World) : Prop :=
 ∃ (a1 : Int), a0.cell? (a3.add 0) = some (.int .i64 a1) ∧
 bif a1 == 2 then (
 Q00.J29 a6 a4 a3 a5 R a0) else (
 ∃ (a2 : Int), a0.cell? (a3.add 0) = some (.int .i64 a2) ∧
 Q00.J30 (a2 == 3) a6 a4 a3 a5 R a0)

abbrev Q00.J32 (br bs bw bx : Nat) (a0 bf : Addr) (R : RW) (be : World) : Prop :=
 ∃ (b8 : Int), be.cell? (a0.add 0) = some (.int .i64 b8) ∧
 bif b8 == 4 then (
 Calls Try.prog 47 #[.slice none bw bx] be fun bv bd => ∃ (an b5 ba bh bg az : Int) (b3 : Option Addr) (b4 b0 : Nat) (bi av : Int), bv = .returned (.tuple #[.agg #[.int .i64 an, .int .i64 b5, .int .u64 ba, .int .i64 bh, .int .i64 bg, .int .i64 az, .slice b3 b4 b0, .int .u64 bi], .int .i64 av]) ∧
 thenW (bd.alloc (.cells #[.int .i64 0, .int .i64 0, .int .u64 0, .int .i64 0, .int .i64 0, .int .i64 0, .slice none 0 0, .int .u64 0] 27)) fun bu =>
 putsK bu (blk bd.heap.size) [.int .i64 an, .int .i64 b5, .int .u64 ba, .int .i64 bh, .int .i64 bg, .int .i64 az, .slice b3 b4 b0, .int .u64 bi] 0 fun b7 =>
 bif av != 0 then (
 putsK b7 bf [.int .i64 0, .int .i64 0, .int .i64 0, .int .u64 0, .int .i64 0, .int .i64 0, .int .i64 0, .slice none 0 0, .int .u64 0, .int .i64 0, .int .i64 0, .int .u64 0, .int .i64 0, .int .i64 0, .int .i64 0, .slice none 0 0, .int .u64 0, .int .i64 0, .slice none 0 0, .int .u64 0] 0 fun bj =>
 ∃ (am a1 a6 ad ak ah a9 : Int) (a3 : Option Addr) (a7 ab : Nat) (af a2 aa ae ag aj a8 : Int) (a5 : Option Addr) (ac a4 : Nat) (ai aq : Int) (b2 : Option Addr) (b6 b1 : Nat) (ax : Int), cellsAt bj bf [.int .i64 am, .int .i64 a1, .int .i64 a6, .int .u64 ad, .int .i64 ak, .int .i64 ah, .int .i64 a9, .slice a3 a7 ab, .int .u64 af, .int .i64 a2, .int .i64 aa, .int .u64 ae, .int .i64 ag, .int .i64 aj, .int .i64 a8, .slice a5 ac a4, .int .u64 ai, .int .i64 aq, .slice b2 b6 b1, .int .u64 ax] 0 ∧
 R (.tuple #[.agg #[.int .i64 am, .int .i64 a1, .int .i64 a6, .int .u64 ad, .int .i64 ak, .int .i64 ah, .int .i64 a9, .slice a3 a7 ab, .int .u64 af, .int .i64 a2, .int .i64 aa, .int .u64 ae, .int .i64 ag, .int .i64 aj, .int .i64 a8, .slice a5 ac a4, .int .u64 ai, .int .i64 aq, .slice b2 b6 b1, .int .u64 ax], .int .i64 av]) bj) else (
 ∃ (al ap ay bc b9 aw : Int) (ao : Option Addr) (ar au : Nat) (bb : Int), cellsAt b7 (blk bd.heap.size) [.int .i64 al, .int .i64 ap, .int .u64 ay, .int .i64 bc, .int .i64 b9, .int .i64 aw, .slice ao ar au, .int .u64 bb] 0 ∧
 Q01 b7 ((a0.add 9).add 0) ∧
 thenW (b7.setCell ((a0.add 9).add 0) (.int .i64 al)) fun bk =>
 Q01 bk ((a0.add 9).add 1) ∧
 thenW (bk.setCell ((a0.add 9).add 1) (.int .i64 ap)) fun bq =>
 Q01 bq ((a0.add 9).add 2) ∧
 thenW (bq.setCell ((a0.add 9).add 2) (.int .u64 ay)) fun bm =>
 Q01 bm ((a0.add 9).add 3) ∧
 thenW (bm.setCell ((a0.add 9).add 3) (.int .i64 bc)) fun bn =>
 Q01 bn ((a0.add 9).add 4) ∧
 thenW (bn.setCell ((a0.add 9).add 4) (.int .i64 b9)) fun bl =>
 Q01 bl ((a0.add 9).add 5) ∧
 thenW (bl.setCell ((a0.add 9).add 5) (.int .i64 aw)) fun bp =>
 Q01 bp ((a0.add 9).add 6) ∧
 thenW (bp.setCell ((a0.add 9).add 6) (.slice ao ar au)) fun bo =>
 Q01 bo ((a0.add 9).add 7) ∧
 thenW (bo.setCell ((a0.add 9).add 7) (.int .u64 bb)) fun bt =>
 Q00.J31 br bs a0 bf R bt)) else (
 Q00.J31 br bs a0 bf R be)

abbrev Q00.J33 (bt bv bx bz bu bw : Nat) (a0 bi : Addr) (R : RW) (bp : World) : Prop :=
 Calls Try.prog 47 #[.slice none bu bw] bp fun br bc => ∃ (au b5 b8 bd be b4 : Int) (b6 : Option Addr) (b0 b1 : Nat) (bf ap : Int), br = .returned (.tuple #[.agg #[.int .i64 au, .int .i64 b5, .int .u64 b8, .int .i64 bd, .int .i64 be, .int .i64 b4, .slice b6 b0 b1, .int .u64 bf], .int .i64 ap]) ∧
 thenW (bc.alloc (.cells #[.int .i64 0, .int .i64 0, .int .u64 0, .int .i64 0, .int .i64 0, .int .i64 0, .slice none 0 0, .int .u64 0] 27)) fun bq =>
 putsK bq (blk bc.heap.size) [.int .i64 au, .int .i64 b5, .int .u64 b8, .int .i64 bd, .int .i64 be, .int .i64 b4, .slice b6 b0 b1, .int .u64 bf] 0 fun b7 =>
 bif ap != 0 then (
 putsK b7 bi [.int .i64 0, .int .i64 0, .int .i64 0, .int .u64 0, .int .i64 0, .int .i64 0, .int .i64 0, .slice none 0 0, .int .u64 0, .int .i64 0, .int .i64 0, .int .u64 0, .int .i64 0, .int .i64 0, .int .i64 0, .slice none 0 0, .int .u64 0, .int .i64 0, .slice none 0 0, .int .u64 0] 0 fun bj =>
 ∃ (am a1 a8 ad ak ag aa : Int) (ac : Option Addr) (a4 a6 : Nat) (ai a2 ab ae al af a5 : Int) (a3 : Option Addr) (a9 a7 : Nat) (ah an : Int) (b3 : Option Addr) (b2 az : Nat) (ax : Int), cellsAt bj bi [.int .i64 am, .int .i64 a1, .int .i64 a8, .int .u64 ad, .int .i64 ak, .int .i64 ag, .int .i64 aa, .slice ac a4 a6, .int .u64 ai, .int .i64 a2, .int .i64 ab, .int .u64 ae, .int .i64 al, .int .i64 af, .int .i64 a5, .slice a3 a9 a7, .int .u64 ah, .int .i64 an, .slice b3 b2 az, .int .u64 ax] 0 ∧
 R (.tuple #[.agg #[.int .i64 am, .int .i64 a1, .int .i64 a8, .int .u64 ad, .int .i64 ak, .int .i64 ag, .int .i64 aa, .slice ac a4 a6, .int .u64 ai, .int .i64 a2, .int .i64 ab, .int .u64 ae, .int .i64 al, .int .i64 af, .int .i64 a5, .slice a3 a9 a7, .int .u64 ah, .int .i64 an, .slice b3 b2 az, .int .u64 ax], .int .i64 ap]) bj) else (
 ∃ (aj aw ay b9 bb av : Int) (aq : Option Addr) (ar ao : Nat) (ba : Int), cellsAt b7 (blk bc.heap.size) [.int .i64 aj, .int .i64 aw, .int .u64 ay, .int .i64 b9, .int .i64 bb, .int .i64 av, .slice aq ar ao, .int .u64 ba] 0 ∧
 Q01 b7 ((a0.add 1).add 0) ∧
 thenW (b7.setCell ((a0.add 1).add 0) (.int .i64 aj)) fun bl =>
 Q01 bl ((a0.add 1).add 1) ∧
 thenW (bl.setCell ((a0.add 1).add 1) (.int .i64 aw)) fun bo =>
 Q01 bo ((a0.add 1).add 2) ∧
 thenW (bo.setCell ((a0.add 1).add 2) (.int .u64 ay)) fun bk =>
 Q01 bk ((a0.add 1).add 3) ∧
 thenW (bk.setCell ((a0.add 1).add 3) (.int .i64 b9)) fun bg =>
 Q01 bg ((a0.add 1).add 4) ∧
 thenW (bg.setCell ((a0.add 1).add 4) (.int .i64 bb)) fun bn =>
 Q01 bn ((a0.add 1).add 5) ∧
 thenW (bn.setCell ((a0.add 1).add 5) (.int .i64 av)) fun bm =>
 Q01 bm ((a0.add 1).add 6) ∧
 thenW (bm.setCell ((a0.add 1).add 6) (.slice aq ar ao)) fun bh =>
 Q01 bh ((a0.add 1).add 7) ∧
 thenW (bh.setCell ((a0.add 1).add 7) (.int .u64 ba)) fun bs =>
 Q00.J32 bt bv bx bz a0 bi R bs)

abbrev Q00.J34 (bx : Bool) (bs bt bq br c0 bz : Nat) (a0 be : Addr) (R : RW) (bk : World) : Prop :=
 bif bx then (
 Calls Try.prog 47 #[.slice none c0 bz] bk fun bu bc => ∃ (aw ay b8 bd bf b4 : Int) (b0 : Option Addr) (b5 b1 : Nat) (bg ax : Int), bu = .returned (.tuple #[.agg #[.int .i64 aw, .int .i64 ay, .int .u64 b8, .int .i64 bd, .int .i64 bf, .int .i64 b4, .slice b0 b5 b1, .int .u64 bg], .int .i64 ax]) ∧
 thenW (bc.alloc (.cells #[.int .i64 0, .int .i64 0, .int .u64 0, .int .i64 0, .int .i64 0, .int .i64 0, .slice none 0 0, .int .u64 0] 27)) fun bv =>
 putsK bv (blk bc.heap.size) [.int .i64 aw, .int .i64 ay, .int .u64 b8, .int .i64 bd, .int .i64 bf, .int .i64 b4, .slice b0 b5 b1, .int .u64 bg] 0 fun b7 =>
 bif ax != 0 then (
 putsK b7 be [.int .i64 0, .int .i64 0, .int .i64 0, .int .u64 0, .int .i64 0, .int .i64 0, .int .i64 0, .slice none 0 0, .int .u64 0, .int .i64 0, .int .i64 0, .int .u64 0, .int .i64 0, .int .i64 0, .int .i64 0, .slice none 0 0, .int .u64 0, .int .i64 0, .slice none 0 0, .int .u64 0] 0 fun bp =>
 ∃ (ah a1 a8 ad aj ak a4 : Int) (ab : Option Addr) (a9 a5 : Nat) (ai a2 a7 ae af al aa : Int) (a3 : Option Addr) (a6 ac : Nat) (am ar : Int) (b6 : Option Addr) (b2 b3 : Nat) (av : Int), cellsAt bp be [.int .i64 ah, .int .i64 a1, .int .i64 a8, .int .u64 ad, .int .i64 aj, .int .i64 ak, .int .i64 a4, .slice ab a9 a5, .int .u64 ai, .int .i64 a2, .int .i64 a7, .int .u64 ae, .int .i64 af, .int .i64 al, .int .i64 aa, .slice a3 a6 ac, .int .u64 am, .int .i64 ar, .slice b6 b2 b3, .int .u64 av] 0 ∧
 R (.tuple #[.agg #[.int .i64 ah, .int .i64 a1, .int .i64 a8, .int .u64 ad, .int .i64 aj, .int .i64 ak, .int .i64 a4, .slice ab a9 a5, .int .u64 ai, .int .i64 a2, .int .i64 a7, .int .u64 ae, .int .i64 af, .int .i64 al, .int .i64 aa, .slice a3 a6 ac, .int .u64 am, .int .i64 ar, .slice b6 b2 b3, .int .u64 av], .int .i64 ax]) bp) else (
 ∃ (ag au az b9 ba ao : Int) (ap : Option Addr) (aq an : Nat) (bb : Int), cellsAt b7 (blk bc.heap.size) [.int .i64 ag, .int .i64 au, .int .u64 az, .int .i64 b9, .int .i64 ba, .int .i64 ao, .slice ap aq an, .int .u64 bb] 0 ∧
 Q01 b7 ((a0.add 1).add 0) ∧
 thenW (b7.setCell ((a0.add 1).add 0) (.int .i64 ag)) fun bi =>
 Q01 bi ((a0.add 1).add 1) ∧
 thenW (bi.setCell ((a0.add 1).add 1) (.int .i64 au)) fun bm =>
 Q01 bm ((a0.add 1).add 2) ∧
 thenW (bm.setCell ((a0.add 1).add 2) (.int .u64 az)) fun bj =>
 Q01 bj ((a0.add 1).add 3) ∧
 thenW (bj.setCell ((a0.add 1).add 3) (.int .i64 b9)) fun bn =>
 Q01 bn ((a0.add 1).add 4) ∧
 thenW (bn.setCell ((a0.add 1).add 4) (.int .i64 ba)) fun bo =>
 Q01 bo ((a0.add 1).add 5) ∧
 thenW (bo.setCell ((a0.add 1).add 5) (.int .i64 ao)) fun bl =>
 Q01 bl ((a0.add 1).add 6) ∧
 thenW (bl.setCell ((a0.add 1).add 6) (.slice ap aq an)) fun bh =>
 Q01 bh ((a0.add 1).add 7) ∧
 thenW (bh.setCell ((a0.add 1).add 7) (.int .u64 bb)) fun bw =>
 Q00.J32 bs bt bq br a0 be R bw)) else (
 Q00.J32 bs bt bq br a0 be R bk)

abbrev Q00.J35 (a7 a8 a6 a4 aa a5 : Nat) (a3 a9 : Addr) (R : RW) (a0 : World) : Prop :=
 ∃ (a1 : Int), a0.cell? (a3.add 0) = some (.int .i64 a1) ∧
 bif a1 == 1 then (
 Q00.J33 a7 a8 a6 a4 aa a5 a3 a9 R a0) else (
 ∃ (a2 : Int), a0.cell? (a3.add 0) = some (.int .i64 a2) ∧
 Q00.J34 (a2 == 4) a7 a8 a6 a4 aa a5 a3 a9 R a0)

abbrev Q00.J36 (b4 b5 b3 b2 az b0 : Nat) (ay b1 au : Addr) (R : RW) (ax : World) : Prop :=
 Calls Try.prog 46 #[.pointer (some b1)] ax fun aw ar => ∃ (an : Int), aw = .returned (.int .i64 an) ∧
 bif an != 0 then (
 putsK ar au [.int .i64 0, .int .i64 0, .int .i64 0, .int .u64 0, .int .i64 0, .int .i64 0, .int .i64 0, .slice none 0 0, .int .u64 0, .int .i64 0, .int .i64 0, .int .u64 0, .int .i64 0, .int .i64 0, .int .i64 0, .slice none 0 0, .int .u64 0, .int .i64 0, .slice none 0 0, .int .u64 0] 0 fun av =>
 ∃ (ah a0 a9 ad ae af a3 : Int) (a7 : Option Addr) (a5 a8 : Nat) (ag a1 a6 ac ak ai aa : Int) (ab : Option Addr) (a2 a4 : Nat) (aj am : Int) (ap : Option Addr) (ao aq : Nat) (al : Int), cellsAt av au [.int .i64 ah, .int .i64 a0, .int .i64 a9, .int .u64 ad, .int .i64 ae, .int .i64 af, .int .i64 a3, .slice a7 a5 a8, .int .u64 ag, .int .i64 a1, .int .i64 a6, .int .u64 ac, .int .i64 ak, .int .i64 ai, .int .i64 aa, .slice ab a2 a4, .int .u64 aj, .int .i64 am, .slice ap ao aq, .int .u64 al] 0 ∧
 R (.tuple #[.agg #[.int .i64 ah, .int .i64 a0, .int .i64 a9, .int .u64 ad, .int .i64 ae, .int .i64 af, .int .i64 a3, .slice a7 a5 a8, .int .u64 ag, .int .i64 a1, .int .i64 a6, .int .u64 ac, .int .i64 ak, .int .i64 ai, .int .i64 aa, .slice ab a2 a4, .int .u64 aj, .int .i64 am, .slice ap ao aq, .int .u64 al], .int .i64 an]) av) else (
 Q00.J35 b4 b5 b3 b2 az b0 ay au R ar)

abbrev Q00.J37 (b1 : Bool) (b0 : Int) (an ao am aj ai al : Nat) (a3 a4 af : Addr) (R : RW) (ae : World) : Prop :=
 bif b1 then (
 Calls Try.prog 43 #[.pointer (some a4), .int .i64 7] ae fun ay ah => ∃ (ab : Int), ay = .returned (.int .i64 ab) ∧
 Q01 ah ((a3.add 17).add 0) ∧
 thenW (ah.setCell ((a3.add 17).add 0) (.int .i64 ab)) fun au =>
 Calls Try.prog 44 #[.pointer (some a4), .int .i64 4000] au fun az ad => ∃ (a0 : Option Addr) (a1 a2 : Nat), az = .returned (.slice a0 a1 a2) ∧
 ∃ (ac : Int), ad.cell? (a3.add 0) = some (.int .i64 ac) ∧
 bif ac == 3 then (
 Calls Try.prog 45 #[.pointer (some a4)] ad fun ar ak => ∃ (ag : Int), ar = .returned (.int .u64 ag) ∧
 Q01 ak ((a3.add 19).add 0) ∧
 thenW (ak.setCell ((a3.add 19).add 0) (.int .u64 ag)) fun aw =>
 Q00.J18 a0 a1 a2 am aj ai al a3 a4 af R aw) else (
 Q00.J18 a0 a1 a2 am aj ai al a3 a4 af R ad)) else (
 bif b0 == 4 then (
 Calls Try.prog 44 #[.pointer (some a4), .int .i64 4000] ae fun ax aq => ∃ (a6 : Option Addr) (a8 aa : Nat), ax = .returned (.slice a6 a8 aa) ∧
 Calls Try.prog 44 #[.pointer (some a4), .int .i64 4000] aq fun ap av => ∃ (a5 : Option Addr) (a7 a9 : Nat), ap = .returned (.slice a5 a7 a9) ∧
 Q00.J27 a5 a7 a9 a6 a8 aa an ao a3 a4 af R av) else (
 Q00.J36 an ao am aj ai al a3 a4 af R ae))

abbrev Q00.J38 (ac : Addr) (af : Option Addr) (ag ae : Nat) (R : RW) (a5 : World) : Prop :=
 thenW (a5.alloc (.cells #[.slice af ag ae, .int .i64 0] 83)) fun ad =>
 Calls Try.prog 43 #[.pointer (some (blk a5.heap.size)), .int .i64 4] ad fun aa a6 => ∃ (a4 : Int), aa = .returned (.int .i64 a4) ∧
 thenW (a6.alloc (.cells #[.int .i64 0, .int .i64 0, .int .i64 0, .int .u64 0, .int .i64 0, .int .i64 0, .int .i64 0, .slice none 0 0, .int .u64 0, .int .i64 0, .int .i64 0, .int .u64 0, .int .i64 0, .int .i64 0, .int .i64 0, .slice none 0 0, .int .u64 0, .int .i64 0, .slice none 0 0, .int .u64 0] 30)) fun ab =>
 putsK ab (blk a6.heap.size) [.int .i64 a4, .int .i64 0, .int .i64 0, .int .u64 0, .int .i64 0, .int .i64 0, .int .i64 0, .slice none 0 0, .int .u64 0, .int .i64 0, .int .i64 0, .int .u64 0, .int .i64 0, .int .i64 0, .int .i64 0, .slice none 0 0, .int .u64 0, .int .i64 0, .slice none 0 0, .int .u64 0] 0 fun a7 =>
 ∃ (a0 : Int), a7.cell? ((blk a6.heap.size).add 0) = some (.int .i64 a0) ∧
 bif a0 == 1 then (
 Calls Try.prog 44 #[.pointer (some (blk a5.heap.size)), .int .i64 4000] a7 fun a8 a9 => ∃ (a2 : Option Addr) (a3 a1 : Nat), a8 = .returned (.slice a2 a3 a1) ∧
 Q00.J9 a2 a3 a1 0 0 0 0 (blk a6.heap.size) (blk a5.heap.size) ac R a9) else (
 bif a0 == 2 then (
 Q00.J37 (a0 == 2) a0 0 0 0 0 0 0 (blk a6.heap.size) (blk a5.heap.size) ac R a7) else (
 Q00.J37 (a0 == 3) a0 0 0 0 0 0 0 (blk a6.heap.size) (blk a5.heap.size) ac R a7))

def Q00.M (av : Option Addr) (aq aw : Nat) (R : RW) (w : World) : Prop :=
 thenW (w.alloc (.cells #[.int .i64 0, .int .i64 0, .int .i64 0, .int .u64 0, .int .i64 0, .int .i64 0, .int .i64 0, .slice none 0 0, .int .u64 0, .int .i64 0, .int .i64 0, .int .u64 0, .int .i64 0, .int .i64 0, .int .i64 0, .slice none 0 0, .int .u64 0, .int .i64 0, .slice none 0 0, .int .u64 0] 30)) fun au =>
 bif decide ((aq : Int) > 4000) then (
 putsK au (blk w.heap.size) [.int .i64 0, .int .i64 0, .int .i64 0, .int .u64 0, .int .i64 0, .int .i64 0, .int .i64 0, .slice none 0 0, .int .u64 0, .int .i64 0, .int .i64 0, .int .u64 0, .int .i64 0, .int .i64 0, .int .i64 0, .slice none 0 0, .int .u64 0, .int .i64 0, .slice none 0 0, .int .u64 0] 0 fun ar =>
 ∃ (aj a7 ab ah ai am a5 : Int) (a9 : Option Addr) (a1 a2 : Nat) (af a0 a6 ac ad ae aa : Int) (a3 : Option Addr) (a4 a8 : Nat) (ag al : Int) (ap : Option Addr) (ao an : Nat) (ak : Int), cellsAt ar (blk w.heap.size) [.int .i64 aj, .int .i64 a7, .int .i64 ab, .int .u64 ah, .int .i64 ai, .int .i64 am, .int .i64 a5, .slice a9 a1 a2, .int .u64 af, .int .i64 a0, .int .i64 a6, .int .u64 ac, .int .i64 ad, .int .i64 ae, .int .i64 aa, .slice a3 a4 a8, .int .u64 ag, .int .i64 al, .slice ap ao an, .int .u64 ak] 0 ∧
 R (.tuple #[.agg #[.int .i64 aj, .int .i64 a7, .int .i64 ab, .int .u64 ah, .int .i64 ai, .int .i64 am, .int .i64 a5, .slice a9 a1 a2, .int .u64 af, .int .i64 a0, .int .i64 a6, .int .u64 ac, .int .i64 ad, .int .i64 ae, .int .i64 aa, .slice a3 a4 a8, .int .u64 ag, .int .i64 al, .slice ap ao an, .int .u64 ak], .int .i64 3]) ar) else (
 Q00.J38 (blk w.heap.size) av aq aw R au)

theorem Q00.ok (a1 : Option Addr) (a0 a2 : Nat) {R : RW} {w : World} (h : Q00.M a1 a0 a2 R w) : Calls Try.prog 18 #[.slice a1 a0 a2] w fun e w' => ∃ v, e = .returned v ∧ R v w' :=
  Q08 follows (H := []) (args := [.slice a1 a0 a2]) (cast (by kernel_rfl) h)

def Q00.N (ls : Option Addr) (lg lr : Nat) (R : RW) (w : World) : Prop :=
 ((lg : Int) > 4000 →
 ∀ (lq : World), Ext no w lq →
 R (.tuple #[.agg #[.int .i64 0, .int .i64 0, .int .i64 0, .int .u64 0, .int .i64 0, .int .i64 0, .int .i64 0, .slice none 0 0, .int .u64 0, .int .i64 0, .int .i64 0, .int .u64 0, .int .i64 0, .int .i64 0, .int .i64 0, .slice none 0 0, .int .u64 0, .int .i64 0, .slice none 0 0, .int .u64 0], .int .i64 3]) lq) ∧
 ((lg : Int) ≤ 4000 →
 ∀ (kh : World) (q7 p8 : Nat), Ext no w kh → Blk kh q7 83 [.slice ls lg lr, .int .i64 0] → w.heap.size ≤ q7 → q7 < kh.heap.size → Privq w q7 [p8] →
 Calls Try.prog 43 #[.pointer (some (blk q7)), .int .i64 4] kh fun li cu => ∃ (a0 : Int), li = .returned (.int .i64 a0) ∧
 Keep [p8] kh cu ∧
 (a0 = 1 →
 ∀ (aa : World) (b4 : Nat), Ext no cu aa → Priv cu aa [b4] →
 Calls Try.prog 44 #[.pointer (some (blk q7)), .int .i64 4000] aa fun lp jt => ∃ (f0 : Option Addr) (ez ey : Nat), lp = .returned (.slice f0 ez ey) ∧
 Keep [p8, b4] aa jt ∧
 Calls Try.prog 46 #[.pointer (some (blk q7))] jt fun lk ia => ∃ (ek : Int), lk = .returned (.int .i64 ek) ∧
 Keep [p8, b4] jt ia ∧
 (ek ≠ 0 →
 ∀ (kp : World), Ext (fun b => b = p8) ia kp →
 R (.tuple #[.agg #[.int .i64 0, .int .i64 0, .int .i64 0, .int .u64 0, .int .i64 0, .int .i64 0, .int .i64 0, .slice none 0 0, .int .u64 0, .int .i64 0, .int .i64 0, .int .u64 0, .int .i64 0, .int .i64 0, .int .i64 0, .slice none 0 0, .int .u64 0, .int .i64 0, .slice none 0 0, .int .u64 0], .int .i64 ek]) kp) ∧
 (ek = 0 →
 Calls Try.prog 47 #[.slice f0 ez ey] ia fun lh ft => ∃ (a1 a2 a9 ad ae a6 : Int) (a5 : Option Addr) (a3 a4 : Nat) (ah eq : Int), lh = .returned (.tuple #[.agg #[.int .i64 a1, .int .i64 a2, .int .u64 a9, .int .i64 ad, .int .i64 ae, .int .i64 a6, .slice a5 a3 a4, .int .u64 ah], .int .i64 eq]) ∧
 Keep [p8, b4] ia ft ∧
 (eq ≠ 0 →
 ∀ (ld : World), Ext (fun b => b = p8) ft ld →
 R (.tuple #[.agg #[.int .i64 0, .int .i64 0, .int .i64 0, .int .u64 0, .int .i64 0, .int .i64 0, .int .i64 0, .slice none 0 0, .int .u64 0, .int .i64 0, .int .i64 0, .int .u64 0, .int .i64 0, .int .i64 0, .int .i64 0, .slice none 0 0, .int .u64 0, .int .i64 0, .slice none 0 0, .int .u64 0], .int .i64 eq]) ld) ∧
 (eq = 0 →
 (a0 = 4 →
 ∀ (aq : World), Ext (fun b => b = b4) ft aq →
 Calls Try.prog 47 #[.slice none 0 0] aq fun ll fz => ∃ (ab ak ap dh cd ai : Int) (am : Option Addr) (al aj : Nat) (di ed : Int), ll = .returned (.tuple #[.agg #[.int .i64 ab, .int .i64 ak, .int .u64 ap, .int .i64 dh, .int .i64 cd, .int .i64 ai, .slice am al aj, .int .u64 di], .int .i64 ed]) ∧
 Keep [p8, b4] aq fz ∧
 (ed ≠ 0 →
 ∀ (jz : World), Ext (fun b => b = p8) fz jz →
 R (.tuple #[.agg #[.int .i64 0, .int .i64 0, .int .i64 0, .int .u64 0, .int .i64 0, .int .i64 0, .int .i64 0, .slice none 0 0, .int .u64 0, .int .i64 0, .int .i64 0, .int .u64 0, .int .i64 0, .int .i64 0, .int .i64 0, .slice none 0 0, .int .u64 0, .int .i64 0, .slice none 0 0, .int .u64 0], .int .i64 ed]) jz) ∧
 (ed = 0 →
 (a0 = 2 →
 ∀ (cj : World), Ext (fun b => b = b4) fz cj →
 Calls Try.prog 48 #[.slice none 0 0] cj fun lo jv => ∃ (eo : Option Addr) (ea ej : Nat) (et : Int), lo = .returned (.tuple #[.slice eo ea ej, .int .i64 et]) ∧
 Keep [p8, b4] cj jv ∧
 (et ≠ 0 →
 ∀ (kd : World), Ext (fun b => b = p8) jv kd →
 R (.tuple #[.agg #[.int .i64 0, .int .i64 0, .int .i64 0, .int .u64 0, .int .i64 0, .int .i64 0, .int .i64 0, .slice none 0 0, .int .u64 0, .int .i64 0, .int .i64 0, .int .u64 0, .int .i64 0, .int .i64 0, .int .i64 0, .slice none 0 0, .int .u64 0, .int .i64 0, .slice none 0 0, .int .u64 0], .int .i64 et]) kd) ∧
 (et = 0 →
 ∀ (jr : World), Ext (fun b => b = b4) jv jr →
 Calls Try.prog 19 #[.agg #[.int .i64 a0, .int .i64 a1, .int .i64 a2, .int .u64 a9, .int .i64 ad, .int .i64 ae, .int .i64 a6, .slice a5 a3 a4, .int .u64 ah, .int .i64 ab, .int .i64 ak, .int .u64 ap, .int .i64 dh, .int .i64 cd, .int .i64 ai, .slice am al aj, .int .u64 di, .int .i64 0, .slice eo ea ej, .int .u64 0]] jr fun lm jq => ∃ (eu : Bool), lm = .returned (.bool eu) ∧
 Keep [p8, b4] jr jq ∧
 (eu = false →
 ∀ (kf : World), Ext (fun b => b = p8) jq kf →
 R (.tuple #[.agg #[.int .i64 0, .int .i64 0, .int .i64 0, .int .u64 0, .int .i64 0, .int .i64 0, .int .i64 0, .slice none 0 0, .int .u64 0, .int .i64 0, .int .i64 0, .int .u64 0, .int .i64 0, .int .i64 0, .int .i64 0, .slice none 0 0, .int .u64 0, .int .i64 0, .slice none 0 0, .int .u64 0], .int .i64 4]) kf) ∧
 (eu = true →
 ∀ (k9 : World), Ext (fun b => b = p8) jq k9 →
 R (.tuple #[.agg #[.int .i64 a0, .int .i64 a1, .int .i64 a2, .int .u64 a9, .int .i64 ad, .int .i64 ae, .int .i64 a6, .slice a5 a3 a4, .int .u64 ah, .int .i64 ab, .int .i64 ak, .int .u64 ap, .int .i64 dh, .int .i64 cd, .int .i64 ai, .slice am al aj, .int .u64 di, .int .i64 0, .slice eo ea ej, .int .u64 0], .int .i64 0]) k9))) ∧
 (a0 ≠ 2 →
 (a0 = 3 →
 ∀ (cj : World), Ext (fun b => b = b4) fz cj →
 Calls Try.prog 48 #[.slice none 0 0] cj fun ln jy => ∃ (ex : Option Addr) (ew eg : Nat) (ef : Int), ln = .returned (.tuple #[.slice ex ew eg, .int .i64 ef]) ∧
 Keep [p8, b4] cj jy ∧
 (ef ≠ 0 →
 ∀ (ku : World), Ext (fun b => b = p8) jy ku →
 R (.tuple #[.agg #[.int .i64 0, .int .i64 0, .int .i64 0, .int .u64 0, .int .i64 0, .int .i64 0, .int .i64 0, .slice none 0 0, .int .u64 0, .int .i64 0, .int .i64 0, .int .u64 0, .int .i64 0, .int .i64 0, .int .i64 0, .slice none 0 0, .int .u64 0, .int .i64 0, .slice none 0 0, .int .u64 0], .int .i64 ef]) ku) ∧
 (ef = 0 →
 ∀ (ju : World), Ext (fun b => b = b4) jy ju →
 Calls Try.prog 19 #[.agg #[.int .i64 a0, .int .i64 a1, .int .i64 a2, .int .u64 a9, .int .i64 ad, .int .i64 ae, .int .i64 a6, .slice a5 a3 a4, .int .u64 ah, .int .i64 ab, .int .i64 ak, .int .u64 ap, .int .i64 dh, .int .i64 cd, .int .i64 ai, .slice am al aj, .int .u64 di, .int .i64 0, .slice ex ew eg, .int .u64 0]] ju fun lf js => ∃ (ev : Bool), lf = .returned (.bool ev) ∧
 Keep [p8, b4] ju js ∧
 (ev = false →
 ∀ (l5 : World), Ext (fun b => b = p8) js l5 →
 R (.tuple #[.agg #[.int .i64 0, .int .i64 0, .int .i64 0, .int .u64 0, .int .i64 0, .int .i64 0, .int .i64 0, .slice none 0 0, .int .u64 0, .int .i64 0, .int .i64 0, .int .u64 0, .int .i64 0, .int .i64 0, .int .i64 0, .slice none 0 0, .int .u64 0, .int .i64 0, .slice none 0 0, .int .u64 0], .int .i64 4]) l5) ∧
 (ev = true →
 ∀ (kq : World), Ext (fun b => b = p8) js kq →
 R (.tuple #[.agg #[.int .i64 a0, .int .i64 a1, .int .i64 a2, .int .u64 a9, .int .i64 ad, .int .i64 ae, .int .i64 a6, .slice a5 a3 a4, .int .u64 ah, .int .i64 ab, .int .i64 ak, .int .u64 ap, .int .i64 dh, .int .i64 cd, .int .i64 ai, .slice am al aj, .int .u64 di, .int .i64 0, .slice ex ew eg, .int .u64 0], .int .i64 0]) kq))) ∧
 (a0 ≠ 3 →
 ∀ (cj : World), Ext (fun b => b = b4) fz cj →
 Calls Try.prog 19 #[.agg #[.int .i64 a0, .int .i64 a1, .int .i64 a2, .int .u64 a9, .int .i64 ad, .int .i64 ae, .int .i64 a6, .slice a5 a3 a4, .int .u64 ah, .int .i64 ab, .int .i64 ak, .int .u64 ap, .int .i64 dh, .int .i64 cd, .int .i64 ai, .slice am al aj, .int .u64 di, .int .i64 0, .slice none 0 0, .int .u64 0]] cj fun lj jx => ∃ (ep : Bool), lj = .returned (.bool ep) ∧
 Keep [p8, b4] cj jx ∧
 (ep = false →
 ∀ (l2 : World), Ext (fun b => b = p8) jx l2 →
 R (.tuple #[.agg #[.int .i64 0, .int .i64 0, .int .i64 0, .int .u64 0, .int .i64 0, .int .i64 0, .int .i64 0, .slice none 0 0, .int .u64 0, .int .i64 0, .int .i64 0, .int .u64 0, .int .i64 0, .int .i64 0, .int .i64 0, .slice none 0 0, .int .u64 0, .int .i64 0, .slice none 0 0, .int .u64 0], .int .i64 4]) l2) ∧
 (ep = true →
 ∀ (ky : World), Ext (fun b => b = p8) jx ky →
 R (.tuple #[.agg #[.int .i64 a0, .int .i64 a1, .int .i64 a2, .int .u64 a9, .int .i64 ad, .int .i64 ae, .int .i64 a6, .slice a5 a3 a4, .int .u64 ah, .int .i64 ab, .int .i64 ak, .int .u64 ap, .int .i64 dh, .int .i64 cd, .int .i64 ai, .slice am al aj, .int .u64 di, .int .i64 0, .slice none 0 0, .int .u64 0], .int .i64 0]) ky))))) ∧
 (a0 ≠ 4 →
 (a0 = 2 →
 ∀ (aq : World), Ext (fun b => b = b4) ft aq →
 Calls Try.prog 48 #[.slice none 0 0] aq fun kk gy => ∃ (eb : Option Addr) (em ec : Nat) (bl : Int), kk = .returned (.tuple #[.slice eb em ec, .int .i64 bl]) ∧
 Keep [p8, b4] aq gy ∧
 (bl ≠ 0 →
 ∀ (j9 : World), Ext (fun b => b = p8) gy j9 →
 R (.tuple #[.agg #[.int .i64 0, .int .i64 0, .int .i64 0, .int .u64 0, .int .i64 0, .int .i64 0, .int .i64 0, .slice none 0 0, .int .u64 0, .int .i64 0, .int .i64 0, .int .u64 0, .int .i64 0, .int .i64 0, .int .i64 0, .slice none 0 0, .int .u64 0, .int .i64 0, .slice none 0 0, .int .u64 0], .int .i64 bl]) j9) ∧
 (bl = 0 →
 ∀ (gx : World), Ext (fun b => b = b4) gy gx →
 Calls Try.prog 19 #[.agg #[.int .i64 a0, .int .i64 a1, .int .i64 a2, .int .u64 a9, .int .i64 ad, .int .i64 ae, .int .i64 a6, .slice a5 a3 a4, .int .u64 ah, .int .i64 0, .int .i64 0, .int .u64 0, .int .i64 0, .int .i64 0, .int .i64 0, .slice none 0 0, .int .u64 0, .int .i64 0, .slice eb em ec, .int .u64 0]] gx fun ka i4 => ∃ (bx : Bool), ka = .returned (.bool bx) ∧
 Keep [p8, b4] gx i4 ∧
 (bx = false →
 ∀ (jm : World), Ext (fun b => b = p8) i4 jm →
 R (.tuple #[.agg #[.int .i64 0, .int .i64 0, .int .i64 0, .int .u64 0, .int .i64 0, .int .i64 0, .int .i64 0, .slice none 0 0, .int .u64 0, .int .i64 0, .int .i64 0, .int .u64 0, .int .i64 0, .int .i64 0, .int .i64 0, .slice none 0 0, .int .u64 0, .int .i64 0, .slice none 0 0, .int .u64 0], .int .i64 4]) jm) ∧
 (bx = true →
 ∀ (jb : World), Ext (fun b => b = p8) i4 jb →
 R (.tuple #[.agg #[.int .i64 a0, .int .i64 a1, .int .i64 a2, .int .u64 a9, .int .i64 ad, .int .i64 ae, .int .i64 a6, .slice a5 a3 a4, .int .u64 ah, .int .i64 0, .int .i64 0, .int .u64 0, .int .i64 0, .int .i64 0, .int .i64 0, .slice none 0 0, .int .u64 0, .int .i64 0, .slice eb em ec, .int .u64 0], .int .i64 0]) jb))) ∧
 (a0 ≠ 2 →
 (a0 = 3 →
 ∀ (aq : World), Ext (fun b => b = b4) ft aq →
 Calls Try.prog 48 #[.slice none 0 0] aq fun ke ga => ∃ (d1 : Option Addr) (ds cb : Nat) (bm : Int), ke = .returned (.tuple #[.slice d1 ds cb, .int .i64 bm]) ∧
 Keep [p8, b4] aq ga ∧
 (bm ≠ 0 →
 ∀ (iv : World), Ext (fun b => b = p8) ga iv →
 R (.tuple #[.agg #[.int .i64 0, .int .i64 0, .int .i64 0, .int .u64 0, .int .i64 0, .int .i64 0, .int .i64 0, .slice none 0 0, .int .u64 0, .int .i64 0, .int .i64 0, .int .u64 0, .int .i64 0, .int .i64 0, .int .i64 0, .slice none 0 0, .int .u64 0, .int .i64 0, .slice none 0 0, .int .u64 0], .int .i64 bm]) iv) ∧
 (bm = 0 →
 ∀ (i7 : World), Ext (fun b => b = b4) ga i7 →
 Calls Try.prog 19 #[.agg #[.int .i64 a0, .int .i64 a1, .int .i64 a2, .int .u64 a9, .int .i64 ad, .int .i64 ae, .int .i64 a6, .slice a5 a3 a4, .int .u64 ah, .int .i64 0, .int .i64 0, .int .u64 0, .int .i64 0, .int .i64 0, .int .i64 0, .slice none 0 0, .int .u64 0, .int .i64 0, .slice d1 ds cb, .int .u64 0]] i7 fun kb fw => ∃ (bz : Bool), kb = .returned (.bool bz) ∧
 Keep [p8, b4] i7 fw ∧
 (bz = false →
 ∀ (jk : World), Ext (fun b => b = p8) fw jk →
 R (.tuple #[.agg #[.int .i64 0, .int .i64 0, .int .i64 0, .int .u64 0, .int .i64 0, .int .i64 0, .int .i64 0, .slice none 0 0, .int .u64 0, .int .i64 0, .int .i64 0, .int .u64 0, .int .i64 0, .int .i64 0, .int .i64 0, .slice none 0 0, .int .u64 0, .int .i64 0, .slice none 0 0, .int .u64 0], .int .i64 4]) jk) ∧
 (bz = true →
 ∀ (j3 : World), Ext (fun b => b = p8) fw j3 →
 R (.tuple #[.agg #[.int .i64 a0, .int .i64 a1, .int .i64 a2, .int .u64 a9, .int .i64 ad, .int .i64 ae, .int .i64 a6, .slice a5 a3 a4, .int .u64 ah, .int .i64 0, .int .i64 0, .int .u64 0, .int .i64 0, .int .i64 0, .int .i64 0, .slice none 0 0, .int .u64 0, .int .i64 0, .slice d1 ds cb, .int .u64 0], .int .i64 0]) j3))) ∧
 (a0 ≠ 3 →
 ∀ (aq : World), Ext (fun b => b = b4) ft aq →
 Calls Try.prog 19 #[.agg #[.int .i64 a0, .int .i64 a1, .int .i64 a2, .int .u64 a9, .int .i64 ad, .int .i64 ae, .int .i64 a6, .slice a5 a3 a4, .int .u64 ah, .int .i64 0, .int .i64 0, .int .u64 0, .int .i64 0, .int .i64 0, .int .i64 0, .slice none 0 0, .int .u64 0, .int .i64 0, .slice none 0 0, .int .u64 0]] aq fun ks gz => ∃ (cn : Bool), ks = .returned (.bool cn) ∧
 Keep [p8, b4] aq gz ∧
 (cn = false →
 ∀ (ie : World), Ext (fun b => b = p8) gz ie →
 R (.tuple #[.agg #[.int .i64 0, .int .i64 0, .int .i64 0, .int .u64 0, .int .i64 0, .int .i64 0, .int .i64 0, .slice none 0 0, .int .u64 0, .int .i64 0, .int .i64 0, .int .u64 0, .int .i64 0, .int .i64 0, .int .i64 0, .slice none 0 0, .int .u64 0, .int .i64 0, .slice none 0 0, .int .u64 0], .int .i64 4]) ie) ∧
 (cn = true →
 ∀ (im : World), Ext (fun b => b = p8) gz im →
 R (.tuple #[.agg #[.int .i64 a0, .int .i64 a1, .int .i64 a2, .int .u64 a9, .int .i64 ad, .int .i64 ae, .int .i64 a6, .slice a5 a3 a4, .int .u64 ah, .int .i64 0, .int .i64 0, .int .u64 0, .int .i64 0, .int .i64 0, .int .i64 0, .slice none 0 0, .int .u64 0, .int .i64 0, .slice none 0 0, .int .u64 0], .int .i64 0]) im))))))) ∧
 (a0 ≠ 1 →
 (a0 = 2 →
 ∀ (aa : World) (a8 : Nat), Ext no cu aa → Priv cu aa [a8] →
 Calls Try.prog 43 #[.pointer (some (blk q7)), .int .i64 7] aa fun km ja => ∃ (a7 : Int), km = .returned (.int .i64 a7) ∧
 Keep [p8, a8] aa ja ∧
 ∀ (fx : World), Ext (fun b => b = a8) ja fx →
 Calls Try.prog 44 #[.pointer (some (blk q7)), .int .i64 4000] fx fun kz f1 => ∃ (ac : Option Addr) (af ag : Nat), kz = .returned (.slice ac af ag) ∧
 Keep [p8, a8] fx f1 ∧
 (a0 = 3 →
 Calls Try.prog 45 #[.pointer (some (blk q7))] f1 fun kj je => ∃ (ci : Int), kj = .returned (.int .u64 ci) ∧
 Keep [p8, a8] f1 je ∧
 ∀ (g9 : World), Ext (fun b => b = a8) je g9 →
 Calls Try.prog 46 #[.pointer (some (blk q7))] g9 fun l3 e0 => ∃ (be : Int), l3 = .returned (.int .i64 be) ∧
 Keep [p8, a8] g9 e0 ∧
 (be ≠ 0 →
 ∀ (j7 : World), Ext (fun b => b = p8) e0 j7 →
 R (.tuple #[.agg #[.int .i64 0, .int .i64 0, .int .i64 0, .int .u64 0, .int .i64 0, .int .i64 0, .int .i64 0, .slice none 0 0, .int .u64 0, .int .i64 0, .int .i64 0, .int .u64 0, .int .i64 0, .int .i64 0, .int .i64 0, .slice none 0 0, .int .u64 0, .int .i64 0, .slice none 0 0, .int .u64 0], .int .i64 be]) j7) ∧
 (be = 0 →
 (a0 = 4 →
 Calls Try.prog 47 #[.slice none 0 0] e0 fun k3 g7 => ∃ (b1 d4 es fe fi bt : Int) (bq : Option Addr) (c9 da : Nat) (fh ba : Int), k3 = .returned (.tuple #[.agg #[.int .i64 b1, .int .i64 d4, .int .u64 es, .int .i64 fe, .int .i64 fi, .int .i64 bt, .slice bq c9 da, .int .u64 fh], .int .i64 ba]) ∧
 Keep [p8, a8] e0 g7 ∧
 (ba ≠ 0 →
 ∀ (ih : World), Ext (fun b => b = p8) g7 ih →
 R (.tuple #[.agg #[.int .i64 0, .int .i64 0, .int .i64 0, .int .u64 0, .int .i64 0, .int .i64 0, .int .i64 0, .slice none 0 0, .int .u64 0, .int .i64 0, .int .i64 0, .int .u64 0, .int .i64 0, .int .i64 0, .int .i64 0, .slice none 0 0, .int .u64 0, .int .i64 0, .slice none 0 0, .int .u64 0], .int .i64 ba]) ih) ∧
 (ba = 0 →
 ∀ (g5 : World), Ext (fun b => b = a8) g7 g5 →
 Calls Try.prog 47 #[.slice none 0 0] g5 fun la gc => ∃ (ax d7 er fo fc c8 : Int) (db : Option Addr) (dg df : Nat) (fp bj : Int), la = .returned (.tuple #[.agg #[.int .i64 ax, .int .i64 d7, .int .u64 er, .int .i64 fo, .int .i64 fc, .int .i64 c8, .slice db dg df, .int .u64 fp], .int .i64 bj]) ∧
 Keep [p8, a8] g5 gc ∧
 (bj ≠ 0 →
 ∀ (ic : World), Ext (fun b => b = p8) gc ic →
 R (.tuple #[.agg #[.int .i64 0, .int .i64 0, .int .i64 0, .int .u64 0, .int .i64 0, .int .i64 0, .int .i64 0, .slice none 0 0, .int .u64 0, .int .i64 0, .int .i64 0, .int .u64 0, .int .i64 0, .int .i64 0, .int .i64 0, .slice none 0 0, .int .u64 0, .int .i64 0, .slice none 0 0, .int .u64 0], .int .i64 bj]) ic) ∧
 (bj = 0 →
 ∀ (gq : World), Ext (fun b => b = a8) gc gq →
 Calls Try.prog 48 #[.slice ac af ag] gq fun k7 fu => ∃ (c5 : Option Addr) (c1 cp : Nat) (b5 : Int), k7 = .returned (.tuple #[.slice c5 c1 cp, .int .i64 b5]) ∧
 Keep [p8, a8] gq fu ∧
 (b5 ≠ 0 →
 ∀ (jp : World), Ext (fun b => b = p8) fu jp →
 R (.tuple #[.agg #[.int .i64 0, .int .i64 0, .int .i64 0, .int .u64 0, .int .i64 0, .int .i64 0, .int .i64 0, .slice none 0 0, .int .u64 0, .int .i64 0, .int .i64 0, .int .u64 0, .int .i64 0, .int .i64 0, .int .i64 0, .slice none 0 0, .int .u64 0, .int .i64 0, .slice none 0 0, .int .u64 0], .int .i64 b5]) jp) ∧
 (b5 = 0 →
 ∀ (g6 : World), Ext (fun b => b = a8) fu g6 →
 Calls Try.prog 19 #[.agg #[.int .i64 a0, .int .i64 b1, .int .i64 d4, .int .u64 es, .int .i64 fe, .int .i64 fi, .int .i64 bt, .slice bq c9 da, .int .u64 fh, .int .i64 ax, .int .i64 d7, .int .u64 er, .int .i64 fo, .int .i64 fc, .int .i64 c8, .slice db dg df, .int .u64 fp, .int .i64 a7, .slice c5 c1 cp, .int .u64 ci]] g6 fun kn gl => ∃ (cm : Bool), kn = .returned (.bool cm) ∧
 Keep [p8, a8] g6 gl ∧
 (cm = false →
 ∀ (io : World), Ext (fun b => b = p8) gl io →
 R (.tuple #[.agg #[.int .i64 0, .int .i64 0, .int .i64 0, .int .u64 0, .int .i64 0, .int .i64 0, .int .i64 0, .slice none 0 0, .int .u64 0, .int .i64 0, .int .i64 0, .int .u64 0, .int .i64 0, .int .i64 0, .int .i64 0, .slice none 0 0, .int .u64 0, .int .i64 0, .slice none 0 0, .int .u64 0], .int .i64 4]) io) ∧
 (cm = true →
 ∀ (ik : World), Ext (fun b => b = p8) gl ik →
 R (.tuple #[.agg #[.int .i64 a0, .int .i64 b1, .int .i64 d4, .int .u64 es, .int .i64 fe, .int .i64 fi, .int .i64 bt, .slice bq c9 da, .int .u64 fh, .int .i64 ax, .int .i64 d7, .int .u64 er, .int .i64 fo, .int .i64 fc, .int .i64 c8, .slice db dg df, .int .u64 fp, .int .i64 a7, .slice c5 c1 cp, .int .u64 ci], .int .i64 0]) ik))))) ∧
 (a0 ≠ 4 →
 Calls Try.prog 48 #[.slice ac af ag] e0 fun lc i8 => ∃ (bs : Option Addr) (dy cs : Nat) (bd : Int), lc = .returned (.tuple #[.slice bs dy cs, .int .i64 bd]) ∧
 Keep [p8, a8] e0 i8 ∧
 (bd ≠ 0 →
 ∀ (ib : World), Ext (fun b => b = p8) i8 ib →
 R (.tuple #[.agg #[.int .i64 0, .int .i64 0, .int .i64 0, .int .u64 0, .int .i64 0, .int .i64 0, .int .i64 0, .slice none 0 0, .int .u64 0, .int .i64 0, .int .i64 0, .int .u64 0, .int .i64 0, .int .i64 0, .int .i64 0, .slice none 0 0, .int .u64 0, .int .i64 0, .slice none 0 0, .int .u64 0], .int .i64 bd]) ib) ∧
 (bd = 0 →
 ∀ (gi : World), Ext (fun b => b = a8) i8 gi →
 Calls Try.prog 19 #[.agg #[.int .i64 a0, .int .i64 0, .int .i64 0, .int .u64 0, .int .i64 0, .int .i64 0, .int .i64 0, .slice none 0 0, .int .u64 0, .int .i64 0, .int .i64 0, .int .u64 0, .int .i64 0, .int .i64 0, .int .i64 0, .slice none 0 0, .int .u64 0, .int .i64 a7, .slice bs dy cs, .int .u64 ci]] gi fun l0 i0 => ∃ (cg : Bool), l0 = .returned (.bool cg) ∧
 Keep [p8, a8] gi i0 ∧
 (cg = false →
 ∀ (j8 : World), Ext (fun b => b = p8) i0 j8 →
 R (.tuple #[.agg #[.int .i64 0, .int .i64 0, .int .i64 0, .int .u64 0, .int .i64 0, .int .i64 0, .int .i64 0, .slice none 0 0, .int .u64 0, .int .i64 0, .int .i64 0, .int .u64 0, .int .i64 0, .int .i64 0, .int .i64 0, .slice none 0 0, .int .u64 0, .int .i64 0, .slice none 0 0, .int .u64 0], .int .i64 4]) j8) ∧
 (cg = true →
 ∀ (it : World), Ext (fun b => b = p8) i0 it →
 R (.tuple #[.agg #[.int .i64 a0, .int .i64 0, .int .i64 0, .int .u64 0, .int .i64 0, .int .i64 0, .int .i64 0, .slice none 0 0, .int .u64 0, .int .i64 0, .int .i64 0, .int .u64 0, .int .i64 0, .int .i64 0, .int .i64 0, .slice none 0 0, .int .u64 0, .int .i64 a7, .slice bs dy cs, .int .u64 ci], .int .i64 0]) it))))) ∧
 (a0 ≠ 3 →
 Calls Try.prog 46 #[.pointer (some (blk q7))] f1 fun le e6 => ∃ (b6 : Int), le = .returned (.int .i64 b6) ∧
 Keep [p8, a8] f1 e6 ∧
 (b6 ≠ 0 →
 ∀ (iu : World), Ext (fun b => b = p8) e6 iu →
 R (.tuple #[.agg #[.int .i64 0, .int .i64 0, .int .i64 0, .int .u64 0, .int .i64 0, .int .i64 0, .int .i64 0, .slice none 0 0, .int .u64 0, .int .i64 0, .int .i64 0, .int .u64 0, .int .i64 0, .int .i64 0, .int .i64 0, .slice none 0 0, .int .u64 0, .int .i64 0, .slice none 0 0, .int .u64 0], .int .i64 b6]) iu) ∧
 (b6 = 0 →
 (a0 = 4 →
 Calls Try.prog 47 #[.slice none 0 0] e6 fun kr i6 => ∃ (b0 dn el f2 fm cf : Int) (dj : Option Addr) (du bv : Nat) (f7 bf : Int), kr = .returned (.tuple #[.agg #[.int .i64 b0, .int .i64 dn, .int .u64 el, .int .i64 f2, .int .i64 fm, .int .i64 cf, .slice dj du bv, .int .u64 f7], .int .i64 bf]) ∧
 Keep [p8, a8] e6 i6 ∧
 (bf ≠ 0 →
 ∀ (jl : World), Ext (fun b => b = p8) i6 jl →
 R (.tuple #[.agg #[.int .i64 0, .int .i64 0, .int .i64 0, .int .u64 0, .int .i64 0, .int .i64 0, .int .i64 0, .slice none 0 0, .int .u64 0, .int .i64 0, .int .i64 0, .int .u64 0, .int .i64 0, .int .i64 0, .int .i64 0, .slice none 0 0, .int .u64 0, .int .i64 0, .slice none 0 0, .int .u64 0], .int .i64 bf]) jl) ∧
 (bf = 0 →
 ∀ (gg : World), Ext (fun b => b = a8) i6 gg →
 Calls Try.prog 47 #[.slice none 0 0] gg fun k0 g0 => ∃ (aw cw en f4 fk cq : Int) (cc : Option Addr) (cy c0 : Nat) (f8 bn : Int), k0 = .returned (.tuple #[.agg #[.int .i64 aw, .int .i64 cw, .int .u64 en, .int .i64 f4, .int .i64 fk, .int .i64 cq, .slice cc cy c0, .int .u64 f8], .int .i64 bn]) ∧
 Keep [p8, a8] gg g0 ∧
 (bn ≠ 0 →
 ∀ (iz : World), Ext (fun b => b = p8) g0 iz →
 R (.tuple #[.agg #[.int .i64 0, .int .i64 0, .int .i64 0, .int .u64 0, .int .i64 0, .int .i64 0, .int .i64 0, .slice none 0 0, .int .u64 0, .int .i64 0, .int .i64 0, .int .u64 0, .int .i64 0, .int .i64 0, .int .i64 0, .slice none 0 0, .int .u64 0, .int .i64 0, .slice none 0 0, .int .u64 0], .int .i64 bn]) iz) ∧
 (bn = 0 →
 ∀ (gd : World), Ext (fun b => b = a8) g0 gd →
 Calls Try.prog 48 #[.slice ac af ag] gd fun lb gs => ∃ (dt : Option Addr) (dd c6 : Nat) (bh : Int), lb = .returned (.tuple #[.slice dt dd c6, .int .i64 bh]) ∧
 Keep [p8, a8] gd gs ∧
 (bh ≠ 0 →
 ∀ (iq : World), Ext (fun b => b = p8) gs iq →
 R (.tuple #[.agg #[.int .i64 0, .int .i64 0, .int .i64 0, .int .u64 0, .int .i64 0, .int .i64 0, .int .i64 0, .slice none 0 0, .int .u64 0, .int .i64 0, .int .i64 0, .int .u64 0, .int .i64 0, .int .i64 0, .int .i64 0, .slice none 0 0, .int .u64 0, .int .i64 0, .slice none 0 0, .int .u64 0], .int .i64 bh]) iq) ∧
 (bh = 0 →
 ∀ (g2 : World), Ext (fun b => b = a8) gs g2 →
 Calls Try.prog 19 #[.agg #[.int .i64 a0, .int .i64 b0, .int .i64 dn, .int .u64 el, .int .i64 f2, .int .i64 fm, .int .i64 cf, .slice dj du bv, .int .u64 f7, .int .i64 aw, .int .i64 cw, .int .u64 en, .int .i64 f4, .int .i64 fk, .int .i64 cq, .slice cc cy c0, .int .u64 f8, .int .i64 a7, .slice dt dd c6, .int .u64 0]] g2 fun kt gm => ∃ (dv : Bool), kt = .returned (.bool dv) ∧
 Keep [p8, a8] g2 gm ∧
 (dv = false →
 ∀ (jc : World), Ext (fun b => b = p8) gm jc →
 R (.tuple #[.agg #[.int .i64 0, .int .i64 0, .int .i64 0, .int .u64 0, .int .i64 0, .int .i64 0, .int .i64 0, .slice none 0 0, .int .u64 0, .int .i64 0, .int .i64 0, .int .u64 0, .int .i64 0, .int .i64 0, .int .i64 0, .slice none 0 0, .int .u64 0, .int .i64 0, .slice none 0 0, .int .u64 0], .int .i64 4]) jc) ∧
 (dv = true →
 ∀ (il : World), Ext (fun b => b = p8) gm il →
 R (.tuple #[.agg #[.int .i64 a0, .int .i64 b0, .int .i64 dn, .int .u64 el, .int .i64 f2, .int .i64 fm, .int .i64 cf, .slice dj du bv, .int .u64 f7, .int .i64 aw, .int .i64 cw, .int .u64 en, .int .i64 f4, .int .i64 fk, .int .i64 cq, .slice cc cy c0, .int .u64 f8, .int .i64 a7, .slice dt dd c6, .int .u64 0], .int .i64 0]) il))))) ∧
 (a0 ≠ 4 →
 Calls Try.prog 48 #[.slice ac af ag] e6 fun l4 gr => ∃ (dl : Option Addr) (ce dk : Nat) (bg : Int), l4 = .returned (.tuple #[.slice dl ce dk, .int .i64 bg]) ∧
 Keep [p8, a8] e6 gr ∧
 (bg ≠ 0 →
 ∀ (ii : World), Ext (fun b => b = p8) gr ii →
 R (.tuple #[.agg #[.int .i64 0, .int .i64 0, .int .i64 0, .int .u64 0, .int .i64 0, .int .i64 0, .int .i64 0, .slice none 0 0, .int .u64 0, .int .i64 0, .int .i64 0, .int .u64 0, .int .i64 0, .int .i64 0, .int .i64 0, .slice none 0 0, .int .u64 0, .int .i64 0, .slice none 0 0, .int .u64 0], .int .i64 bg]) ii) ∧
 (bg = 0 →
 ∀ (g3 : World), Ext (fun b => b = a8) gr g3 →
 Calls Try.prog 19 #[.agg #[.int .i64 a0, .int .i64 0, .int .i64 0, .int .u64 0, .int .i64 0, .int .i64 0, .int .i64 0, .slice none 0 0, .int .u64 0, .int .i64 0, .int .i64 0, .int .u64 0, .int .i64 0, .int .i64 0, .int .i64 0, .slice none 0 0, .int .u64 0, .int .i64 a7, .slice dl ce dk, .int .u64 0]] g3 fun l6 ge => ∃ (co : Bool), l6 = .returned (.bool co) ∧
 Keep [p8, a8] g3 ge ∧
 (co = false →
 ∀ (ig : World), Ext (fun b => b = p8) ge ig →
 R (.tuple #[.agg #[.int .i64 0, .int .i64 0, .int .i64 0, .int .u64 0, .int .i64 0, .int .i64 0, .int .i64 0, .slice none 0 0, .int .u64 0, .int .i64 0, .int .i64 0, .int .u64 0, .int .i64 0, .int .i64 0, .int .i64 0, .slice none 0 0, .int .u64 0, .int .i64 0, .slice none 0 0, .int .u64 0], .int .i64 4]) ig) ∧
 (co = true →
 ∀ (ji : World), Ext (fun b => b = p8) ge ji →
 R (.tuple #[.agg #[.int .i64 a0, .int .i64 0, .int .i64 0, .int .u64 0, .int .i64 0, .int .i64 0, .int .i64 0, .slice none 0 0, .int .u64 0, .int .i64 0, .int .i64 0, .int .u64 0, .int .i64 0, .int .i64 0, .int .i64 0, .slice none 0 0, .int .u64 0, .int .i64 a7, .slice dl ce dk, .int .u64 0], .int .i64 0]) ji)))))) ∧
 (a0 ≠ 2 →
 (a0 = 3 →
 ∀ (aa : World) (an : Nat), Ext no cu aa → Priv cu aa [an] →
 Calls Try.prog 43 #[.pointer (some (blk q7)), .int .i64 7] aa fun kx j4 => ∃ (ao : Int), kx = .returned (.int .i64 ao) ∧
 Keep [p8, an] aa j4 ∧
 ∀ (fv : World), Ext (fun b => b = an) j4 fv →
 Calls Try.prog 44 #[.pointer (some (blk q7)), .int .i64 4000] fv fun kv gt => ∃ (b3 : Option Addr) (au b2 : Nat), kv = .returned (.slice b3 au b2) ∧
 Keep [p8, an] fv gt ∧
 Calls Try.prog 45 #[.pointer (some (blk q7))] gt fun l9 jn => ∃ (bw : Int), l9 = .returned (.int .u64 bw) ∧
 Keep [p8, an] gt jn ∧
 ∀ (gw : World), Ext (fun b => b = an) jn gw →
 Calls Try.prog 46 #[.pointer (some (blk q7))] gw fun kc e4 => ∃ (bo : Int), kc = .returned (.int .i64 bo) ∧
 Keep [p8, an] gw e4 ∧
 (bo ≠ 0 →
 ∀ (j6 : World), Ext (fun b => b = p8) e4 j6 →
 R (.tuple #[.agg #[.int .i64 0, .int .i64 0, .int .i64 0, .int .u64 0, .int .i64 0, .int .i64 0, .int .i64 0, .slice none 0 0, .int .u64 0, .int .i64 0, .int .i64 0, .int .u64 0, .int .i64 0, .int .i64 0, .int .i64 0, .slice none 0 0, .int .u64 0, .int .i64 0, .slice none 0 0, .int .u64 0], .int .i64 bo]) j6) ∧
 (bo = 0 →
 (a0 = 4 →
 Calls Try.prog 47 #[.slice none 0 0] e4 fun l8 gk => ∃ (ar bu e8 fd fb cz : Int) (c2 : Option Addr) (ck dw : Nat) (fl b7 : Int), l8 = .returned (.tuple #[.agg #[.int .i64 ar, .int .i64 bu, .int .u64 e8, .int .i64 fd, .int .i64 fb, .int .i64 cz, .slice c2 ck dw, .int .u64 fl], .int .i64 b7]) ∧
 Keep [p8, an] e4 gk ∧
 (b7 ≠ 0 →
 ∀ (jd : World), Ext (fun b => b = p8) gk jd →
 R (.tuple #[.agg #[.int .i64 0, .int .i64 0, .int .i64 0, .int .u64 0, .int .i64 0, .int .i64 0, .int .i64 0, .slice none 0 0, .int .u64 0, .int .i64 0, .int .i64 0, .int .u64 0, .int .i64 0, .int .i64 0, .int .i64 0, .slice none 0 0, .int .u64 0, .int .i64 0, .slice none 0 0, .int .u64 0], .int .i64 b7]) jd) ∧
 (b7 = 0 →
 ∀ (i5 : World), Ext (fun b => b = an) gk i5 →
 Calls Try.prog 47 #[.slice none 0 0] i5 fun k5 gj => ∃ (ay cr e9 fg fa d0 : Int) (d5 : Option Addr) (dp c3 : Nat) (f3 b8 : Int), k5 = .returned (.tuple #[.agg #[.int .i64 ay, .int .i64 cr, .int .u64 e9, .int .i64 fg, .int .i64 fa, .int .i64 d0, .slice d5 dp c3, .int .u64 f3], .int .i64 b8]) ∧
 Keep [p8, an] i5 gj ∧
 (b8 ≠ 0 →
 ∀ (ix : World), Ext (fun b => b = p8) gj ix →
 R (.tuple #[.agg #[.int .i64 0, .int .i64 0, .int .i64 0, .int .u64 0, .int .i64 0, .int .i64 0, .int .i64 0, .slice none 0 0, .int .u64 0, .int .i64 0, .int .i64 0, .int .u64 0, .int .i64 0, .int .i64 0, .int .i64 0, .slice none 0 0, .int .u64 0, .int .i64 0, .slice none 0 0, .int .u64 0], .int .i64 b8]) ix) ∧
 (b8 = 0 →
 ∀ (gb : World), Ext (fun b => b = an) gj gb →
 Calls Try.prog 48 #[.slice b3 au b2] gb fun ki g1 => ∃ (cx : Option Addr) (c7 dc : Nat) (bk : Int), ki = .returned (.tuple #[.slice cx c7 dc, .int .i64 bk]) ∧
 Keep [p8, an] gb g1 ∧
 (bk ≠ 0 →
 ∀ (ij : World), Ext (fun b => b = p8) g1 ij →
 R (.tuple #[.agg #[.int .i64 0, .int .i64 0, .int .i64 0, .int .u64 0, .int .i64 0, .int .i64 0, .int .i64 0, .slice none 0 0, .int .u64 0, .int .i64 0, .int .i64 0, .int .u64 0, .int .i64 0, .int .i64 0, .int .i64 0, .slice none 0 0, .int .u64 0, .int .i64 0, .slice none 0 0, .int .u64 0], .int .i64 bk]) ij) ∧
 (bk = 0 →
 ∀ (i1 : World), Ext (fun b => b = an) g1 i1 →
 Calls Try.prog 19 #[.agg #[.int .i64 a0, .int .i64 ar, .int .i64 bu, .int .u64 e8, .int .i64 fd, .int .i64 fb, .int .i64 cz, .slice c2 ck dw, .int .u64 fl, .int .i64 ay, .int .i64 cr, .int .u64 e9, .int .i64 fg, .int .i64 fa, .int .i64 d0, .slice d5 dp c3, .int .u64 f3, .int .i64 ao, .slice cx c7 dc, .int .u64 bw]] i1 fun k2 gf => ∃ (d6 : Bool), k2 = .returned (.bool d6) ∧
 Keep [p8, an] i1 gf ∧
 (d6 = false →
 ∀ (jo : World), Ext (fun b => b = p8) gf jo →
 R (.tuple #[.agg #[.int .i64 0, .int .i64 0, .int .i64 0, .int .u64 0, .int .i64 0, .int .i64 0, .int .i64 0, .slice none 0 0, .int .u64 0, .int .i64 0, .int .i64 0, .int .u64 0, .int .i64 0, .int .i64 0, .int .i64 0, .slice none 0 0, .int .u64 0, .int .i64 0, .slice none 0 0, .int .u64 0], .int .i64 4]) jo) ∧
 (d6 = true →
 ∀ (jg : World), Ext (fun b => b = p8) gf jg →
 R (.tuple #[.agg #[.int .i64 a0, .int .i64 ar, .int .i64 bu, .int .u64 e8, .int .i64 fd, .int .i64 fb, .int .i64 cz, .slice c2 ck dw, .int .u64 fl, .int .i64 ay, .int .i64 cr, .int .u64 e9, .int .i64 fg, .int .i64 fa, .int .i64 d0, .slice d5 dp c3, .int .u64 f3, .int .i64 ao, .slice cx c7 dc, .int .u64 bw], .int .i64 0]) jg))))) ∧
 (a0 ≠ 4 →
 Calls Try.prog 48 #[.slice b3 au b2] e4 fun l7 gu => ∃ (de : Option Addr) (br ct : Nat) (bp : Int), l7 = .returned (.tuple #[.slice de br ct, .int .i64 bp]) ∧
 Keep [p8, an] e4 gu ∧
 (bp ≠ 0 →
 ∀ (iw : World), Ext (fun b => b = p8) gu iw →
 R (.tuple #[.agg #[.int .i64 0, .int .i64 0, .int .i64 0, .int .u64 0, .int .i64 0, .int .i64 0, .int .i64 0, .slice none 0 0, .int .u64 0, .int .i64 0, .int .i64 0, .int .u64 0, .int .i64 0, .int .i64 0, .int .i64 0, .slice none 0 0, .int .u64 0, .int .i64 0, .slice none 0 0, .int .u64 0], .int .i64 bp]) iw) ∧
 (bp = 0 →
 ∀ (g8 : World), Ext (fun b => b = an) gu g8 →
 Calls Try.prog 19 #[.agg #[.int .i64 a0, .int .i64 0, .int .i64 0, .int .u64 0, .int .i64 0, .int .i64 0, .int .i64 0, .slice none 0 0, .int .u64 0, .int .i64 0, .int .i64 0, .int .u64 0, .int .i64 0, .int .i64 0, .int .i64 0, .slice none 0 0, .int .u64 0, .int .i64 ao, .slice de br ct, .int .u64 bw]] g8 fun kg i9 => ∃ (d3 : Bool), kg = .returned (.bool d3) ∧
 Keep [p8, an] g8 i9 ∧
 (d3 = false →
 ∀ (jf : World), Ext (fun b => b = p8) i9 jf →
 R (.tuple #[.agg #[.int .i64 0, .int .i64 0, .int .i64 0, .int .u64 0, .int .i64 0, .int .i64 0, .int .i64 0, .slice none 0 0, .int .u64 0, .int .i64 0, .int .i64 0, .int .u64 0, .int .i64 0, .int .i64 0, .int .i64 0, .slice none 0 0, .int .u64 0, .int .i64 0, .slice none 0 0, .int .u64 0], .int .i64 4]) jf) ∧
 (d3 = true →
 ∀ (j0 : World), Ext (fun b => b = p8) i9 j0 →
 R (.tuple #[.agg #[.int .i64 a0, .int .i64 0, .int .i64 0, .int .u64 0, .int .i64 0, .int .i64 0, .int .i64 0, .slice none 0 0, .int .u64 0, .int .i64 0, .int .i64 0, .int .u64 0, .int .i64 0, .int .i64 0, .int .i64 0, .slice none 0 0, .int .u64 0, .int .i64 ao, .slice de br ct, .int .u64 bw], .int .i64 0]) j0))))) ∧
 (a0 ≠ 3 →
 (a0 = 4 →
 ∀ (aa : World) (eh : Nat), Ext no cu aa → Priv cu aa [eh] →
 Calls Try.prog 44 #[.pointer (some (blk q7)), .int .i64 4000] aa fun k8 g4 => ∃ (e2 : Option Addr) (e1 e5 : Nat), k8 = .returned (.slice e2 e1 e5) ∧
 Keep [p8, eh] aa g4 ∧
 Calls Try.prog 44 #[.pointer (some (blk q7)), .int .i64 4000] g4 fun l1 gh => ∃ (e7 : Option Addr) (e3 dz : Nat), l1 = .returned (.slice e7 e3 dz) ∧
 Keep [p8, eh] g4 gh ∧
 Calls Try.prog 46 #[.pointer (some (blk q7))] gh fun kw fr => ∃ (bc : Int), kw = .returned (.int .i64 bc) ∧
 Keep [p8, eh] gh fr ∧
 (bc ≠ 0 →
 ∀ (jj : World), Ext (fun b => b = p8) fr jj →
 R (.tuple #[.agg #[.int .i64 0, .int .i64 0, .int .i64 0, .int .u64 0, .int .i64 0, .int .i64 0, .int .i64 0, .slice none 0 0, .int .u64 0, .int .i64 0, .int .i64 0, .int .u64 0, .int .i64 0, .int .i64 0, .int .i64 0, .slice none 0 0, .int .u64 0, .int .i64 0, .slice none 0 0, .int .u64 0], .int .i64 bc]) jj) ∧
 (bc = 0 →
 Calls Try.prog 47 #[.slice e2 e1 e5] fr fun ko gv => ∃ (av dq ei f5 fj d9 : Int) (dr : Option Addr) (cl ch : Nat) (ff b9 : Int), ko = .returned (.tuple #[.agg #[.int .i64 av, .int .i64 dq, .int .u64 ei, .int .i64 f5, .int .i64 fj, .int .i64 d9, .slice dr cl ch, .int .u64 ff], .int .i64 b9]) ∧
 Keep [p8, eh] fr gv ∧
 (b9 ≠ 0 →
 ∀ (j5 : World), Ext (fun b => b = p8) gv j5 →
 R (.tuple #[.agg #[.int .i64 0, .int .i64 0, .int .i64 0, .int .u64 0, .int .i64 0, .int .i64 0, .int .i64 0, .slice none 0 0, .int .u64 0, .int .i64 0, .int .i64 0, .int .u64 0, .int .i64 0, .int .i64 0, .int .i64 0, .slice none 0 0, .int .u64 0, .int .i64 0, .slice none 0 0, .int .u64 0], .int .i64 b9]) j5) ∧
 (b9 = 0 →
 ∀ (i3 : World), Ext (fun b => b = eh) gv i3 →
 Calls Try.prog 47 #[.slice e7 e3 dz] i3 fun kl gn => ∃ (az d8 ee f6 f9 ca : Int) (d2 : Option Addr) (dx dm : Nat) (fq bi : Int), kl = .returned (.tuple #[.agg #[.int .i64 az, .int .i64 d8, .int .u64 ee, .int .i64 f6, .int .i64 f9, .int .i64 ca, .slice d2 dx dm, .int .u64 fq], .int .i64 bi]) ∧
 Keep [p8, eh] i3 gn ∧
 (bi ≠ 0 →
 ∀ (ip : World), Ext (fun b => b = p8) gn ip →
 R (.tuple #[.agg #[.int .i64 0, .int .i64 0, .int .i64 0, .int .u64 0, .int .i64 0, .int .i64 0, .int .i64 0, .slice none 0 0, .int .u64 0, .int .i64 0, .int .i64 0, .int .u64 0, .int .i64 0, .int .i64 0, .int .i64 0, .slice none 0 0, .int .u64 0, .int .i64 0, .slice none 0 0, .int .u64 0], .int .i64 bi]) ip) ∧
 (bi = 0 →
 ∀ (gp : World), Ext (fun b => b = eh) gn gp →
 Calls Try.prog 19 #[.agg #[.int .i64 a0, .int .i64 av, .int .i64 dq, .int .u64 ei, .int .i64 f5, .int .i64 fj, .int .i64 d9, .slice dr cl ch, .int .u64 ff, .int .i64 az, .int .i64 d8, .int .u64 ee, .int .i64 f6, .int .i64 f9, .int .i64 ca, .slice d2 dx dm, .int .u64 fq, .int .i64 0, .slice none 0 0, .int .u64 0]] gp fun k4 i2 => ∃ (cv : Bool), k4 = .returned (.bool cv) ∧
 Keep [p8, eh] gp i2 ∧
 (cv = false →
 ∀ (jh : World), Ext (fun b => b = p8) i2 jh →
 R (.tuple #[.agg #[.int .i64 0, .int .i64 0, .int .i64 0, .int .u64 0, .int .i64 0, .int .i64 0, .int .i64 0, .slice none 0 0, .int .u64 0, .int .i64 0, .int .i64 0, .int .u64 0, .int .i64 0, .int .i64 0, .int .i64 0, .slice none 0 0, .int .u64 0, .int .i64 0, .slice none 0 0, .int .u64 0], .int .i64 4]) jh) ∧
 (cv = true →
 ∀ (j1 : World), Ext (fun b => b = p8) i2 j1 →
 R (.tuple #[.agg #[.int .i64 a0, .int .i64 av, .int .i64 dq, .int .u64 ei, .int .i64 f5, .int .i64 fj, .int .i64 d9, .slice dr cl ch, .int .u64 ff, .int .i64 az, .int .i64 d8, .int .u64 ee, .int .i64 f6, .int .i64 f9, .int .i64 ca, .slice d2 dx dm, .int .u64 fq, .int .i64 0, .slice none 0 0, .int .u64 0], .int .i64 0]) j1))))) ∧
 (a0 ≠ 4 →
 ∀ (aa : World) (jw : Nat), Ext no cu aa → Priv cu aa [jw] →
 Calls Try.prog 46 #[.pointer (some (blk q7))] aa fun k6 fs => ∃ (bb : Int), k6 = .returned (.int .i64 bb) ∧
 Keep [p8, jw] aa fs ∧
 (bb ≠ 0 →
 ∀ (ir : World), Ext (fun b => b = p8) fs ir →
 R (.tuple #[.agg #[.int .i64 0, .int .i64 0, .int .i64 0, .int .u64 0, .int .i64 0, .int .i64 0, .int .i64 0, .slice none 0 0, .int .u64 0, .int .i64 0, .int .i64 0, .int .u64 0, .int .i64 0, .int .i64 0, .int .i64 0, .slice none 0 0, .int .u64 0, .int .i64 0, .slice none 0 0, .int .u64 0], .int .i64 bb]) ir) ∧
 (bb = 0 →
 Calls Try.prog 19 #[.agg #[.int .i64 a0, .int .i64 0, .int .i64 0, .int .u64 0, .int .i64 0, .int .i64 0, .int .i64 0, .slice none 0 0, .int .u64 0, .int .i64 0, .int .i64 0, .int .u64 0, .int .i64 0, .int .i64 0, .int .i64 0, .slice none 0 0, .int .u64 0, .int .i64 0, .slice none 0 0, .int .u64 0]] fs fun k1 fy => ∃ (c4 : Bool), k1 = .returned (.bool c4) ∧
 Keep [p8, jw] fs fy ∧
 (c4 = false →
 ∀ (iy : World), Ext (fun b => b = p8) fy iy →
 R (.tuple #[.agg #[.int .i64 0, .int .i64 0, .int .i64 0, .int .u64 0, .int .i64 0, .int .i64 0, .int .i64 0, .slice none 0 0, .int .u64 0, .int .i64 0, .int .i64 0, .int .u64 0, .int .i64 0, .int .i64 0, .int .i64 0, .slice none 0 0, .int .u64 0, .int .i64 0, .slice none 0 0, .int .u64 0], .int .i64 4]) iy) ∧
 (c4 = true →
 ∀ (j2 : World), Ext (fun b => b = p8) fy j2 →
 R (.tuple #[.agg #[.int .i64 a0, .int .i64 0, .int .i64 0, .int .u64 0, .int .i64 0, .int .i64 0, .int .i64 0, .slice none 0 0, .int .u64 0, .int .i64 0, .int .i64 0, .int .u64 0, .int .i64 0, .int .i64 0, .int .i64 0, .slice none 0 0, .int .u64 0, .int .i64 0, .slice none 0 0, .int .u64 0], .int .i64 0]) j2)))))))

theorem Q00.up (xl : Option Addr) (v7 vf : Nat) {R : RW} {w : World} (h : Q00.N xl v7 vf R w) : Q00.M xl v7 vf R w := by
  unfold Q00.M
  unfold Q00.N at h
  refine Q02 fun z1 e2 => ?_
  have a0 := Blk.of_new e2
  have xi := ((Ext.refl no w)).size
  have uo := (Ext.refl no w).x_alloc e2
  refine bif_of (fun c3 => ?_) (fun c3 => ?_)
  ·have h := h.1 (of_decide_eq_true c3)
   refine Q0a (k := 0) (j := 0) a0 (by exact Nat.le_of_ble_eq_true rfl) fun y0 X4 b4 => ?_
   have ym := uo.x_puts X4 (.inr xi)
   have a0 := Q0e b4 rfl
   refine ⟨0, 0, 0, 0, 0, 0, 0, none, 0, 0, 0, 0, 0, 0, 0, 0, 0, none, 0, 0, 0, 0, none, 0, 0, 0, ⟨a0.celli 0 rfl rfl, a0.celli 1 rfl rfl, a0.celli 2 rfl rfl, a0.celli 3 rfl rfl, a0.celli 4 rfl rfl, a0.celli 5 rfl rfl, a0.celli 6 rfl rfl, a0.celli 7 rfl rfl, a0.celli 8 rfl rfl, a0.celli 9 rfl rfl, a0.celli 10 rfl rfl, a0.celli 11 rfl rfl, a0.celli 12 rfl rfl, a0.celli 13 rfl rfl, a0.celli 14 rfl rfl, a0.celli 15 rfl rfl, a0.celli 16 rfl rfl, a0.celli 17 rfl rfl, a0.celli 18 rfl rfl, a0.celli 19 rfl rfl, trivial⟩, ?_⟩
   have h := h y0 ym
   exact h
  have h := h.2 (Int.not_lt.1 (of_decide_eq_false c3))
  first | unfold Q00.J38 | skip
  refine Q02 fun y7 e6 => ?_
  have yn := a0.lt
  have a0 := a0.x_alloc e6
  have h := h y7 z1.heap.size (w.heap.size) (uo.x_alloc e6) (Blk.of_new e6) (uo).size (Q0N e6) (Privq.cons xi yn Privq.nil)
  refine h.mono fun y2 a4 h => ?_
  obtain ⟨a2, he, hk, h⟩ := h
  refine ⟨a2, he, ?_⟩
  have a0 := hk.blk a0 (by simp)
  refine Q02 fun ye qn => ?_
  have a1 := Blk.of_new qn
  have kh := ((Ext.refl no a4)).size
  have aq := Nat.ne_of_lt a0.lt
  have a0 := a0.x_alloc qn
  have px := (Ext.refl no a4).x_alloc qn
  refine Q0a (k := 0) (j := 0) a1 (by exact Nat.le_of_ble_eq_true rfl) fun f3 vx y4 => ?_
  have ep := px.x_puts vx (.inr kh)
  have a0 := a0.x_puts vx aq
  have a1 := Q0e y4 rfl
  refine ⟨a2, a1.celli 0 rfl rfl, ?_⟩
  refine bif_of (fun g9 => ?_) (fun g9 => ?_)
  ·have h := h.1 (beq_t g9)
   have h := h f3 (a4.heap.size) ep (Priv.cons kh a1.lt Priv.nil)
   refine h.mono fun yu yh h => ?_
   obtain ⟨eu, es, eq, he, hk, h⟩ := h
   refine ⟨eu, es, eq, he, ?_⟩
   have a0 := hk.blk a0 (by simp)
   have a1 := hk.blk a1 (by simp)
   first | unfold Q00.J9 | unfold Q00.J18 | unfold Q00.J27 | unfold Q00.J36 | skip
   refine h.mono fun yc j8 h => ?_
   obtain ⟨jh, he, hk, h⟩ := h
   refine ⟨jh, he, ?_⟩
   have a0 := hk.blk a0 (by simp)
   have a1 := hk.blk a1 (by simp)
   refine bif_of (fun qy => ?_) (fun qy => ?_)
   ·have h := h.1 (bne_t qy)
    have ui : Ext (fun b => b = w.heap.size) j8 j8 := ((Ext.refl no j8)).none
    refine Q0a (k := 0) (j := 0) a0 (by exact Nat.le_of_ble_eq_true rfl) fun sn yp yw => ?_
    have q7 := ui.x_puts yp (.inl rfl)
    have a0 := Q0e yw rfl
    refine ⟨0, 0, 0, 0, 0, 0, 0, none, 0, 0, 0, 0, 0, 0, 0, 0, 0, none, 0, 0, 0, 0, none, 0, 0, 0, ⟨a0.celli 0 rfl rfl, a0.celli 1 rfl rfl, a0.celli 2 rfl rfl, a0.celli 3 rfl rfl, a0.celli 4 rfl rfl, a0.celli 5 rfl rfl, a0.celli 6 rfl rfl, a0.celli 7 rfl rfl, a0.celli 8 rfl rfl, a0.celli 9 rfl rfl, a0.celli 10 rfl rfl, a0.celli 11 rfl rfl, a0.celli 12 rfl rfl, a0.celli 13 rfl rfl, a0.celli 14 rfl rfl, a0.celli 15 rfl rfl, a0.celli 16 rfl rfl, a0.celli 17 rfl rfl, a0.celli 18 rfl rfl, a0.celli 19 rfl rfl, trivial⟩, ?_⟩
    have h := h sn q7
    exact h
   have h := h.2 (bne_f qy)
   first | unfold Q00.J8 | unfold Q00.J17 | unfold Q00.J26 | unfold Q00.J35 | skip
   refine ⟨a2, a1.celli 0 rfl rfl, ?_⟩
   refine bif_tt g9 ?_
   first | unfold Q00.J6 | unfold Q00.J7 | unfold Q00.J15 | unfold Q00.J16 | unfold Q00.J24 | unfold Q00.J25 | unfold Q00.J33 | unfold Q00.J34 | skip
   refine h.mono fun xy gb h => ?_
   obtain ⟨a5, a7, ao, az, b0, ab, aa, a8, a9, b1, jt, he, hk, h⟩ := h
   refine ⟨a5, a7, ao, az, b0, ab, aa, a8, a9, b1, jt, he, ?_⟩
   have a0 := hk.blk a0 (by simp)
   have a1 := hk.blk a1 (by simp)
   refine Q02 fun yf pv => ?_
   have fd := Blk.of_new pv
   have xr := ((Ext.refl no gb)).size
   have pt := Nat.ne_of_lt a0.lt
   have a0 := a0.x_alloc pv
   have lz := Nat.ne_of_lt a1.lt
   have a1 := a1.x_alloc pv
   have q4 := (Ext.refl no gb).x_alloc pv
   refine Q0a (k := 0) (j := 0) fd (by exact Nat.le_of_ble_eq_true rfl) fun ol t4 ya => ?_
   have lf := q4.x_puts t4 (.inr xr)
   have a0 := a0.x_puts t4 pt
   have a1 := a1.x_puts t4 lz
   have fd := Q0e ya rfl
   refine bif_of (fun ti => ?_) (fun ti => ?_)
   ·have h := h.1 (bne_t ti)
    have u4 : Ext (fun b => b = w.heap.size) gb ol := (lf).none
    refine Q0a (k := 0) (j := 0) a0 (by exact Nat.le_of_ble_eq_true rfl) fun uy xx yy => ?_
    have qz := u4.x_puts xx (.inl rfl)
    have a0 := Q0e yy rfl
    refine ⟨0, 0, 0, 0, 0, 0, 0, none, 0, 0, 0, 0, 0, 0, 0, 0, 0, none, 0, 0, 0, 0, none, 0, 0, 0, ⟨a0.celli 0 rfl rfl, a0.celli 1 rfl rfl, a0.celli 2 rfl rfl, a0.celli 3 rfl rfl, a0.celli 4 rfl rfl, a0.celli 5 rfl rfl, a0.celli 6 rfl rfl, a0.celli 7 rfl rfl, a0.celli 8 rfl rfl, a0.celli 9 rfl rfl, a0.celli 10 rfl rfl, a0.celli 11 rfl rfl, a0.celli 12 rfl rfl, a0.celli 13 rfl rfl, a0.celli 14 rfl rfl, a0.celli 15 rfl rfl, a0.celli 16 rfl rfl, a0.celli 17 rfl rfl, a0.celli 18 rfl rfl, a0.celli 19 rfl rfl, trivial⟩, ?_⟩
    have h := h uy qz
    exact h
   have h := h.2 (bne_f ti)
   refine ⟨a5, a7, ao, az, b0, ab, aa, a8, a9, b1, ⟨fd.celli 0 rfl rfl, fd.celli 1 rfl rfl, fd.celli 2 rfl rfl, fd.celli 3 rfl rfl, fd.celli 4 rfl rfl, fd.celli 5 rfl rfl, fd.celli 6 rfl rfl, fd.celli 7 rfl rfl, trivial⟩, ?_⟩
   have q3 : Ext (fun b => b = a4.heap.size) gb ol := (lf).none
   refine Q0a (k := 1) (j := 0) (vs := [.int .i64 a5, .int .i64 a7, .int .u64 ao, .int .i64 az, .int .i64 b0, .int .i64 ab, .slice aa a8 a9, .int .u64 b1]) a1 (by exact Nat.le_of_ble_eq_true rfl) fun f6 vj yi => ?_
   have gg := q3.x_puts vj (.inl rfl)
   have a0 := a0.x_puts vj aq
   have a1 : Blk f6 a4.heap.size 30 [.int .i64 a2, .int .i64 a5, .int .i64 a7, .int .u64 ao, .int .i64 az, .int .i64 b0, .int .i64 ab, .slice aa a8 a9, .int .u64 b1, .int .i64 0, .int .i64 0, .int .u64 0, .int .i64 0, .int .i64 0, .int .i64 0, .slice none 0 0, .int .u64 0, .int .i64 0, .slice none 0 0, .int .u64 0] := by simpa only [setAll, Nat.zero_add, Nat.add_zero, List.set_cons_zero, List.set_cons_succ] using yi
   first | unfold Q00.J5 | unfold Q00.J14 | unfold Q00.J23 | unfold Q00.J32 | skip
   refine ⟨a2, a1.celli 0 rfl rfl, ?_⟩
   refine bif_fo (fun q0 => ?_) (fun q0 => ?_)
   ·have h := h.2 (beq_f q0)
    first | unfold Q00.J4 | unfold Q00.J13 | unfold Q00.J22 | unfold Q00.J31 | skip
    refine ⟨a2, a1.celli 0 rfl rfl, ?_⟩
    refine bif_of (fun ss => ?_) (fun ss => ?_)
    have h := h.1 (beq_t ss)
    first | unfold Q00.J2 | unfold Q00.J3 | unfold Q00.J11 | unfold Q00.J12 | unfold Q00.J20 | unfold Q00.J21 | unfold Q00.J29 | unfold Q00.J30 | skip
    have h := h f6 gg
    refine h.mono fun vp dj h => ?_
    obtain ⟨c6, ca, c7, g7, he, hk, h⟩ := h
    refine ⟨c6, ca, c7, g7, he, ?_⟩
    have a0 := hk.blk a0 (by simp)
    have a1 := hk.blk a1 (by simp)
    refine bif_of (fun ip => ?_) (fun ip => ?_)
    ·have h := h.1 (bne_t ip)
     have pc : Ext (fun b => b = w.heap.size) dj dj := ((Ext.refl no dj)).none
     refine Q0a (k := 0) (j := 0) a0 (by exact Nat.le_of_ble_eq_true rfl) fun o6 tp u6 => ?_
     have oe := pc.x_puts tp (.inl rfl)
     have a0 := Q0e u6 rfl
     refine ⟨0, 0, 0, 0, 0, 0, 0, none, 0, 0, 0, 0, 0, 0, 0, 0, 0, none, 0, 0, 0, 0, none, 0, 0, 0, ⟨a0.celli 0 rfl rfl, a0.celli 1 rfl rfl, a0.celli 2 rfl rfl, a0.celli 3 rfl rfl, a0.celli 4 rfl rfl, a0.celli 5 rfl rfl, a0.celli 6 rfl rfl, a0.celli 7 rfl rfl, a0.celli 8 rfl rfl, a0.celli 9 rfl rfl, a0.celli 10 rfl rfl, a0.celli 11 rfl rfl, a0.celli 12 rfl rfl, a0.celli 13 rfl rfl, a0.celli 14 rfl rfl, a0.celli 15 rfl rfl, a0.celli 16 rfl rfl, a0.celli 17 rfl rfl, a0.celli 18 rfl rfl, a0.celli 19 rfl rfl, trivial⟩, ?_⟩
     have h := h o6 oe
     exact h
    have h := h.2 (bne_f ip)
    have o5 : Ext (fun b => b = a4.heap.size) dj dj := ((Ext.refl no dj)).none
    refine ⟨a1.cani 18 rfl rfl, Q02 fun e1 jf => ?_⟩
    have i4 := o5.x_set (q := a4.heap.size) (i := 18) rfl (.inl rfl) jf
    have a0 := a0.oth (q := a4.heap.size) (i := 18) rfl aq jf
    have a1 : Blk e1 a4.heap.size 30 [.int .i64 a2, .int .i64 a5, .int .i64 a7, .int .u64 ao, .int .i64 az, .int .i64 b0, .int .i64 ab, .slice aa a8 a9, .int .u64 b1, .int .i64 0, .int .i64 0, .int .u64 0, .int .i64 0, .int .i64 0, .int .i64 0, .slice none 0 0, .int .u64 0, .int .i64 0, .slice c6 ca c7, .int .u64 0] := a1.seti 18 rfl jf
    rotate_left
    have h := h.2 (beq_f ss)
    refine ⟨a2, a1.celli 0 rfl rfl, ?_⟩
    first | unfold Q00.J2 | unfold Q00.J3 | unfold Q00.J11 | unfold Q00.J12 | unfold Q00.J20 | unfold Q00.J21 | unfold Q00.J29 | unfold Q00.J30 | skip
    refine bif_fo (fun k3 => ?_) (fun k3 => ?_)
    ·have h := h.2 (beq_f k3)
     first | unfold Q00.J1 | unfold Q00.J10 | unfold Q00.J19 | unfold Q00.J28 | skip
     refine ⟨a2, a5, a7, ao, az, b0, ab, aa, a8, a9, b1, 0, 0, 0, 0, 0, 0, none, 0, 0, 0, 0, none, 0, 0, 0, ⟨a1.celli 0 rfl rfl, a1.celli 1 rfl rfl, a1.celli 2 rfl rfl, a1.celli 3 rfl rfl, a1.celli 4 rfl rfl, a1.celli 5 rfl rfl, a1.celli 6 rfl rfl, a1.celli 7 rfl rfl, a1.celli 8 rfl rfl, a1.celli 9 rfl rfl, a1.celli 10 rfl rfl, a1.celli 11 rfl rfl, a1.celli 12 rfl rfl, a1.celli 13 rfl rfl, a1.celli 14 rfl rfl, a1.celli 15 rfl rfl, a1.celli 16 rfl rfl, a1.celli 17 rfl rfl, a1.celli 18 rfl rfl, a1.celli 19 rfl rfl, trivial⟩, ?_⟩
     have h := h f6 gg
     refine h.mono fun vy dk h => ?_
     obtain ⟨ew, he, hk, h⟩ := h
     refine ⟨ew, he, ?_⟩
     have a0 := hk.blk a0 (by simp)
     have a1 := hk.blk a1 (by simp)
     refine bif_of (fun k6 => ?_) (fun k6 => ?_)
     ·have h := h.1 (not_t k6)
      have kr : Ext (fun b => b = w.heap.size) dk dk := ((Ext.refl no dk)).none
      refine Q0a (k := 0) (j := 0) a0 (by exact Nat.le_of_ble_eq_true rfl) fun l2 uu qb => ?_
      have pu := kr.x_puts uu (.inl rfl)
      have a0 := Q0e qb rfl
      refine ⟨0, 0, 0, 0, 0, 0, 0, none, 0, 0, 0, 0, 0, 0, 0, 0, 0, none, 0, 0, 0, 0, none, 0, 0, 0, ⟨a0.celli 0 rfl rfl, a0.celli 1 rfl rfl, a0.celli 2 rfl rfl, a0.celli 3 rfl rfl, a0.celli 4 rfl rfl, a0.celli 5 rfl rfl, a0.celli 6 rfl rfl, a0.celli 7 rfl rfl, a0.celli 8 rfl rfl, a0.celli 9 rfl rfl, a0.celli 10 rfl rfl, a0.celli 11 rfl rfl, a0.celli 12 rfl rfl, a0.celli 13 rfl rfl, a0.celli 14 rfl rfl, a0.celli 15 rfl rfl, a0.celli 16 rfl rfl, a0.celli 17 rfl rfl, a0.celli 18 rfl rfl, a0.celli 19 rfl rfl, trivial⟩, ?_⟩
      have h := h l2 pu
      exact h
     have h := h.2 (not_f k6)
     refine ⟨a2, a5, a7, ao, az, b0, ab, aa, a8, a9, b1, 0, 0, 0, 0, 0, 0, none, 0, 0, 0, 0, none, 0, 0, 0, ⟨a1.celli 0 rfl rfl, a1.celli 1 rfl rfl, a1.celli 2 rfl rfl, a1.celli 3 rfl rfl, a1.celli 4 rfl rfl, a1.celli 5 rfl rfl, a1.celli 6 rfl rfl, a1.celli 7 rfl rfl, a1.celli 8 rfl rfl, a1.celli 9 rfl rfl, a1.celli 10 rfl rfl, a1.celli 11 rfl rfl, a1.celli 12 rfl rfl, a1.celli 13 rfl rfl, a1.celli 14 rfl rfl, a1.celli 15 rfl rfl, a1.celli 16 rfl rfl, a1.celli 17 rfl rfl, a1.celli 18 rfl rfl, a1.celli 19 rfl rfl, trivial⟩, ?_⟩
     have p1 : Ext (fun b => b = w.heap.size) dk dk := ((Ext.refl no dk)).none
     refine Q0a (k := 0) (j := 0) a0 (by exact Nat.le_of_ble_eq_true rfl) fun lq tl te => ?_
     have mw := p1.x_puts tl (.inl rfl)
     have a0 := Q0e te rfl
     refine ⟨a2, a5, a7, ao, az, b0, ab, aa, a8, a9, b1, 0, 0, 0, 0, 0, 0, none, 0, 0, 0, 0, none, 0, 0, 0, ⟨a0.celli 0 rfl rfl, a0.celli 1 rfl rfl, a0.celli 2 rfl rfl, a0.celli 3 rfl rfl, a0.celli 4 rfl rfl, a0.celli 5 rfl rfl, a0.celli 6 rfl rfl, a0.celli 7 rfl rfl, a0.celli 8 rfl rfl, a0.celli 9 rfl rfl, a0.celli 10 rfl rfl, a0.celli 11 rfl rfl, a0.celli 12 rfl rfl, a0.celli 13 rfl rfl, a0.celli 14 rfl rfl, a0.celli 15 rfl rfl, a0.celli 16 rfl rfl, a0.celli 17 rfl rfl, a0.celli 18 rfl rfl, a0.celli 19 rfl rfl, trivial⟩, ?_⟩
     have h := h lq mw
     exact h
    have h := h.1 (beq_t k3)
    have h := h f6 gg
    refine h.mono fun vh dc h => ?_
    obtain ⟨c6, ca, c7, ga, he, hk, h⟩ := h
    refine ⟨c6, ca, c7, ga, he, ?_⟩
    have a0 := hk.blk a0 (by simp)
    have a1 := hk.blk a1 (by simp)
    refine bif_of (fun jn => ?_) (fun jn => ?_)
    ·have h := h.1 (bne_t jn)
     have ks : Ext (fun b => b = w.heap.size) dc dc := ((Ext.refl no dc)).none
     refine Q0a (k := 0) (j := 0) a0 (by exact Nat.le_of_ble_eq_true rfl) fun mo v3 sv => ?_
     have my := ks.x_puts v3 (.inl rfl)
     have a0 := Q0e sv rfl
     refine ⟨0, 0, 0, 0, 0, 0, 0, none, 0, 0, 0, 0, 0, 0, 0, 0, 0, none, 0, 0, 0, 0, none, 0, 0, 0, ⟨a0.celli 0 rfl rfl, a0.celli 1 rfl rfl, a0.celli 2 rfl rfl, a0.celli 3 rfl rfl, a0.celli 4 rfl rfl, a0.celli 5 rfl rfl, a0.celli 6 rfl rfl, a0.celli 7 rfl rfl, a0.celli 8 rfl rfl, a0.celli 9 rfl rfl, a0.celli 10 rfl rfl, a0.celli 11 rfl rfl, a0.celli 12 rfl rfl, a0.celli 13 rfl rfl, a0.celli 14 rfl rfl, a0.celli 15 rfl rfl, a0.celli 16 rfl rfl, a0.celli 17 rfl rfl, a0.celli 18 rfl rfl, a0.celli 19 rfl rfl, trivial⟩, ?_⟩
     have h := h mo my
     exact h
    have h := h.2 (bne_f jn)
    have pm : Ext (fun b => b = a4.heap.size) dc dc := ((Ext.refl no dc)).none
    refine ⟨a1.cani 18 rfl rfl, Q02 fun e1 it => ?_⟩
    have i4 := pm.x_set (q := a4.heap.size) (i := 18) rfl (.inl rfl) it
    have a0 := a0.oth (q := a4.heap.size) (i := 18) rfl aq it
    have a1 : Blk e1 a4.heap.size 30 [.int .i64 a2, .int .i64 a5, .int .i64 a7, .int .u64 ao, .int .i64 az, .int .i64 b0, .int .i64 ab, .slice aa a8 a9, .int .u64 b1, .int .i64 0, .int .i64 0, .int .u64 0, .int .i64 0, .int .i64 0, .int .i64 0, .slice none 0 0, .int .u64 0, .int .i64 0, .slice c6 ca c7, .int .u64 0] := a1.seti 18 rfl it
    rotate_left
    all_goals
     first | unfold Q00.J1 | unfold Q00.J10 | unfold Q00.J19 | unfold Q00.J28 | skip
     refine ⟨a2, a5, a7, ao, az, b0, ab, aa, a8, a9, b1, 0, 0, 0, 0, 0, 0, none, 0, 0, 0, 0, c6, ca, c7, 0, ⟨a1.celli 0 rfl rfl, a1.celli 1 rfl rfl, a1.celli 2 rfl rfl, a1.celli 3 rfl rfl, a1.celli 4 rfl rfl, a1.celli 5 rfl rfl, a1.celli 6 rfl rfl, a1.celli 7 rfl rfl, a1.celli 8 rfl rfl, a1.celli 9 rfl rfl, a1.celli 10 rfl rfl, a1.celli 11 rfl rfl, a1.celli 12 rfl rfl, a1.celli 13 rfl rfl, a1.celli 14 rfl rfl, a1.celli 15 rfl rfl, a1.celli 16 rfl rfl, a1.celli 17 rfl rfl, a1.celli 18 rfl rfl, a1.celli 19 rfl rfl, trivial⟩, ?_⟩
     have h := h e1 i4
     refine h.mono fun ve dn h => ?_
     obtain ⟨em, he, hk, h⟩ := h
     refine ⟨em, he, ?_⟩
     have a0 := hk.blk a0 (by simp)
     have a1 := hk.blk a1 (by simp)
     refine bif_of (fun jv => ?_) (fun jv => ?_)
     ·have h := h.1 (not_t jv)
      have oj : Ext (fun b => b = w.heap.size) dn dn := ((Ext.refl no dn)).none
      refine Q0a (k := 0) (j := 0) a0 (by exact Nat.le_of_ble_eq_true rfl) fun pi qf tz => ?_
      have pd := oj.x_puts qf (.inl rfl)
      have a0 := Q0e tz rfl
      refine ⟨0, 0, 0, 0, 0, 0, 0, none, 0, 0, 0, 0, 0, 0, 0, 0, 0, none, 0, 0, 0, 0, none, 0, 0, 0, ⟨a0.celli 0 rfl rfl, a0.celli 1 rfl rfl, a0.celli 2 rfl rfl, a0.celli 3 rfl rfl, a0.celli 4 rfl rfl, a0.celli 5 rfl rfl, a0.celli 6 rfl rfl, a0.celli 7 rfl rfl, a0.celli 8 rfl rfl, a0.celli 9 rfl rfl, a0.celli 10 rfl rfl, a0.celli 11 rfl rfl, a0.celli 12 rfl rfl, a0.celli 13 rfl rfl, a0.celli 14 rfl rfl, a0.celli 15 rfl rfl, a0.celli 16 rfl rfl, a0.celli 17 rfl rfl, a0.celli 18 rfl rfl, a0.celli 19 rfl rfl, trivial⟩, ?_⟩
      have h := h pi pd
      exact h
     have h := h.2 (not_f jv)
     refine ⟨a2, a5, a7, ao, az, b0, ab, aa, a8, a9, b1, 0, 0, 0, 0, 0, 0, none, 0, 0, 0, 0, c6, ca, c7, 0, ⟨a1.celli 0 rfl rfl, a1.celli 1 rfl rfl, a1.celli 2 rfl rfl, a1.celli 3 rfl rfl, a1.celli 4 rfl rfl, a1.celli 5 rfl rfl, a1.celli 6 rfl rfl, a1.celli 7 rfl rfl, a1.celli 8 rfl rfl, a1.celli 9 rfl rfl, a1.celli 10 rfl rfl, a1.celli 11 rfl rfl, a1.celli 12 rfl rfl, a1.celli 13 rfl rfl, a1.celli 14 rfl rfl, a1.celli 15 rfl rfl, a1.celli 16 rfl rfl, a1.celli 17 rfl rfl, a1.celli 18 rfl rfl, a1.celli 19 rfl rfl, trivial⟩, ?_⟩
     have ps : Ext (fun b => b = w.heap.size) dn dn := ((Ext.refl no dn)).none
     refine Q0a (k := 0) (j := 0) a0 (by exact Nat.le_of_ble_eq_true rfl) fun oc qv qs => ?_
     have l1 := ps.x_puts qv (.inl rfl)
     have a0 := Q0e qs rfl
     refine ⟨a2, a5, a7, ao, az, b0, ab, aa, a8, a9, b1, 0, 0, 0, 0, 0, 0, none, 0, 0, 0, 0, c6, ca, c7, 0, ⟨a0.celli 0 rfl rfl, a0.celli 1 rfl rfl, a0.celli 2 rfl rfl, a0.celli 3 rfl rfl, a0.celli 4 rfl rfl, a0.celli 5 rfl rfl, a0.celli 6 rfl rfl, a0.celli 7 rfl rfl, a0.celli 8 rfl rfl, a0.celli 9 rfl rfl, a0.celli 10 rfl rfl, a0.celli 11 rfl rfl, a0.celli 12 rfl rfl, a0.celli 13 rfl rfl, a0.celli 14 rfl rfl, a0.celli 15 rfl rfl, a0.celli 16 rfl rfl, a0.celli 17 rfl rfl, a0.celli 18 rfl rfl, a0.celli 19 rfl rfl, trivial⟩, ?_⟩
     have h := h oc l1
     exact h
   have h := h.1 (beq_t q0)
   have h := h f6 gg
   refine h.mono fun yg fl h => ?_
   obtain ⟨ar, b5, bw, ci, ch, b2, b7, b6, b3, cj, j2, he, hk, h⟩ := h
   refine ⟨ar, b5, bw, ci, ch, b2, b7, b6, b3, cj, j2, he, ?_⟩
   have a0 := hk.blk a0 (by simp)
   have a1 := hk.blk a1 (by simp)
   refine Q02 fun ys pw => ?_
   have fe := Blk.of_new pw
   have yt := ((Ext.refl no fl)).size
   have o1 := Nat.ne_of_lt a0.lt
   have a0 := a0.x_alloc pw
   have nh := Nat.ne_of_lt a1.lt
   have a1 := a1.x_alloc pw
   have tc := (Ext.refl no fl).x_alloc pw
   refine Q0a (k := 0) (j := 0) fe (by exact Nat.le_of_ble_eq_true rfl) fun mr q8 yx => ?_
   have l3 := tc.x_puts q8 (.inr yt)
   have a0 := a0.x_puts q8 o1
   have a1 := a1.x_puts q8 nh
   have fe := Q0e yx rfl
   refine bif_of (fun s1 => ?_) (fun s1 => ?_)
   ·have h := h.1 (bne_t s1)
    have se : Ext (fun b => b = w.heap.size) fl mr := (l3).none
    refine Q0a (k := 0) (j := 0) a0 (by exact Nat.le_of_ble_eq_true rfl) fun py xs y9 => ?_
    have q9 := se.x_puts xs (.inl rfl)
    have a0 := Q0e y9 rfl
    refine ⟨0, 0, 0, 0, 0, 0, 0, none, 0, 0, 0, 0, 0, 0, 0, 0, 0, none, 0, 0, 0, 0, none, 0, 0, 0, ⟨a0.celli 0 rfl rfl, a0.celli 1 rfl rfl, a0.celli 2 rfl rfl, a0.celli 3 rfl rfl, a0.celli 4 rfl rfl, a0.celli 5 rfl rfl, a0.celli 6 rfl rfl, a0.celli 7 rfl rfl, a0.celli 8 rfl rfl, a0.celli 9 rfl rfl, a0.celli 10 rfl rfl, a0.celli 11 rfl rfl, a0.celli 12 rfl rfl, a0.celli 13 rfl rfl, a0.celli 14 rfl rfl, a0.celli 15 rfl rfl, a0.celli 16 rfl rfl, a0.celli 17 rfl rfl, a0.celli 18 rfl rfl, a0.celli 19 rfl rfl, trivial⟩, ?_⟩
    have h := h py q9
    exact h
   have h := h.2 (bne_f s1)
   refine ⟨ar, b5, bw, ci, ch, b2, b7, b6, b3, cj, ⟨fe.celli 0 rfl rfl, fe.celli 1 rfl rfl, fe.celli 2 rfl rfl, fe.celli 3 rfl rfl, fe.celli 4 rfl rfl, fe.celli 5 rfl rfl, fe.celli 6 rfl rfl, fe.celli 7 rfl rfl, trivial⟩, ?_⟩
   have v2 : Ext (fun b => b = a4.heap.size) fl mr := (l3).none
   refine Q0a (k := 9) (j := 0) (vs := [.int .i64 ar, .int .i64 b5, .int .u64 bw, .int .i64 ci, .int .i64 ch, .int .i64 b2, .slice b7 b6 b3, .int .u64 cj]) a1 (by exact Nat.le_of_ble_eq_true rfl) fun fu x0 yz => ?_
   have j3 := v2.x_puts x0 (.inl rfl)
   have a0 := a0.x_puts x0 aq
   have a1 : Blk fu a4.heap.size 30 [.int .i64 a2, .int .i64 a5, .int .i64 a7, .int .u64 ao, .int .i64 az, .int .i64 b0, .int .i64 ab, .slice aa a8 a9, .int .u64 b1, .int .i64 ar, .int .i64 b5, .int .u64 bw, .int .i64 ci, .int .i64 ch, .int .i64 b2, .slice b7 b6 b3, .int .u64 cj, .int .i64 0, .slice none 0 0, .int .u64 0] := by simpa only [setAll, Nat.zero_add, Nat.add_zero, List.set_cons_zero, List.set_cons_succ] using yz
   first | unfold Q00.J4 | unfold Q00.J13 | unfold Q00.J22 | unfold Q00.J31 | skip
   refine ⟨a2, a1.celli 0 rfl rfl, ?_⟩
   refine bif_of (fun t2 => ?_) (fun t2 => ?_)
   have h := h.1 (beq_t t2)
   first | unfold Q00.J2 | unfold Q00.J3 | unfold Q00.J11 | unfold Q00.J12 | unfold Q00.J20 | unfold Q00.J21 | unfold Q00.J29 | unfold Q00.J30 | skip
   have h := h fu j3
   refine h.mono fun yl ee h => ?_
   obtain ⟨cc, c5, c9, jw, he, hk, h⟩ := h
   refine ⟨cc, c5, c9, jw, he, ?_⟩
   have a0 := hk.blk a0 (by simp)
   have a1 := hk.blk a1 (by simp)
   refine bif_of (fun q1 => ?_) (fun q1 => ?_)
   ·have h := h.1 (bne_t q1)
    have ur : Ext (fun b => b = w.heap.size) ee ee := ((Ext.refl no ee)).none
    refine Q0a (k := 0) (j := 0) a0 (by exact Nat.le_of_ble_eq_true rfl) fun s0 xu yr => ?_
    have ua := ur.x_puts xu (.inl rfl)
    have a0 := Q0e yr rfl
    refine ⟨0, 0, 0, 0, 0, 0, 0, none, 0, 0, 0, 0, 0, 0, 0, 0, 0, none, 0, 0, 0, 0, none, 0, 0, 0, ⟨a0.celli 0 rfl rfl, a0.celli 1 rfl rfl, a0.celli 2 rfl rfl, a0.celli 3 rfl rfl, a0.celli 4 rfl rfl, a0.celli 5 rfl rfl, a0.celli 6 rfl rfl, a0.celli 7 rfl rfl, a0.celli 8 rfl rfl, a0.celli 9 rfl rfl, a0.celli 10 rfl rfl, a0.celli 11 rfl rfl, a0.celli 12 rfl rfl, a0.celli 13 rfl rfl, a0.celli 14 rfl rfl, a0.celli 15 rfl rfl, a0.celli 16 rfl rfl, a0.celli 17 rfl rfl, a0.celli 18 rfl rfl, a0.celli 19 rfl rfl, trivial⟩, ?_⟩
    have h := h s0 ua
    exact h
   have h := h.2 (bne_f q1)
   have sm : Ext (fun b => b = a4.heap.size) ee ee := ((Ext.refl no ee)).none
   refine ⟨a1.cani 18 rfl rfl, Q02 fun fw uw => ?_⟩
   have o3 := sm.x_set (q := a4.heap.size) (i := 18) rfl (.inl rfl) uw
   have a0 := a0.oth (q := a4.heap.size) (i := 18) rfl aq uw
   have a1 : Blk fw a4.heap.size 30 [.int .i64 a2, .int .i64 a5, .int .i64 a7, .int .u64 ao, .int .i64 az, .int .i64 b0, .int .i64 ab, .slice aa a8 a9, .int .u64 b1, .int .i64 ar, .int .i64 b5, .int .u64 bw, .int .i64 ci, .int .i64 ch, .int .i64 b2, .slice b7 b6 b3, .int .u64 cj, .int .i64 0, .slice cc c5 c9, .int .u64 0] := a1.seti 18 rfl uw
   rotate_left
   have h := h.2 (beq_f t2)
   refine ⟨a2, a1.celli 0 rfl rfl, ?_⟩
   first | unfold Q00.J2 | unfold Q00.J3 | unfold Q00.J11 | unfold Q00.J12 | unfold Q00.J20 | unfold Q00.J21 | unfold Q00.J29 | unfold Q00.J30 | skip
   refine bif_fo (fun qk => ?_) (fun qk => ?_)
   ·have h := h.2 (beq_f qk)
    first | unfold Q00.J1 | unfold Q00.J10 | unfold Q00.J19 | unfold Q00.J28 | skip
    refine ⟨a2, a5, a7, ao, az, b0, ab, aa, a8, a9, b1, ar, b5, bw, ci, ch, b2, b7, b6, b3, cj, 0, none, 0, 0, 0, ⟨a1.celli 0 rfl rfl, a1.celli 1 rfl rfl, a1.celli 2 rfl rfl, a1.celli 3 rfl rfl, a1.celli 4 rfl rfl, a1.celli 5 rfl rfl, a1.celli 6 rfl rfl, a1.celli 7 rfl rfl, a1.celli 8 rfl rfl, a1.celli 9 rfl rfl, a1.celli 10 rfl rfl, a1.celli 11 rfl rfl, a1.celli 12 rfl rfl, a1.celli 13 rfl rfl, a1.celli 14 rfl rfl, a1.celli 15 rfl rfl, a1.celli 16 rfl rfl, a1.celli 17 rfl rfl, a1.celli 18 rfl rfl, a1.celli 19 rfl rfl, trivial⟩, ?_⟩
    have h := h fu j3
    refine h.mono fun y5 ef h => ?_
    obtain ⟨g5, he, hk, h⟩ := h
    refine ⟨g5, he, ?_⟩
    have a0 := hk.blk a0 (by simp)
    have a1 := hk.blk a1 (by simp)
    refine bif_of (fun qa => ?_) (fun qa => ?_)
    ·have h := h.1 (not_t qa)
     have sj : Ext (fun b => b = w.heap.size) ef ef := ((Ext.refl no ef)).none
     refine Q0a (k := 0) (j := 0) a0 (by exact Nat.le_of_ble_eq_true rfl) fun u3 yq xq => ?_
     have sk := sj.x_puts yq (.inl rfl)
     have a0 := Q0e xq rfl
     refine ⟨0, 0, 0, 0, 0, 0, 0, none, 0, 0, 0, 0, 0, 0, 0, 0, 0, none, 0, 0, 0, 0, none, 0, 0, 0, ⟨a0.celli 0 rfl rfl, a0.celli 1 rfl rfl, a0.celli 2 rfl rfl, a0.celli 3 rfl rfl, a0.celli 4 rfl rfl, a0.celli 5 rfl rfl, a0.celli 6 rfl rfl, a0.celli 7 rfl rfl, a0.celli 8 rfl rfl, a0.celli 9 rfl rfl, a0.celli 10 rfl rfl, a0.celli 11 rfl rfl, a0.celli 12 rfl rfl, a0.celli 13 rfl rfl, a0.celli 14 rfl rfl, a0.celli 15 rfl rfl, a0.celli 16 rfl rfl, a0.celli 17 rfl rfl, a0.celli 18 rfl rfl, a0.celli 19 rfl rfl, trivial⟩, ?_⟩
     have h := h u3 sk
     exact h
    have h := h.2 (not_f qa)
    refine ⟨a2, a5, a7, ao, az, b0, ab, aa, a8, a9, b1, ar, b5, bw, ci, ch, b2, b7, b6, b3, cj, 0, none, 0, 0, 0, ⟨a1.celli 0 rfl rfl, a1.celli 1 rfl rfl, a1.celli 2 rfl rfl, a1.celli 3 rfl rfl, a1.celli 4 rfl rfl, a1.celli 5 rfl rfl, a1.celli 6 rfl rfl, a1.celli 7 rfl rfl, a1.celli 8 rfl rfl, a1.celli 9 rfl rfl, a1.celli 10 rfl rfl, a1.celli 11 rfl rfl, a1.celli 12 rfl rfl, a1.celli 13 rfl rfl, a1.celli 14 rfl rfl, a1.celli 15 rfl rfl, a1.celli 16 rfl rfl, a1.celli 17 rfl rfl, a1.celli 18 rfl rfl, a1.celli 19 rfl rfl, trivial⟩, ?_⟩
    have tx : Ext (fun b => b = w.heap.size) ef ef := ((Ext.refl no ef)).none
    refine Q0a (k := 0) (j := 0) a0 (by exact Nat.le_of_ble_eq_true rfl) fun tw yv y8 => ?_
    have qi := tx.x_puts yv (.inl rfl)
    have a0 := Q0e y8 rfl
    refine ⟨a2, a5, a7, ao, az, b0, ab, aa, a8, a9, b1, ar, b5, bw, ci, ch, b2, b7, b6, b3, cj, 0, none, 0, 0, 0, ⟨a0.celli 0 rfl rfl, a0.celli 1 rfl rfl, a0.celli 2 rfl rfl, a0.celli 3 rfl rfl, a0.celli 4 rfl rfl, a0.celli 5 rfl rfl, a0.celli 6 rfl rfl, a0.celli 7 rfl rfl, a0.celli 8 rfl rfl, a0.celli 9 rfl rfl, a0.celli 10 rfl rfl, a0.celli 11 rfl rfl, a0.celli 12 rfl rfl, a0.celli 13 rfl rfl, a0.celli 14 rfl rfl, a0.celli 15 rfl rfl, a0.celli 16 rfl rfl, a0.celli 17 rfl rfl, a0.celli 18 rfl rfl, a0.celli 19 rfl rfl, trivial⟩, ?_⟩
    have h := h tw qi
    exact h
   have h := h.1 (beq_t qk)
   have h := h fu j3
   refine h.mono fun yk ei h => ?_
   obtain ⟨cc, c5, c9, j4, he, hk, h⟩ := h
   refine ⟨cc, c5, c9, j4, he, ?_⟩
   have a0 := hk.blk a0 (by simp)
   have a1 := hk.blk a1 (by simp)
   refine bif_of (fun u0 => ?_) (fun u0 => ?_)
   ·have h := h.1 (bne_t u0)
    have sc : Ext (fun b => b = w.heap.size) ei ei := ((Ext.refl no ei)).none
    refine Q0a (k := 0) (j := 0) a0 (by exact Nat.le_of_ble_eq_true rfl) fun tr y1 y6 => ?_
    have s8 := sc.x_puts y1 (.inl rfl)
    have a0 := Q0e y6 rfl
    refine ⟨0, 0, 0, 0, 0, 0, 0, none, 0, 0, 0, 0, 0, 0, 0, 0, 0, none, 0, 0, 0, 0, none, 0, 0, 0, ⟨a0.celli 0 rfl rfl, a0.celli 1 rfl rfl, a0.celli 2 rfl rfl, a0.celli 3 rfl rfl, a0.celli 4 rfl rfl, a0.celli 5 rfl rfl, a0.celli 6 rfl rfl, a0.celli 7 rfl rfl, a0.celli 8 rfl rfl, a0.celli 9 rfl rfl, a0.celli 10 rfl rfl, a0.celli 11 rfl rfl, a0.celli 12 rfl rfl, a0.celli 13 rfl rfl, a0.celli 14 rfl rfl, a0.celli 15 rfl rfl, a0.celli 16 rfl rfl, a0.celli 17 rfl rfl, a0.celli 18 rfl rfl, a0.celli 19 rfl rfl, trivial⟩, ?_⟩
    have h := h tr s8
    exact h
   have h := h.2 (bne_f u0)
   have tj : Ext (fun b => b = a4.heap.size) ei ei := ((Ext.refl no ei)).none
   refine ⟨a1.cani 18 rfl rfl, Q02 fun fw q5 => ?_⟩
   have o3 := tj.x_set (q := a4.heap.size) (i := 18) rfl (.inl rfl) q5
   have a0 := a0.oth (q := a4.heap.size) (i := 18) rfl aq q5
   have a1 : Blk fw a4.heap.size 30 [.int .i64 a2, .int .i64 a5, .int .i64 a7, .int .u64 ao, .int .i64 az, .int .i64 b0, .int .i64 ab, .slice aa a8 a9, .int .u64 b1, .int .i64 ar, .int .i64 b5, .int .u64 bw, .int .i64 ci, .int .i64 ch, .int .i64 b2, .slice b7 b6 b3, .int .u64 cj, .int .i64 0, .slice cc c5 c9, .int .u64 0] := a1.seti 18 rfl q5
   rotate_left
   all_goals
    first | unfold Q00.J1 | unfold Q00.J10 | unfold Q00.J19 | unfold Q00.J28 | skip
    refine ⟨a2, a5, a7, ao, az, b0, ab, aa, a8, a9, b1, ar, b5, bw, ci, ch, b2, b7, b6, b3, cj, 0, cc, c5, c9, 0, ⟨a1.celli 0 rfl rfl, a1.celli 1 rfl rfl, a1.celli 2 rfl rfl, a1.celli 3 rfl rfl, a1.celli 4 rfl rfl, a1.celli 5 rfl rfl, a1.celli 6 rfl rfl, a1.celli 7 rfl rfl, a1.celli 8 rfl rfl, a1.celli 9 rfl rfl, a1.celli 10 rfl rfl, a1.celli 11 rfl rfl, a1.celli 12 rfl rfl, a1.celli 13 rfl rfl, a1.celli 14 rfl rfl, a1.celli 15 rfl rfl, a1.celli 16 rfl rfl, a1.celli 17 rfl rfl, a1.celli 18 rfl rfl, a1.celli 19 rfl rfl, trivial⟩, ?_⟩
    have h := h fw o3
    refine h.mono fun yj e8 h => ?_
    obtain ⟨gf, he, hk, h⟩ := h
    refine ⟨gf, he, ?_⟩
    have a0 := hk.blk a0 (by simp)
    have a1 := hk.blk a1 (by simp)
    refine bif_of (fun tm => ?_) (fun tm => ?_)
    ·have h := h.1 (not_t tm)
     have sb : Ext (fun b => b = w.heap.size) e8 e8 := ((Ext.refl no e8)).none
     refine Q0a (k := 0) (j := 0) a0 (by exact Nat.le_of_ble_eq_true rfl) fun s3 z0 yd => ?_
     have t6 := sb.x_puts z0 (.inl rfl)
     have a0 := Q0e yd rfl
     refine ⟨0, 0, 0, 0, 0, 0, 0, none, 0, 0, 0, 0, 0, 0, 0, 0, 0, none, 0, 0, 0, 0, none, 0, 0, 0, ⟨a0.celli 0 rfl rfl, a0.celli 1 rfl rfl, a0.celli 2 rfl rfl, a0.celli 3 rfl rfl, a0.celli 4 rfl rfl, a0.celli 5 rfl rfl, a0.celli 6 rfl rfl, a0.celli 7 rfl rfl, a0.celli 8 rfl rfl, a0.celli 9 rfl rfl, a0.celli 10 rfl rfl, a0.celli 11 rfl rfl, a0.celli 12 rfl rfl, a0.celli 13 rfl rfl, a0.celli 14 rfl rfl, a0.celli 15 rfl rfl, a0.celli 16 rfl rfl, a0.celli 17 rfl rfl, a0.celli 18 rfl rfl, a0.celli 19 rfl rfl, trivial⟩, ?_⟩
     have h := h s3 t6
     exact h
    have h := h.2 (not_f tm)
    refine ⟨a2, a5, a7, ao, az, b0, ab, aa, a8, a9, b1, ar, b5, bw, ci, ch, b2, b7, b6, b3, cj, 0, cc, c5, c9, 0, ⟨a1.celli 0 rfl rfl, a1.celli 1 rfl rfl, a1.celli 2 rfl rfl, a1.celli 3 rfl rfl, a1.celli 4 rfl rfl, a1.celli 5 rfl rfl, a1.celli 6 rfl rfl, a1.celli 7 rfl rfl, a1.celli 8 rfl rfl, a1.celli 9 rfl rfl, a1.celli 10 rfl rfl, a1.celli 11 rfl rfl, a1.celli 12 rfl rfl, a1.celli 13 rfl rfl, a1.celli 14 rfl rfl, a1.celli 15 rfl rfl, a1.celli 16 rfl rfl, a1.celli 17 rfl rfl, a1.celli 18 rfl rfl, a1.celli 19 rfl rfl, trivial⟩, ?_⟩
    have qe : Ext (fun b => b = w.heap.size) e8 e8 := ((Ext.refl no e8)).none
    refine Q0a (k := 0) (j := 0) a0 (by exact Nat.le_of_ble_eq_true rfl) fun qr yb xt => ?_
    have v0 := qe.x_puts yb (.inl rfl)
    have a0 := Q0e xt rfl
    refine ⟨a2, a5, a7, ao, az, b0, ab, aa, a8, a9, b1, ar, b5, bw, ci, ch, b2, b7, b6, b3, cj, 0, cc, c5, c9, 0, ⟨a0.celli 0 rfl rfl, a0.celli 1 rfl rfl, a0.celli 2 rfl rfl, a0.celli 3 rfl rfl, a0.celli 4 rfl rfl, a0.celli 5 rfl rfl, a0.celli 6 rfl rfl, a0.celli 7 rfl rfl, a0.celli 8 rfl rfl, a0.celli 9 rfl rfl, a0.celli 10 rfl rfl, a0.celli 11 rfl rfl, a0.celli 12 rfl rfl, a0.celli 13 rfl rfl, a0.celli 14 rfl rfl, a0.celli 15 rfl rfl, a0.celli 16 rfl rfl, a0.celli 17 rfl rfl, a0.celli 18 rfl rfl, a0.celli 19 rfl rfl, trivial⟩, ?_⟩
    have h := h qr v0
    exact h
  have h := h.2 (beq_f g9)
  refine bif_of (fun d5 => ?_) (fun d5 => ?_)
  have h := h.1 (beq_t d5)
  first | unfold Q00.J37 | skip
  refine bif_tt d5 ?_
  have h := h f3 (a4.heap.size) ep (Priv.cons kh a1.lt Priv.nil)
  refine h.mono fun vr f1 h => ?_
  obtain ⟨a3, he, hk, h⟩ := h
  refine ⟨a3, he, ?_⟩
  have a0 := hk.blk a0 (by simp)
  have a1 := hk.blk a1 (by simp)
  have pa : Ext (fun b => b = a4.heap.size) f1 f1 := ((Ext.refl no f1)).none
  refine ⟨a1.cani 17 rfl rfl, Q02 fun gn im => ?_⟩
  have nm := pa.x_set (q := a4.heap.size) (i := 17) rfl (.inl rfl) im
  have a0 := a0.oth (q := a4.heap.size) (i := 17) rfl aq im
  have a1 : Blk gn a4.heap.size 30 [.int .i64 a2, .int .i64 0, .int .i64 0, .int .u64 0, .int .i64 0, .int .i64 0, .int .i64 0, .slice none 0 0, .int .u64 0, .int .i64 0, .int .i64 0, .int .u64 0, .int .i64 0, .int .i64 0, .int .i64 0, .slice none 0 0, .int .u64 0, .int .i64 a3, .slice none 0 0, .int .u64 0] := a1.seti 17 rfl im
  have h := h gn nm
  refine h.mono fun x7 x3 h => ?_
  obtain ⟨e7, ec, ed, he, hk, h⟩ := h
  refine ⟨e7, ec, ed, he, ?_⟩
  have a0 := hk.blk a0 (by simp)
  have a1 := hk.blk a1 (by simp)
  refine ⟨a2, a1.celli 0 rfl rfl, ?_⟩
  refine bif_fo (fun jp => ?_) (fun jp => ?_)
  ·have h := h.2 (beq_f jp)
   first | unfold Q00.J9 | unfold Q00.J18 | unfold Q00.J27 | unfold Q00.J36 | skip
   refine h.mono fun xp f7 h => ?_
   obtain ⟨fk, he, hk, h⟩ := h
   refine ⟨fk, he, ?_⟩
   have a0 := hk.blk a0 (by simp)
   have a1 := hk.blk a1 (by simp)
   refine bif_of (fun jy => ?_) (fun jy => ?_)
   ·have h := h.1 (bne_t jy)
    have ne : Ext (fun b => b = w.heap.size) f7 f7 := ((Ext.refl no f7)).none
    refine Q0a (k := 0) (j := 0) a0 (by exact Nat.le_of_ble_eq_true rfl) fun mi sd s2 => ?_
    have ob := ne.x_puts sd (.inl rfl)
    have a0 := Q0e s2 rfl
    refine ⟨0, 0, 0, 0, 0, 0, 0, none, 0, 0, 0, 0, 0, 0, 0, 0, 0, none, 0, 0, 0, 0, none, 0, 0, 0, ⟨a0.celli 0 rfl rfl, a0.celli 1 rfl rfl, a0.celli 2 rfl rfl, a0.celli 3 rfl rfl, a0.celli 4 rfl rfl, a0.celli 5 rfl rfl, a0.celli 6 rfl rfl, a0.celli 7 rfl rfl, a0.celli 8 rfl rfl, a0.celli 9 rfl rfl, a0.celli 10 rfl rfl, a0.celli 11 rfl rfl, a0.celli 12 rfl rfl, a0.celli 13 rfl rfl, a0.celli 14 rfl rfl, a0.celli 15 rfl rfl, a0.celli 16 rfl rfl, a0.celli 17 rfl rfl, a0.celli 18 rfl rfl, a0.celli 19 rfl rfl, trivial⟩, ?_⟩
    have h := h mi ob
    exact h
   have h := h.2 (bne_f jy)
   first | unfold Q00.J8 | unfold Q00.J17 | unfold Q00.J26 | unfold Q00.J35 | skip
   refine ⟨a2, a1.celli 0 rfl rfl, ?_⟩
   refine bif_ff g9 ?_
   refine ⟨a2, a1.celli 0 rfl rfl, ?_⟩
   first | unfold Q00.J6 | unfold Q00.J7 | unfold Q00.J15 | unfold Q00.J16 | unfold Q00.J24 | unfold Q00.J25 | unfold Q00.J33 | unfold Q00.J34 | skip
   refine bif_fo (fun ex => ?_) (fun ex => ?_)
   ·have h := h.2 (beq_f ex)
    first | unfold Q00.J5 | unfold Q00.J14 | unfold Q00.J23 | unfold Q00.J32 | skip
    refine ⟨a2, a1.celli 0 rfl rfl, ?_⟩
    refine bif_ff ex ?_
    first | unfold Q00.J4 | unfold Q00.J13 | unfold Q00.J22 | unfold Q00.J31 | skip
    refine ⟨a2, a1.celli 0 rfl rfl, ?_⟩
    refine bif_tt d5 ?_
    first | unfold Q00.J2 | unfold Q00.J3 | unfold Q00.J11 | unfold Q00.J12 | unfold Q00.J20 | unfold Q00.J21 | unfold Q00.J29 | unfold Q00.J30 | skip
    refine h.mono fun xc dg h => ?_
    obtain ⟨cz, cq, cy, g0, he, hk, h⟩ := h
    refine ⟨cz, cq, cy, g0, he, ?_⟩
    have a0 := hk.blk a0 (by simp)
    have a1 := hk.blk a1 (by simp)
    refine bif_of (fun iu => ?_) (fun iu => ?_)
    ·have h := h.1 (bne_t iu)
     have mk : Ext (fun b => b = w.heap.size) dg dg := ((Ext.refl no dg)).none
     refine Q0a (k := 0) (j := 0) a0 (by exact Nat.le_of_ble_eq_true rfl) fun ld ud t9 => ?_
     have ki := mk.x_puts ud (.inl rfl)
     have a0 := Q0e t9 rfl
     refine ⟨0, 0, 0, 0, 0, 0, 0, none, 0, 0, 0, 0, 0, 0, 0, 0, 0, none, 0, 0, 0, 0, none, 0, 0, 0, ⟨a0.celli 0 rfl rfl, a0.celli 1 rfl rfl, a0.celli 2 rfl rfl, a0.celli 3 rfl rfl, a0.celli 4 rfl rfl, a0.celli 5 rfl rfl, a0.celli 6 rfl rfl, a0.celli 7 rfl rfl, a0.celli 8 rfl rfl, a0.celli 9 rfl rfl, a0.celli 10 rfl rfl, a0.celli 11 rfl rfl, a0.celli 12 rfl rfl, a0.celli 13 rfl rfl, a0.celli 14 rfl rfl, a0.celli 15 rfl rfl, a0.celli 16 rfl rfl, a0.celli 17 rfl rfl, a0.celli 18 rfl rfl, a0.celli 19 rfl rfl, trivial⟩, ?_⟩
     have h := h ld ki
     exact h
    have h := h.2 (bne_f iu)
    have lr : Ext (fun b => b = a4.heap.size) dg dg := ((Ext.refl no dg)).none
    refine ⟨a1.cani 18 rfl rfl, Q02 fun gr iv => ?_⟩
    have mn := lr.x_set (q := a4.heap.size) (i := 18) rfl (.inl rfl) iv
    have a0 := a0.oth (q := a4.heap.size) (i := 18) rfl aq iv
    have a1 : Blk gr a4.heap.size 30 [.int .i64 a2, .int .i64 0, .int .i64 0, .int .u64 0, .int .i64 0, .int .i64 0, .int .i64 0, .slice none 0 0, .int .u64 0, .int .i64 0, .int .i64 0, .int .u64 0, .int .i64 0, .int .i64 0, .int .i64 0, .slice none 0 0, .int .u64 0, .int .i64 a3, .slice cz cq cy, .int .u64 0] := a1.seti 18 rfl iv
    first | unfold Q00.J1 | unfold Q00.J10 | unfold Q00.J19 | unfold Q00.J28 | skip
    refine ⟨a2, 0, 0, 0, 0, 0, 0, none, 0, 0, 0, 0, 0, 0, 0, 0, 0, none, 0, 0, 0, a3, cz, cq, cy, 0, ⟨a1.celli 0 rfl rfl, a1.celli 1 rfl rfl, a1.celli 2 rfl rfl, a1.celli 3 rfl rfl, a1.celli 4 rfl rfl, a1.celli 5 rfl rfl, a1.celli 6 rfl rfl, a1.celli 7 rfl rfl, a1.celli 8 rfl rfl, a1.celli 9 rfl rfl, a1.celli 10 rfl rfl, a1.celli 11 rfl rfl, a1.celli 12 rfl rfl, a1.celli 13 rfl rfl, a1.celli 14 rfl rfl, a1.celli 15 rfl rfl, a1.celli 16 rfl rfl, a1.celli 17 rfl rfl, a1.celli 18 rfl rfl, a1.celli 19 rfl rfl, trivial⟩, ?_⟩
    have h := h gr mn
    refine h.mono fun xd dd h => ?_
    obtain ⟨ey, he, hk, h⟩ := h
    refine ⟨ey, he, ?_⟩
    have a0 := hk.blk a0 (by simp)
    have a1 := hk.blk a1 (by simp)
    refine bif_of (fun ja => ?_) (fun ja => ?_)
    ·have h := h.1 (not_t ja)
     have os : Ext (fun b => b = w.heap.size) dd dd := ((Ext.refl no dd)).none
     refine Q0a (k := 0) (j := 0) a0 (by exact Nat.le_of_ble_eq_true rfl) fun l7 su tf => ?_
     have ms := os.x_puts su (.inl rfl)
     have a0 := Q0e tf rfl
     refine ⟨0, 0, 0, 0, 0, 0, 0, none, 0, 0, 0, 0, 0, 0, 0, 0, 0, none, 0, 0, 0, 0, none, 0, 0, 0, ⟨a0.celli 0 rfl rfl, a0.celli 1 rfl rfl, a0.celli 2 rfl rfl, a0.celli 3 rfl rfl, a0.celli 4 rfl rfl, a0.celli 5 rfl rfl, a0.celli 6 rfl rfl, a0.celli 7 rfl rfl, a0.celli 8 rfl rfl, a0.celli 9 rfl rfl, a0.celli 10 rfl rfl, a0.celli 11 rfl rfl, a0.celli 12 rfl rfl, a0.celli 13 rfl rfl, a0.celli 14 rfl rfl, a0.celli 15 rfl rfl, a0.celli 16 rfl rfl, a0.celli 17 rfl rfl, a0.celli 18 rfl rfl, a0.celli 19 rfl rfl, trivial⟩, ?_⟩
     have h := h l7 ms
     exact h
    have h := h.2 (not_f ja)
    refine ⟨a2, 0, 0, 0, 0, 0, 0, none, 0, 0, 0, 0, 0, 0, 0, 0, 0, none, 0, 0, 0, a3, cz, cq, cy, 0, ⟨a1.celli 0 rfl rfl, a1.celli 1 rfl rfl, a1.celli 2 rfl rfl, a1.celli 3 rfl rfl, a1.celli 4 rfl rfl, a1.celli 5 rfl rfl, a1.celli 6 rfl rfl, a1.celli 7 rfl rfl, a1.celli 8 rfl rfl, a1.celli 9 rfl rfl, a1.celli 10 rfl rfl, a1.celli 11 rfl rfl, a1.celli 12 rfl rfl, a1.celli 13 rfl rfl, a1.celli 14 rfl rfl, a1.celli 15 rfl rfl, a1.celli 16 rfl rfl, a1.celli 17 rfl rfl, a1.celli 18 rfl rfl, a1.celli 19 rfl rfl, trivial⟩, ?_⟩
    have ou : Ext (fun b => b = w.heap.size) dd dd := ((Ext.refl no dd)).none
    refine Q0a (k := 0) (j := 0) a0 (by exact Nat.le_of_ble_eq_true rfl) fun p3 si qu => ?_
    have ls := ou.x_puts si (.inl rfl)
    have a0 := Q0e qu rfl
    refine ⟨a2, 0, 0, 0, 0, 0, 0, none, 0, 0, 0, 0, 0, 0, 0, 0, 0, none, 0, 0, 0, a3, cz, cq, cy, 0, ⟨a0.celli 0 rfl rfl, a0.celli 1 rfl rfl, a0.celli 2 rfl rfl, a0.celli 3 rfl rfl, a0.celli 4 rfl rfl, a0.celli 5 rfl rfl, a0.celli 6 rfl rfl, a0.celli 7 rfl rfl, a0.celli 8 rfl rfl, a0.celli 9 rfl rfl, a0.celli 10 rfl rfl, a0.celli 11 rfl rfl, a0.celli 12 rfl rfl, a0.celli 13 rfl rfl, a0.celli 14 rfl rfl, a0.celli 15 rfl rfl, a0.celli 16 rfl rfl, a0.celli 17 rfl rfl, a0.celli 18 rfl rfl, a0.celli 19 rfl rfl, trivial⟩, ?_⟩
    have h := h p3 ls
    exact h
   have h := h.1 (beq_t ex)
   refine h.mono fun vw e3 h => ?_
   obtain ⟨av, be, bx, cd, cg, bc, bd, bg, ba, ce, fy, he, hk, h⟩ := h
   refine ⟨av, be, bx, cd, cg, bc, bd, bg, ba, ce, fy, he, ?_⟩
   have a0 := hk.blk a0 (by simp)
   have a1 := hk.blk a1 (by simp)
   refine Q02 fun x1 ge => ?_
   have fh := Blk.of_new ge
   have yo := ((Ext.refl no e3)).size
   have m4 := Nat.ne_of_lt a0.lt
   have a0 := a0.x_alloc ge
   have lc := Nat.ne_of_lt a1.lt
   have a1 := a1.x_alloc ge
   have lh := (Ext.refl no e3).x_alloc ge
   refine Q0a (k := 0) (j := 0) fh (by exact Nat.le_of_ble_eq_true rfl) fun ii k4 um => ?_
   have gl := lh.x_puts k4 (.inr yo)
   have a0 := a0.x_puts k4 m4
   have a1 := a1.x_puts k4 lc
   have fh := Q0e um rfl
   refine bif_of (fun kc => ?_) (fun kc => ?_)
   ·have h := h.1 (bne_t kc)
    have mp : Ext (fun b => b = w.heap.size) e3 ii := (gl).none
    refine Q0a (k := 0) (j := 0) a0 (by exact Nat.le_of_ble_eq_true rfl) fun ph qj ub => ?_
    have o2 := mp.x_puts qj (.inl rfl)
    have a0 := Q0e ub rfl
    refine ⟨0, 0, 0, 0, 0, 0, 0, none, 0, 0, 0, 0, 0, 0, 0, 0, 0, none, 0, 0, 0, 0, none, 0, 0, 0, ⟨a0.celli 0 rfl rfl, a0.celli 1 rfl rfl, a0.celli 2 rfl rfl, a0.celli 3 rfl rfl, a0.celli 4 rfl rfl, a0.celli 5 rfl rfl, a0.celli 6 rfl rfl, a0.celli 7 rfl rfl, a0.celli 8 rfl rfl, a0.celli 9 rfl rfl, a0.celli 10 rfl rfl, a0.celli 11 rfl rfl, a0.celli 12 rfl rfl, a0.celli 13 rfl rfl, a0.celli 14 rfl rfl, a0.celli 15 rfl rfl, a0.celli 16 rfl rfl, a0.celli 17 rfl rfl, a0.celli 18 rfl rfl, a0.celli 19 rfl rfl, trivial⟩, ?_⟩
    have h := h ph o2
    exact h
   have h := h.2 (bne_f kc)
   refine ⟨av, be, bx, cd, cg, bc, bd, bg, ba, ce, ⟨fh.celli 0 rfl rfl, fh.celli 1 rfl rfl, fh.celli 2 rfl rfl, fh.celli 3 rfl rfl, fh.celli 4 rfl rfl, fh.celli 5 rfl rfl, fh.celli 6 rfl rfl, fh.celli 7 rfl rfl, trivial⟩, ?_⟩
   have m6 : Ext (fun b => b = a4.heap.size) e3 ii := (gl).none
   refine Q0a (k := 1) (j := 0) (vs := [.int .i64 av, .int .i64 be, .int .u64 bx, .int .i64 cd, .int .i64 cg, .int .i64 bc, .slice bd bg ba, .int .u64 ce]) a1 (by exact Nat.le_of_ble_eq_true rfl) fun i1 me s9 => ?_
   have pe := m6.x_puts me (.inl rfl)
   have a0 := a0.x_puts me aq
   have a1 : Blk i1 a4.heap.size 30 [.int .i64 a2, .int .i64 av, .int .i64 be, .int .u64 bx, .int .i64 cd, .int .i64 cg, .int .i64 bc, .slice bd bg ba, .int .u64 ce, .int .i64 0, .int .i64 0, .int .u64 0, .int .i64 0, .int .i64 0, .int .i64 0, .slice none 0 0, .int .u64 0, .int .i64 a3, .slice none 0 0, .int .u64 0] := by simpa only [setAll, Nat.zero_add, Nat.add_zero, List.set_cons_zero, List.set_cons_succ] using s9
   first | unfold Q00.J5 | unfold Q00.J14 | unfold Q00.J23 | unfold Q00.J32 | skip
   refine ⟨a2, a1.celli 0 rfl rfl, ?_⟩
   refine bif_tt ex ?_
   have h := h i1 pe
   refine h.mono fun v4 dt h => ?_
   obtain ⟨b9, br, cb, cm, cv, bp, bm, bs, bj, co, gh, he, hk, h⟩ := h
   refine ⟨b9, br, cb, cm, cv, bp, bm, bs, bj, co, gh, he, ?_⟩
   have a0 := hk.blk a0 (by simp)
   have a1 := hk.blk a1 (by simp)
   refine Q02 fun xh gd => ?_
   have fg := Blk.of_new gd
   have y3 := ((Ext.refl no dt)).size
   have o8 := Nat.ne_of_lt a0.lt
   have a0 := a0.x_alloc gd
   have m0 := Nat.ne_of_lt a1.lt
   have a1 := a1.x_alloc gd
   have mb := (Ext.refl no dt).x_alloc gd
   refine Q0a (k := 0) (j := 0) fg (by exact Nat.le_of_ble_eq_true rfl) fun gv jr qm => ?_
   have ic := mb.x_puts jr (.inr y3)
   have a0 := a0.x_puts jr o8
   have a1 := a1.x_puts jr m0
   have fg := Q0e qm rfl
   refine bif_of (fun k9 => ?_) (fun k9 => ?_)
   ·have h := h.1 (bne_t k9)
    have la : Ext (fun b => b = w.heap.size) dt gv := (ic).none
    refine Q0a (k := 0) (j := 0) a0 (by exact Nat.le_of_ble_eq_true rfl) fun n4 u8 v1 => ?_
    have lb := la.x_puts u8 (.inl rfl)
    have a0 := Q0e v1 rfl
    refine ⟨0, 0, 0, 0, 0, 0, 0, none, 0, 0, 0, 0, 0, 0, 0, 0, 0, none, 0, 0, 0, 0, none, 0, 0, 0, ⟨a0.celli 0 rfl rfl, a0.celli 1 rfl rfl, a0.celli 2 rfl rfl, a0.celli 3 rfl rfl, a0.celli 4 rfl rfl, a0.celli 5 rfl rfl, a0.celli 6 rfl rfl, a0.celli 7 rfl rfl, a0.celli 8 rfl rfl, a0.celli 9 rfl rfl, a0.celli 10 rfl rfl, a0.celli 11 rfl rfl, a0.celli 12 rfl rfl, a0.celli 13 rfl rfl, a0.celli 14 rfl rfl, a0.celli 15 rfl rfl, a0.celli 16 rfl rfl, a0.celli 17 rfl rfl, a0.celli 18 rfl rfl, a0.celli 19 rfl rfl, trivial⟩, ?_⟩
    have h := h n4 lb
    exact h
   have h := h.2 (bne_f k9)
   refine ⟨b9, br, cb, cm, cv, bp, bm, bs, bj, co, ⟨fg.celli 0 rfl rfl, fg.celli 1 rfl rfl, fg.celli 2 rfl rfl, fg.celli 3 rfl rfl, fg.celli 4 rfl rfl, fg.celli 5 rfl rfl, fg.celli 6 rfl rfl, fg.celli 7 rfl rfl, trivial⟩, ?_⟩
   have nf : Ext (fun b => b = a4.heap.size) dt gv := (ic).none
   refine Q0a (k := 9) (j := 0) (vs := [.int .i64 b9, .int .i64 br, .int .u64 cb, .int .i64 cm, .int .i64 cv, .int .i64 bp, .slice bm bs bj, .int .u64 co]) a1 (by exact Nat.le_of_ble_eq_true rfl) fun i0 pk uk => ?_
   have lw := nf.x_puts pk (.inl rfl)
   have a0 := a0.x_puts pk aq
   have a1 : Blk i0 a4.heap.size 30 [.int .i64 a2, .int .i64 av, .int .i64 be, .int .u64 bx, .int .i64 cd, .int .i64 cg, .int .i64 bc, .slice bd bg ba, .int .u64 ce, .int .i64 b9, .int .i64 br, .int .u64 cb, .int .i64 cm, .int .i64 cv, .int .i64 bp, .slice bm bs bj, .int .u64 co, .int .i64 a3, .slice none 0 0, .int .u64 0] := by simpa only [setAll, Nat.zero_add, Nat.add_zero, List.set_cons_zero, List.set_cons_succ] using uk
   first | unfold Q00.J4 | unfold Q00.J13 | unfold Q00.J22 | unfold Q00.J31 | skip
   refine ⟨a2, a1.celli 0 rfl rfl, ?_⟩
   refine bif_tt d5 ?_
   first | unfold Q00.J2 | unfold Q00.J3 | unfold Q00.J11 | unfold Q00.J12 | unfold Q00.J20 | unfold Q00.J21 | unfold Q00.J29 | unfold Q00.J30 | skip
   have h := h i0 lw
   refine h.mono fun xm dh h => ?_
   obtain ⟨d0, cw, cp, g1, he, hk, h⟩ := h
   refine ⟨d0, cw, cp, g1, he, ?_⟩
   have a0 := hk.blk a0 (by simp)
   have a1 := hk.blk a1 (by simp)
   refine bif_of (fun k5 => ?_) (fun k5 => ?_)
   ·have h := h.1 (bne_t k5)
    have l0 : Ext (fun b => b = w.heap.size) dh dh := ((Ext.refl no dh)).none
    refine Q0a (k := 0) (j := 0) a0 (by exact Nat.le_of_ble_eq_true rfl) fun m7 ty sz => ?_
    have nq := l0.x_puts ty (.inl rfl)
    have a0 := Q0e sz rfl
    refine ⟨0, 0, 0, 0, 0, 0, 0, none, 0, 0, 0, 0, 0, 0, 0, 0, 0, none, 0, 0, 0, 0, none, 0, 0, 0, ⟨a0.celli 0 rfl rfl, a0.celli 1 rfl rfl, a0.celli 2 rfl rfl, a0.celli 3 rfl rfl, a0.celli 4 rfl rfl, a0.celli 5 rfl rfl, a0.celli 6 rfl rfl, a0.celli 7 rfl rfl, a0.celli 8 rfl rfl, a0.celli 9 rfl rfl, a0.celli 10 rfl rfl, a0.celli 11 rfl rfl, a0.celli 12 rfl rfl, a0.celli 13 rfl rfl, a0.celli 14 rfl rfl, a0.celli 15 rfl rfl, a0.celli 16 rfl rfl, a0.celli 17 rfl rfl, a0.celli 18 rfl rfl, a0.celli 19 rfl rfl, trivial⟩, ?_⟩
    have h := h m7 nq
    exact h
   have h := h.2 (bne_f k5)
   have pl : Ext (fun b => b = a4.heap.size) dh dh := ((Ext.refl no dh)).none
   refine ⟨a1.cani 18 rfl rfl, Q02 fun gq k2 => ?_⟩
   have po := pl.x_set (q := a4.heap.size) (i := 18) rfl (.inl rfl) k2
   have a0 := a0.oth (q := a4.heap.size) (i := 18) rfl aq k2
   have a1 : Blk gq a4.heap.size 30 [.int .i64 a2, .int .i64 av, .int .i64 be, .int .u64 bx, .int .i64 cd, .int .i64 cg, .int .i64 bc, .slice bd bg ba, .int .u64 ce, .int .i64 b9, .int .i64 br, .int .u64 cb, .int .i64 cm, .int .i64 cv, .int .i64 bp, .slice bm bs bj, .int .u64 co, .int .i64 a3, .slice d0 cw cp, .int .u64 0] := a1.seti 18 rfl k2
   first | unfold Q00.J1 | unfold Q00.J10 | unfold Q00.J19 | unfold Q00.J28 | skip
   refine ⟨a2, av, be, bx, cd, cg, bc, bd, bg, ba, ce, b9, br, cb, cm, cv, bp, bm, bs, bj, co, a3, d0, cw, cp, 0, ⟨a1.celli 0 rfl rfl, a1.celli 1 rfl rfl, a1.celli 2 rfl rfl, a1.celli 3 rfl rfl, a1.celli 4 rfl rfl, a1.celli 5 rfl rfl, a1.celli 6 rfl rfl, a1.celli 7 rfl rfl, a1.celli 8 rfl rfl, a1.celli 9 rfl rfl, a1.celli 10 rfl rfl, a1.celli 11 rfl rfl, a1.celli 12 rfl rfl, a1.celli 13 rfl rfl, a1.celli 14 rfl rfl, a1.celli 15 rfl rfl, a1.celli 16 rfl rfl, a1.celli 17 rfl rfl, a1.celli 18 rfl rfl, a1.celli 19 rfl rfl, trivial⟩, ?_⟩
   have h := h gq po
   refine h.mono fun vz de h => ?_
   obtain ⟨fa, he, hk, h⟩ := h
   refine ⟨fa, he, ?_⟩
   have a0 := hk.blk a0 (by simp)
   have a1 := hk.blk a1 (by simp)
   refine bif_of (fun ix => ?_) (fun ix => ?_)
   ·have h := h.1 (not_t ix)
    have na : Ext (fun b => b = w.heap.size) de de := ((Ext.refl no de)).none
    refine Q0a (k := 0) (j := 0) a0 (by exact Nat.le_of_ble_eq_true rfl) fun ok tg t0 => ?_
    have pb := na.x_puts tg (.inl rfl)
    have a0 := Q0e t0 rfl
    refine ⟨0, 0, 0, 0, 0, 0, 0, none, 0, 0, 0, 0, 0, 0, 0, 0, 0, none, 0, 0, 0, 0, none, 0, 0, 0, ⟨a0.celli 0 rfl rfl, a0.celli 1 rfl rfl, a0.celli 2 rfl rfl, a0.celli 3 rfl rfl, a0.celli 4 rfl rfl, a0.celli 5 rfl rfl, a0.celli 6 rfl rfl, a0.celli 7 rfl rfl, a0.celli 8 rfl rfl, a0.celli 9 rfl rfl, a0.celli 10 rfl rfl, a0.celli 11 rfl rfl, a0.celli 12 rfl rfl, a0.celli 13 rfl rfl, a0.celli 14 rfl rfl, a0.celli 15 rfl rfl, a0.celli 16 rfl rfl, a0.celli 17 rfl rfl, a0.celli 18 rfl rfl, a0.celli 19 rfl rfl, trivial⟩, ?_⟩
    have h := h ok pb
    exact h
   have h := h.2 (not_f ix)
   refine ⟨a2, av, be, bx, cd, cg, bc, bd, bg, ba, ce, b9, br, cb, cm, cv, bp, bm, bs, bj, co, a3, d0, cw, cp, 0, ⟨a1.celli 0 rfl rfl, a1.celli 1 rfl rfl, a1.celli 2 rfl rfl, a1.celli 3 rfl rfl, a1.celli 4 rfl rfl, a1.celli 5 rfl rfl, a1.celli 6 rfl rfl, a1.celli 7 rfl rfl, a1.celli 8 rfl rfl, a1.celli 9 rfl rfl, a1.celli 10 rfl rfl, a1.celli 11 rfl rfl, a1.celli 12 rfl rfl, a1.celli 13 rfl rfl, a1.celli 14 rfl rfl, a1.celli 15 rfl rfl, a1.celli 16 rfl rfl, a1.celli 17 rfl rfl, a1.celli 18 rfl rfl, a1.celli 19 rfl rfl, trivial⟩, ?_⟩
   have kq : Ext (fun b => b = w.heap.size) de de := ((Ext.refl no de)).none
   refine Q0a (k := 0) (j := 0) a0 (by exact Nat.le_of_ble_eq_true rfl) fun lk t3 ut => ?_
   have mj := kq.x_puts t3 (.inl rfl)
   have a0 := Q0e ut rfl
   refine ⟨a2, av, be, bx, cd, cg, bc, bd, bg, ba, ce, b9, br, cb, cm, cv, bp, bm, bs, bj, co, a3, d0, cw, cp, 0, ⟨a0.celli 0 rfl rfl, a0.celli 1 rfl rfl, a0.celli 2 rfl rfl, a0.celli 3 rfl rfl, a0.celli 4 rfl rfl, a0.celli 5 rfl rfl, a0.celli 6 rfl rfl, a0.celli 7 rfl rfl, a0.celli 8 rfl rfl, a0.celli 9 rfl rfl, a0.celli 10 rfl rfl, a0.celli 11 rfl rfl, a0.celli 12 rfl rfl, a0.celli 13 rfl rfl, a0.celli 14 rfl rfl, a0.celli 15 rfl rfl, a0.celli 16 rfl rfl, a0.celli 17 rfl rfl, a0.celli 18 rfl rfl, a0.celli 19 rfl rfl, trivial⟩, ?_⟩
   have h := h lk mj
   exact h
  have h := h.1 (beq_t jp)
  refine h.mono fun vo f4 h => ?_
  obtain ⟨ai, he, hk, h⟩ := h
  refine ⟨ai, he, ?_⟩
  have a0 := hk.blk a0 (by simp)
  have a1 := hk.blk a1 (by simp)
  have mz : Ext (fun b => b = a4.heap.size) f4 f4 := ((Ext.refl no f4)).none
  refine ⟨a1.cani 19 rfl rfl, Q02 fun gw kb => ?_⟩
  have lj := mz.x_set (q := a4.heap.size) (i := 19) rfl (.inl rfl) kb
  have a0 := a0.oth (q := a4.heap.size) (i := 19) rfl aq kb
  have a1 : Blk gw a4.heap.size 30 [.int .i64 a2, .int .i64 0, .int .i64 0, .int .u64 0, .int .i64 0, .int .i64 0, .int .i64 0, .slice none 0 0, .int .u64 0, .int .i64 0, .int .i64 0, .int .u64 0, .int .i64 0, .int .i64 0, .int .i64 0, .slice none 0 0, .int .u64 0, .int .i64 a3, .slice none 0 0, .int .u64 ai] := a1.seti 19 rfl kb
  first | unfold Q00.J9 | unfold Q00.J18 | unfold Q00.J27 | unfold Q00.J36 | skip
  have h := h gw lj
  refine h.mono fun xb en h => ?_
  obtain ⟨fx, he, hk, h⟩ := h
  refine ⟨fx, he, ?_⟩
  have a0 := hk.blk a0 (by simp)
  have a1 := hk.blk a1 (by simp)
  refine bif_of (fun io => ?_) (fun io => ?_)
  ·have h := h.1 (bne_t io)
   have m9 : Ext (fun b => b = w.heap.size) en en := ((Ext.refl no en)).none
   refine Q0a (k := 0) (j := 0) a0 (by exact Nat.le_of_ble_eq_true rfl) fun nz tb ta => ?_
   have ns := m9.x_puts tb (.inl rfl)
   have a0 := Q0e ta rfl
   refine ⟨0, 0, 0, 0, 0, 0, 0, none, 0, 0, 0, 0, 0, 0, 0, 0, 0, none, 0, 0, 0, 0, none, 0, 0, 0, ⟨a0.celli 0 rfl rfl, a0.celli 1 rfl rfl, a0.celli 2 rfl rfl, a0.celli 3 rfl rfl, a0.celli 4 rfl rfl, a0.celli 5 rfl rfl, a0.celli 6 rfl rfl, a0.celli 7 rfl rfl, a0.celli 8 rfl rfl, a0.celli 9 rfl rfl, a0.celli 10 rfl rfl, a0.celli 11 rfl rfl, a0.celli 12 rfl rfl, a0.celli 13 rfl rfl, a0.celli 14 rfl rfl, a0.celli 15 rfl rfl, a0.celli 16 rfl rfl, a0.celli 17 rfl rfl, a0.celli 18 rfl rfl, a0.celli 19 rfl rfl, trivial⟩, ?_⟩
   have h := h nz ns
   exact h
  have h := h.2 (bne_f io)
  first | unfold Q00.J8 | unfold Q00.J17 | unfold Q00.J26 | unfold Q00.J35 | skip
  refine ⟨a2, a1.celli 0 rfl rfl, ?_⟩
  refine bif_ff g9 ?_
  refine ⟨a2, a1.celli 0 rfl rfl, ?_⟩
  first | unfold Q00.J6 | unfold Q00.J7 | unfold Q00.J15 | unfold Q00.J16 | unfold Q00.J24 | unfold Q00.J25 | unfold Q00.J33 | unfold Q00.J34 | skip
  refine bif_fo (fun f8 => ?_) (fun f8 => ?_)
  ·have h := h.2 (beq_f f8)
   first | unfold Q00.J5 | unfold Q00.J14 | unfold Q00.J23 | unfold Q00.J32 | skip
   refine ⟨a2, a1.celli 0 rfl rfl, ?_⟩
   refine bif_ff f8 ?_
   first | unfold Q00.J4 | unfold Q00.J13 | unfold Q00.J22 | unfold Q00.J31 | skip
   refine ⟨a2, a1.celli 0 rfl rfl, ?_⟩
   refine bif_tt d5 ?_
   first | unfold Q00.J2 | unfold Q00.J3 | unfold Q00.J11 | unfold Q00.J12 | unfold Q00.J20 | unfold Q00.J21 | unfold Q00.J29 | unfold Q00.J30 | skip
   refine h.mono fun xo dp h => ?_
   obtain ⟨cl, d1, cs, fv, he, hk, h⟩ := h
   refine ⟨cl, d1, cs, fv, he, ?_⟩
   have a0 := hk.blk a0 (by simp)
   have a1 := hk.blk a1 (by simp)
   refine bif_of (fun ju => ?_) (fun ju => ?_)
   ·have h := h.1 (bne_t ju)
    have ml : Ext (fun b => b = w.heap.size) dp dp := ((Ext.refl no dp)).none
    refine Q0a (k := 0) (j := 0) a0 (by exact Nat.le_of_ble_eq_true rfl) fun kj sg sy => ?_
    have nw := ml.x_puts sg (.inl rfl)
    have a0 := Q0e sy rfl
    refine ⟨0, 0, 0, 0, 0, 0, 0, none, 0, 0, 0, 0, 0, 0, 0, 0, 0, none, 0, 0, 0, 0, none, 0, 0, 0, ⟨a0.celli 0 rfl rfl, a0.celli 1 rfl rfl, a0.celli 2 rfl rfl, a0.celli 3 rfl rfl, a0.celli 4 rfl rfl, a0.celli 5 rfl rfl, a0.celli 6 rfl rfl, a0.celli 7 rfl rfl, a0.celli 8 rfl rfl, a0.celli 9 rfl rfl, a0.celli 10 rfl rfl, a0.celli 11 rfl rfl, a0.celli 12 rfl rfl, a0.celli 13 rfl rfl, a0.celli 14 rfl rfl, a0.celli 15 rfl rfl, a0.celli 16 rfl rfl, a0.celli 17 rfl rfl, a0.celli 18 rfl rfl, a0.celli 19 rfl rfl, trivial⟩, ?_⟩
    have h := h kj nw
    exact h
   have h := h.2 (bne_f ju)
   have lx : Ext (fun b => b = a4.heap.size) dp dp := ((Ext.refl no dp)).none
   refine ⟨a1.cani 18 rfl rfl, Q02 fun i2 k1 => ?_⟩
   have ny := lx.x_set (q := a4.heap.size) (i := 18) rfl (.inl rfl) k1
   have a0 := a0.oth (q := a4.heap.size) (i := 18) rfl aq k1
   have a1 : Blk i2 a4.heap.size 30 [.int .i64 a2, .int .i64 0, .int .i64 0, .int .u64 0, .int .i64 0, .int .i64 0, .int .i64 0, .slice none 0 0, .int .u64 0, .int .i64 0, .int .i64 0, .int .u64 0, .int .i64 0, .int .i64 0, .int .i64 0, .slice none 0 0, .int .u64 0, .int .i64 a3, .slice cl d1 cs, .int .u64 ai] := a1.seti 18 rfl k1
   first | unfold Q00.J1 | unfold Q00.J10 | unfold Q00.J19 | unfold Q00.J28 | skip
   refine ⟨a2, 0, 0, 0, 0, 0, 0, none, 0, 0, 0, 0, 0, 0, 0, 0, 0, none, 0, 0, 0, a3, cl, d1, cs, ai, ⟨a1.celli 0 rfl rfl, a1.celli 1 rfl rfl, a1.celli 2 rfl rfl, a1.celli 3 rfl rfl, a1.celli 4 rfl rfl, a1.celli 5 rfl rfl, a1.celli 6 rfl rfl, a1.celli 7 rfl rfl, a1.celli 8 rfl rfl, a1.celli 9 rfl rfl, a1.celli 10 rfl rfl, a1.celli 11 rfl rfl, a1.celli 12 rfl rfl, a1.celli 13 rfl rfl, a1.celli 14 rfl rfl, a1.celli 15 rfl rfl, a1.celli 16 rfl rfl, a1.celli 17 rfl rfl, a1.celli 18 rfl rfl, a1.celli 19 rfl rfl, trivial⟩, ?_⟩
   have h := h i2 ny
   refine h.mono fun x8 dl h => ?_
   obtain ⟨er, he, hk, h⟩ := h
   refine ⟨er, he, ?_⟩
   have a0 := hk.blk a0 (by simp)
   have a1 := hk.blk a1 (by simp)
   refine bif_of (fun jd => ?_) (fun jd => ?_)
   ·have h := h.1 (not_t jd)
    have mc : Ext (fun b => b = w.heap.size) dl dl := ((Ext.refl no dl)).none
    refine Q0a (k := 0) (j := 0) a0 (by exact Nat.le_of_ble_eq_true rfl) fun o7 ue tt => ?_
    have ly := mc.x_puts ue (.inl rfl)
    have a0 := Q0e tt rfl
    refine ⟨0, 0, 0, 0, 0, 0, 0, none, 0, 0, 0, 0, 0, 0, 0, 0, 0, none, 0, 0, 0, 0, none, 0, 0, 0, ⟨a0.celli 0 rfl rfl, a0.celli 1 rfl rfl, a0.celli 2 rfl rfl, a0.celli 3 rfl rfl, a0.celli 4 rfl rfl, a0.celli 5 rfl rfl, a0.celli 6 rfl rfl, a0.celli 7 rfl rfl, a0.celli 8 rfl rfl, a0.celli 9 rfl rfl, a0.celli 10 rfl rfl, a0.celli 11 rfl rfl, a0.celli 12 rfl rfl, a0.celli 13 rfl rfl, a0.celli 14 rfl rfl, a0.celli 15 rfl rfl, a0.celli 16 rfl rfl, a0.celli 17 rfl rfl, a0.celli 18 rfl rfl, a0.celli 19 rfl rfl, trivial⟩, ?_⟩
    have h := h o7 ly
    exact h
   have h := h.2 (not_f jd)
   refine ⟨a2, 0, 0, 0, 0, 0, 0, none, 0, 0, 0, 0, 0, 0, 0, 0, 0, none, 0, 0, 0, a3, cl, d1, cs, ai, ⟨a1.celli 0 rfl rfl, a1.celli 1 rfl rfl, a1.celli 2 rfl rfl, a1.celli 3 rfl rfl, a1.celli 4 rfl rfl, a1.celli 5 rfl rfl, a1.celli 6 rfl rfl, a1.celli 7 rfl rfl, a1.celli 8 rfl rfl, a1.celli 9 rfl rfl, a1.celli 10 rfl rfl, a1.celli 11 rfl rfl, a1.celli 12 rfl rfl, a1.celli 13 rfl rfl, a1.celli 14 rfl rfl, a1.celli 15 rfl rfl, a1.celli 16 rfl rfl, a1.celli 17 rfl rfl, a1.celli 18 rfl rfl, a1.celli 19 rfl rfl, trivial⟩, ?_⟩
   have kl : Ext (fun b => b = w.heap.size) dl dl := ((Ext.refl no dl)).none
   refine Q0a (k := 0) (j := 0) a0 (by exact Nat.le_of_ble_eq_true rfl) fun md sf tv => ?_
   have n1 := kl.x_puts sf (.inl rfl)
   have a0 := Q0e tv rfl
   refine ⟨a2, 0, 0, 0, 0, 0, 0, none, 0, 0, 0, 0, 0, 0, 0, 0, 0, none, 0, 0, 0, a3, cl, d1, cs, ai, ⟨a0.celli 0 rfl rfl, a0.celli 1 rfl rfl, a0.celli 2 rfl rfl, a0.celli 3 rfl rfl, a0.celli 4 rfl rfl, a0.celli 5 rfl rfl, a0.celli 6 rfl rfl, a0.celli 7 rfl rfl, a0.celli 8 rfl rfl, a0.celli 9 rfl rfl, a0.celli 10 rfl rfl, a0.celli 11 rfl rfl, a0.celli 12 rfl rfl, a0.celli 13 rfl rfl, a0.celli 14 rfl rfl, a0.celli 15 rfl rfl, a0.celli 16 rfl rfl, a0.celli 17 rfl rfl, a0.celli 18 rfl rfl, a0.celli 19 rfl rfl, trivial⟩, ?_⟩
   have h := h md n1
   exact h
  have h := h.1 (beq_t f8)
  refine h.mono fun v6 dv h => ?_
  obtain ⟨a6, ag, ap, aw, ay, ae, ad, af, ah, ax, fr, he, hk, h⟩ := h
  refine ⟨a6, ag, ap, aw, ay, ae, ad, af, ah, ax, fr, he, ?_⟩
  have a0 := hk.blk a0 (by simp)
  have a1 := hk.blk a1 (by simp)
  refine Q02 fun xk fz => ?_
  have fi := Blk.of_new fz
  have xw := ((Ext.refl no dv)).size
  have ni := Nat.ne_of_lt a0.lt
  have a0 := a0.x_alloc fz
  have km := Nat.ne_of_lt a1.lt
  have a1 := a1.x_alloc fz
  have pf := (Ext.refl no dv).x_alloc fz
  refine Q0a (k := 0) (j := 0) fi (by exact Nat.le_of_ble_eq_true rfl) fun i5 k0 s6 => ?_
  have ib := pf.x_puts k0 (.inr xw)
  have a0 := a0.x_puts k0 ni
  have a1 := a1.x_puts k0 km
  have fi := Q0e s6 rfl
  refine bif_of (fun iy => ?_) (fun iy => ?_)
  ·have h := h.1 (bne_t iy)
   have mf : Ext (fun b => b = w.heap.size) dv i5 := (ib).none
   refine Q0a (k := 0) (j := 0) a0 (by exact Nat.le_of_ble_eq_true rfl) fun l8 ts tn => ?_
   have pn := mf.x_puts ts (.inl rfl)
   have a0 := Q0e tn rfl
   refine ⟨0, 0, 0, 0, 0, 0, 0, none, 0, 0, 0, 0, 0, 0, 0, 0, 0, none, 0, 0, 0, 0, none, 0, 0, 0, ⟨a0.celli 0 rfl rfl, a0.celli 1 rfl rfl, a0.celli 2 rfl rfl, a0.celli 3 rfl rfl, a0.celli 4 rfl rfl, a0.celli 5 rfl rfl, a0.celli 6 rfl rfl, a0.celli 7 rfl rfl, a0.celli 8 rfl rfl, a0.celli 9 rfl rfl, a0.celli 10 rfl rfl, a0.celli 11 rfl rfl, a0.celli 12 rfl rfl, a0.celli 13 rfl rfl, a0.celli 14 rfl rfl, a0.celli 15 rfl rfl, a0.celli 16 rfl rfl, a0.celli 17 rfl rfl, a0.celli 18 rfl rfl, a0.celli 19 rfl rfl, trivial⟩, ?_⟩
   have h := h l8 pn
   exact h
  have h := h.2 (bne_f iy)
  refine ⟨a6, ag, ap, aw, ay, ae, ad, af, ah, ax, ⟨fi.celli 0 rfl rfl, fi.celli 1 rfl rfl, fi.celli 2 rfl rfl, fi.celli 3 rfl rfl, fi.celli 4 rfl rfl, fi.celli 5 rfl rfl, fi.celli 6 rfl rfl, fi.celli 7 rfl rfl, trivial⟩, ?_⟩
  have m8 : Ext (fun b => b = a4.heap.size) dv i5 := (ib).none
  refine Q0a (k := 1) (j := 0) (vs := [.int .i64 a6, .int .i64 ag, .int .u64 ap, .int .i64 aw, .int .i64 ay, .int .i64 ae, .slice ad af ah, .int .u64 ax]) a1 (by exact Nat.le_of_ble_eq_true rfl) fun gs ow qo => ?_
  have mt := m8.x_puts ow (.inl rfl)
  have a0 := a0.x_puts ow aq
  have a1 : Blk gs a4.heap.size 30 [.int .i64 a2, .int .i64 a6, .int .i64 ag, .int .u64 ap, .int .i64 aw, .int .i64 ay, .int .i64 ae, .slice ad af ah, .int .u64 ax, .int .i64 0, .int .i64 0, .int .u64 0, .int .i64 0, .int .i64 0, .int .i64 0, .slice none 0 0, .int .u64 0, .int .i64 a3, .slice none 0 0, .int .u64 ai] := by simpa only [setAll, Nat.zero_add, Nat.add_zero, List.set_cons_zero, List.set_cons_succ] using qo
  first | unfold Q00.J5 | unfold Q00.J14 | unfold Q00.J23 | unfold Q00.J32 | skip
  refine ⟨a2, a1.celli 0 rfl rfl, ?_⟩
  refine bif_tt f8 ?_
  have h := h gs mt
  refine h.mono fun xj dw h => ?_
  obtain ⟨ac, ak, au, bf, bb, aj, al, an, am, bh, g4, he, hk, h⟩ := h
  refine ⟨ac, ak, au, bf, bb, aj, al, an, am, bh, g4, he, ?_⟩
  have a0 := hk.blk a0 (by simp)
  have a1 := hk.blk a1 (by simp)
  refine Q02 fun x6 g2 => ?_
  have ff := Blk.of_new g2
  have xv := ((Ext.refl no dw)).size
  have og := Nat.ne_of_lt a0.lt
  have a0 := a0.x_alloc g2
  have p2 := Nat.ne_of_lt a1.lt
  have a1 := a1.x_alloc g2
  have lm := (Ext.refl no dw).x_alloc g2
  refine Q0a (k := 0) (j := 0) ff (by exact Nat.le_of_ble_eq_true rfl) fun ik j5 td => ?_
  have i6 := lm.x_puts j5 (.inr xv)
  have a0 := a0.x_puts j5 og
  have a1 := a1.x_puts j5 p2
  have ff := Q0e td rfl
  refine bif_of (fun iw => ?_) (fun iw => ?_)
  ·have h := h.1 (bne_t iw)
   have p5 : Ext (fun b => b = w.heap.size) dw ik := (i6).none
   refine Q0a (k := 0) (j := 0) a0 (by exact Nat.le_of_ble_eq_true rfl) fun kp uf tk => ?_
   have n2 := p5.x_puts uf (.inl rfl)
   have a0 := Q0e tk rfl
   refine ⟨0, 0, 0, 0, 0, 0, 0, none, 0, 0, 0, 0, 0, 0, 0, 0, 0, none, 0, 0, 0, 0, none, 0, 0, 0, ⟨a0.celli 0 rfl rfl, a0.celli 1 rfl rfl, a0.celli 2 rfl rfl, a0.celli 3 rfl rfl, a0.celli 4 rfl rfl, a0.celli 5 rfl rfl, a0.celli 6 rfl rfl, a0.celli 7 rfl rfl, a0.celli 8 rfl rfl, a0.celli 9 rfl rfl, a0.celli 10 rfl rfl, a0.celli 11 rfl rfl, a0.celli 12 rfl rfl, a0.celli 13 rfl rfl, a0.celli 14 rfl rfl, a0.celli 15 rfl rfl, a0.celli 16 rfl rfl, a0.celli 17 rfl rfl, a0.celli 18 rfl rfl, a0.celli 19 rfl rfl, trivial⟩, ?_⟩
   have h := h kp n2
   exact h
  have h := h.2 (bne_f iw)
  refine ⟨ac, ak, au, bf, bb, aj, al, an, am, bh, ⟨ff.celli 0 rfl rfl, ff.celli 1 rfl rfl, ff.celli 2 rfl rfl, ff.celli 3 rfl rfl, ff.celli 4 rfl rfl, ff.celli 5 rfl rfl, ff.celli 6 rfl rfl, ff.celli 7 rfl rfl, trivial⟩, ?_⟩
  have mq : Ext (fun b => b = a4.heap.size) dw ik := (i6).none
  refine Q0a (k := 9) (j := 0) (vs := [.int .i64 ac, .int .i64 ak, .int .u64 au, .int .i64 bf, .int .i64 bb, .int .i64 aj, .slice al an am, .int .u64 bh]) a1 (by exact Nat.le_of_ble_eq_true rfl) fun i8 kt u7 => ?_
  have op := mq.x_puts kt (.inl rfl)
  have a0 := a0.x_puts kt aq
  have a1 : Blk i8 a4.heap.size 30 [.int .i64 a2, .int .i64 a6, .int .i64 ag, .int .u64 ap, .int .i64 aw, .int .i64 ay, .int .i64 ae, .slice ad af ah, .int .u64 ax, .int .i64 ac, .int .i64 ak, .int .u64 au, .int .i64 bf, .int .i64 bb, .int .i64 aj, .slice al an am, .int .u64 bh, .int .i64 a3, .slice none 0 0, .int .u64 ai] := by simpa only [setAll, Nat.zero_add, Nat.add_zero, List.set_cons_zero, List.set_cons_succ] using u7
  first | unfold Q00.J4 | unfold Q00.J13 | unfold Q00.J22 | unfold Q00.J31 | skip
  refine ⟨a2, a1.celli 0 rfl rfl, ?_⟩
  refine bif_tt d5 ?_
  first | unfold Q00.J2 | unfold Q00.J3 | unfold Q00.J11 | unfold Q00.J12 | unfold Q00.J20 | unfold Q00.J21 | unfold Q00.J29 | unfold Q00.J30 | skip
  have h := h i8 op
  refine h.mono fun vc d9 h => ?_
  obtain ⟨bl, bk, bq, fj, he, hk, h⟩ := h
  refine ⟨bl, bk, bq, fj, he, ?_⟩
  have a0 := hk.blk a0 (by simp)
  have a1 := hk.blk a1 (by simp)
  refine bif_of (fun kd => ?_) (fun kd => ?_)
  ·have h := h.1 (bne_t kd)
   have p7 : Ext (fun b => b = w.heap.size) d9 d9 := ((Ext.refl no d9)).none
   refine Q0a (k := 0) (j := 0) a0 (by exact Nat.le_of_ble_eq_true rfl) fun pq t1 sr => ?_
   have nb := p7.x_puts t1 (.inl rfl)
   have a0 := Q0e sr rfl
   refine ⟨0, 0, 0, 0, 0, 0, 0, none, 0, 0, 0, 0, 0, 0, 0, 0, 0, none, 0, 0, 0, 0, none, 0, 0, 0, ⟨a0.celli 0 rfl rfl, a0.celli 1 rfl rfl, a0.celli 2 rfl rfl, a0.celli 3 rfl rfl, a0.celli 4 rfl rfl, a0.celli 5 rfl rfl, a0.celli 6 rfl rfl, a0.celli 7 rfl rfl, a0.celli 8 rfl rfl, a0.celli 9 rfl rfl, a0.celli 10 rfl rfl, a0.celli 11 rfl rfl, a0.celli 12 rfl rfl, a0.celli 13 rfl rfl, a0.celli 14 rfl rfl, a0.celli 15 rfl rfl, a0.celli 16 rfl rfl, a0.celli 17 rfl rfl, a0.celli 18 rfl rfl, a0.celli 19 rfl rfl, trivial⟩, ?_⟩
   have h := h pq nb
   exact h
  have h := h.2 (bne_f kd)
  have kn : Ext (fun b => b = a4.heap.size) d9 d9 := ((Ext.refl no d9)).none
  refine ⟨a1.cani 18 rfl rfl, Q02 fun du ji => ?_⟩
  have ia := kn.x_set (q := a4.heap.size) (i := 18) rfl (.inl rfl) ji
  have a0 := a0.oth (q := a4.heap.size) (i := 18) rfl aq ji
  have a1 : Blk du a4.heap.size 30 [.int .i64 a2, .int .i64 a6, .int .i64 ag, .int .u64 ap, .int .i64 aw, .int .i64 ay, .int .i64 ae, .slice ad af ah, .int .u64 ax, .int .i64 ac, .int .i64 ak, .int .u64 au, .int .i64 bf, .int .i64 bb, .int .i64 aj, .slice al an am, .int .u64 bh, .int .i64 a3, .slice bl bk bq, .int .u64 ai] := a1.seti 18 rfl ji
  rotate_left
  have h := h.2 (beq_f d5)
  first | unfold Q00.J37 | skip
  refine bif_fo (fun dr => ?_) (fun dr => ?_)
  ·have h := h.2 (beq_f dr)
   refine bif_fo (fun ds => ?_) (fun ds => ?_)
   ·have h := h.2 (beq_f ds)
    first | unfold Q00.J9 | unfold Q00.J18 | unfold Q00.J27 | unfold Q00.J36 | skip
    have h := h f3 (a4.heap.size) ep (Priv.cons kh a1.lt Priv.nil)
    refine h.mono fun vb et h => ?_
    obtain ⟨fs, he, hk, h⟩ := h
    refine ⟨fs, he, ?_⟩
    have a0 := hk.blk a0 (by simp)
    have a1 := hk.blk a1 (by simp)
    refine bif_of (fun iq => ?_) (fun iq => ?_)
    ·have h := h.1 (bne_t iq)
     have kx : Ext (fun b => b = w.heap.size) et et := ((Ext.refl no et)).none
     refine Q0a (k := 0) (j := 0) a0 (by exact Nat.le_of_ble_eq_true rfl) fun ma q6 sa => ?_
     have mh := kx.x_puts q6 (.inl rfl)
     have a0 := Q0e sa rfl
     refine ⟨0, 0, 0, 0, 0, 0, 0, none, 0, 0, 0, 0, 0, 0, 0, 0, 0, none, 0, 0, 0, 0, none, 0, 0, 0, ⟨a0.celli 0 rfl rfl, a0.celli 1 rfl rfl, a0.celli 2 rfl rfl, a0.celli 3 rfl rfl, a0.celli 4 rfl rfl, a0.celli 5 rfl rfl, a0.celli 6 rfl rfl, a0.celli 7 rfl rfl, a0.celli 8 rfl rfl, a0.celli 9 rfl rfl, a0.celli 10 rfl rfl, a0.celli 11 rfl rfl, a0.celli 12 rfl rfl, a0.celli 13 rfl rfl, a0.celli 14 rfl rfl, a0.celli 15 rfl rfl, a0.celli 16 rfl rfl, a0.celli 17 rfl rfl, a0.celli 18 rfl rfl, a0.celli 19 rfl rfl, trivial⟩, ?_⟩
     have h := h ma mh
     exact h
    have h := h.2 (bne_f iq)
    first | unfold Q00.J8 | unfold Q00.J17 | unfold Q00.J26 | unfold Q00.J35 | skip
    refine ⟨a2, a1.celli 0 rfl rfl, ?_⟩
    refine bif_ff g9 ?_
    refine ⟨a2, a1.celli 0 rfl rfl, ?_⟩
    first | unfold Q00.J6 | unfold Q00.J7 | unfold Q00.J15 | unfold Q00.J16 | unfold Q00.J24 | unfold Q00.J25 | unfold Q00.J33 | unfold Q00.J34 | skip
    refine bif_ff ds ?_
    first | unfold Q00.J5 | unfold Q00.J14 | unfold Q00.J23 | unfold Q00.J32 | skip
    refine ⟨a2, a1.celli 0 rfl rfl, ?_⟩
    refine bif_ff ds ?_
    first | unfold Q00.J4 | unfold Q00.J13 | unfold Q00.J22 | unfold Q00.J31 | skip
    refine ⟨a2, a1.celli 0 rfl rfl, ?_⟩
    refine bif_ff d5 ?_
    refine ⟨a2, a1.celli 0 rfl rfl, ?_⟩
    first | unfold Q00.J2 | unfold Q00.J3 | unfold Q00.J11 | unfold Q00.J12 | unfold Q00.J20 | unfold Q00.J21 | unfold Q00.J29 | unfold Q00.J30 | skip
    refine bif_ff dr ?_
    first | unfold Q00.J1 | unfold Q00.J10 | unfold Q00.J19 | unfold Q00.J28 | skip
    refine ⟨a2, 0, 0, 0, 0, 0, 0, none, 0, 0, 0, 0, 0, 0, 0, 0, 0, none, 0, 0, 0, 0, none, 0, 0, 0, ⟨a1.celli 0 rfl rfl, a1.celli 1 rfl rfl, a1.celli 2 rfl rfl, a1.celli 3 rfl rfl, a1.celli 4 rfl rfl, a1.celli 5 rfl rfl, a1.celli 6 rfl rfl, a1.celli 7 rfl rfl, a1.celli 8 rfl rfl, a1.celli 9 rfl rfl, a1.celli 10 rfl rfl, a1.celli 11 rfl rfl, a1.celli 12 rfl rfl, a1.celli 13 rfl rfl, a1.celli 14 rfl rfl, a1.celli 15 rfl rfl, a1.celli 16 rfl rfl, a1.celli 17 rfl rfl, a1.celli 18 rfl rfl, a1.celli 19 rfl rfl, trivial⟩, ?_⟩
    refine h.mono fun v5 da h => ?_
    obtain ⟨eo, he, hk, h⟩ := h
    refine ⟨eo, he, ?_⟩
    have a0 := hk.blk a0 (by simp)
    have a1 := hk.blk a1 (by simp)
    refine bif_of (fun j7 => ?_) (fun j7 => ?_)
    ·have h := h.1 (not_t j7)
     have pr : Ext (fun b => b = w.heap.size) da da := ((Ext.refl no da)).none
     refine Q0a (k := 0) (j := 0) a0 (by exact Nat.le_of_ble_eq_true rfl) fun n0 ug qp => ?_
     have l9 := pr.x_puts ug (.inl rfl)
     have a0 := Q0e qp rfl
     refine ⟨0, 0, 0, 0, 0, 0, 0, none, 0, 0, 0, 0, 0, 0, 0, 0, 0, none, 0, 0, 0, 0, none, 0, 0, 0, ⟨a0.celli 0 rfl rfl, a0.celli 1 rfl rfl, a0.celli 2 rfl rfl, a0.celli 3 rfl rfl, a0.celli 4 rfl rfl, a0.celli 5 rfl rfl, a0.celli 6 rfl rfl, a0.celli 7 rfl rfl, a0.celli 8 rfl rfl, a0.celli 9 rfl rfl, a0.celli 10 rfl rfl, a0.celli 11 rfl rfl, a0.celli 12 rfl rfl, a0.celli 13 rfl rfl, a0.celli 14 rfl rfl, a0.celli 15 rfl rfl, a0.celli 16 rfl rfl, a0.celli 17 rfl rfl, a0.celli 18 rfl rfl, a0.celli 19 rfl rfl, trivial⟩, ?_⟩
     have h := h n0 l9
     exact h
    have h := h.2 (not_f j7)
    refine ⟨a2, 0, 0, 0, 0, 0, 0, none, 0, 0, 0, 0, 0, 0, 0, 0, 0, none, 0, 0, 0, 0, none, 0, 0, 0, ⟨a1.celli 0 rfl rfl, a1.celli 1 rfl rfl, a1.celli 2 rfl rfl, a1.celli 3 rfl rfl, a1.celli 4 rfl rfl, a1.celli 5 rfl rfl, a1.celli 6 rfl rfl, a1.celli 7 rfl rfl, a1.celli 8 rfl rfl, a1.celli 9 rfl rfl, a1.celli 10 rfl rfl, a1.celli 11 rfl rfl, a1.celli 12 rfl rfl, a1.celli 13 rfl rfl, a1.celli 14 rfl rfl, a1.celli 15 rfl rfl, a1.celli 16 rfl rfl, a1.celli 17 rfl rfl, a1.celli 18 rfl rfl, a1.celli 19 rfl rfl, trivial⟩, ?_⟩
    have nj : Ext (fun b => b = w.heap.size) da da := ((Ext.refl no da)).none
    refine Q0a (k := 0) (j := 0) a0 (by exact Nat.le_of_ble_eq_true rfl) fun np qg pz => ?_
    have ng := nj.x_puts qg (.inl rfl)
    have a0 := Q0e pz rfl
    refine ⟨a2, 0, 0, 0, 0, 0, 0, none, 0, 0, 0, 0, 0, 0, 0, 0, 0, none, 0, 0, 0, 0, none, 0, 0, 0, ⟨a0.celli 0 rfl rfl, a0.celli 1 rfl rfl, a0.celli 2 rfl rfl, a0.celli 3 rfl rfl, a0.celli 4 rfl rfl, a0.celli 5 rfl rfl, a0.celli 6 rfl rfl, a0.celli 7 rfl rfl, a0.celli 8 rfl rfl, a0.celli 9 rfl rfl, a0.celli 10 rfl rfl, a0.celli 11 rfl rfl, a0.celli 12 rfl rfl, a0.celli 13 rfl rfl, a0.celli 14 rfl rfl, a0.celli 15 rfl rfl, a0.celli 16 rfl rfl, a0.celli 17 rfl rfl, a0.celli 18 rfl rfl, a0.celli 19 rfl rfl, trivial⟩, ?_⟩
    have h := h np ng
    exact h
   have h := h.1 (beq_t ds)
   have h := h f3 (a4.heap.size) ep (Priv.cons kh a1.lt Priv.nil)
   refine h.mono fun vd va h => ?_
   obtain ⟨ea, e9, eh, he, hk, h⟩ := h
   refine ⟨ea, e9, eh, he, ?_⟩
   have a0 := hk.blk a0 (by simp)
   have a1 := hk.blk a1 (by simp)
   refine h.mono fun x9 vv h => ?_
   obtain ⟨ek, eb, e4, he, hk, h⟩ := h
   refine ⟨ek, eb, e4, he, ?_⟩
   have a0 := hk.blk a0 (by simp)
   have a1 := hk.blk a1 (by simp)
   first | unfold Q00.J9 | unfold Q00.J18 | unfold Q00.J27 | unfold Q00.J36 | skip
   refine h.mono fun x4 el h => ?_
   obtain ⟨ft, he, hk, h⟩ := h
   refine ⟨ft, he, ?_⟩
   have a0 := hk.blk a0 (by simp)
   have a1 := hk.blk a1 (by simp)
   refine bif_of (fun j9 => ?_) (fun j9 => ?_)
   ·have h := h.1 (bne_t j9)
    have m2 : Ext (fun b => b = w.heap.size) el el := ((Ext.refl no el)).none
    refine Q0a (k := 0) (j := 0) a0 (by exact Nat.le_of_ble_eq_true rfl) fun p9 us u9 => ?_
    have kz := m2.x_puts us (.inl rfl)
    have a0 := Q0e u9 rfl
    refine ⟨0, 0, 0, 0, 0, 0, 0, none, 0, 0, 0, 0, 0, 0, 0, 0, 0, none, 0, 0, 0, 0, none, 0, 0, 0, ⟨a0.celli 0 rfl rfl, a0.celli 1 rfl rfl, a0.celli 2 rfl rfl, a0.celli 3 rfl rfl, a0.celli 4 rfl rfl, a0.celli 5 rfl rfl, a0.celli 6 rfl rfl, a0.celli 7 rfl rfl, a0.celli 8 rfl rfl, a0.celli 9 rfl rfl, a0.celli 10 rfl rfl, a0.celli 11 rfl rfl, a0.celli 12 rfl rfl, a0.celli 13 rfl rfl, a0.celli 14 rfl rfl, a0.celli 15 rfl rfl, a0.celli 16 rfl rfl, a0.celli 17 rfl rfl, a0.celli 18 rfl rfl, a0.celli 19 rfl rfl, trivial⟩, ?_⟩
    have h := h p9 kz
    exact h
   have h := h.2 (bne_f j9)
   first | unfold Q00.J8 | unfold Q00.J17 | unfold Q00.J26 | unfold Q00.J35 | skip
   refine ⟨a2, a1.celli 0 rfl rfl, ?_⟩
   refine bif_ff g9 ?_
   refine ⟨a2, a1.celli 0 rfl rfl, ?_⟩
   first | unfold Q00.J6 | unfold Q00.J7 | unfold Q00.J15 | unfold Q00.J16 | unfold Q00.J24 | unfold Q00.J25 | unfold Q00.J33 | unfold Q00.J34 | skip
   refine bif_tt ds ?_
   refine h.mono fun vu e0 h => ?_
   obtain ⟨b8, bu, c8, cn, cu, bt, bv, bo, bn, cr, fq, he, hk, h⟩ := h
   refine ⟨b8, bu, c8, cn, cu, bt, bv, bo, bn, cr, fq, he, ?_⟩
   have a0 := hk.blk a0 (by simp)
   have a1 := hk.blk a1 (by simp)
   refine Q02 fun xn g8 => ?_
   have d8 := Blk.of_new g8
   have t7 := ((Ext.refl no e0)).size
   have iz := Nat.ne_of_lt a0.lt
   have a0 := a0.x_alloc g8
   have jo := Nat.ne_of_lt a1.lt
   have a1 := a1.x_alloc g8
   have oa := (Ext.refl no e0).x_alloc g8
   refine Q0a (k := 0) (j := 0) d8 (by exact Nat.le_of_ble_eq_true rfl) fun i3 kg th => ?_
   have ig := oa.x_puts kg (.inr t7)
   have a0 := a0.x_puts kg iz
   have a1 := a1.x_puts kg jo
   have d8 := Q0e th rfl
   refine bif_of (fun jg => ?_) (fun jg => ?_)
   ·have h := h.1 (bne_t jg)
    have n6 : Ext (fun b => b = w.heap.size) e0 i3 := (ig).none
    refine Q0a (k := 0) (j := 0) a0 (by exact Nat.le_of_ble_eq_true rfl) fun nr t8 sw => ?_
    have lv := n6.x_puts t8 (.inl rfl)
    have a0 := Q0e sw rfl
    refine ⟨0, 0, 0, 0, 0, 0, 0, none, 0, 0, 0, 0, 0, 0, 0, 0, 0, none, 0, 0, 0, 0, none, 0, 0, 0, ⟨a0.celli 0 rfl rfl, a0.celli 1 rfl rfl, a0.celli 2 rfl rfl, a0.celli 3 rfl rfl, a0.celli 4 rfl rfl, a0.celli 5 rfl rfl, a0.celli 6 rfl rfl, a0.celli 7 rfl rfl, a0.celli 8 rfl rfl, a0.celli 9 rfl rfl, a0.celli 10 rfl rfl, a0.celli 11 rfl rfl, a0.celli 12 rfl rfl, a0.celli 13 rfl rfl, a0.celli 14 rfl rfl, a0.celli 15 rfl rfl, a0.celli 16 rfl rfl, a0.celli 17 rfl rfl, a0.celli 18 rfl rfl, a0.celli 19 rfl rfl, trivial⟩, ?_⟩
    have h := h nr lv
    exact h
   have h := h.2 (bne_f jg)
   refine ⟨b8, bu, c8, cn, cu, bt, bv, bo, bn, cr, ⟨d8.celli 0 rfl rfl, d8.celli 1 rfl rfl, d8.celli 2 rfl rfl, d8.celli 3 rfl rfl, d8.celli 4 rfl rfl, d8.celli 5 rfl rfl, d8.celli 6 rfl rfl, d8.celli 7 rfl rfl, trivial⟩, ?_⟩
   have p8 : Ext (fun b => b = a4.heap.size) e0 i3 := (ig).none
   refine Q0a (k := 1) (j := 0) (vs := [.int .i64 b8, .int .i64 bu, .int .u64 c8, .int .i64 cn, .int .i64 cu, .int .i64 bt, .slice bv bo bn, .int .u64 cr]) a1 (by exact Nat.le_of_ble_eq_true rfl) fun ij m3 t5 => ?_
   have n7 := p8.x_puts m3 (.inl rfl)
   have a0 := a0.x_puts m3 aq
   have a1 : Blk ij a4.heap.size 30 [.int .i64 a2, .int .i64 b8, .int .i64 bu, .int .u64 c8, .int .i64 cn, .int .i64 cu, .int .i64 bt, .slice bv bo bn, .int .u64 cr, .int .i64 0, .int .i64 0, .int .u64 0, .int .i64 0, .int .i64 0, .int .i64 0, .slice none 0 0, .int .u64 0, .int .i64 0, .slice none 0 0, .int .u64 0] := by simpa only [setAll, Nat.zero_add, Nat.add_zero, List.set_cons_zero, List.set_cons_succ] using t5
   first | unfold Q00.J5 | unfold Q00.J14 | unfold Q00.J23 | unfold Q00.J32 | skip
   refine ⟨a2, a1.celli 0 rfl rfl, ?_⟩
   refine bif_tt ds ?_
   have h := h ij n7
   refine h.mono fun vq dz h => ?_
   obtain ⟨bi, c1, cf, d2, d3, bz, c0, c4, c2, d4, g3, he, hk, h⟩ := h
   refine ⟨bi, c1, cf, d2, d3, bz, c0, c4, c2, d4, g3, he, ?_⟩
   have a0 := hk.blk a0 (by simp)
   have a1 := hk.blk a1 (by simp)
   refine Q02 fun vi fp => ?_
   have d7 := Blk.of_new fp
   have qq := ((Ext.refl no dz)).size
   have ka := Nat.ne_of_lt a0.lt
   have a0 := a0.x_alloc fp
   have k8 := Nat.ne_of_lt a1.lt
   have a1 := a1.x_alloc fp
   have ov := (Ext.refl no dz).x_alloc fp
   refine Q0a (k := 0) (j := 0) d7 (by exact Nat.le_of_ble_eq_true rfl) fun i9 jx u2 => ?_
   have ie := ov.x_puts jx (.inr qq)
   have a0 := a0.x_puts jx ka
   have a1 := a1.x_puts jx k8
   have d7 := Q0e u2 rfl
   refine bif_of (fun ke => ?_) (fun ke => ?_)
   ·have h := h.1 (bne_t ke)
    have ll : Ext (fun b => b = w.heap.size) dz i9 := (ie).none
    refine Q0a (k := 0) (j := 0) a0 (by exact Nat.le_of_ble_eq_true rfl) fun m5 uj uq => ?_
    have m1 := ll.x_puts uj (.inl rfl)
    have a0 := Q0e uq rfl
    refine ⟨0, 0, 0, 0, 0, 0, 0, none, 0, 0, 0, 0, 0, 0, 0, 0, 0, none, 0, 0, 0, 0, none, 0, 0, 0, ⟨a0.celli 0 rfl rfl, a0.celli 1 rfl rfl, a0.celli 2 rfl rfl, a0.celli 3 rfl rfl, a0.celli 4 rfl rfl, a0.celli 5 rfl rfl, a0.celli 6 rfl rfl, a0.celli 7 rfl rfl, a0.celli 8 rfl rfl, a0.celli 9 rfl rfl, a0.celli 10 rfl rfl, a0.celli 11 rfl rfl, a0.celli 12 rfl rfl, a0.celli 13 rfl rfl, a0.celli 14 rfl rfl, a0.celli 15 rfl rfl, a0.celli 16 rfl rfl, a0.celli 17 rfl rfl, a0.celli 18 rfl rfl, a0.celli 19 rfl rfl, trivial⟩, ?_⟩
    have h := h m5 m1
    exact h
   have h := h.2 (bne_f ke)
   refine ⟨bi, c1, cf, d2, d3, bz, c0, c4, c2, d4, ⟨d7.celli 0 rfl rfl, d7.celli 1 rfl rfl, d7.celli 2 rfl rfl, d7.celli 3 rfl rfl, d7.celli 4 rfl rfl, d7.celli 5 rfl rfl, d7.celli 6 rfl rfl, d7.celli 7 rfl rfl, trivial⟩, ?_⟩
   have ox : Ext (fun b => b = a4.heap.size) dz i9 := (ie).none
   refine Q0a (k := 9) (j := 0) (vs := [.int .i64 bi, .int .i64 c1, .int .u64 cf, .int .i64 d2, .int .i64 d3, .int .i64 bz, .slice c0 c4 c2, .int .u64 d4]) a1 (by exact Nat.le_of_ble_eq_true rfl) fun i7 kw uz => ?_
   have ko := ox.x_puts kw (.inl rfl)
   have a0 := a0.x_puts kw aq
   have a1 : Blk i7 a4.heap.size 30 [.int .i64 a2, .int .i64 b8, .int .i64 bu, .int .u64 c8, .int .i64 cn, .int .i64 cu, .int .i64 bt, .slice bv bo bn, .int .u64 cr, .int .i64 bi, .int .i64 c1, .int .u64 cf, .int .i64 d2, .int .i64 d3, .int .i64 bz, .slice c0 c4 c2, .int .u64 d4, .int .i64 0, .slice none 0 0, .int .u64 0] := by simpa only [setAll, Nat.zero_add, Nat.add_zero, List.set_cons_zero, List.set_cons_succ] using uz
   first | unfold Q00.J4 | unfold Q00.J13 | unfold Q00.J22 | unfold Q00.J31 | skip
   refine ⟨a2, a1.celli 0 rfl rfl, ?_⟩
   refine bif_ff d5 ?_
   refine ⟨a2, a1.celli 0 rfl rfl, ?_⟩
   first | unfold Q00.J2 | unfold Q00.J3 | unfold Q00.J11 | unfold Q00.J12 | unfold Q00.J20 | unfold Q00.J21 | unfold Q00.J29 | unfold Q00.J30 | skip
   refine bif_ff dr ?_
   first | unfold Q00.J1 | unfold Q00.J10 | unfold Q00.J19 | unfold Q00.J28 | skip
   refine ⟨a2, b8, bu, c8, cn, cu, bt, bv, bo, bn, cr, bi, c1, cf, d2, d3, bz, c0, c4, c2, d4, 0, none, 0, 0, 0, ⟨a1.celli 0 rfl rfl, a1.celli 1 rfl rfl, a1.celli 2 rfl rfl, a1.celli 3 rfl rfl, a1.celli 4 rfl rfl, a1.celli 5 rfl rfl, a1.celli 6 rfl rfl, a1.celli 7 rfl rfl, a1.celli 8 rfl rfl, a1.celli 9 rfl rfl, a1.celli 10 rfl rfl, a1.celli 11 rfl rfl, a1.celli 12 rfl rfl, a1.celli 13 rfl rfl, a1.celli 14 rfl rfl, a1.celli 15 rfl rfl, a1.celli 16 rfl rfl, a1.celli 17 rfl rfl, a1.celli 18 rfl rfl, a1.celli 19 rfl rfl, trivial⟩, ?_⟩
   have h := h i7 ko
   refine h.mono fun v8 dm h => ?_
   obtain ⟨ez, he, hk, h⟩ := h
   refine ⟨ez, he, ?_⟩
   have a0 := hk.blk a0 (by simp)
   have a1 := hk.blk a1 (by simp)
   refine bif_of (fun jz => ?_) (fun jz => ?_)
   ·have h := h.1 (not_t jz)
    have lo : Ext (fun b => b = w.heap.size) dm dm := ((Ext.refl no dm)).none
    refine Q0a (k := 0) (j := 0) a0 (by exact Nat.le_of_ble_eq_true rfl) fun p0 tq sl => ?_
    have nn := lo.x_puts tq (.inl rfl)
    have a0 := Q0e sl rfl
    refine ⟨0, 0, 0, 0, 0, 0, 0, none, 0, 0, 0, 0, 0, 0, 0, 0, 0, none, 0, 0, 0, 0, none, 0, 0, 0, ⟨a0.celli 0 rfl rfl, a0.celli 1 rfl rfl, a0.celli 2 rfl rfl, a0.celli 3 rfl rfl, a0.celli 4 rfl rfl, a0.celli 5 rfl rfl, a0.celli 6 rfl rfl, a0.celli 7 rfl rfl, a0.celli 8 rfl rfl, a0.celli 9 rfl rfl, a0.celli 10 rfl rfl, a0.celli 11 rfl rfl, a0.celli 12 rfl rfl, a0.celli 13 rfl rfl, a0.celli 14 rfl rfl, a0.celli 15 rfl rfl, a0.celli 16 rfl rfl, a0.celli 17 rfl rfl, a0.celli 18 rfl rfl, a0.celli 19 rfl rfl, trivial⟩, ?_⟩
    have h := h p0 nn
    exact h
   have h := h.2 (not_f jz)
   refine ⟨a2, b8, bu, c8, cn, cu, bt, bv, bo, bn, cr, bi, c1, cf, d2, d3, bz, c0, c4, c2, d4, 0, none, 0, 0, 0, ⟨a1.celli 0 rfl rfl, a1.celli 1 rfl rfl, a1.celli 2 rfl rfl, a1.celli 3 rfl rfl, a1.celli 4 rfl rfl, a1.celli 5 rfl rfl, a1.celli 6 rfl rfl, a1.celli 7 rfl rfl, a1.celli 8 rfl rfl, a1.celli 9 rfl rfl, a1.celli 10 rfl rfl, a1.celli 11 rfl rfl, a1.celli 12 rfl rfl, a1.celli 13 rfl rfl, a1.celli 14 rfl rfl, a1.celli 15 rfl rfl, a1.celli 16 rfl rfl, a1.celli 17 rfl rfl, a1.celli 18 rfl rfl, a1.celli 19 rfl rfl, trivial⟩, ?_⟩
   have kk : Ext (fun b => b = w.heap.size) dm dm := ((Ext.refl no dm)).none
   refine Q0a (k := 0) (j := 0) a0 (by exact Nat.le_of_ble_eq_true rfl) fun n9 qw sp => ?_
   have lg := kk.x_puts qw (.inl rfl)
   have a0 := Q0e sp rfl
   refine ⟨a2, b8, bu, c8, cn, cu, bt, bv, bo, bn, cr, bi, c1, cf, d2, d3, bz, c0, c4, c2, d4, 0, none, 0, 0, 0, ⟨a0.celli 0 rfl rfl, a0.celli 1 rfl rfl, a0.celli 2 rfl rfl, a0.celli 3 rfl rfl, a0.celli 4 rfl rfl, a0.celli 5 rfl rfl, a0.celli 6 rfl rfl, a0.celli 7 rfl rfl, a0.celli 8 rfl rfl, a0.celli 9 rfl rfl, a0.celli 10 rfl rfl, a0.celli 11 rfl rfl, a0.celli 12 rfl rfl, a0.celli 13 rfl rfl, a0.celli 14 rfl rfl, a0.celli 15 rfl rfl, a0.celli 16 rfl rfl, a0.celli 17 rfl rfl, a0.celli 18 rfl rfl, a0.celli 19 rfl rfl, trivial⟩, ?_⟩
   have h := h n9 lg
   exact h
  have h := h.1 (beq_t dr)
  have h := h f3 (a4.heap.size) ep (Priv.cons kh a1.lt Priv.nil)
  refine h.mono fun x5 f0 h => ?_
  obtain ⟨a3, he, hk, h⟩ := h
  refine ⟨a3, he, ?_⟩
  have a0 := hk.blk a0 (by simp)
  have a1 := hk.blk a1 (by simp)
  have o0 : Ext (fun b => b = a4.heap.size) f0 f0 := ((Ext.refl no f0)).none
  refine ⟨a1.cani 17 rfl rfl, Q02 fun gm k7 => ?_⟩
  have n5 := o0.x_set (q := a4.heap.size) (i := 17) rfl (.inl rfl) k7
  have a0 := a0.oth (q := a4.heap.size) (i := 17) rfl aq k7
  have a1 : Blk gm a4.heap.size 30 [.int .i64 a2, .int .i64 0, .int .i64 0, .int .u64 0, .int .i64 0, .int .i64 0, .int .i64 0, .slice none 0 0, .int .u64 0, .int .i64 0, .int .i64 0, .int .u64 0, .int .i64 0, .int .i64 0, .int .i64 0, .slice none 0 0, .int .u64 0, .int .i64 a3, .slice none 0 0, .int .u64 0] := a1.seti 17 rfl k7
  have h := h gm n5
  refine h.mono fun x2 xa h => ?_
  obtain ⟨ej, e5, eg, he, hk, h⟩ := h
  refine ⟨ej, e5, eg, he, ?_⟩
  have a0 := hk.blk a0 (by simp)
  have a1 := hk.blk a1 (by simp)
  refine ⟨a2, a1.celli 0 rfl rfl, ?_⟩
  refine bif_tt dr ?_
  refine h.mono fun xg f9 h => ?_
  obtain ⟨ai, he, hk, h⟩ := h
  refine ⟨ai, he, ?_⟩
  have a0 := hk.blk a0 (by simp)
  have a1 := hk.blk a1 (by simp)
  have kv : Ext (fun b => b = a4.heap.size) f9 f9 := ((Ext.refl no f9)).none
  refine ⟨a1.cani 19 rfl rfl, Q02 fun ih jl => ?_⟩
  have p6 := kv.x_set (q := a4.heap.size) (i := 19) rfl (.inl rfl) jl
  have a0 := a0.oth (q := a4.heap.size) (i := 19) rfl aq jl
  have a1 : Blk ih a4.heap.size 30 [.int .i64 a2, .int .i64 0, .int .i64 0, .int .u64 0, .int .i64 0, .int .i64 0, .int .i64 0, .slice none 0 0, .int .u64 0, .int .i64 0, .int .i64 0, .int .u64 0, .int .i64 0, .int .i64 0, .int .i64 0, .slice none 0 0, .int .u64 0, .int .i64 a3, .slice none 0 0, .int .u64 ai] := a1.seti 19 rfl jl
  first | unfold Q00.J9 | unfold Q00.J18 | unfold Q00.J27 | unfold Q00.J36 | skip
  have h := h ih p6
  refine h.mono fun vg f5 h => ?_
  obtain ⟨gj, he, hk, h⟩ := h
  refine ⟨gj, he, ?_⟩
  have a0 := hk.blk a0 (by simp)
  have a1 := hk.blk a1 (by simp)
  refine bif_of (fun j1 => ?_) (fun j1 => ?_)
  ·have h := h.1 (bne_t j1)
   have nc : Ext (fun b => b = w.heap.size) f5 f5 := ((Ext.refl no f5)).none
   refine Q0a (k := 0) (j := 0) a0 (by exact Nat.le_of_ble_eq_true rfl) fun nu s5 ul => ?_
   have nv := nc.x_puts s5 (.inl rfl)
   have a0 := Q0e ul rfl
   refine ⟨0, 0, 0, 0, 0, 0, 0, none, 0, 0, 0, 0, 0, 0, 0, 0, 0, none, 0, 0, 0, 0, none, 0, 0, 0, ⟨a0.celli 0 rfl rfl, a0.celli 1 rfl rfl, a0.celli 2 rfl rfl, a0.celli 3 rfl rfl, a0.celli 4 rfl rfl, a0.celli 5 rfl rfl, a0.celli 6 rfl rfl, a0.celli 7 rfl rfl, a0.celli 8 rfl rfl, a0.celli 9 rfl rfl, a0.celli 10 rfl rfl, a0.celli 11 rfl rfl, a0.celli 12 rfl rfl, a0.celli 13 rfl rfl, a0.celli 14 rfl rfl, a0.celli 15 rfl rfl, a0.celli 16 rfl rfl, a0.celli 17 rfl rfl, a0.celli 18 rfl rfl, a0.celli 19 rfl rfl, trivial⟩, ?_⟩
   have h := h nu nv
   exact h
  have h := h.2 (bne_f j1)
  first | unfold Q00.J8 | unfold Q00.J17 | unfold Q00.J26 | unfold Q00.J35 | skip
  refine ⟨a2, a1.celli 0 rfl rfl, ?_⟩
  refine bif_ff g9 ?_
  refine ⟨a2, a1.celli 0 rfl rfl, ?_⟩
  first | unfold Q00.J6 | unfold Q00.J7 | unfold Q00.J15 | unfold Q00.J16 | unfold Q00.J24 | unfold Q00.J25 | unfold Q00.J33 | unfold Q00.J34 | skip
  refine bif_fo (fun fb => ?_) (fun fb => ?_)
  ·have h := h.2 (beq_f fb)
   first | unfold Q00.J5 | unfold Q00.J14 | unfold Q00.J23 | unfold Q00.J32 | skip
   refine ⟨a2, a1.celli 0 rfl rfl, ?_⟩
   refine bif_ff fb ?_
   first | unfold Q00.J4 | unfold Q00.J13 | unfold Q00.J22 | unfold Q00.J31 | skip
   refine ⟨a2, a1.celli 0 rfl rfl, ?_⟩
   refine bif_ff d5 ?_
   refine ⟨a2, a1.celli 0 rfl rfl, ?_⟩
   first | unfold Q00.J2 | unfold Q00.J3 | unfold Q00.J11 | unfold Q00.J12 | unfold Q00.J20 | unfold Q00.J21 | unfold Q00.J29 | unfold Q00.J30 | skip
   refine bif_tt dr ?_
   refine h.mono fun xe di h => ?_
   obtain ⟨cx, ck, ct, gk, he, hk, h⟩ := h
   refine ⟨cx, ck, ct, gk, he, ?_⟩
   have a0 := hk.blk a0 (by simp)
   have a1 := hk.blk a1 (by simp)
   refine bif_of (fun j6 => ?_) (fun j6 => ?_)
   ·have h := h.1 (bne_t j6)
    have nt : Ext (fun b => b = w.heap.size) di di := ((Ext.refl no di)).none
    refine Q0a (k := 0) (j := 0) a0 (by exact Nat.le_of_ble_eq_true rfl) fun mu s4 sq => ?_
    have ku := nt.x_puts s4 (.inl rfl)
    have a0 := Q0e sq rfl
    refine ⟨0, 0, 0, 0, 0, 0, 0, none, 0, 0, 0, 0, 0, 0, 0, 0, 0, none, 0, 0, 0, 0, none, 0, 0, 0, ⟨a0.celli 0 rfl rfl, a0.celli 1 rfl rfl, a0.celli 2 rfl rfl, a0.celli 3 rfl rfl, a0.celli 4 rfl rfl, a0.celli 5 rfl rfl, a0.celli 6 rfl rfl, a0.celli 7 rfl rfl, a0.celli 8 rfl rfl, a0.celli 9 rfl rfl, a0.celli 10 rfl rfl, a0.celli 11 rfl rfl, a0.celli 12 rfl rfl, a0.celli 13 rfl rfl, a0.celli 14 rfl rfl, a0.celli 15 rfl rfl, a0.celli 16 rfl rfl, a0.celli 17 rfl rfl, a0.celli 18 rfl rfl, a0.celli 19 rfl rfl, trivial⟩, ?_⟩
    have h := h mu ku
    exact h
   have h := h.2 (bne_f j6)
   have p4 : Ext (fun b => b = a4.heap.size) di di := ((Ext.refl no di)).none
   refine ⟨a1.cani 18 rfl rfl, Q02 fun gu js => ?_⟩
   have nd := p4.x_set (q := a4.heap.size) (i := 18) rfl (.inl rfl) js
   have a0 := a0.oth (q := a4.heap.size) (i := 18) rfl aq js
   have a1 : Blk gu a4.heap.size 30 [.int .i64 a2, .int .i64 0, .int .i64 0, .int .u64 0, .int .i64 0, .int .i64 0, .int .i64 0, .slice none 0 0, .int .u64 0, .int .i64 0, .int .i64 0, .int .u64 0, .int .i64 0, .int .i64 0, .int .i64 0, .slice none 0 0, .int .u64 0, .int .i64 a3, .slice cx ck ct, .int .u64 ai] := a1.seti 18 rfl js
   first | unfold Q00.J1 | unfold Q00.J10 | unfold Q00.J19 | unfold Q00.J28 | skip
   refine ⟨a2, 0, 0, 0, 0, 0, 0, none, 0, 0, 0, 0, 0, 0, 0, 0, 0, none, 0, 0, 0, a3, cx, ck, ct, ai, ⟨a1.celli 0 rfl rfl, a1.celli 1 rfl rfl, a1.celli 2 rfl rfl, a1.celli 3 rfl rfl, a1.celli 4 rfl rfl, a1.celli 5 rfl rfl, a1.celli 6 rfl rfl, a1.celli 7 rfl rfl, a1.celli 8 rfl rfl, a1.celli 9 rfl rfl, a1.celli 10 rfl rfl, a1.celli 11 rfl rfl, a1.celli 12 rfl rfl, a1.celli 13 rfl rfl, a1.celli 14 rfl rfl, a1.celli 15 rfl rfl, a1.celli 16 rfl rfl, a1.celli 17 rfl rfl, a1.celli 18 rfl rfl, a1.celli 19 rfl rfl, trivial⟩, ?_⟩
   have h := h gu nd
   refine h.mono fun vk dq h => ?_
   obtain ⟨f2, he, hk, h⟩ := h
   refine ⟨f2, he, ?_⟩
   have a0 := hk.blk a0 (by simp)
   have a1 := hk.blk a1 (by simp)
   refine bif_of (fun jk => ?_) (fun jk => ?_)
   ·have h := h.1 (not_t jk)
    have l4 : Ext (fun b => b = w.heap.size) dq dq := ((Ext.refl no dq)).none
    refine Q0a (k := 0) (j := 0) a0 (by exact Nat.le_of_ble_eq_true rfl) fun ot ql qd => ?_
    have nl := l4.x_puts ql (.inl rfl)
    have a0 := Q0e qd rfl
    refine ⟨0, 0, 0, 0, 0, 0, 0, none, 0, 0, 0, 0, 0, 0, 0, 0, 0, none, 0, 0, 0, 0, none, 0, 0, 0, ⟨a0.celli 0 rfl rfl, a0.celli 1 rfl rfl, a0.celli 2 rfl rfl, a0.celli 3 rfl rfl, a0.celli 4 rfl rfl, a0.celli 5 rfl rfl, a0.celli 6 rfl rfl, a0.celli 7 rfl rfl, a0.celli 8 rfl rfl, a0.celli 9 rfl rfl, a0.celli 10 rfl rfl, a0.celli 11 rfl rfl, a0.celli 12 rfl rfl, a0.celli 13 rfl rfl, a0.celli 14 rfl rfl, a0.celli 15 rfl rfl, a0.celli 16 rfl rfl, a0.celli 17 rfl rfl, a0.celli 18 rfl rfl, a0.celli 19 rfl rfl, trivial⟩, ?_⟩
    have h := h ot nl
    exact h
   have h := h.2 (not_f jk)
   refine ⟨a2, 0, 0, 0, 0, 0, 0, none, 0, 0, 0, 0, 0, 0, 0, 0, 0, none, 0, 0, 0, a3, cx, ck, ct, ai, ⟨a1.celli 0 rfl rfl, a1.celli 1 rfl rfl, a1.celli 2 rfl rfl, a1.celli 3 rfl rfl, a1.celli 4 rfl rfl, a1.celli 5 rfl rfl, a1.celli 6 rfl rfl, a1.celli 7 rfl rfl, a1.celli 8 rfl rfl, a1.celli 9 rfl rfl, a1.celli 10 rfl rfl, a1.celli 11 rfl rfl, a1.celli 12 rfl rfl, a1.celli 13 rfl rfl, a1.celli 14 rfl rfl, a1.celli 15 rfl rfl, a1.celli 16 rfl rfl, a1.celli 17 rfl rfl, a1.celli 18 rfl rfl, a1.celli 19 rfl rfl, trivial⟩, ?_⟩
   have od : Ext (fun b => b = w.heap.size) dq dq := ((Ext.refl no dq)).none
   refine Q0a (k := 0) (j := 0) a0 (by exact Nat.le_of_ble_eq_true rfl) fun n8 tu qc => ?_
   have oy := od.x_puts tu (.inl rfl)
   have a0 := Q0e qc rfl
   refine ⟨a2, 0, 0, 0, 0, 0, 0, none, 0, 0, 0, 0, 0, 0, 0, 0, 0, none, 0, 0, 0, a3, cx, ck, ct, ai, ⟨a0.celli 0 rfl rfl, a0.celli 1 rfl rfl, a0.celli 2 rfl rfl, a0.celli 3 rfl rfl, a0.celli 4 rfl rfl, a0.celli 5 rfl rfl, a0.celli 6 rfl rfl, a0.celli 7 rfl rfl, a0.celli 8 rfl rfl, a0.celli 9 rfl rfl, a0.celli 10 rfl rfl, a0.celli 11 rfl rfl, a0.celli 12 rfl rfl, a0.celli 13 rfl rfl, a0.celli 14 rfl rfl, a0.celli 15 rfl rfl, a0.celli 16 rfl rfl, a0.celli 17 rfl rfl, a0.celli 18 rfl rfl, a0.celli 19 rfl rfl, trivial⟩, ?_⟩
   have h := h n8 oy
   exact h
  have h := h.1 (beq_t fb)
  refine h.mono fun xf dy h => ?_
  obtain ⟨a6, ag, ap, aw, ay, ae, ad, af, ah, ax, fm, he, hk, h⟩ := h
  refine ⟨a6, ag, ap, aw, ay, ae, ad, af, ah, ax, fm, he, ?_⟩
  have a0 := hk.blk a0 (by simp)
  have a1 := hk.blk a1 (by simp)
  refine Q02 fun vl gi => ?_
  have fc := Blk.of_new gi
  have xz := ((Ext.refl no dy)).size
  have l6 := Nat.ne_of_lt a0.lt
  have a0 := a0.x_alloc gi
  have oi := Nat.ne_of_lt a1.lt
  have a1 := a1.x_alloc gi
  have nk := (Ext.refl no dy).x_alloc gi
  refine Q0a (k := 0) (j := 0) fc (by exact Nat.le_of_ble_eq_true rfl) fun gy jc u5 => ?_
  have gz := nk.x_puts jc (.inr xz)
  have a0 := a0.x_puts jc l6
  have a1 := a1.x_puts jc oi
  have fc := Q0e u5 rfl
  refine bif_of (fun ir => ?_) (fun ir => ?_)
  ·have h := h.1 (bne_t ir)
   have oh : Ext (fun b => b = w.heap.size) dy gy := (gz).none
   refine Q0a (k := 0) (j := 0) a0 (by exact Nat.le_of_ble_eq_true rfl) fun oo qx ux => ?_
   have nx := oh.x_puts qx (.inl rfl)
   have a0 := Q0e ux rfl
   refine ⟨0, 0, 0, 0, 0, 0, 0, none, 0, 0, 0, 0, 0, 0, 0, 0, 0, none, 0, 0, 0, 0, none, 0, 0, 0, ⟨a0.celli 0 rfl rfl, a0.celli 1 rfl rfl, a0.celli 2 rfl rfl, a0.celli 3 rfl rfl, a0.celli 4 rfl rfl, a0.celli 5 rfl rfl, a0.celli 6 rfl rfl, a0.celli 7 rfl rfl, a0.celli 8 rfl rfl, a0.celli 9 rfl rfl, a0.celli 10 rfl rfl, a0.celli 11 rfl rfl, a0.celli 12 rfl rfl, a0.celli 13 rfl rfl, a0.celli 14 rfl rfl, a0.celli 15 rfl rfl, a0.celli 16 rfl rfl, a0.celli 17 rfl rfl, a0.celli 18 rfl rfl, a0.celli 19 rfl rfl, trivial⟩, ?_⟩
   have h := h oo nx
   exact h
  have h := h.2 (bne_f ir)
  refine ⟨a6, ag, ap, aw, ay, ae, ad, af, ah, ax, ⟨fc.celli 0 rfl rfl, fc.celli 1 rfl rfl, fc.celli 2 rfl rfl, fc.celli 3 rfl rfl, fc.celli 4 rfl rfl, fc.celli 5 rfl rfl, fc.celli 6 rfl rfl, fc.celli 7 rfl rfl, trivial⟩, ?_⟩
  have oq : Ext (fun b => b = a4.heap.size) dy gy := (gz).none
  refine Q0a (k := 1) (j := 0) (vs := [.int .i64 a6, .int .i64 ag, .int .u64 ap, .int .i64 aw, .int .i64 ay, .int .i64 ae, .slice ad af ah, .int .u64 ax]) a1 (by exact Nat.le_of_ble_eq_true rfl) fun il o9 un => ?_
  have l5 := oq.x_puts o9 (.inl rfl)
  have a0 := a0.x_puts o9 aq
  have a1 : Blk il a4.heap.size 30 [.int .i64 a2, .int .i64 a6, .int .i64 ag, .int .u64 ap, .int .i64 aw, .int .i64 ay, .int .i64 ae, .slice ad af ah, .int .u64 ax, .int .i64 0, .int .i64 0, .int .u64 0, .int .i64 0, .int .i64 0, .int .i64 0, .slice none 0 0, .int .u64 0, .int .i64 a3, .slice none 0 0, .int .u64 ai] := by simpa only [setAll, Nat.zero_add, Nat.add_zero, List.set_cons_zero, List.set_cons_succ] using un
  first | unfold Q00.J5 | unfold Q00.J14 | unfold Q00.J23 | unfold Q00.J32 | skip
  refine ⟨a2, a1.celli 0 rfl rfl, ?_⟩
  refine bif_tt fb ?_
  have h := h il l5
  refine h.mono fun v9 dx h => ?_
  obtain ⟨ac, ak, au, bf, bb, aj, al, an, am, bh, fo, he, hk, h⟩ := h
  refine ⟨ac, ak, au, bf, bb, aj, al, an, am, bh, fo, he, ?_⟩
  have a0 := hk.blk a0 (by simp)
  have a1 := hk.blk a1 (by simp)
  refine Q02 fun vm gc => ?_
  have d6 := Blk.of_new gc
  have sh := ((Ext.refl no dx)).size
  have jj := Nat.ne_of_lt a0.lt
  have a0 := a0.x_alloc gc
  have je := Nat.ne_of_lt a1.lt
  have a1 := a1.x_alloc gc
  have om := (Ext.refl no dx).x_alloc gc
  refine Q0a (k := 0) (j := 0) d6 (by exact Nat.le_of_ble_eq_true rfl) fun gp jm s7 => ?_
  have gt := om.x_puts jm (.inr sh)
  have a0 := a0.x_puts jm jj
  have a1 := a1.x_puts jm je
  have d6 := Q0e s7 rfl
  refine bif_of (fun jb => ?_) (fun jb => ?_)
  ·have h := h.1 (bne_t jb)
   have pg : Ext (fun b => b = w.heap.size) dx gp := (gt).none
   refine Q0a (k := 0) (j := 0) a0 (by exact Nat.le_of_ble_eq_true rfl) fun mv st sx => ?_
   have oz := pg.x_puts st (.inl rfl)
   have a0 := Q0e sx rfl
   refine ⟨0, 0, 0, 0, 0, 0, 0, none, 0, 0, 0, 0, 0, 0, 0, 0, 0, none, 0, 0, 0, 0, none, 0, 0, 0, ⟨a0.celli 0 rfl rfl, a0.celli 1 rfl rfl, a0.celli 2 rfl rfl, a0.celli 3 rfl rfl, a0.celli 4 rfl rfl, a0.celli 5 rfl rfl, a0.celli 6 rfl rfl, a0.celli 7 rfl rfl, a0.celli 8 rfl rfl, a0.celli 9 rfl rfl, a0.celli 10 rfl rfl, a0.celli 11 rfl rfl, a0.celli 12 rfl rfl, a0.celli 13 rfl rfl, a0.celli 14 rfl rfl, a0.celli 15 rfl rfl, a0.celli 16 rfl rfl, a0.celli 17 rfl rfl, a0.celli 18 rfl rfl, a0.celli 19 rfl rfl, trivial⟩, ?_⟩
   have h := h mv oz
   exact h
  have h := h.2 (bne_f jb)
  refine ⟨ac, ak, au, bf, bb, aj, al, an, am, bh, ⟨d6.celli 0 rfl rfl, d6.celli 1 rfl rfl, d6.celli 2 rfl rfl, d6.celli 3 rfl rfl, d6.celli 4 rfl rfl, d6.celli 5 rfl rfl, d6.celli 6 rfl rfl, d6.celli 7 rfl rfl, trivial⟩, ?_⟩
  have o4 : Ext (fun b => b = a4.heap.size) dx gp := (gt).none
  refine Q0a (k := 9) (j := 0) (vs := [.int .i64 ac, .int .i64 ak, .int .u64 au, .int .i64 bf, .int .i64 bb, .int .i64 aj, .slice al an am, .int .u64 bh]) a1 (by exact Nat.le_of_ble_eq_true rfl) fun gx n3 qh => ?_
  have ky := o4.x_puts n3 (.inl rfl)
  have a0 := a0.x_puts n3 aq
  have a1 : Blk gx a4.heap.size 30 [.int .i64 a2, .int .i64 a6, .int .i64 ag, .int .u64 ap, .int .i64 aw, .int .i64 ay, .int .i64 ae, .slice ad af ah, .int .u64 ax, .int .i64 ac, .int .i64 ak, .int .u64 au, .int .i64 bf, .int .i64 bb, .int .i64 aj, .slice al an am, .int .u64 bh, .int .i64 a3, .slice none 0 0, .int .u64 ai] := by simpa only [setAll, Nat.zero_add, Nat.add_zero, List.set_cons_zero, List.set_cons_succ] using qh
  first | unfold Q00.J4 | unfold Q00.J13 | unfold Q00.J22 | unfold Q00.J31 | skip
  refine ⟨a2, a1.celli 0 rfl rfl, ?_⟩
  refine bif_ff d5 ?_
  refine ⟨a2, a1.celli 0 rfl rfl, ?_⟩
  first | unfold Q00.J2 | unfold Q00.J3 | unfold Q00.J11 | unfold Q00.J12 | unfold Q00.J20 | unfold Q00.J21 | unfold Q00.J29 | unfold Q00.J30 | skip
  refine bif_tt dr ?_
  have h := h gx ky
  refine h.mono fun vn db h => ?_
  obtain ⟨bl, bk, bq, g6, he, hk, h⟩ := h
  refine ⟨bl, bk, bq, g6, he, ?_⟩
  have a0 := hk.blk a0 (by simp)
  have a1 := hk.blk a1 (by simp)
  refine bif_of (fun kf => ?_) (fun kf => ?_)
  ·have h := h.1 (bne_t kf)
   have mm : Ext (fun b => b = w.heap.size) db db := ((Ext.refl no db)).none
   refine Q0a (k := 0) (j := 0) a0 (by exact Nat.le_of_ble_eq_true rfl) fun le uv qt => ?_
   have lp := mm.x_puts uv (.inl rfl)
   have a0 := Q0e qt rfl
   refine ⟨0, 0, 0, 0, 0, 0, 0, none, 0, 0, 0, 0, 0, 0, 0, 0, 0, none, 0, 0, 0, 0, none, 0, 0, 0, ⟨a0.celli 0 rfl rfl, a0.celli 1 rfl rfl, a0.celli 2 rfl rfl, a0.celli 3 rfl rfl, a0.celli 4 rfl rfl, a0.celli 5 rfl rfl, a0.celli 6 rfl rfl, a0.celli 7 rfl rfl, a0.celli 8 rfl rfl, a0.celli 9 rfl rfl, a0.celli 10 rfl rfl, a0.celli 11 rfl rfl, a0.celli 12 rfl rfl, a0.celli 13 rfl rfl, a0.celli 14 rfl rfl, a0.celli 15 rfl rfl, a0.celli 16 rfl rfl, a0.celli 17 rfl rfl, a0.celli 18 rfl rfl, a0.celli 19 rfl rfl, trivial⟩, ?_⟩
   have h := h le lp
   exact h
  have h := h.2 (bne_f kf)
  have mg : Ext (fun b => b = a4.heap.size) db db := ((Ext.refl no db)).none
  refine ⟨a1.cani 18 rfl rfl, Q02 fun du j0 => ?_⟩
  have ia := mg.x_set (q := a4.heap.size) (i := 18) rfl (.inl rfl) j0
  have a0 := a0.oth (q := a4.heap.size) (i := 18) rfl aq j0
  have a1 : Blk du a4.heap.size 30 [.int .i64 a2, .int .i64 a6, .int .i64 ag, .int .u64 ap, .int .i64 aw, .int .i64 ay, .int .i64 ae, .slice ad af ah, .int .u64 ax, .int .i64 ac, .int .i64 ak, .int .u64 au, .int .i64 bf, .int .i64 bb, .int .i64 aj, .slice al an am, .int .u64 bh, .int .i64 a3, .slice bl bk bq, .int .u64 ai] := a1.seti 18 rfl j0
  rotate_left
  all_goals
   first | unfold Q00.J1 | unfold Q00.J10 | unfold Q00.J19 | unfold Q00.J28 | skip
   refine ⟨a2, a6, ag, ap, aw, ay, ae, ad, af, ah, ax, ac, ak, au, bf, bb, aj, al, an, am, bh, a3, bl, bk, bq, ai, ⟨a1.celli 0 rfl rfl, a1.celli 1 rfl rfl, a1.celli 2 rfl rfl, a1.celli 3 rfl rfl, a1.celli 4 rfl rfl, a1.celli 5 rfl rfl, a1.celli 6 rfl rfl, a1.celli 7 rfl rfl, a1.celli 8 rfl rfl, a1.celli 9 rfl rfl, a1.celli 10 rfl rfl, a1.celli 11 rfl rfl, a1.celli 12 rfl rfl, a1.celli 13 rfl rfl, a1.celli 14 rfl rfl, a1.celli 15 rfl rfl, a1.celli 16 rfl rfl, a1.celli 17 rfl rfl, a1.celli 18 rfl rfl, a1.celli 19 rfl rfl, trivial⟩, ?_⟩
   have h := h du ia
   refine h.mono fun vt df h => ?_
   obtain ⟨ev, he, hk, h⟩ := h
   refine ⟨ev, he, ?_⟩
   have a0 := hk.blk a0 (by simp)
   have a1 := hk.blk a1 (by simp)
   refine bif_of (fun jq => ?_) (fun jq => ?_)
   ·have h := h.1 (not_t jq)
    have pp : Ext (fun b => b = w.heap.size) df df := ((Ext.refl no df)).none
    refine Q0a (k := 0) (j := 0) a0 (by exact Nat.le_of_ble_eq_true rfl) fun lu u1 uh => ?_
    have pj := pp.x_puts u1 (.inl rfl)
    have a0 := Q0e uh rfl
    refine ⟨0, 0, 0, 0, 0, 0, 0, none, 0, 0, 0, 0, 0, 0, 0, 0, 0, none, 0, 0, 0, 0, none, 0, 0, 0, ⟨a0.celli 0 rfl rfl, a0.celli 1 rfl rfl, a0.celli 2 rfl rfl, a0.celli 3 rfl rfl, a0.celli 4 rfl rfl, a0.celli 5 rfl rfl, a0.celli 6 rfl rfl, a0.celli 7 rfl rfl, a0.celli 8 rfl rfl, a0.celli 9 rfl rfl, a0.celli 10 rfl rfl, a0.celli 11 rfl rfl, a0.celli 12 rfl rfl, a0.celli 13 rfl rfl, a0.celli 14 rfl rfl, a0.celli 15 rfl rfl, a0.celli 16 rfl rfl, a0.celli 17 rfl rfl, a0.celli 18 rfl rfl, a0.celli 19 rfl rfl, trivial⟩, ?_⟩
    have h := h lu pj
    exact h
   have h := h.2 (not_f jq)
   refine ⟨a2, a6, ag, ap, aw, ay, ae, ad, af, ah, ax, ac, ak, au, bf, bb, aj, al, an, am, bh, a3, bl, bk, bq, ai, ⟨a1.celli 0 rfl rfl, a1.celli 1 rfl rfl, a1.celli 2 rfl rfl, a1.celli 3 rfl rfl, a1.celli 4 rfl rfl, a1.celli 5 rfl rfl, a1.celli 6 rfl rfl, a1.celli 7 rfl rfl, a1.celli 8 rfl rfl, a1.celli 9 rfl rfl, a1.celli 10 rfl rfl, a1.celli 11 rfl rfl, a1.celli 12 rfl rfl, a1.celli 13 rfl rfl, a1.celli 14 rfl rfl, a1.celli 15 rfl rfl, a1.celli 16 rfl rfl, a1.celli 17 rfl rfl, a1.celli 18 rfl rfl, a1.celli 19 rfl rfl, trivial⟩, ?_⟩
   have ln : Ext (fun b => b = w.heap.size) df df := ((Ext.refl no df)).none
   refine Q0a (k := 0) (j := 0) a0 (by exact Nat.le_of_ble_eq_true rfl) fun li uc q2 => ?_
   have mx := ln.x_puts uc (.inl rfl)
   have a0 := Q0e q2 rfl
   refine ⟨a2, a6, ag, ap, aw, ay, ae, ad, af, ah, ax, ac, ak, au, bf, bb, aj, al, an, am, bh, a3, bl, bk, bq, ai, ⟨a0.celli 0 rfl rfl, a0.celli 1 rfl rfl, a0.celli 2 rfl rfl, a0.celli 3 rfl rfl, a0.celli 4 rfl rfl, a0.celli 5 rfl rfl, a0.celli 6 rfl rfl, a0.celli 7 rfl rfl, a0.celli 8 rfl rfl, a0.celli 9 rfl rfl, a0.celli 10 rfl rfl, a0.celli 11 rfl rfl, a0.celli 12 rfl rfl, a0.celli 13 rfl rfl, a0.celli 14 rfl rfl, a0.celli 15 rfl rfl, a0.celli 16 rfl rfl, a0.celli 17 rfl rfl, a0.celli 18 rfl rfl, a0.celli 19 rfl rfl, trivial⟩, ?_⟩
   have h := h li mx
   exact h

theorem Q00.go (a1 : Option Addr) (a0 a2 : Nat) {R : RW} {w : World} (h : Q00.N a1 a0 a2 R w) : Calls Try.prog 18 #[.slice a1 a0 a2] w fun e w' => ∃ v, e = .returned v ∧ R v w' := Q00.ok a1 a0 a2 (Q00.up a1 a0 a2 h)
set_option maxRecDepth 20000
set_option maxHeartbeats 8000000
open W (OwnB RdR numR countR doneR)
section
variable {w w' : World} {x y : FP} {e f : Ent} {a ba : Option Addr} {c bc : Nat} {bs : List UInt8}
theorem Q2e {N : Nat} (h : RowAt w a (bytesV bs)) (hc : bs.length ≤ c) (hl : bs.length < 1000000) (hN : N ≤ w.heap.size) (hfr : bytesV bs ≠ [] → ∀ ad, a = some ad → ad.block < N) :
    Calls Try.prog 47 #[.slice a bs.length c] w (fun e w' => ∃ a' c', e = .returned (.tuple #[entV (readE bs).1 a' c', .int .i64 (readE bs).2]) ∧ RowAt w' a' (bytesV (readE bs).1.body) ∧ (bytesV (readE bs).1.body ≠ [] → ∀ ad, a' = some ad → ad.block < N) ∧ Ext no w w') := by
  refine (Q0j.go _ _ _ (R := fun v w' => ∃ a' c', v = (.tuple #[entV (readE bs).1 a' c', .int .i64 (readE bs).2]) ∧ RowAt w' a' (bytesV (readE bs).1.body) ∧ (bytesV (readE bs).1.body ≠ [] → ∀ ad, a' = some ad → ad.block < N) ∧ Ext no w w') ?_).mono fun e w' ⟨v, he, a, c, hv, hw⟩ => ⟨a, c, by rw [he, hv], hw⟩
  unfold Q0j.N
  intro w3 q4 p5 X3 hq hq1 hq2 hp5
  have hp5 := hp5.one
  have hR : RdR w3 q4 N bs 0 := ⟨by omega, a, c, hq, hc, h.no X3, hfr⟩
  refine (Q24 hR hl).mono fun e w15 ⟨ba, bc, he, hle, hrow, hbp, hr15, X15⟩ => ⟨_, _, _, _, _, _, _, _, _, _, he, keep1 X15 (by omega), fun w24 p25 X24 hp25 => ?_⟩
  have hp25 := hp25.one
  have Y24 : Ext no w w24 := (X3.then X15 fun b hb => .inr (by omega)).trans X24
  refine (W.rDone_spec (hr15.no X24)).mono fun e w28 ⟨he, hw⟩ => ⟨_, he, by subst hw; exact Keep.refl _ _, ?_⟩
  subst hw
  obtain ⟨g1, g2⟩ := Q3p (bs, 0)
  have new5 : ∀ {w1 w2 : World}, Ext no w w1 → Ext (fun b => b = p5) w1 w2 → Ext no w w2 := fun h1 h2 => h1.then h2 fun b hb => .inr (by omega)
  have hF : Q03.F (entT (bs, 0)).w (entT (bs, 0)).i (entT (bs, 0)).pv (entT (bs, 0)).t (entT (bs, 0)).tw (entT (bs, 0)).ep ba (entT (bs, 0)).body.length bc (entT (bs, 0)).sg = Q0u (entR (bs, 0)) := (Q1z _ _ _).trans g1
  rw [hF]
  refine ⟨fun hd w37 X37 => ?_, fun hd => ⟨fun hr w49 X49 => ?_, fun hr w57 X57 => ?_⟩⟩
  · have : readE bs = (Ent.zero, doneR (entR7 (bs, 0))) := by unfold readE; rw [if_pos hd]
    rw [this]
    exact ⟨none, 0, rfl, RowAt.nil _ _, fun _ ad ha => (by cases ha), new5 Y24 X37⟩
  · have : readE bs = (Ent.zero, 4) := by unfold readE; rw [if_neg (by rw [hd]; simp), if_neg (by rw [hr]; simp)]
    rw [this]
    exact ⟨none, 0, rfl, RowAt.nil _ _, fun _ ad ha => (by cases ha), new5 Y24 X49⟩
  · have : readE bs = (entR (bs, 0), 0) := by unfold readE; rw [if_neg (by rw [hd]; simp), if_pos hr]
    rw [this]
    rw [g2 hr] at hrow hbp ⊢
    refine ⟨ba, bc, rfl, (hrow.no X24).ext' X57 fun h0 ad ha hb => ?_, hbp, new5 Y24 X57⟩
    have := hbp h0 ad ha
    omega
theorem Q1G {b : List UInt8} (h : frDone b ≠ 0) : readW b = (Fr.zero, frDone b) := by unfold readW; rw [if_pos h]
theorem Q1F {b : List UInt8} (hd : frDone b = 0) (hl : (frLooks b).2 ≠ 0) : readW b = (Fr.zero, (frLooks b).2) := by unfold readW; rw [if_neg (fun h => h hd), if_pos hl]
theorem Q2i {b : List UInt8} {f : Fr} (hd : frDone b = 0) (hl : frLooks b = (f, 0)) (hk : frOK f = true) : readW b = (f, 0) := by unfold readW; rw [if_neg (fun h => h hd), hl, if_neg (fun h => h rfl), if_pos hk]
theorem Q1T {b : List UInt8} {f : Fr} (hd : frDone b = 0) (hl : frLooks b = (f, 0)) (hk : frOK f = false) : readW b = (Fr.zero, 4) := by unfold readW; rw [if_neg (fun h => h hd), hl, if_neg (fun h => h rfl), hk]; rfl
theorem Q1X {c : Nat × List UInt8} {l : List (Nat × List UInt8)} {f : Fr} (h : (f.put c).2 ≠ 0) : looks (c :: l) f = (Fr.zero, (f.put c).2) := by rw [looks, if_neg h]
theorem Q2z {c : List UInt8} (h : (readE c).2 = 0) : (readE c).1.body.length < 1000000 := by
  have := ((Q19 _).1 (Q22 h).2.1).2.2.2.2.2.2.2.2.2.1
  omega
theorem Q40 {b : List UInt8} (h : RowAt w a (bytesV b)) (hc : b.length ≤ c) :
    Calls Try.prog 18 #[.slice a b.length c] w fun e w' => ∃ x' : FP, e = .returned (.tuple #[x'.V, .int .i64 (readFr b).2]) ∧ x'.r = (readFr b).1 ∧ x'.at w' ∧ Ext no w w' := by
  refine (Q00.go a b.length c (R := fun v w' => ∃ x' : FP, v = (.tuple #[x'.V, .int .i64 (readFr b).2]) ∧ x'.r = (readFr b).1 ∧ x'.at w' ∧ Ext no w w') ?_).mono fun e w' ⟨v, he, x', hv, hw⟩ => ⟨x', by rw [he, hv], hw⟩
  unfold Q00.N
  have bad : ∀ {k : Int} {w2 : World}, readFr b = (Fr.zero, k) → Ext no w w2 → ∃ x' : FP, (.tuple #[FP.zero.V, .int .i64 k] : Value) = (.tuple #[x'.V, .int .i64 (readFr b).2]) ∧ x'.r = (readFr b).1 ∧ x'.at w2 ∧ Ext no w w2 := fun {k w2} e X =>
    ⟨FP.zero, by rw [e], by rw [e]; rfl, ⟨RowAt.nil _ _, RowAt.nil _ _, RowAt.nil _ _⟩, X⟩
  have good : ∀ {x : FP} {w2 : World}, readFr b = (x.r, 0) → x.at w2 → Ext no w w2 → ∃ x' : FP, (.tuple #[x.V, .int .i64 0] : Value) = (.tuple #[x'.V, .int .i64 (readFr b).2]) ∧ x'.r = (readFr b).1 ∧ x'.at w2 ∧ Ext no w w2 := fun {x w2} e ha X =>
    ⟨x, by rw [e], by rw [e], ha, X⟩
  refine ⟨fun hg w23 X23 => bad (by unfold readFr; rw [if_pos (by omega)]) X23, fun hg w25 q26 p27 X25 hb25 hq hq' hp => ?_⟩
  have hrw : readFr b = readW b := by unfold readFr; rw [if_neg (by omega)]
  have hp := hp.one
  have hR : RdR w25 q26 w.heap.size b 0 := ⟨hq, a, c, hb25, hc, h.no X25, fun h0 ad ha => h.lt h0 ha⟩
  refine (W.rCount_spec hR (by omega) (m := 4) (by decide) (by decide)).mono fun u w30 ⟨he, hR30, X30⟩ => ⟨_, he, keep1 X30 (by omega), ?_⟩
  have Y30 : Ext no w w30 := X25.then X30 fun b hb => .inr (by omega)
  have hfd : frDone b = doneR (kdS (countR 4 (b, 0)).1 (countR 4 (b, 0)).2) := rfl
  have hfl : frLooks b = looks (kdL (countR 4 (b, 0)).1 (countR 4 (b, 0)).2) (kdF (countR 4 (b, 0)).1 { Fr.zero with kd := (countR 4 (b, 0)).1 } (countR 4 (b, 0)).2) := rfl
  have hcl : (countR 4 (b, 0)).2.1.length ≤ b.length := W.countR_len 4 (b, 0)
  clear he
  generalize countR 4 (b, 0) = cc at *
  obtain ⟨n, s⟩ := cc
  have hR30 : RdR w30 q26 w.heap.size s.1 s.2 := hR30
  have hcl : s.1.length ≤ b.length := hcl
  have z25 := X25.size
  have z30 := X30.size
  dsimp only
  refine ⟨fun k1 w51 p53 X51 hp53 => ?_, fun k1 => ⟨fun k2 w51 p53 X51 hp53 => ?_, fun k2 => ⟨fun k3 w51 p53 X51 hp53 => ?_, fun k3 => ⟨fun k4 w51 p53 X51 hp53 => ?_, fun k4 w51 p53 X51 hp53 => ?_⟩⟩⟩⟩
  all_goals
    have hp53 := hp53.one
    have hR51 := hR30.no X51
    have Y51 := Y30.trans X51
    have z51 := X51.size
  · obtain rfl : n = 1 := by omega
    have hd1 : frDone b = doneR (bytesR 4000 s).2 := hfd
    have hl1 : frLooks b = looks [(0, (bytesR 4000 s).1)] ⟨1, Ent.zero, Ent.zero, 0, [], 0⟩ := hfl
    have hbl := Q1o 4000 s
    refine (Q18 hR51 (by omega) (m := 4000) (by decide) (by decide)).mono fun u w56 ⟨a5, c5, he, hc5, hr5, hf5, hR56, X56⟩ => ⟨a5, _, c5, he, keep2 X56 (by omega) (by omega), ?_⟩
    have Y56 : Ext no w w56 := Y51.then X56 fun b hb => .inr (by omega)
    have z56 := X56.size
    refine (W.rDone_spec hR56).mono fun u w59 ⟨he, hw⟩ => ⟨_, he, by subst hw; exact Keep.refl _ _, ?_⟩
    subst hw
    refine ⟨fun hd w80 X80 => bad ?_ (Y56.then X80 fun b hb => .inr (by omega)), fun hd => ?_⟩
    · rw [hrw, Q1G (by rw [hd1]; exact hd), hd1]
    have hd0 : frDone b = 0 := by rw [hd1]; exact hd
    refine (Q2e (N := w.heap.size) hr5 hc5 (by have := hbl.2; show (bytesR 4000 s).1.length < 1000000; omega) Y56.size hf5).mono fun u w91 ⟨a6, c6, he, hr6, hf6, X91⟩ => ⟨_, _, _, _, _, _, _, _, _, _, _, he, X91.kept, fun hk w121 X121 => bad ?_ ((Y56.trans X91).then X121 fun b hb => .inr (by omega)), fun hk => ⟨fun h => absurd h (by omega), fun _ => ⟨fun h => absurd h (by omega), fun _ => ⟨fun h => absurd h (by omega), fun _ w130 X130 => ?_⟩⟩⟩⟩
    · have hl2 : frLooks b = (Fr.zero, (readE (bytesR 4000 s).1).2) := by rw [hl1]; exact Q1X hk
      rw [hrw, Q1F hd0 (by rw [hl2]; exact hk), hl2]
    have hl2 : frLooks b = (⟨1, (readE (bytesR 4000 s).1).1, Ent.zero, 0, [], 0⟩, 0) := by rw [hl1]; exact Q1p hk
    have hbody := Q2z hk
    have hr130 := hr6.ext' X130 (fun h0 ad ha hb => by have := hf6 h0 ad ha; omega)
    have Y130 := (Y56.trans X91).then X130 fun b hb => .inr (by omega)
    refine (Q1c (x := ⟨⟨1, (readE (bytesR 4000 s).1).1, Ent.zero, 0, [], 0⟩, a6, c6, none, 0, none, 0⟩) ⟨hr130, RowAt.nil _ _, RowAt.nil _ _⟩ (show (0 : Nat) < 1000000 by decide) hbody (show (0 : Nat) < 1000000 by decide)).mono fun u w519 ⟨he, X519⟩ => ⟨_, he, X519.kept, fun hr w540 X540 => bad ?_ ((Y130.trans X519).then X540 fun b hb => .inr (by omega)), fun hr w560 X560 => good (x := ⟨⟨1, (readE (bytesR 4000 s).1).1, Ent.zero, 0, [], 0⟩, a6, c6, none, 0, none, 0⟩) ?_ ⟨?_, RowAt.nil _ _, RowAt.nil _ _⟩ ((Y130.trans X519).then X560 fun b hb => .inr (by omega))⟩
    · rw [hrw]; exact Q1T hd0 hl2 hr
    · rw [hrw]; exact Q2i hd0 hl2 hr
    · exact (hr130.no X519).ext' X560 (fun h0 ad ha hb => by have := hf6 h0 ad ha; omega)
  · obtain rfl : n = 2 := by omega
    have hd1 : frDone b = doneR (bytesR 4000 (countR 7 s).2).2 := hfd
    have hl1 : frLooks b = looks [(2, (bytesR 4000 (countR 7 s).2).1)] ⟨2, Ent.zero, Ent.zero, ((countR 7 s).1 : Nat), [], 0⟩ := hfl
    have hkl : (countR 7 s).2.1.length ≤ s.1.length := W.countR_len 7 s
    have hbl := Q1o 4000 (countR 7 s).2
    refine (W.rCount_spec hR51 (by omega) (m := 7) (by decide) (by decide)).mono fun u w53 ⟨he, hR53, X53⟩ => ⟨_, he, keep2 X53 (by omega) (by omega), fun w54 X54 => ?_⟩
    have z53 := X53.size
    have z54 := X54.size
    have hR54 : RdR w54 q26 w.heap.size (countR 7 s).2.1 (countR 7 s).2.2 := hR53.up X54 fun b hb => by omega
    have Y54 : Ext no w w54 := (Y51.then X53 fun b hb => .inr (by omega)).then X54 fun b hb => .inr (by omega)
    refine (Q18 hR54 (by omega) (m := 4000) (by decide) (by decide)).mono fun u w56 ⟨a5, c5, he, hc5, hr5, hf5, hR56, X56⟩ => ⟨a5, _, c5, he, keep2 X56 (by omega) (by omega), fun h => absurd h (by omega), fun _ => ?_⟩
    have Y56 : Ext no w w56 := Y54.then X56 fun b hb => .inr (by omega)
    have z56 := X56.size
    refine (W.rDone_spec hR56).mono fun u w59 ⟨he, hw⟩ => ⟨_, he, by subst hw; exact Keep.refl _ _, ?_⟩
    subst hw
    refine ⟨fun hd w80 X80 => bad ?_ (Y56.then X80 fun b hb => .inr (by omega)), fun hd => ⟨fun h => absurd h (by omega), fun _ => ?_⟩⟩
    · rw [hrw, Q1G (by rw [hd1]; exact hd), hd1]
    have hd0 : frDone b = 0 := by rw [hd1]; exact hd
    refine (V5.rRead_spec hr5 hc5 (by have := hbl.2; show (bytesR 4000 (countR 7 s).2).1.length < 1000000; omega)).mono fun u w91 ⟨ra, rc, he, hO, X91⟩ => ⟨ra, _, rc, _, he, X91.kept, fun hk w121 X121 => bad ?_ ((Y56.trans X91).then X121 fun b hb => .inr (by omega)), fun hk w130 X130 => ?_⟩
    · have hl2 : frLooks b = (Fr.zero, (readV (bytesR 4000 (countR 7 s).2).1).2) := by rw [hl1]; exact Q1X hk
      rw [hrw, Q1F hd0 (by rw [hl2]; exact hk), hl2]
    have hl2 : frLooks b = (⟨2, Ent.zero, Ent.zero, ((countR 7 s).1 : Nat), (readV (bytesR 4000 (countR 7 s).2).1).1, 0⟩, 0) := by rw [hl1]; exact Q1p hk
    have hvl := Q3A (bytesR 4000 (countR 7 s).2).1
    have hr130 := hO.row.ext' X130 (fun h0 ad ha hb => by have := (hO.fr ad ha).1; omega)
    have Y130 := (Y56.trans X91).then X130 fun b hb => .inr (by omega)
    refine (Q1c (x := ⟨⟨2, Ent.zero, Ent.zero, ((countR 7 s).1 : Nat), (readV (bytesR 4000 (countR 7 s).2).1).1, 0⟩, none, 0, none, 0, ra, rc⟩) ⟨RowAt.nil _ _, RowAt.nil _ _, hr130⟩ (by show (readV (bytesR 4000 (countR 7 s).2).1).1.length < 1000000; omega) (show (0 : Nat) < 1000000 by decide) (show (0 : Nat) < 1000000 by decide)).mono fun u w519 ⟨he, X519⟩ => ⟨_, he, X519.kept, fun hr w540 X540 => bad ?_ ((Y130.trans X519).then X540 fun b hb => .inr (by omega)), fun hr w560 X560 => good (x := ⟨⟨2, Ent.zero, Ent.zero, ((countR 7 s).1 : Nat), (readV (bytesR 4000 (countR 7 s).2).1).1, 0⟩, none, 0, none, 0, ra, rc⟩) ?_ ⟨RowAt.nil _ _, RowAt.nil _ _, ?_⟩ ((Y130.trans X519).then X560 fun b hb => .inr (by omega))⟩
    · rw [hrw]; exact Q1T hd0 hl2 hr
    · rw [hrw]; exact Q2i hd0 hl2 hr
    · exact (hr130.no X519).ext' X560 (fun h0 ad ha hb => by have := (hO.fr ad ha).1; omega)
  · obtain rfl : n = 3 := by omega
    have hd1 : frDone b = doneR (numR (bytesR 4000 (countR 7 s).2).2).2 := hfd
    have hl1 : frLooks b = looks [(2, (bytesR 4000 (countR 7 s).2).1)] ⟨3, Ent.zero, Ent.zero, ((countR 7 s).1 : Nat), [], ((numR (bytesR 4000 (countR 7 s).2).2).1 : Nat)⟩ := hfl
    have hkl : (countR 7 s).2.1.length ≤ s.1.length := W.countR_len 7 s
    have hbl := Q1o 4000 (countR 7 s).2
    refine (W.rCount_spec hR51 (by omega) (m := 7) (by decide) (by decide)).mono fun u w53 ⟨he, hR53, X53⟩ => ⟨_, he, keep2 X53 (by omega) (by omega), fun w54 X54 => ?_⟩
    have z53 := X53.size
    have z54 := X54.size
    have hR54 : RdR w54 q26 w.heap.size (countR 7 s).2.1 (countR 7 s).2.2 := hR53.up X54 fun b hb => by omega
    have Y54 : Ext no w w54 := (Y51.then X53 fun b hb => .inr (by omega)).then X54 fun b hb => .inr (by omega)
    refine (Q18 hR54 (by omega) (m := 4000) (by decide) (by decide)).mono fun u w56 ⟨a5, c5, he, hc5, hr5, hf5, hR56, X56⟩ => ⟨a5, _, c5, he, keep2 X56 (by omega) (by omega), ?_⟩
    have Y56 : Ext no w w56 := Y54.then X56 fun b hb => .inr (by omega)
    have z56 := X56.size
    have hR56 : RdR w56 q26 w.heap.size (bytesR 4000 (countR 7 s).2).2.1 (bytesR 4000 (countR 7 s).2).2.2 := hR56
    refine (W.rRNum_spec hR56 (by have := hbl.1; omega)).mono fun u w57 ⟨he, hR57, X57⟩ => ⟨_, he, keep2 X57 (by omega) (by omega), fun w58 X58 => ?_⟩
    have z57 := X57.size
    have z58 := X58.size
    have hR58 := hR57.up X58 fun b hb => by omega
    have Y58 : Ext no w w58 := (Y56.then X57 fun b hb => .inr (by omega)).then X58 fun b hb => .inr (by omega)
    have hr58 : RowAt w58 a5 (bytesV (bytesR 4000 (countR 7 s).2).1) := (hr5.ext' X57 (fun h0 ad ha hb => by have := hf5 h0 ad ha; omega)).ext' X58 (fun h0 ad ha hb => by have := hf5 h0 ad ha; omega)
    refine (W.rDone_spec hR58).mono fun u w59 ⟨he, hw⟩ => ⟨_, he, by subst hw; exact Keep.refl _ _, ?_⟩
    subst hw
    refine ⟨fun hd w80 X80 => bad ?_ (Y58.then X80 fun b hb => .inr (by omega)), fun hd => ⟨fun h => absurd h (by omega), fun _ => ?_⟩⟩
    · rw [hrw, Q1G (by rw [hd1]; exact hd), hd1]
    have hd0 : frDone b = 0 := by rw [hd1]; exact hd
    refine (V5.rRead_spec hr58 hc5 (by have := hbl.2; show (bytesR 4000 (countR 7 s).2).1.length < 1000000; omega)).mono fun u w91 ⟨ra, rc, he, hO, X91⟩ => ⟨ra, _, rc, _, he, X91.kept, fun hk w121 X121 => bad ?_ ((Y58.trans X91).then X121 fun b hb => .inr (by omega)), fun hk w130 X130 => ?_⟩
    · have hl2 : frLooks b = (Fr.zero, (readV (bytesR 4000 (countR 7 s).2).1).2) := by rw [hl1]; exact Q1X hk
      rw [hrw, Q1F hd0 (by rw [hl2]; exact hk), hl2]
    have hl2 : frLooks b = (⟨3, Ent.zero, Ent.zero, ((countR 7 s).1 : Nat), (readV (bytesR 4000 (countR 7 s).2).1).1, ((numR (bytesR 4000 (countR 7 s).2).2).1 : Nat)⟩, 0) := by rw [hl1]; exact Q1p hk
    have hvl := Q3A (bytesR 4000 (countR 7 s).2).1
    have hr130 := hO.row.ext' X130 (fun h0 ad ha hb => by have := (hO.fr ad ha).1; omega)
    have Y130 := (Y58.trans X91).then X130 fun b hb => .inr (by omega)
    refine (Q1c (x := ⟨⟨3, Ent.zero, Ent.zero, ((countR 7 s).1 : Nat), (readV (bytesR 4000 (countR 7 s).2).1).1, ((numR (bytesR 4000 (countR 7 s).2).2).1 : Nat)⟩, none, 0, none, 0, ra, rc⟩) ⟨RowAt.nil _ _, RowAt.nil _ _, hr130⟩ (by show (readV (bytesR 4000 (countR 7 s).2).1).1.length < 1000000; omega) (show (0 : Nat) < 1000000 by decide) (show (0 : Nat) < 1000000 by decide)).mono fun u w519 ⟨he, X519⟩ => ⟨_, he, X519.kept, fun hr w540 X540 => bad ?_ ((Y130.trans X519).then X540 fun b hb => .inr (by omega)), fun hr w560 X560 => good (x := ⟨⟨3, Ent.zero, Ent.zero, ((countR 7 s).1 : Nat), (readV (bytesR 4000 (countR 7 s).2).1).1, ((numR (bytesR 4000 (countR 7 s).2).2).1 : Nat)⟩, none, 0, none, 0, ra, rc⟩) ?_ ⟨RowAt.nil _ _, RowAt.nil _ _, ?_⟩ ((Y130.trans X519).then X560 fun b hb => .inr (by omega))⟩
    · rw [hrw]; exact Q1T hd0 hl2 hr
    · rw [hrw]; exact Q2i hd0 hl2 hr
    · exact (hr130.no X519).ext' X560 (fun h0 ad ha hb => by have := (hO.fr ad ha).1; omega)
  · obtain rfl : n = 4 := by omega
    have hd1 : frDone b = doneR (bytesR 4000 (bytesR 4000 s).2).2 := hfd
    have hl1 : frLooks b = looks [(0, (bytesR 4000 s).1), (1, (bytesR 4000 (bytesR 4000 s).2).1)] ⟨4, Ent.zero, Ent.zero, 0, [], 0⟩ := hfl
    have hbl := Q1o 4000 s
    have hbl2 := Q1o 4000 (bytesR 4000 s).2
    refine (Q18 hR51 (by omega) (m := 4000) (by decide) (by decide)).mono fun u w53 ⟨a4, c4, he, hc4, hr4, hf4, hR53, X53⟩ => ⟨a4, _, c4, he, keep2 X53 (by omega) (by omega), ?_⟩
    have hR53 : RdR w53 q26 w.heap.size (bytesR 4000 s).2.1 (bytesR 4000 s).2.2 := hR53
    have z53 := X53.size
    have Y53 : Ext no w w53 := Y51.then X53 fun b hb => .inr (by omega)
    refine (Q18 hR53 (by have := hbl.1; omega) (m := 4000) (by decide) (by decide)).mono fun u w56 ⟨a5, c5, he, hc5, hr5, hf5, hR56, X56⟩ => ⟨a5, _, c5, he, keep2 X56 (by omega) (by omega), ?_⟩
    have Y56 : Ext no w w56 := Y53.then X56 fun b hb => .inr (by omega)
    have z56 := X56.size
    have hr4' : RowAt w56 a4 (bytesV (bytesR 4000 s).1) := hr4.ext' X56 (fun h0 ad ha hb => by have := hf4 h0 ad ha; omega)
    refine (W.rDone_spec hR56).mono fun u w59 ⟨he, hw⟩ => ⟨_, he, by subst hw; exact Keep.refl _ _, ?_⟩
    subst hw
    refine ⟨fun hd w80 X80 => bad ?_ (Y56.then X80 fun b hb => .inr (by omega)), fun hd => ?_⟩
    · rw [hrw, Q1G (by rw [hd1]; exact hd), hd1]
    have hd0 : frDone b = 0 := by rw [hd1]; exact hd
    refine (Q2e (N := w.heap.size) hr4' hc4 (by have := hbl.2; show (bytesR 4000 s).1.length < 1000000; omega) Y56.size hf4).mono fun u w91 ⟨a6, c6, he, hr6, hf6, X91⟩ => ⟨_, _, _, _, _, _, _, _, _, _, _, he, X91.kept, fun hk w121 X121 => bad ?_ ((Y56.trans X91).then X121 fun b hb => .inr (by omega)), fun hk w92 X92 => ?_⟩
    · have hl2 : frLooks b = (Fr.zero, (readE (bytesR 4000 s).1).2) := by rw [hl1]; exact Q1X hk
      rw [hrw, Q1F hd0 (by rw [hl2]; exact hk), hl2]
    have hl2 : frLooks b = looks [(1, (bytesR 4000 (bytesR 4000 s).2).1)] ⟨4, (readE (bytesR 4000 s).1).1, Ent.zero, 0, [], 0⟩ := by rw [hl1]; exact Q2O hk
    have hbody := Q2z hk
    have z91 := X91.size
    have z92 := X92.size
    have Y92 : Ext no w w92 := (Y56.trans X91).then X92 fun b hb => .inr (by omega)
    have hr692 := hr6.ext' X92 (fun h0 ad ha hb => by have := hf6 h0 ad ha; omega)
    have hr592 : RowAt w92 a5 (bytesV (bytesR 4000 (bytesR 4000 s).2).1) := (hr5.no X91).ext' X92 (fun h0 ad ha hb => by have := hf5 h0 ad ha; omega)
    refine (Q2e (N := w.heap.size) hr592 hc5 (by have := hbl.1; have := hbl2.2; show (bytesR 4000 (bytesR 4000 s).2).1.length < 1000000; omega) Y92.size hf5).mono fun u w93 ⟨a7, c7, he, hr7, hf7, X93⟩ => ⟨_, _, _, _, _, _, _, _, _, _, _, he, X93.kept, fun hk2 w121 X121 => bad ?_ ((Y92.trans X93).then X121 fun b hb => .inr (by omega)), fun hk2 w130 X130 => ?_⟩
    · have hl3 : frLooks b = (Fr.zero, (readE (bytesR 4000 (bytesR 4000 s).2).1).2) := by rw [hl2]; exact Q1X hk2
      rw [hrw, Q1F hd0 (by rw [hl3]; exact hk2), hl3]
    have hl3 : frLooks b = (⟨4, (readE (bytesR 4000 s).1).1, (readE (bytesR 4000 (bytesR 4000 s).2).1).1, 0, [], 0⟩, 0) := by rw [hl2]; exact Q1p hk2
    have hbody2 := Q2z hk2
    have hr6130 := (hr692.no X93).ext' X130 (fun h0 ad ha hb => by have := hf6 h0 ad ha; omega)
    have hr7130 := hr7.ext' X130 (fun h0 ad ha hb => by have := hf7 h0 ad ha; omega)
    have Y130 := (Y92.trans X93).then X130 fun b hb => .inr (by omega)
    refine (Q1c (x := ⟨⟨4, (readE (bytesR 4000 s).1).1, (readE (bytesR 4000 (bytesR 4000 s).2).1).1, 0, [], 0⟩, a6, c6, a7, c7, none, 0⟩) ⟨hr6130, hr7130, RowAt.nil _ _⟩ (show (0 : Nat) < 1000000 by decide) hbody hbody2).mono fun u w519 ⟨he, X519⟩ => ⟨_, he, X519.kept, fun hr w540 X540 => bad ?_ ((Y130.trans X519).then X540 fun b hb => .inr (by omega)), fun hr w560 X560 => good (x := ⟨⟨4, (readE (bytesR 4000 s).1).1, (readE (bytesR 4000 (bytesR 4000 s).2).1).1, 0, [], 0⟩, a6, c6, a7, c7, none, 0⟩) ?_ ⟨?_, ?_, RowAt.nil _ _⟩ ((Y130.trans X519).then X560 fun b hb => .inr (by omega))⟩
    · rw [hrw]; exact Q1T hd0 hl3 hr
    · rw [hrw]; exact Q2i hd0 hl3 hr
    · exact (hr6130.no X519).ext' X560 (fun h0 ad ha hb => by have := hf6 h0 ad ha; omega)
    · exact (hr7130.no X519).ext' X560 (fun h0 ad ha hb => by have := hf7 h0 ad ha; omega)
  · have hd1 : frDone b = doneR s := by rw [hfd]; unfold kdS; rw [if_neg (by omega), if_neg (by omega), if_neg (by omega), if_neg (by omega)]
    have hl2 : frLooks b = (⟨n, Ent.zero, Ent.zero, 0, [], 0⟩, 0) := by rw [hfl]; unfold kdL kdF; rw [if_neg (by omega), if_neg (by omega), if_neg (by omega), if_neg (by omega), if_neg (by omega), if_neg (by omega)]; rfl
    refine (W.rDone_spec hR51).mono fun u w59 ⟨he, hw⟩ => ⟨_, he, by subst hw; exact Keep.refl _ _, ?_⟩
    subst hw
    refine ⟨fun hd w80 X80 => bad ?_ (Y51.then X80 fun b hb => .inr (by omega)), fun hd => ?_⟩
    · rw [hrw, Q1G (by rw [hd1]; exact hd), hd1]
    have hd0 : frDone b = 0 := by rw [hd1]; exact hd
    refine (Q1c (x := ⟨⟨n, Ent.zero, Ent.zero, 0, [], 0⟩, none, 0, none, 0, none, 0⟩) ⟨RowAt.nil _ _, RowAt.nil _ _, RowAt.nil _ _⟩ (show (0 : Nat) < 1000000 by decide) (show (0 : Nat) < 1000000 by decide) (show (0 : Nat) < 1000000 by decide)).mono fun u w519 ⟨he, X519⟩ => ⟨_, he, X519.kept, fun hr w540 X540 => bad ?_ ((Y51.trans X519).then X540 fun b hb => .inr (by omega)), fun hr w560 X560 => good (x := ⟨⟨n, Ent.zero, Ent.zero, 0, [], 0⟩, none, 0, none, 0, none, 0⟩) ?_ ⟨RowAt.nil _ _, RowAt.nil _ _, RowAt.nil _ _⟩ ((Y51.trans X519).then X560 fun b hb => .inr (by omega))⟩
    · rw [hrw]; exact Q1T hd0 hl2 hr
    · rw [hrw]; exact Q2i hd0 hl2 hr
end
end Go.Proofs.Ytoempemllkebkaa