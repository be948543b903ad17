/- Epochs: predicates of EpochsShared. -/
import Derived.Test.YtaifegpikhjiiaaZF
set_option linter.unusedVariables false
set_option linter.unusedSimpArgs false
set_option maxRecDepth 100000
set_option maxHeartbeats 4000000
namespace Go.Proofs.Ytaifegpikhjiiaa
open Go Go.Mx Go.Proofs
abbrev cachettelaw13_EpochsShared.J1 (ao : Bool) (a0 : Int) (I2 : Nat → List Value → World → Prop) (b8 : Option Addr) (co : Addr) (b7 : Option Addr) (ae : Nat) (cc : Int) (c9 : Addr) (ac : Nat) (R : Value → World → Prop) (bf : World) : Prop :=
 thenW (bf.drew) fun b1 =>
 b8.elim False fun cf =>
 0 ≤ (a0 : Int) ∧ (a0 : Int) < (4 : Int) ∧
 ∃ (bv : Option Addr), b1.cell? ((cf.add 6).add (Int.toNat a0 * 1)) = some (.pointer bv) ∧
 ∃ (ai : Int) (au : Int) (a3 : Int) (a7 : Int) (a6 : Option Addr) (a5 : Nat) (a4 : Nat) (ad : Option Addr) (af : Nat) (ab : Nat), cellsAt b1 c9 [.int .i64 ai, .int .i64 au, .int .u64 a3, .int .i64 a7, .slice a6 a5 a4, .slice ad af ab] 0 ∧
 Calls Try.prog 11 #[.pointer bv, .agg #[.int .i64 ai, .int .i64 au, .int .u64 a3, .int .i64 a7, .slice a6 a5 a4, .slice ad af ab]] b1 fun bt c4 => ∃ (a2 : Int), bt = .returned (.int .i64 a2) ∧
 thenW (c4.drew) fun b6 =>
 b8.elim False fun ch =>
 0 ≤ (a0 : Int) ∧ (a0 : Int) < (4 : Int) ∧
 ∃ (b9 : Option Addr), b6.cell? ((ch.add 6).add (Int.toNat a0 * 1)) = some (.pointer b9) ∧
 ∃ (ak : Int), b6.cell? (co.add 1) = some (.int .i64 ak) ∧
 Calls Try.prog 8 #[.pointer b9, .int .i64 ak] b6 fun c1 a1 => ∃ (a8 : Int) (a9 : Int), c1 = .returned (.tuple #[.int .u64 a8, .int .i64 a9]) ∧
 bif ao then (
 bif a2 != 0 then (
 R (.bool false) a1) else (
 bif a9 != 0 then (
 R (.bool false) a1) else (
 bif a8 != cc then (
 R (.bool false) a1) else (
 bif !ao then (
 bif a2 != 11 then (
 R (.bool false) a1) else (
 bif a9 != 11 then (
 R (.bool false) a1) else (
 bif a8 != 0 then (
 R (.bool false) a1) else (
 ∃ (I4 : Nat → List Value → World → Prop) (c8 : Nat), I4 c8 [.int .i64 0] a1 ∧ ∀ (bg : Nat) (aj : World) (al : Int), I4 bg [.int .i64 al] aj →
 bif decide (al < (ae : Int)) then (
 bif ao then (
 b8.elim False fun ca =>
 0 ≤ (a0 : Int) ∧ (a0 : Int) < (4 : Int) ∧
 ∃ (br : Option Addr), aj.cell? ((ca.add 6).add (Int.toNat a0 * 1)) = some (.pointer br) ∧
 Calls Try.prog 8 #[.pointer br, .int .i64 al] aj fun bq aw => ∃ (b3 : Int) (b2 : Int), bq = .returned (.tuple #[.int .u64 b3, .int .i64 b2]) ∧
 bif b2 != 0 then (
 R (.bool false) aw) else (
 b7.elim False fun cg =>
 0 ≤ (al : Int) ∧ (al : Int) < (ae : Int) ∧
 ∃ (bh : Int), aw.cell? (cg.add (Int.toNat al * 1)) = some (.int .u64 bh) ∧
 bif b3 != bh then (
 R (.bool false) aw) else (
 ∃ bw, bw < bg ∧ I4 bw [.int .i64 (IntKind.i64.wrap (al + 1))] aw))) else (
 ∃ bp, bp < ac ∧ I2 bp [.int .i64 (IntKind.i64.wrap (a0 + 1))] aj)) else (
 ∃ c7, c7 < ac ∧ I2 c7 [.int .i64 (IntKind.i64.wrap (a0 + 1))] aj))))) else (
 ∃ (I4 : Nat → List Value → World → Prop) (cd : Nat), I4 cd [.int .i64 0] a1 ∧ ∀ (bz : Nat) (ah : World) (an : Int), I4 bz [.int .i64 an] ah →
 bif decide (an < (ae : Int)) then (
 bif ao then (
 b8.elim False fun ce =>
 0 ≤ (a0 : Int) ∧ (a0 : Int) < (4 : Int) ∧
 ∃ (bm : Option Addr), ah.cell? ((ce.add 6).add (Int.toNat a0 * 1)) = some (.pointer bm) ∧
 Calls Try.prog 8 #[.pointer bm, .int .i64 an] ah fun bk av => ∃ (b4 : Int) (ax : Int), bk = .returned (.tuple #[.int .u64 b4, .int .i64 ax]) ∧
 bif ax != 0 then (
 R (.bool false) av) else (
 b7.elim False fun cn =>
 0 ≤ (an : Int) ∧ (an : Int) < (ae : Int) ∧
 ∃ (bj : Int), av.cell? (cn.add (Int.toNat an * 1)) = some (.int .u64 bj) ∧
 bif b4 != bj then (
 R (.bool false) av) else (
 ∃ bn, bn < bz ∧ I4 bn [.int .i64 (IntKind.i64.wrap (an + 1))] av))) else (
 ∃ c3, c3 < ac ∧ I2 c3 [.int .i64 (IntKind.i64.wrap (a0 + 1))] ah)) else (
 ∃ be, be < ac ∧ I2 be [.int .i64 (IntKind.i64.wrap (a0 + 1))] ah)))))) else (
 bif !ao then (
 bif a2 != 11 then (
 R (.bool false) a1) else (
 bif a9 != 11 then (
 R (.bool false) a1) else (
 bif a8 != 0 then (
 R (.bool false) a1) else (
 ∃ (I4 : Nat → List Value → World → Prop) (ci : Nat), I4 ci [.int .i64 0] a1 ∧ ∀ (ba : Nat) (ag : World) (ap : Int), I4 ba [.int .i64 ap] ag →
 bif decide (ap < (ae : Int)) then (
 bif ao then (
 b8.elim False fun cm =>
 0 ≤ (a0 : Int) ∧ (a0 : Int) < (4 : Int) ∧
 ∃ (c2 : Option Addr), ag.cell? ((cm.add 6).add (Int.toNat a0 * 1)) = some (.pointer c2) ∧
 Calls Try.prog 8 #[.pointer c2, .int .i64 ap] ag fun bo ar => ∃ (az : Int) (ay : Int), bo = .returned (.tuple #[.int .u64 az, .int .i64 ay]) ∧
 bif ay != 0 then (
 R (.bool false) ar) else (
 b7.elim False fun cb =>
 0 ≤ (ap : Int) ∧ (ap : Int) < (ae : Int) ∧
 ∃ (bd : Int), ar.cell? (cb.add (Int.toNat ap * 1)) = some (.int .u64 bd) ∧
 bif az != bd then (
 R (.bool false) ar) else (
 ∃ bl, bl < ba ∧ I4 bl [.int .i64 (IntKind.i64.wrap (ap + 1))] ar))) else (
 ∃ bu, bu < ac ∧ I2 bu [.int .i64 (IntKind.i64.wrap (a0 + 1))] ag)) else (
 ∃ c0, c0 < ac ∧ I2 c0 [.int .i64 (IntKind.i64.wrap (a0 + 1))] ag))))) else (
 ∃ (I4 : Nat → List Value → World → Prop) (cj : Nat), I4 cj [.int .i64 0] a1 ∧ ∀ (bs : Nat) (aa : World) (am : Int), I4 bs [.int .i64 am] aa →
 bif decide (am < (ae : Int)) then (
 bif ao then (
 b8.elim False fun cl =>
 0 ≤ (a0 : Int) ∧ (a0 : Int) < (4 : Int) ∧
 ∃ (bc : Option Addr), aa.cell? ((cl.add 6).add (Int.toNat a0 * 1)) = some (.pointer bc) ∧
 Calls Try.prog 8 #[.pointer bc, .int .i64 am] aa fun bb aq => ∃ (b5 : Int) (b0 : Int), bb = .returned (.tuple #[.int .u64 b5, .int .i64 b0]) ∧
 bif b0 != 0 then (
 R (.bool false) aq) else (
 b7.elim False fun ck =>
 0 ≤ (am : Int) ∧ (am : Int) < (ae : Int) ∧
 ∃ (bi : Int), aq.cell? (ck.add (Int.toNat am * 1)) = some (.int .u64 bi) ∧
 bif b5 != bi then (
 R (.bool false) aq) else (
 ∃ c5, c5 < bs ∧ I4 c5 [.int .i64 (IntKind.i64.wrap (am + 1))] aq))) else (
 ∃ c6, c6 < ac ∧ I2 c6 [.int .i64 (IntKind.i64.wrap (a0 + 1))] aa)) else (
 ∃ bx, bx < ac ∧ I2 bx [.int .i64 (IntKind.i64.wrap (a0 + 1))] aa)))

abbrev cachettelaw13_EpochsShared.J2 (a9 : Int) (I2 : Nat → List Value → World → Prop) (b2 : Option Addr) (b1 : Addr) (ay : Nat) (az : Addr) (au : Nat) (R : Value → World → Prop) (ar : World) : Prop :=
 thenW (ar.drew) fun ai =>
 b2.elim False fun b0 =>
 0 ≤ (a9 : Int) ∧ (a9 : Int) < (4 : Int) ∧
 ∃ (aq : Option Addr), ai.cell? ((b0.add 6).add (Int.toNat a9 * 1)) = some (.pointer aq) ∧
 ∃ (aa : Int) (ah : Int) (a3 : Int) (a5 : Int) (a2 : Option Addr) (a0 : Nat) (a1 : Nat) (ac : Option Addr) (a8 : Nat) (ab : Nat), cellsAt ai az [.int .i64 aa, .int .i64 ah, .int .u64 a3, .int .i64 a5, .slice a2 a0 a1, .slice ac a8 ab] 0 ∧
 Calls Try.prog 11 #[.pointer aq, .agg #[.int .i64 aa, .int .i64 ah, .int .u64 a3, .int .i64 a5, .slice a2 a0 a1, .slice ac a8 ab]] ai fun an ao => ∃ (a4 : Int), an = .returned (.int .i64 a4) ∧
 thenW (ao.drew) fun ad =>
 b2.elim False fun ax =>
 0 ≤ (a9 : Int) ∧ (a9 : Int) < (4 : Int) ∧
 ∃ (aj : Option Addr), ad.cell? ((ax.add 6).add (Int.toNat a9 * 1)) = some (.pointer aj) ∧
 ∃ (a6 : Int), ad.cell? (b1.add 1) = some (.int .i64 a6) ∧
 Calls Try.prog 8 #[.pointer aj, .int .i64 a6] ad fun ap a7 => ∃ (af : Int) (ag : Int), ap = .returned (.tuple #[.int .u64 af, .int .i64 ag]) ∧
 bif a4 != 11 then (
 R (.bool false) a7) else (
 bif ag != 11 then (
 R (.bool false) a7) else (
 bif af != 0 then (
 R (.bool false) a7) else (
 ∃ (I4 : Nat → List Value → World → Prop) (aw : Nat), I4 aw [.int .i64 0] a7 ∧ ∀ (av : Nat) (ae : World) (al : Int), I4 av [.int .i64 al] ae →
 bif decide (al < (ay : Int)) then (
 ∃ ak, ak < au ∧ I2 ak [.int .i64 (IntKind.i64.wrap (a9 + 1))] ae) else (
 ∃ am, am < au ∧ I2 am [.int .i64 (IntKind.i64.wrap (a9 + 1))] ae))))

abbrev cachettelaw13_EpochsShared.J3 (ae : Int) (I2 : Nat → List Value → World → Prop) (av : Option Addr) (ac : Addr) (ar : Option Addr) (ao : Nat) (au : Int) (ap : Addr) (an : Nat) (R : Value → World → Prop) (am : World) : Prop :=
 ∃ (ad : Option Addr) (ab : Nat) (a9 : Nat) (a3 : Int), cellsAt am ac [.slice ad ab a9, .int .i64 a3] 0 ∧
 Calls Try.prog 16 #[.agg #[.slice ad ab a9, .int .i64 a3], .int .i64 ae] am fun aq a0 => ∃ (aa : Int) (a2 : Int) (a6 : Int) (aj : Int) (a4 : Int) (a7 : Bool), aq = .returned (.tuple #[.agg #[.int .i64 aa, .int .u64 a2, .int .i64 a6, .int .i64 aj, .int .i64 a4], .bool a7]) ∧
 thenW (a0.alloc (.cells #[.int .i64 0, .int .u64 0, .int .i64 0, .int .i64 0, .int .i64 0] 70)) fun ag =>
 canStore ag ((blk a0.heap.size).add 0) ∧
 thenW (ag.setCell ((blk a0.heap.size).add 0) (.int .i64 aa)) fun ak =>
 canStore ak ((blk a0.heap.size).add 1) ∧
 thenW (ak.setCell ((blk a0.heap.size).add 1) (.int .u64 a2)) fun af =>
 canStore af ((blk a0.heap.size).add 2) ∧
 thenW (af.setCell ((blk a0.heap.size).add 2) (.int .i64 a6)) fun ai =>
 canStore ai ((blk a0.heap.size).add 3) ∧
 thenW (ai.setCell ((blk a0.heap.size).add 3) (.int .i64 aj)) fun ah =>
 canStore ah ((blk a0.heap.size).add 4) ∧
 thenW (ah.setCell ((blk a0.heap.size).add 4) (.int .i64 a4)) fun a1 =>
 bif a7 then (
 ∃ (al : Int), a1.cell? ((blk a0.heap.size).add 3) = some (.int .i64 al) ∧
 bif al == (-1) then (
 ∃ (a8 : Int), a1.cell? ((blk a0.heap.size).add 2) = some (.int .i64 a8) ∧
 ∃ (a5 : Int), a1.cell? (ac.add 1) = some (.int .i64 a5) ∧
 cachettelaw13_EpochsShared.J1 (decide (a8 ≤ a5)) ae I2 av ac ar ao au ap an R a1) else (
 cachettelaw13_EpochsShared.J2 ae I2 av ac ao ap an R a1)) else (
 cachettelaw13_EpochsShared.J2 ae I2 av ac ao ap an R a1)

abbrev cachettelaw13_EpochsShared.J4 (ae : Addr) (ai : Addr) (ad : Option Addr) (ac : Nat) (af : Nat) (aj : Int) (ah : Addr) (ak : Int) (I0 : Nat → List Value → World → Prop) (al : Option Addr) (am : Nat) (R : Value → World → Prop) (a5 : World) : Prop :=
 ∃ (a1 : Option Addr) (a3 : Nat) (a4 : Nat) (a0 : Int), cellsAt a5 ae [.slice a1 a3 a4, .int .i64 a0] 0 ∧
 al.elim False fun a6 =>
 canStore a5 ((a6.add 16).add 0) ∧
 thenW (a5.setCell ((a6.add 16).add 0) (.slice a1 a3 a4)) fun a7 =>
 canStore a7 ((a6.add 16).add 1) ∧
 thenW (a7.setCell ((a6.add 16).add 1) (.int .i64 a0)) fun ab =>
 ∃ (I2 : Nat → List Value → World → Prop) (ag : Nat), I2 ag [.int .i64 0] ab ∧ ∀ (aa : Nat) (a2 : World) (a9 : Int), I2 aa [.int .i64 a9] a2 →
 bif decide (a9 < 4) then (
 cachettelaw13_EpochsShared.J3 a9 I2 al ai ad ac aj ah aa R a2) else (
 ∃ a8, a8 < am ∧ I0 a8 [.slice ad ac af, .int .i64 (IntKind.i64.wrap (ak + 1))] a2)

abbrev cachettelaw13_EpochsShared.J5 (bt : Addr) (c7 : Option Addr) (cb : Nat) (c2 : Nat) (c9 : Int) (bb : Addr) (ca : Int) (I0 : Nat → List Value → World → Prop) (cd : Option Addr) (ch : Nat) (R : Value → World → Prop) (ba : World) : Prop :=
 ∃ (be : Option Addr) (bp : Nat) (bn : Nat) (ar : Int), cellsAt ba bt [.slice be bp bn, .int .i64 ar] 0 ∧
 cd.elim False fun bu =>
 canStore ba ((bu.add 14).add 0) ∧
 thenW (ba.setCell ((bu.add 14).add 0) (.slice be bp bn)) fun c0 =>
 canStore c0 ((bu.add 14).add 1) ∧
 thenW (c0.setCell ((bu.add 14).add 1) (.int .i64 ar)) fun cf =>
 thenW (cf.drew) fun ab =>
 cd.elim False fun bd =>
 ∃ (a5 : Option Addr) (a6 : Nat) (a7 : Nat) (a0 : Int), cellsAt ab (bd.add 16) [.slice a5 a6 a7, .int .i64 a0] 0 ∧
 ∃ (aa : Int) (aj : Int) (a2 : Int) (a8 : Int) (a1 : Option Addr) (a3 : Nat) (a4 : Nat) (ad : Option Addr) (ac : Nat) (a9 : Nat), cellsAt ab bb [.int .i64 aa, .int .i64 aj, .int .u64 a2, .int .i64 a8, .slice a1 a3 a4, .slice ad ac a9] 0 ∧
 (Calls Try.prog 15 #[.agg #[.int .i64 aa, .int .i64 aj, .int .u64 a2, .int .i64 a8, .slice a1 a3 a4, .slice ad ac a9]] ab fun cg ai => ∃ (az : Int) (b6 : Int) (af : Int) (ao : Int) (ae : Option Addr) (ag : Nat) (ah : Nat) (ax : Option Addr) (aw : Nat) (ay : Nat), cg = .returned (.agg #[.int .i64 az, .int .i64 b6, .int .u64 af, .int .i64 ao, .slice ae ag ah, .slice ax aw ay]) ∧
 cellsAt ai (bd.add 16) [.slice a5 a6 a7, .int .i64 a0] 0 ∧
 (Calls Try.prog 14 #[.agg #[.slice a5 a6 a7, .int .i64 a0], .agg #[.int .i64 az, .int .i64 b6, .int .u64 af, .int .i64 ao, .slice ae ag ah, .slice ax aw ay]] ai fun ce au => ∃ (bv : Option Addr) (c1 : Nat) (bz : Nat) (b3 : Int) (bg : Int), ce = .returned (.tuple #[.agg #[.slice bv c1 bz, .int .i64 b3], .int .i64 bg]) ∧
 thenW (au.alloc (.cells #[.slice none 0 0, .int .i64 0] 46)) fun bw =>
 canStore bw ((blk au.heap.size).add 0) ∧
 thenW (bw.setCell ((blk au.heap.size).add 0) (.slice bv c1 bz)) fun bx =>
 canStore bx ((blk au.heap.size).add 1) ∧
 thenW (bx.setCell ((blk au.heap.size).add 1) (.int .i64 b3)) fun cc =>
 cachettelaw13_EpochsShared.J4 (blk au.heap.size) bt c7 cb c2 c9 bb ca I0 cd ch R cc) ∧
 (thenW (ai.alloc (.cells #[.slice none 0 0, .int .i64 0] 46)) fun bk =>
 cellsAt bk (bd.add 16) [.slice a5 a6 a7, .int .i64 a0] 0 ∧
 Calls Try.prog 14 #[.agg #[.slice a5 a6 a7, .int .i64 a0], .agg #[.int .i64 az, .int .i64 b6, .int .u64 af, .int .i64 ao, .slice ae ag ah, .slice ax aw ay]] bk fun c5 bq => ∃ (bj : Option Addr) (bo : Nat) (bl : Nat) (av : Int) (b9 : Int), c5 = .returned (.tuple #[.agg #[.slice bj bo bl, .int .i64 av], .int .i64 b9]) ∧
 canStore bq ((blk ai.heap.size).add 0) ∧
 thenW (bq.setCell ((blk ai.heap.size).add 0) (.slice bj bo bl)) fun bh =>
 canStore bh ((blk ai.heap.size).add 1) ∧
 thenW (bh.setCell ((blk ai.heap.size).add 1) (.int .i64 av)) fun c4 =>
 cachettelaw13_EpochsShared.J4 (blk ai.heap.size) bt c7 cb c2 c9 bb ca I0 cd ch R c4)) ∧
 (thenW (ab.alloc (.cells #[.slice none 0 0, .int .i64 0] 46)) fun b5 =>
 cellsAt b5 bb [.int .i64 aa, .int .i64 aj, .int .u64 a2, .int .i64 a8, .slice a1 a3 a4, .slice ad ac a9] 0 ∧
 cellsAt b5 (bd.add 16) [.slice a5 a6 a7, .int .i64 a0] 0 ∧
 Calls Try.prog 15 #[.agg #[.int .i64 aa, .int .i64 aj, .int .u64 a2, .int .i64 a8, .slice a1 a3 a4, .slice ad ac a9]] b5 fun c8 bm => ∃ (b2 : Int) (b7 : Int) (ak : Int) (aq : Int) (an : Option Addr) (am : Nat) (al : Nat) (b4 : Option Addr) (b1 : Nat) (b0 : Nat), c8 = .returned (.agg #[.int .i64 b2, .int .i64 b7, .int .u64 ak, .int .i64 aq, .slice an am al, .slice b4 b1 b0]) ∧
 cellsAt bm (bd.add 16) [.slice a5 a6 a7, .int .i64 a0] 0 ∧
 Calls Try.prog 14 #[.agg #[.slice a5 a6 a7, .int .i64 a0], .agg #[.int .i64 b2, .int .i64 b7, .int .u64 ak, .int .i64 aq, .slice an am al, .slice b4 b1 b0]] bm fun c6 bc => ∃ (bf : Option Addr) (bi : Nat) (br : Nat) (ap : Int) (b8 : Int), c6 = .returned (.tuple #[.agg #[.slice bf bi br, .int .i64 ap], .int .i64 b8]) ∧
 canStore bc ((blk ab.heap.size).add 0) ∧
 thenW (bc.setCell ((blk ab.heap.size).add 0) (.slice bf bi br)) fun bs =>
 canStore bs ((blk ab.heap.size).add 1) ∧
 thenW (bs.setCell ((blk ab.heap.size).add 1) (.int .i64 ap)) fun c3 =>
 cachettelaw13_EpochsShared.J4 (blk ab.heap.size) bt c7 cb c2 c9 bb ca I0 cd ch R c3)

abbrev cachettelaw13_EpochsShared.J6 (a3 : Int) (aa : Addr) (a5 : Option Addr) (ab : Nat) (a6 : Nat) (a9 : Int) (a8 : Addr) (a7 : Int) (I0 : Nat → List Value → World → Prop) (ad : Option Addr) (ac : Nat) (R : Value → World → Prop) (a1 : World) : Prop :=
 bif a3 != 0 then (
 bif a3 == 2 then (
 Calls Try.prog 5 #[] a1 fun a2 a4 => ∃ (a0 : Bool), a2 = .returned (.bool a0) ∧
 R (.bool a0) a4) else (
 R (.bool false) a1)) else (
 cachettelaw13_EpochsShared.J5 aa a5 ab a6 a9 a8 a7 I0 ad ac R a1)

abbrev cachettelaw13_EpochsShared.J7 (aw : Int) (av : Addr) (bg : Option Addr) (be : Nat) (bf : Nat) (b7 : Int) (I0 : Nat → List Value → World → Prop) (bd : Option Addr) (bh : Nat) (R : Value → World → Prop) (b0 : World) : Prop :=
 bd.elim False fun b8 =>
 canStore b0 ((b8.add 22).add 0) ∧
 thenW (b0.setCell ((b8.add 22).add 0) (.int .u64 aw)) fun az =>
 thenW (az.alloc (.cells #[.int .u64 aw] 27)) fun ba =>
 ∃ (ap : Option Addr) (au : Nat) (am : Nat) (b3 : World), (Builtin.append_ #[22, 22] 22 #[.slice bg be bf, .slice (some (blk az.heap.size)) 1 1]).run Try.prog ba = .ok (.slice ap au am) b3 ∧
 thenW (b3.drew) fun a8 =>
 bd.elim False fun bb =>
 ∃ (ag : Option Addr) (af : Nat) (ah : Nat) (a5 : Int), cellsAt a8 (bb.add 14) [.slice ag af ah, .int .i64 a5] 0 ∧
 ∃ (a6 : Int) (ab : Int) (a3 : Int) (a4 : Int) (a0 : Option Addr) (a1 : Nat) (a2 : Nat) (aa : Option Addr) (a9 : Nat) (a7 : Nat), cellsAt a8 av [.int .i64 a6, .int .i64 ab, .int .u64 a3, .int .i64 a4, .slice a0 a1 a2, .slice aa a9 a7] 0 ∧
 (Calls Try.prog 10 #[.agg #[.slice ag af ah, .int .i64 a5], .agg #[.int .i64 a6, .int .i64 ab, .int .u64 a3, .int .i64 a4, .slice a0 a1 a2, .slice aa a9 a7]] a8 fun bc ac => ∃ (b4 : Option Addr) (ax : Nat) (ay : Nat) (ai : Int) (aj : Int), bc = .returned (.tuple #[.agg #[.slice b4 ax ay, .int .i64 ai], .int .i64 aj]) ∧
 thenW (ac.alloc (.cells #[.slice none 0 0, .int .i64 0] 43)) fun b2 =>
 canStore b2 ((blk ac.heap.size).add 0) ∧
 thenW (b2.setCell ((blk ac.heap.size).add 0) (.slice b4 ax ay)) fun b1 =>
 canStore b1 ((blk ac.heap.size).add 1) ∧
 thenW (b1.setCell ((blk ac.heap.size).add 1) (.int .i64 ai)) fun b9 =>
 cachettelaw13_EpochsShared.J6 aj (blk ac.heap.size) ap au am aw av b7 I0 bd bh R b9) ∧
 (thenW (a8.alloc (.cells #[.slice none 0 0, .int .i64 0] 43)) fun ak =>
 cellsAt ak av [.int .i64 a6, .int .i64 ab, .int .u64 a3, .int .i64 a4, .slice a0 a1 a2, .slice aa a9 a7] 0 ∧
 cellsAt ak (bb.add 14) [.slice ag af ah, .int .i64 a5] 0 ∧
 Calls Try.prog 10 #[.agg #[.slice ag af ah, .int .i64 a5], .agg #[.int .i64 a6, .int .i64 ab, .int .u64 a3, .int .i64 a4, .slice a0 a1 a2, .slice aa a9 a7]] ak fun b6 al => ∃ (an : Option Addr) (ao : Nat) (ar : Nat) (ad : Int) (ae : Int), b6 = .returned (.tuple #[.agg #[.slice an ao ar, .int .i64 ad], .int .i64 ae]) ∧
 canStore al ((blk a8.heap.size).add 0) ∧
 thenW (al.setCell ((blk a8.heap.size).add 0) (.slice an ao ar)) fun aq =>
 canStore aq ((blk a8.heap.size).add 1) ∧
 thenW (aq.setCell ((blk a8.heap.size).add 1) (.int .i64 ad)) fun b5 =>
 cachettelaw13_EpochsShared.J6 ae (blk a8.heap.size) ap au am aw av b7 I0 bd bh R b5)

abbrev cachettelaw13_EpochsShared.J8 (a7 : Int) (a1 : Int) (a4 : Addr) (a2 : Option Addr) (a6 : Nat) (a5 : Nat) (a3 : Int) (I0 : Nat → List Value → World → Prop) (a9 : Option Addr) (a8 : Nat) (R : Value → World → Prop) (a0 : World) : Prop :=
 bif a7 != 0 then (
 R (.bool false) a0) else (
 bif a1 == 0 then (
 R (.bool false) a0) else (
 cachettelaw13_EpochsShared.J7 a1 a4 a2 a6 a5 a3 I0 a9 a8 R a0))

abbrev cachettelaw13_EpochsShared.J9 (bl : Option Addr) (bj : Nat) (bd : Nat) (bi : Int) (I0 : Nat → List Value → World → Prop) (bk : Option Addr) (bo : Nat) (R : Value → World → Prop) (bm : World) : Prop :=
 thenW (bm.drew) fun a0 =>
 bk.elim False fun bh =>
 ∃ (b4 : Option Addr), a0.cell? (bh.add 0) = some (.pointer b4) ∧
 bk.elim False fun bn =>
 ∃ (ak : Option Addr) (aj : Nat) (ah : Nat) (a2 : Int), cellsAt a0 (bn.add 14) [.slice ak aj ah, .int .i64 a2] 0 ∧
 bk.elim False fun be =>
 ∃ (a3 : Int), a0.cell? (be.add 22) = some (.int .u64 a3) ∧
 (Calls Try.prog 9 #[.pointer b4, .agg #[.slice ak aj ah, .int .i64 a2], .int .u64 a3] a0 fun bf a1 => ∃ (av : Int) (b0 : Int) (aa : Int) (ap : Int) (ab : Option Addr) (ac : Nat) (ad : Nat) (ar : Option Addr) (aq : Nat) (aw : Nat) (ag : Int) (ae : Int), bf = .returned (.tuple #[.agg #[.int .i64 av, .int .i64 b0, .int .u64 aa, .int .i64 ap, .slice ab ac ad, .slice ar aq aw], .int .u64 ag, .int .i64 ae]) ∧
 thenW (a1.alloc (.cells #[.int .i64 0, .int .i64 0, .int .u64 0, .int .i64 0, .slice none 0 0, .slice none 0 0] 52)) fun b7 =>
 canStore b7 ((blk a1.heap.size).add 0) ∧
 thenW (b7.setCell ((blk a1.heap.size).add 0) (.int .i64 av)) fun b9 =>
 canStore b9 ((blk a1.heap.size).add 1) ∧
 thenW (b9.setCell ((blk a1.heap.size).add 1) (.int .i64 b0)) fun b8 =>
 canStore b8 ((blk a1.heap.size).add 2) ∧
 thenW (b8.setCell ((blk a1.heap.size).add 2) (.int .u64 aa)) fun b5 =>
 canStore b5 ((blk a1.heap.size).add 3) ∧
 thenW (b5.setCell ((blk a1.heap.size).add 3) (.int .i64 ap)) fun ba =>
 canStore ba ((blk a1.heap.size).add 4) ∧
 thenW (ba.setCell ((blk a1.heap.size).add 4) (.slice ab ac ad)) fun b6 =>
 canStore b6 ((blk a1.heap.size).add 5) ∧
 thenW (b6.setCell ((blk a1.heap.size).add 5) (.slice ar aq aw)) fun bg =>
 cachettelaw13_EpochsShared.J8 ae ag (blk a1.heap.size) bl bj bd bi I0 bk bo R bg) ∧
 (thenW (a0.alloc (.cells #[.int .i64 0, .int .i64 0, .int .u64 0, .int .i64 0, .slice none 0 0, .slice none 0 0] 52)) fun ai =>
 ai.cell? (be.add 22) = some (.int .u64 a3) ∧
 cellsAt ai (bn.add 14) [.slice ak aj ah, .int .i64 a2] 0 ∧
 ai.cell? (bh.add 0) = some (.pointer b4) ∧
 Calls Try.prog 9 #[.pointer b4, .agg #[.slice ak aj ah, .int .i64 a2], .int .u64 a3] ai fun bc ax => ∃ (am : Int) (au : Int) (a4 : Int) (af : Int) (a9 : Option Addr) (a6 : Nat) (a7 : Nat) (ao : Option Addr) (an : Nat) (al : Nat) (a5 : Int) (a8 : Int), bc = .returned (.tuple #[.agg #[.int .i64 am, .int .i64 au, .int .u64 a4, .int .i64 af, .slice a9 a6 a7, .slice ao an al], .int .u64 a5, .int .i64 a8]) ∧
 canStore ax ((blk a0.heap.size).add 0) ∧
 thenW (ax.setCell ((blk a0.heap.size).add 0) (.int .i64 am)) fun b2 =>
 canStore b2 ((blk a0.heap.size).add 1) ∧
 thenW (b2.setCell ((blk a0.heap.size).add 1) (.int .i64 au)) fun b1 =>
 canStore b1 ((blk a0.heap.size).add 2) ∧
 thenW (b1.setCell ((blk a0.heap.size).add 2) (.int .u64 a4)) fun b3 =>
 canStore b3 ((blk a0.heap.size).add 3) ∧
 thenW (b3.setCell ((blk a0.heap.size).add 3) (.int .i64 af)) fun ay =>
 canStore ay ((blk a0.heap.size).add 4) ∧
 thenW (ay.setCell ((blk a0.heap.size).add 4) (.slice a9 a6 a7)) fun az =>
 canStore az ((blk a0.heap.size).add 5) ∧
 thenW (az.setCell ((blk a0.heap.size).add 5) (.slice ao an al)) fun bb =>
 cachettelaw13_EpochsShared.J8 a8 a5 (blk a0.heap.size) bl bj bd bi I0 bk bo R bb)

abbrev cachettelaw13_EpochsShared.J10 (be : Option Addr) (bd : Nat) (bg : Nat) (a0 : Int) (I0 : Nat → List Value → World → Prop) (bq : Option Addr) (b7 : Option Addr) (ba : Nat) (bb : Nat) (R : Value → World → Prop) (a1 : World) : Prop :=
 b7.elim False fun c5 =>
 0 ≤ (a0 : Int) ∧ (a0 : Int) < (ba : Int) ∧
 ∃ (b4 : Int), a1.cell? ((c5.add (Int.toNat a0 * 5)).add 0) = some (.int .i64 b4) ∧
 bif b4 != 3 then (
 b7.elim False fun c9 =>
 0 ≤ (a0 : Int) ∧ (a0 : Int) < (ba : Int) ∧
 ∃ (b9 : Int), a1.cell? ((c9.add (Int.toNat a0 * 5)).add 0) = some (.int .i64 b9) ∧
 bif b9 == 0 then (
 b7.elim False fun c8 =>
 0 ≤ (a0 : Int) ∧ (a0 : Int) < (ba : Int) ∧
 ∃ (bf : Int), a1.cell? ((c8.add (Int.toNat a0 * 5)).add 1) = some (.int .i64 bf) ∧
 bif decide (bf ≥ 0) then (
 b7.elim False fun ca =>
 0 ≤ (a0 : Int) ∧ (a0 : Int) < (ba : Int) ∧
 ∃ (bc : Int), a1.cell? ((ca.add (Int.toNat a0 * 5)).add 1) = some (.int .i64 bc) ∧
 bif decide (bc < 4) then (
 b7.elim False fun cc =>
 0 ≤ (a0 : Int) ∧ (a0 : Int) < (ba : Int) ∧
 ∃ (b2 : Int) (b8 : Int) (ae : Int) (aa : Option Addr) (ag : Nat) (ac : Nat) (aw : Option Addr) (aq : Nat) (ap : Nat), cellsAt a1 (cc.add (Int.toNat a0 * 5)) [.int .i64 b2, .int .i64 b8, .int .u64 ae, .slice aa ag ac, .slice aw aq ap] 0 ∧
 Calls Try.prog 7 #[.pointer bq, .agg #[.int .i64 b2, .int .i64 b8, .int .u64 ae, .slice aa ag ac, .slice aw aq ap]] a1 fun bv bz => ∃ (bt : Bool), bv = .returned (.bool bt) ∧
 ∃ c1, c1 < bb ∧ I0 c1 [.slice be bd bg, .int .i64 (IntKind.i64.wrap (a0 + 1))] bz) else (
 b7.elim False fun cb =>
 0 ≤ (a0 : Int) ∧ (a0 : Int) < (ba : Int) ∧
 ∃ (b5 : Int), a1.cell? ((cb.add (Int.toNat a0 * 5)).add 0) = some (.int .i64 b5) ∧
 bif b5 == 2 then (
 b7.elim False fun c6 =>
 0 ≤ (a0 : Int) ∧ (a0 : Int) < (ba : Int) ∧
 ∃ (ay : Int) (b6 : Int) (ab : Int) (ad : Option Addr) (af : Nat) (ah : Nat) (au : Option Addr) (b0 : Nat) (az : Nat), cellsAt a1 (c6.add (Int.toNat a0 * 5)) [.int .i64 ay, .int .i64 b6, .int .u64 ab, .slice ad af ah, .slice au b0 az] 0 ∧
 Calls Try.prog 7 #[.pointer bq, .agg #[.int .i64 ay, .int .i64 b6, .int .u64 ab, .slice ad af ah, .slice au b0 az]] a1 fun bx bw => ∃ (bo : Bool), bx = .returned (.bool bo) ∧
 ∃ c3, c3 < bb ∧ I0 c3 [.slice be bd bg, .int .i64 (IntKind.i64.wrap (a0 + 1))] bw) else (
 ∃ c2, c2 < bb ∧ I0 c2 [.slice be bd bg, .int .i64 (IntKind.i64.wrap (a0 + 1))] a1))) else (
 b7.elim False fun c4 =>
 0 ≤ (a0 : Int) ∧ (a0 : Int) < (ba : Int) ∧
 ∃ (b3 : Int), a1.cell? ((c4.add (Int.toNat a0 * 5)).add 0) = some (.int .i64 b3) ∧
 bif b3 == 2 then (
 b7.elim False fun c7 =>
 0 ≤ (a0 : Int) ∧ (a0 : Int) < (ba : Int) ∧
 ∃ (b1 : Int) (ar : Int) (a9 : Int) (a4 : Option Addr) (a6 : Nat) (a8 : Nat) (ao : Option Addr) (aj : Nat) (an : Nat), cellsAt a1 (c7.add (Int.toNat a0 * 5)) [.int .i64 b1, .int .i64 ar, .int .u64 a9, .slice a4 a6 a8, .slice ao aj an] 0 ∧
 Calls Try.prog 7 #[.pointer bq, .agg #[.int .i64 b1, .int .i64 ar, .int .u64 a9, .slice a4 a6 a8, .slice ao aj an]] a1 fun bs bj => ∃ (bh : Bool), bs = .returned (.bool bh) ∧
 ∃ bp, bp < bb ∧ I0 bp [.slice be bd bg, .int .i64 (IntKind.i64.wrap (a0 + 1))] bj) else (
 ∃ bm, bm < bb ∧ I0 bm [.slice be bd bg, .int .i64 (IntKind.i64.wrap (a0 + 1))] a1))) else (
 b7.elim False fun bu =>
 0 ≤ (a0 : Int) ∧ (a0 : Int) < (ba : Int) ∧
 ∃ (ax : Int), a1.cell? ((bu.add (Int.toNat a0 * 5)).add 0) = some (.int .i64 ax) ∧
 bif ax == 2 then (
 b7.elim False fun c0 =>
 0 ≤ (a0 : Int) ∧ (a0 : Int) < (ba : Int) ∧
 ∃ (al : Int) (av : Int) (a7 : Int) (a5 : Option Addr) (a2 : Nat) (a3 : Nat) (ai : Option Addr) (ak : Nat) (am : Nat), cellsAt a1 (c0.add (Int.toNat a0 * 5)) [.int .i64 al, .int .i64 av, .int .u64 a7, .slice a5 a2 a3, .slice ai ak am] 0 ∧
 Calls Try.prog 7 #[.pointer bq, .agg #[.int .i64 al, .int .i64 av, .int .u64 a7, .slice a5 a2 a3, .slice ai ak am]] a1 fun bl bk => ∃ (bi : Bool), bl = .returned (.bool bi) ∧
 ∃ br, br < bb ∧ I0 br [.slice be bd bg, .int .i64 (IntKind.i64.wrap (a0 + 1))] bk) else (
 ∃ bn, bn < bb ∧ I0 bn [.slice be bd bg, .int .i64 (IntKind.i64.wrap (a0 + 1))] a1))) else (
 cachettelaw13_EpochsShared.J9 be bd bg a0 I0 bq bb R a1)

abbrev cachettelaw13_EpochsShared.J11 (ad : Option Addr) (ac : Option Addr) (a9 : Nat) (R : Value → World → Prop) (a8 : World) : Prop :=
 ∃ (I0 : Nat → List Value → World → Prop) (ab : Nat), I0 ab [.slice none 0 0, .int .i64 0] a8 ∧ ∀ (aa : Nat) (a5 : World) (a1 : Option Addr) (a2 : Nat) (a3 : Nat) (a7 : Int), I0 aa [.slice a1 a2 a3, .int .i64 a7] a5 →
 bif decide (a7 < (a9 : Int)) then (
 cachettelaw13_EpochsShared.J10 a1 a2 a3 a7 I0 ad ac a9 aa R a5) else (
 Calls Try.prog 5 #[] a5 fun a6 a4 => ∃ (a0 : Bool), a6 = .returned (.bool a0) ∧
 R (.bool a0) a4)

abbrev cachettelaw13_EpochsShared.J12 (a7 : Option Addr) (a8 : Nat) (a5 : Nat) (a4 : Option Addr) (a6 : Nat) (R : Value → World → Prop) (a2 : World) : Prop :=
 Calls Try.prog 6 #[.slice a7 a8 a5] a2 fun a3 a1 => ∃ (a0 : Option Addr), a3 = .returned (.pointer a0) ∧
 bif Option.isNone a0 then (
 R (.bool false) a1) else (
 cachettelaw13_EpochsShared.J11 a0 a4 a6 R a1)

def cachettelaw13_EpochsShared.M (a2 : Option Addr) (a0 : Nat) (a1 : Nat) (a6 : Option Addr) (a7 : Nat) (ab : Nat) (R : Value → World → Prop) (w : World) : Prop :=
 Calls Try.prog 13 #[.slice a2 a0 a1, .slice a6 a7 ab] w fun aa a5 => ∃ (a4 : Bool), aa = .returned (.bool a4) ∧
 bif !a4 then (
 Calls Try.prog 5 #[] a5 fun a8 a9 => ∃ (a3 : Bool), a8 = .returned (.bool a3) ∧
 R (.bool a3) a9) else (
 cachettelaw13_EpochsShared.J12 a2 a0 a1 a6 a7 R a5)

theorem cachettelaw13_EpochsShared.eq (draws1a : Option Addr) (draws1n : Nat) (draws1c : Nat) (l2a : Option Addr) (l2n : Nat) (l2c : Nat) (R : Value → World → Prop) (w : World) : mfunc Try.prog [(0, [1, 5], [(6, (.one .slice)), (7, (.one (.int .i64)))]), (2, [1, 5, 6, 7, 8, 9, 11], [(14, (.one (.int .i64)))]), (4, [1, 5, 6, 7, 8, 9, 11, 14, 17], [(21, (.one (.int .i64)))])] 4 [.slice draws1a draws1n draws1c, .slice l2a l2n l2c] R w = cachettelaw13_EpochsShared.M draws1a draws1n draws1c l2a l2n l2c R w := by kernel_rfl
theorem cachettelaw13_EpochsShared.ok (a2 : Option Addr) (a0 : Nat) (a1 : Nat) (a3 : Option Addr) (a4 : Nat) (a5 : Nat) {R : Value → World → Prop} {w : World} (h : cachettelaw13_EpochsShared.M a2 a0 a1 a3 a4 a5 R w) : Calls Try.prog 4 #[.slice a2 a0 a1, .slice a3 a4 a5] w fun e w' => ∃ v, e = .returned v ∧ R v w' :=
  mfunc_ok follows (H := [(0, [1, 5], [(6, (.one .slice)), (7, (.one (.int .i64)))]), (2, [1, 5, 6, 7, 8, 9, 11], [(14, (.one (.int .i64)))]), (4, [1, 5, 6, 7, 8, 9, 11, 14, 17], [(21, (.one (.int .i64)))])]) (args := [.slice a2 a0 a1, .slice a3 a4 a5]) (by rw [cachettelaw13_EpochsShared.eq]; exact h)

def cachettelaw13_EpochsShared.N (f0 : Option Addr) (f8 : Nat) (f9 : Nat) (kj : Option Addr) (fb : Nat) (kt : Nat) (R : Value → World → Prop) (w : World) : Prop :=
 Calls Try.prog 13 #[.slice f0 f8 f9, .slice kj fb kt] w fun ks kl => ∃ (eg : Bool), ks = .returned (.bool eg) ∧
 (eg = false →
 Calls Try.prog 5 #[] kl fun kw ku => ∃ (gf : Bool), kw = .returned (.bool gf) ∧
 R (.bool gf) ku) ∧
 (eg = true →
 Calls Try.prog 6 #[.slice f0 f8 f9] kl fun ke j7 => ∃ (ac : Option Addr), ke = .returned (.pointer ac) ∧
 (ac = none →
 R (.bool false) j7) ∧
 (ac ≠ none →
 ∃ (I0 : Nat → List Value → World → Prop) (kv : Nat), I0 kv [.slice none 0 0, .int .i64 0] j7 ∧ ∀ (g1 : Nat) (an : World) (ap : Option Addr) (aq : Nat) (ao : Nat) (ai : Int), I0 g1 [.slice ap aq ao, .int .i64 ai] an →
 (ai < (fb : Int) →
 ∃ ff : Addr, kj = some ff ∧
 0 ≤ (ai : Int) ∧ (ai : Int) < (fb : Int) ∧
 ∃ (ee : Int), an.cell? ((ff.add (Int.toNat ai * 5)).add 0) = some (.int .i64 ee) ∧
 (ee ≠ 3 →
 0 ≤ (ai : Int) ∧ (ai : Int) < (fb : Int) ∧
 ∃ (eh : Int), an.cell? ((ff.add (Int.toNat ai * 5)).add 0) = some (.int .i64 eh) ∧
 (eh = 0 →
 0 ≤ (ai : Int) ∧ (ai : Int) < (fb : Int) ∧
 ∃ (gw : Int), an.cell? ((ff.add (Int.toNat ai * 5)).add 1) = some (.int .i64 gw) ∧
 (gw ≥ 0 →
 0 ≤ (ai : Int) ∧ (ai : Int) < (fb : Int) ∧
 ∃ (fu : Int), an.cell? ((ff.add (Int.toNat ai * 5)).add 1) = some (.int .i64 fu) ∧
 (fu < 4 →
 0 ≤ (ai : Int) ∧ (ai : Int) < (fb : Int) ∧
 ∃ (ek : Int) (fv : Int) (cw : Int) (ct : Option Addr) (cu : Nat) (ce : Nat) (ew : Option Addr) (fa : Nat) (ey : Nat), cellsAt an (ff.add (Int.toNat ai * 5)) [.int .i64 ek, .int .i64 fv, .int .u64 cw, .slice ct cu ce, .slice ew fa ey] 0 ∧
 Calls Try.prog 7 #[.pointer ac, .agg #[.int .i64 ek, .int .i64 fv, .int .u64 cw, .slice ct cu ce, .slice ew fa ey]] an fun k6 ka => ∃ (j6 : Bool), k6 = .returned (.bool j6) ∧
 (-9223372036854775808 : Int) ≤ (ai + 1) ∧ (ai + 1) < 9223372036854775808 ∧
 ∃ kk, kk < g1 ∧ I0 kk [.slice ap aq ao, .int .i64 (ai + 1)] ka) ∧
 ((4 : Int) ≤ fu →
 0 ≤ (ai : Int) ∧ (ai : Int) < (fb : Int) ∧
 ∃ (ei : Int), an.cell? ((ff.add (Int.toNat ai * 5)).add 0) = some (.int .i64 ei) ∧
 (ei = 2 →
 0 ≤ (ai : Int) ∧ (ai : Int) < (fb : Int) ∧
 ∃ (eu : Int) (fj : Int) (ch : Int) (cr : Option Addr) (ci : Nat) (cx : Nat) (f1 : Option Addr) (ep : Nat) (f3 : Nat), cellsAt an (ff.add (Int.toNat ai * 5)) [.int .i64 eu, .int .i64 fj, .int .u64 ch, .slice cr ci cx, .slice f1 ep f3] 0 ∧
 Calls Try.prog 7 #[.pointer ac, .agg #[.int .i64 eu, .int .i64 fj, .int .u64 ch, .slice cr ci cx, .slice f1 ep f3]] an fun kb kc => ∃ (k5 : Bool), kb = .returned (.bool k5) ∧
 (-9223372036854775808 : Int) ≤ (ai + 1) ∧ (ai + 1) < 9223372036854775808 ∧
 ∃ kp, kp < g1 ∧ I0 kp [.slice ap aq ao, .int .i64 (ai + 1)] kc) ∧
 (ei ≠ 2 →
 (-9223372036854775808 : Int) ≤ (ai + 1) ∧ (ai + 1) < 9223372036854775808 ∧
 ∃ kn, kn < g1 ∧ I0 kn [.slice ap aq ao, .int .i64 (ai + 1)] an))) ∧
 (gw < 0 →
 0 ≤ (ai : Int) ∧ (ai : Int) < (fb : Int) ∧
 ∃ (e9 : Int), an.cell? ((ff.add (Int.toNat ai * 5)).add 0) = some (.int .i64 e9) ∧
 (e9 = 2 →
 0 ≤ (ai : Int) ∧ (ai : Int) < (fb : Int) ∧
 ∃ (et : Int) (fz : Int) (cz : Int) (cv : Option Addr) (cm : Nat) (ck : Nat) (en : Option Addr) (ex : Nat) (el : Nat), cellsAt an (ff.add (Int.toNat ai * 5)) [.int .i64 et, .int .i64 fz, .int .u64 cz, .slice cv cm ck, .slice en ex el] 0 ∧
 Calls Try.prog 7 #[.pointer ac, .agg #[.int .i64 et, .int .i64 fz, .int .u64 cz, .slice cv cm ck, .slice en ex el]] an fun kd k8 => ∃ (jv : Bool), kd = .returned (.bool jv) ∧
 (-9223372036854775808 : Int) ≤ (ai + 1) ∧ (ai + 1) < 9223372036854775808 ∧
 ∃ kq, kq < g1 ∧ I0 kq [.slice ap aq ao, .int .i64 (ai + 1)] k8) ∧
 (e9 ≠ 2 →
 (-9223372036854775808 : Int) ≤ (ai + 1) ∧ (ai + 1) < 9223372036854775808 ∧
 ∃ kr, kr < g1 ∧ I0 kr [.slice ap aq ao, .int .i64 (ai + 1)] an))) ∧
 (eh ≠ 0 →
 0 ≤ (ai : Int) ∧ (ai : Int) < (fb : Int) ∧
 ∃ (ed : Int), an.cell? ((ff.add (Int.toNat ai * 5)).add 0) = some (.int .i64 ed) ∧
 (ed = 2 →
 0 ≤ (ai : Int) ∧ (ai : Int) < (fb : Int) ∧
 ∃ (f5 : Int) (ga : Int) (co : Int) (cs : Option Addr) (cl : Nat) (cf : Nat) (ez : Option Addr) (f7 : Nat) (em : Nat), cellsAt an (ff.add (Int.toNat ai * 5)) [.int .i64 f5, .int .i64 ga, .int .u64 co, .slice cs cl cf, .slice ez f7 em] 0 ∧
 Calls Try.prog 7 #[.pointer ac, .agg #[.int .i64 f5, .int .i64 ga, .int .u64 co, .slice cs cl cf, .slice ez f7 em]] an fun kg k9 => ∃ (jb : Bool), kg = .returned (.bool jb) ∧
 (-9223372036854775808 : Int) ≤ (ai + 1) ∧ (ai + 1) < 9223372036854775808 ∧
 ∃ km, km < g1 ∧ I0 km [.slice ap aq ao, .int .i64 (ai + 1)] k9) ∧
 (ed ≠ 2 →
 (-9223372036854775808 : Int) ≤ (ai + 1) ∧ (ai + 1) < 9223372036854775808 ∧
 ∃ ko, ko < g1 ∧ I0 ko [.slice ap aq ao, .int .i64 (ai + 1)] an))) ∧
 (ee = 3 →
 ∃ am : Addr, ac = some am ∧
 ∃ (ki : Option Addr), an.cell? (am.add 0) = some (.pointer ki) ∧
 ∃ (i3 : Option Addr) (i9 : Nat) (im : Nat) (e1 : Int), cellsAt an (am.add 14) [.slice i3 i9 im, .int .i64 e1] 0 ∧
 ∃ (gs : Int), an.cell? (am.add 22) = some (.int .u64 gs) ∧
 ∀ (i0 : World) (j3 : List Nat), Ext no an i0 → Priv an i0 j3 →
 Calls Try.prog 9 #[.pointer ki, .agg #[.slice i3 i9 im, .int .i64 e1], .int .u64 gs] i0 fun jh e0 => ∃ (ak : Int) (b1 : Int) (a8 : Int) (ae : Int) (a2 : Option Addr) (a3 : Nat) (a4 : Nat) (ah : Option Addr) (ad : Nat) (af : Nat) (a7 : Int) (br : Int), jh = .returned (.tuple #[.agg #[.int .i64 ak, .int .i64 b1, .int .u64 a8, .int .i64 ae, .slice a2 a3 a4, .slice ah ad af], .int .u64 a7, .int .i64 br]) ∧
 Keep j3 i0 e0 ∧
 (br ≠ 0 →
 ∀ (ic : World), Ext (fun b => b ∈ j3) e0 ic →
 R (.bool false) ic) ∧
 (br = 0 →
 (a7 = 0 →
 ∀ (i6 : World), Ext (fun b => b ∈ j3) e0 i6 →
 R (.bool false) i6) ∧
 (a7 ≠ 0 →
 ∀ (ev : World) (a9 : Nat), Ext (fun b => b ∈ j3) e0 ev → PrivJ j3 e0 ev [a9] →
 canStore ev ((am.add 22).add 0) ∧
 (∀ p ∈ [a9], p ≠ Addr.block (am.add 22)) ∧
 thenW (ev.setCell ((am.add 22).add 0) (.int .u64 a7)) fun i5 =>
 ∀ (dv : World) (i1 : Nat), Ext no i5 dv → Blk dv i1 27 [.int .u64 a7] → i5.heap.size ≤ i1 → i1 < dv.heap.size →
 ∃ (bw : Option Addr) (a5 : Nat) (f4 : Nat) (dx : World), (Builtin.append_ #[22, 22] 22 #[.slice ap aq ao, .slice (some (blk i1)) 1 1]).run Try.prog dv = .ok (.slice bw a5 f4) dx ∧
 Keep [a9] dv dx ∧
 ∃ (fh : Option Addr) (ge : Nat) (fq : Nat) (cj : Int), cellsAt dx (am.add 14) [.slice fh ge fq, .int .i64 cj] 0 ∧
 ∀ (dw : World) (fc : List Nat), Ext no dx dw → Priv dx dw fc →
 Calls Try.prog 10 #[.agg #[.slice fh ge fq, .int .i64 cj], .agg #[.int .i64 ak, .int .i64 b1, .int .u64 a8, .int .i64 ae, .slice a2 a3 a4, .slice ah ad af]] dw fun jj cp => ∃ (dn : Option Addr) (dq : Nat) (dc : Nat) (a1 : Int) (b6 : Int), jj = .returned (.tuple #[.agg #[.slice dn dq dc, .int .i64 a1], .int .i64 b6]) ∧
 Keep fc dw cp ∧
 Keep [a9] dw cp ∧
 (b6 ≠ 0 →
 (b6 = 2 →
 ∀ (ih : World), Ext (fun b => b ∈ fc) cp ih →
 Calls Try.prog 5 #[] ih fun k1 jr => ∃ (e3 : Bool), k1 = .returned (.bool e3) ∧
 R (.bool e3) jr) ∧
 (b6 ≠ 2 →
 ∀ (ie : World), Ext (fun b => b ∈ fc) cp ie →
 R (.bool false) ie)) ∧
 (b6 = 0 →
 ∀ (eo : World) (ag : Nat), Ext (fun b => b ∈ fc) cp eo → PrivJ fc cp eo [ag] →
 canStore eo ((am.add 14).add 0) ∧
 (∀ p ∈ [a9, ag], p ≠ Addr.block (am.add 14)) ∧
 thenW (eo.setCell ((am.add 14).add 0) (.slice dn dq dc)) fun ib =>
 canStore ib ((am.add 14).add 1) ∧
 thenW (ib.setCell ((am.add 14).add 1) (.int .i64 a1)) fun ds =>
 ∃ (be : Option Addr) (bh : Nat) (bi : Nat) (al : Int), cellsAt ds (am.add 16) [.slice be bh bi, .int .i64 al] 0 ∧
 (∀ (dk : World) (fe : List Nat), Ext no ds dk → Priv ds dk fe →
 Calls Try.prog 15 #[.agg #[.int .i64 ak, .int .i64 b1, .int .u64 a8, .int .i64 ae, .slice a2 a3 a4, .slice ah ad af]] dk fun jo cb => ∃ (d1 : Int) (eb : Int) (bq : Int) (c7 : Int) (bo : Option Addr) (bn : Nat) (bs : Nat) (d3 : Option Addr) (d5 : Nat) (d4 : Nat), jo = .returned (.agg #[.int .i64 d1, .int .i64 eb, .int .u64 bq, .int .i64 c7, .slice bo bn bs, .slice d3 d5 d4]) ∧
 Keep fe dk cb ∧
 Keep [a9, ag] dk cb ∧
 cellsAt cb (am.add 16) [.slice be bh bi, .int .i64 al] 0 ∧
 (∀ (df : World) (it : List Nat), Ext (fun b => b ∈ fe) cb df → PrivJ fe cb df it →
 Calls Try.prog 14 #[.agg #[.slice be bh bi, .int .i64 al], .agg #[.int .i64 d1, .int .i64 eb, .int .u64 bq, .int .i64 c7, .slice bo bn bs, .slice d3 d5 d4]] df fun j4 gr => ∃ (i4 : Option Addr) (i7 : Nat) (ii : Nat) (d9 : Int) (gm : Int), j4 = .returned (.tuple #[.agg #[.slice i4 i7 ii, .int .i64 d9], .int .i64 gm]) ∧
 Keep it df gr ∧
 Keep [a9, ag] df gr ∧
 ∀ (bu : World), Ext (fun b => b ∈ it) gr bu →
 canStore bu ((am.add 16).add 0) ∧
 (∀ p ∈ [a9, ag], p ≠ Addr.block (am.add 16)) ∧
 thenW (bu.setCell ((am.add 16).add 0) (.slice i4 i7 ii)) fun bm =>
 canStore bm ((am.add 16).add 1) ∧
 thenW (bm.setCell ((am.add 16).add 1) (.int .i64 d9)) fun cn =>
 ∃ (I2 : Nat → List Value → World → Prop) (ir : Nat), I2 ir [.int .i64 0] cn ∧ ∀ (b3 : Nat) (bk : World) (a0 : Int), I2 b3 [.int .i64 a0] bk →
 (a0 < 4 →
 Calls Try.prog 16 #[.agg #[.slice dn dq dc, .int .i64 a1], .int .i64 a0] bk fun gg av => ∃ (ef : Int) (bp : Int) (b4 : Int) (bt : Int) (c2 : Int) (b2 : Bool), gg = .returned (.tuple #[.agg #[.int .i64 ef, .int .u64 bp, .int .i64 b4, .int .i64 bt, .int .i64 c2], .bool b2]) ∧
 Keep [a9, ag] bk av ∧
 (b2 = true →
 (bt = (-1) →
 0 ≤ (a0 : Int) ∧ (a0 : Int) < (4 : Int) ∧
 ∃ (fx : Option Addr), av.cell? ((am.add 6).add (Int.toNat a0 * 1)) = some (.pointer fx) ∧
 ∀ (c0 : World), Ext no av c0 →
 Calls Try.prog 11 #[.pointer fx, .agg #[.int .i64 ak, .int .i64 b1, .int .u64 a8, .int .i64 ae, .slice a2 a3 a4, .slice ah ad af]] c0 fun gl c3 => ∃ (aa : Int), gl = .returned (.int .i64 aa) ∧
 Keep [a9, ag] c0 c3 ∧
 0 ≤ (a0 : Int) ∧ (a0 : Int) < (4 : Int) ∧
 ∃ (fp : Option Addr), c3.cell? ((am.add 6).add (Int.toNat a0 * 1)) = some (.pointer fp) ∧
 ∀ (bd : World), Ext no c3 bd →
 Calls Try.prog 8 #[.pointer fp, .int .i64 a1] bd fun gv aj => ∃ (ax : Int) (ab : Int), gv = .returned (.tuple #[.int .u64 ax, .int .i64 ab]) ∧
 Keep [a9, ag] bd aj ∧
 (b4 ≤ a1 →
 (aa ≠ 0 →
 R (.bool false) aj) ∧
 (aa = 0 →
 (ab ≠ 0 →
 R (.bool false) aj) ∧
 (ab = 0 →
 (ax ≠ a7 →
 R (.bool false) aj) ∧
 (ax = a7 →
 ∃ (I4 : Nat → List Value → World → Prop) (iy : Nat), I4 iy [.int .i64 0] aj ∧ ∀ (e8 : Nat) (bc : World) (b0 : Int), I4 e8 [.int .i64 b0] bc →
 (b0 < (a5 : Int) →
 0 ≤ (a0 : Int) ∧ (a0 : Int) < (4 : Int) ∧
 ∃ (gh : Option Addr), bc.cell? ((am.add 6).add (Int.toNat a0 * 1)) = some (.pointer gh) ∧
 Calls Try.prog 8 #[.pointer gh, .int .i64 b0] bc fun gt bb => ∃ (bf : Int) (aw : Int), gt = .returned (.tuple #[.int .u64 bf, .int .i64 aw]) ∧
 Keep [a9, ag] bc bb ∧
 (aw ≠ 0 →
 R (.bool false) bb) ∧
 (aw = 0 →
 ∃ gn : Addr, bw = some gn ∧
 0 ≤ (b0 : Int) ∧ (b0 : Int) < (a5 : Int) ∧
 ∃ (e7 : Int), bb.cell? (gn.add (Int.toNat b0 * 1)) = some (.int .u64 e7) ∧
 (bf ≠ e7 →
 R (.bool false) bb) ∧
 (bf = e7 →
 (-9223372036854775808 : Int) ≤ (b0 + 1) ∧ (b0 + 1) < 9223372036854775808 ∧
 ∃ g4, g4 < e8 ∧ I4 g4 [.int .i64 (b0 + 1)] bb))) ∧
 ((a5 : Int) ≤ b0 →
 (-9223372036854775808 : Int) ≤ (a0 + 1) ∧ (a0 + 1) < 9223372036854775808 ∧
 ∃ dz, dz < b3 ∧ I2 dz [.int .i64 (a0 + 1)] bc))))) ∧
 (a1 < b4 →
 (aa ≠ 11 →
 R (.bool false) aj) ∧
 (aa = 11 →
 (ab ≠ 11 →
 R (.bool false) aj) ∧
 (ab = 11 →
 (ax ≠ 0 →
 R (.bool false) aj) ∧
 (ax = 0 →
 ∃ (I4 : Nat → List Value → World → Prop) (iq : Nat), I4 iq [.int .i64 0] aj ∧ ∀ (gj : Nat) (cc : World) (ec : Int), I4 gj [.int .i64 ec] cc →
 (ec < (a5 : Int) →
 (-9223372036854775808 : Int) ≤ (a0 + 1) ∧ (a0 + 1) < 9223372036854775808 ∧
 ∃ fo, fo < b3 ∧ I2 fo [.int .i64 (a0 + 1)] cc) ∧
 ((a5 : Int) ≤ ec →
 (-9223372036854775808 : Int) ≤ (a0 + 1) ∧ (a0 + 1) < 9223372036854775808 ∧
 ∃ d8, d8 < b3 ∧ I2 d8 [.int .i64 (a0 + 1)] cc)))))) ∧
 (bt ≠ (-1) →
 0 ≤ (a0 : Int) ∧ (a0 : Int) < (4 : Int) ∧
 ∃ (g7 : Option Addr), av.cell? ((am.add 6).add (Int.toNat a0 * 1)) = some (.pointer g7) ∧
 ∀ (c4 : World), Ext no av c4 →
 Calls Try.prog 11 #[.pointer g7, .agg #[.int .i64 ak, .int .i64 b1, .int .u64 a8, .int .i64 ae, .slice a2 a3 a4, .slice ah ad af]] c4 fun g5 c8 => ∃ (ar : Int), g5 = .returned (.int .i64 ar) ∧
 Keep [a9, ag] c4 c8 ∧
 0 ≤ (a0 : Int) ∧ (a0 : Int) < (4 : Int) ∧
 ∃ (g3 : Option Addr), c8.cell? ((am.add 6).add (Int.toNat a0 * 1)) = some (.pointer g3) ∧
 ∀ (b9 : World), Ext no c8 b9 →
 Calls Try.prog 8 #[.pointer g3, .int .i64 a1] b9 fun g0 b5 => ∃ (bg : Int) (ay : Int), g0 = .returned (.tuple #[.int .u64 bg, .int .i64 ay]) ∧
 Keep [a9, ag] b9 b5 ∧
 (ar ≠ 11 →
 R (.bool false) b5) ∧
 (ar = 11 →
 (ay ≠ 11 →
 R (.bool false) b5) ∧
 (ay = 11 →
 (bg ≠ 0 →
 R (.bool false) b5) ∧
 (bg = 0 →
 ∃ (I4 : Nat → List Value → World → Prop) (io : Nat), I4 io [.int .i64 0] b5 ∧ ∀ (g9 : Nat) (bx : World) (e4 : Int), I4 g9 [.int .i64 e4] bx →
 (e4 < (a5 : Int) →
 (-9223372036854775808 : Int) ≤ (a0 + 1) ∧ (a0 + 1) < 9223372036854775808 ∧
 ∃ fy, fy < b3 ∧ I2 fy [.int .i64 (a0 + 1)] bx) ∧
 ((a5 : Int) ≤ e4 →
 (-9223372036854775808 : Int) ≤ (a0 + 1) ∧ (a0 + 1) < 9223372036854775808 ∧
 ∃ e2, e2 < b3 ∧ I2 e2 [.int .i64 (a0 + 1)] bx)))))) ∧
 (b2 = false →
 0 ≤ (a0 : Int) ∧ (a0 : Int) < (4 : Int) ∧
 ∃ (fg : Option Addr), av.cell? ((am.add 6).add (Int.toNat a0 * 1)) = some (.pointer fg) ∧
 ∀ (c5 : World), Ext no av c5 →
 Calls Try.prog 11 #[.pointer fg, .agg #[.int .i64 ak, .int .i64 b1, .int .u64 a8, .int .i64 ae, .slice a2 a3 a4, .slice ah ad af]] c5 fun fm c9 => ∃ (au : Int), fm = .returned (.int .i64 au) ∧
 Keep [a9, ag] c5 c9 ∧
 0 ≤ (a0 : Int) ∧ (a0 : Int) < (4 : Int) ∧
 ∃ (ft : Option Addr), c9.cell? ((am.add 6).add (Int.toNat a0 * 1)) = some (.pointer ft) ∧
 ∀ (b8 : World), Ext no c9 b8 →
 Calls Try.prog 8 #[.pointer ft, .int .i64 a1] b8 fun gy b7 => ∃ (bj : Int) (az : Int), gy = .returned (.tuple #[.int .u64 bj, .int .i64 az]) ∧
 Keep [a9, ag] b8 b7 ∧
 (au ≠ 11 →
 R (.bool false) b7) ∧
 (au = 11 →
 (az ≠ 11 →
 R (.bool false) b7) ∧
 (az = 11 →
 (bj ≠ 0 →
 R (.bool false) b7) ∧
 (bj = 0 →
 ∃ (I4 : Nat → List Value → World → Prop) (ix : Nat), I4 ix [.int .i64 0] b7 ∧ ∀ (fk : Nat) (c6 : World) (ej : Int), I4 fk [.int .i64 ej] c6 →
 (ej < (a5 : Int) →
 (-9223372036854775808 : Int) ≤ (a0 + 1) ∧ (a0 + 1) < 9223372036854775808 ∧
 ∃ gu, gu < b3 ∧ I2 gu [.int .i64 (a0 + 1)] c6) ∧
 ((a5 : Int) ≤ ej →
 (-9223372036854775808 : Int) ≤ (a0 + 1) ∧ (a0 + 1) < 9223372036854775808 ∧
 ∃ dl, dl < b3 ∧ I2 dl [.int .i64 (a0 + 1)] c6)))))) ∧
 ((4 : Int) ≤ a0 →
 (-9223372036854775808 : Int) ≤ (ai + 1) ∧ (ai + 1) < 9223372036854775808 ∧
 ∃ db, db < g1 ∧ I0 db [.slice bw a5 f4, .int .i64 (ai + 1)] bk)) ∧
 (∀ (dt : World) (j2 : Nat), Ext (fun b => b ∈ fe) cb dt → PrivJ fe cb dt [j2] →
 cellsAt dt (am.add 16) [.slice be bh bi, .int .i64 al] 0 ∧
 ∀ (dd : World) (j1 : List Nat), Ext no dt dd → Priv dt dd j1 →
 Calls Try.prog 14 #[.agg #[.slice be bh bi, .int .i64 al], .agg #[.int .i64 d1, .int .i64 eb, .int .u64 bq, .int .i64 c7, .slice bo bn bs, .slice d3 d5 d4]] dd fun jn g6 => ∃ (ik : Option Addr) (ia : Nat) (ij : Nat) (dp : Int) (g8 : Int), jn = .returned (.tuple #[.agg #[.slice ik ia ij, .int .i64 dp], .int .i64 g8]) ∧
 Keep j1 dd g6 ∧
 Keep [a9, ag, j2] dd g6 ∧
 ∀ (i2 : World), Ext (fun b => b ∈ j1) g6 i2 →
 ∀ (bm : World), Ext (fun b => b = j2) i2 bm →
 canStore bm ((am.add 16).add 0) ∧
 (∀ p ∈ [a9, ag], p ≠ Addr.block (am.add 16)) ∧
 thenW (bm.setCell ((am.add 16).add 0) (.slice ik ia ij)) fun cn =>
 canStore cn ((am.add 16).add 1) ∧
 thenW (cn.setCell ((am.add 16).add 1) (.int .i64 dp)) fun j9 =>
 ∃ (I2 : Nat → List Value → World → Prop) (b3 : Nat), I2 b3 [.int .i64 0] j9 ∧ ∀ (de : Nat) (es : World) (a6 : Int), I2 de [.int .i64 a6] es →
 (a6 < 4 →
 Calls Try.prog 16 #[.agg #[.slice dn dq dc, .int .i64 a1], .int .i64 a6] es fun jd bz => ∃ (iv : Int) (fd : Int) (d6 : Int) (fs : Int) (fw : Int) (d2 : Bool), jd = .returned (.tuple #[.agg #[.int .i64 iv, .int .u64 fd, .int .i64 d6, .int .i64 fs, .int .i64 fw], .bool d2]) ∧
 Keep [a9, ag] es bz ∧
 (d2 = true →
 (fs = (-1) →
 0 ≤ (a6 : Int) ∧ (a6 : Int) < (4 : Int) ∧
 ∃ (je : Option Addr), bz.cell? ((am.add 6).add (Int.toNat a6 * 1)) = some (.pointer je) ∧
 ∀ (gq : World), Ext no bz gq →
 Calls Try.prog 11 #[.pointer je, .agg #[.int .i64 ak, .int .i64 b1, .int .u64 a8, .int .i64 ae, .slice a2 a3 a4, .slice ah ad af]] gq fun jc bd => ∃ (ba : Int), jc = .returned (.int .i64 ba) ∧
 Keep [a9, ag] gq bd ∧
 0 ≤ (a6 : Int) ∧ (a6 : Int) < (4 : Int) ∧
 ∃ (k3 : Option Addr), bd.cell? ((am.add 6).add (Int.toNat a6 * 1)) = some (.pointer k3) ∧
 ∀ (gx : World), Ext no bd gx →
 Calls Try.prog 8 #[.pointer k3, .int .i64 a1] gx fun j8 bl => ∃ (ab : Int) (bv : Int), j8 = .returned (.tuple #[.int .u64 ab, .int .i64 bv]) ∧
 Keep [a9, ag] gx bl ∧
 (d6 ≤ a1 →
 (ba ≠ 0 →
 R (.bool false) bl) ∧
 (ba = 0 →
 (bv ≠ 0 →
 R (.bool false) bl) ∧
 (bv = 0 →
 (ab ≠ a7 →
 R (.bool false) bl) ∧
 (ab = a7 →
 ∃ (I4 : Nat → List Value → World → Prop) (e8 : Nat), I4 e8 [.int .i64 0] bl ∧ ∀ (jk : Nat) (d7 : World) (cd : Int), I4 jk [.int .i64 cd] d7 →
 (cd < (a5 : Int) →
 0 ≤ (a6 : Int) ∧ (a6 : Int) < (4 : Int) ∧
 ∃ (jy : Option Addr), d7.cell? ((am.add 6).add (Int.toNat a6 * 1)) = some (.pointer jy) ∧
 Calls Try.prog 8 #[.pointer jy, .int .i64 cd] d7 fun ju da => ∃ (aw : Int) (e5 : Int), ju = .returned (.tuple #[.int .u64 aw, .int .i64 e5]) ∧
 Keep [a9, ag] d7 da ∧
 (e5 ≠ 0 →
 R (.bool false) da) ∧
 (e5 = 0 →
 ∃ k0 : Addr, bw = some k0 ∧
 0 ≤ (cd : Int) ∧ (cd : Int) < (a5 : Int) ∧
 ∃ (j0 : Int), da.cell? (k0.add (Int.toNat cd * 1)) = some (.int .u64 j0) ∧
 (aw ≠ j0 →
 R (.bool false) da) ∧
 (aw = j0 →
 (-9223372036854775808 : Int) ≤ (cd + 1) ∧ (cd + 1) < 9223372036854775808 ∧
 ∃ dz, dz < jk ∧ I4 dz [.int .i64 (cd + 1)] da))) ∧
 ((a5 : Int) ≤ cd →
 (-9223372036854775808 : Int) ≤ (a6 + 1) ∧ (a6 + 1) < 9223372036854775808 ∧
 ∃ jx, jx < de ∧ I2 jx [.int .i64 (a6 + 1)] d7))))) ∧
 (a1 < d6 →
 (ba ≠ 11 →
 R (.bool false) bl) ∧
 (ba = 11 →
 (bv ≠ 11 →
 R (.bool false) bl) ∧
 (bv = 11 →
 (ab ≠ 0 →
 R (.bool false) bl) ∧
 (ab = 0 →
 ∃ (I4 : Nat → List Value → World → Prop) (gj : Nat), I4 gj [.int .i64 0] bl ∧ ∀ (kh : Nat) (fi : World) (iw : Int), I4 kh [.int .i64 iw] fi →
 (iw < (a5 : Int) →
 (-9223372036854775808 : Int) ≤ (a6 + 1) ∧ (a6 + 1) < 9223372036854775808 ∧
 ∃ d8, d8 < de ∧ I2 d8 [.int .i64 (a6 + 1)] fi) ∧
 ((a5 : Int) ≤ iw →
 (-9223372036854775808 : Int) ≤ (a6 + 1) ∧ (a6 + 1) < 9223372036854775808 ∧
 ∃ jt, jt < de ∧ I2 jt [.int .i64 (a6 + 1)] fi)))))) ∧
 (fs ≠ (-1) →
 0 ≤ (a6 : Int) ∧ (a6 : Int) < (4 : Int) ∧
 ∃ (ja : Option Addr), bz.cell? ((am.add 6).add (Int.toNat a6 * 1)) = some (.pointer ja) ∧
 ∀ (gc : World), Ext no bz gc →
 Calls Try.prog 11 #[.pointer ja, .agg #[.int .i64 ak, .int .i64 b1, .int .u64 a8, .int .i64 ae, .slice a2 a3 a4, .slice ah ad af]] gc fun jm b9 => ∃ (ca : Int), jm = .returned (.int .i64 ca) ∧
 Keep [a9, ag] gc b9 ∧
 0 ≤ (a6 : Int) ∧ (a6 : Int) < (4 : Int) ∧
 ∃ (js : Option Addr), b9.cell? ((am.add 6).add (Int.toNat a6 * 1)) = some (.pointer js) ∧
 ∀ (gd : World), Ext no b9 gd →
 Calls Try.prog 8 #[.pointer js, .int .i64 a1] gd fun jg dj => ∃ (ay : Int) (e6 : Int), jg = .returned (.tuple #[.int .u64 ay, .int .i64 e6]) ∧
 Keep [a9, ag] gd dj ∧
 (ca ≠ 11 →
 R (.bool false) dj) ∧
 (ca = 11 →
 (e6 ≠ 11 →
 R (.bool false) dj) ∧
 (e6 = 11 →
 (ay ≠ 0 →
 R (.bool false) dj) ∧
 (ay = 0 →
 ∃ (I4 : Nat → List Value → World → Prop) (g9 : Nat), I4 g9 [.int .i64 0] dj ∧ ∀ (k7 : Nat) (gk : World) (iz : Int), I4 k7 [.int .i64 iz] gk →
 (iz < (a5 : Int) →
 (-9223372036854775808 : Int) ≤ (a6 + 1) ∧ (a6 + 1) < 9223372036854775808 ∧
 ∃ e2, e2 < de ∧ I2 e2 [.int .i64 (a6 + 1)] gk) ∧
 ((a5 : Int) ≤ iz →
 (-9223372036854775808 : Int) ≤ (a6 + 1) ∧ (a6 + 1) < 9223372036854775808 ∧
 ∃ jz, jz < de ∧ I2 jz [.int .i64 (a6 + 1)] gk)))))) ∧
 (d2 = false →
 0 ≤ (a6 : Int) ∧ (a6 : Int) < (4 : Int) ∧
 ∃ (jw : Option Addr), bz.cell? ((am.add 6).add (Int.toNat a6 * 1)) = some (.pointer jw) ∧
 ∀ (gb : World), Ext no bz gb →
 Calls Try.prog 11 #[.pointer jw, .agg #[.int .i64 ak, .int .i64 b1, .int .u64 a8, .int .i64 ae, .slice a2 a3 a4, .slice ah ad af]] gb fun jq b8 => ∃ (c1 : Int), jq = .returned (.int .i64 c1) ∧
 Keep [a9, ag] gb b8 ∧
 0 ≤ (a6 : Int) ∧ (a6 : Int) < (4 : Int) ∧
 ∃ (jl : Option Addr), b8.cell? ((am.add 6).add (Int.toNat a6 * 1)) = some (.pointer jl) ∧
 ∀ (g2 : World), Ext no b8 g2 →
 Calls Try.prog 8 #[.pointer jl, .int .i64 a1] g2 fun k4 dm => ∃ (az : Int) (ea : Int), k4 = .returned (.tuple #[.int .u64 az, .int .i64 ea]) ∧
 Keep [a9, ag] g2 dm ∧
 (c1 ≠ 11 →
 R (.bool false) dm) ∧
 (c1 = 11 →
 (ea ≠ 11 →
 R (.bool false) dm) ∧
 (ea = 11 →
 (az ≠ 0 →
 R (.bool false) dm) ∧
 (az = 0 →
 ∃ (I4 : Nat → List Value → World → Prop) (fk : Nat), I4 fk [.int .i64 0] dm ∧ ∀ (kf : Nat) (fl : World) (ip : Int), I4 kf [.int .i64 ip] fl →
 (ip < (a5 : Int) →
 (-9223372036854775808 : Int) ≤ (a6 + 1) ∧ (a6 + 1) < 9223372036854775808 ∧
 ∃ dl, dl < de ∧ I2 dl [.int .i64 (a6 + 1)] fl) ∧
 ((a5 : Int) ≤ ip →
 (-9223372036854775808 : Int) ≤ (a6 + 1) ∧ (a6 + 1) < 9223372036854775808 ∧
 ∃ db, db < de ∧ I2 db [.int .i64 (a6 + 1)] fl)))))) ∧
 ((4 : Int) ≤ a6 →
 (-9223372036854775808 : Int) ≤ (ai + 1) ∧ (ai + 1) < 9223372036854775808 ∧
 ∃ j5, j5 < g1 ∧ I0 j5 [.slice bw a5 f4, .int .i64 (ai + 1)] es))) ∧
 (∀ (di : World) (gz : List Nat), Ext no ds di → Priv ds di gz →
 Calls Try.prog 15 #[.agg #[.int .i64 ak, .int .i64 b1, .int .u64 a8, .int .i64 ae, .slice a2 a3 a4, .slice ah ad af]] di fun ji dg => ∃ (eq : Int) (gi : Int) (cq : Int) (dy : Int) (d0 : Option Addr) (cy : Nat) (cg : Nat) (er : Option Addr) (f2 : Nat) (f6 : Nat), ji = .returned (.agg #[.int .i64 eq, .int .i64 gi, .int .u64 cq, .int .i64 dy, .slice d0 cy cg, .slice er f2 f6]) ∧
 Keep gz di dg ∧
 Keep [a9, ag] di dg ∧
 cellsAt dg (am.add 16) [.slice be bh bi, .int .i64 al] 0 ∧
 ∀ (dr : World) (iu : List Nat), Ext (fun b => b ∈ gz) dg dr → PrivJ gz dg dr iu →
 Calls Try.prog 14 #[.agg #[.slice be bh bi, .int .i64 al], .agg #[.int .i64 eq, .int .i64 gi, .int .u64 cq, .int .i64 dy, .slice d0 cy cg, .slice er f2 f6]] dr fun jp fr => ∃ (ig : Option Addr) (il : Nat) (i8 : Nat) (du : Int) (gp : Int), jp = .returned (.tuple #[.agg #[.slice ig il i8, .int .i64 du], .int .i64 gp]) ∧
 Keep iu dr fr ∧
 Keep [a9, ag] dr fr ∧
 ∀ (bu : World), Ext (fun b => b ∈ iu) fr bu →
 canStore bu ((am.add 16).add 0) ∧
 (∀ p ∈ [a9, ag], p ≠ Addr.block (am.add 16)) ∧
 thenW (bu.setCell ((am.add 16).add 0) (.slice ig il i8)) fun bm =>
 canStore bm ((am.add 16).add 1) ∧
 thenW (bm.setCell ((am.add 16).add 1) (.int .i64 du)) fun cn =>
 ∃ (I2 : Nat → List Value → World → Prop) (ir : Nat), I2 ir [.int .i64 0] cn ∧ ∀ (b3 : Nat) (bk : World) (a0 : Int), I2 b3 [.int .i64 a0] bk →
 (a0 < 4 →
 Calls Try.prog 16 #[.agg #[.slice dn dq dc, .int .i64 a1], .int .i64 a0] bk fun gg av => ∃ (ef : Int) (bp : Int) (b4 : Int) (bt : Int) (c2 : Int) (b2 : Bool), gg = .returned (.tuple #[.agg #[.int .i64 ef, .int .u64 bp, .int .i64 b4, .int .i64 bt, .int .i64 c2], .bool b2]) ∧
 Keep [a9, ag] bk av ∧
 (b2 = true →
 (bt = (-1) →
 0 ≤ (a0 : Int) ∧ (a0 : Int) < (4 : Int) ∧
 ∃ (fx : Option Addr), av.cell? ((am.add 6).add (Int.toNat a0 * 1)) = some (.pointer fx) ∧
 ∀ (c0 : World), Ext no av c0 →
 Calls Try.prog 11 #[.pointer fx, .agg #[.int .i64 ak, .int .i64 b1, .int .u64 a8, .int .i64 ae, .slice a2 a3 a4, .slice ah ad af]] c0 fun gl c3 => ∃ (aa : Int), gl = .returned (.int .i64 aa) ∧
 Keep [a9, ag] c0 c3 ∧
 0 ≤ (a0 : Int) ∧ (a0 : Int) < (4 : Int) ∧
 ∃ (fp : Option Addr), c3.cell? ((am.add 6).add (Int.toNat a0 * 1)) = some (.pointer fp) ∧
 ∀ (bd : World), Ext no c3 bd →
 Calls Try.prog 8 #[.pointer fp, .int .i64 a1] bd fun gv aj => ∃ (ax : Int) (ab : Int), gv = .returned (.tuple #[.int .u64 ax, .int .i64 ab]) ∧
 Keep [a9, ag] bd aj ∧
 (b4 ≤ a1 →
 (aa ≠ 0 →
 R (.bool false) aj) ∧
 (aa = 0 →
 (ab ≠ 0 →
 R (.bool false) aj) ∧
 (ab = 0 →
 (ax ≠ a7 →
 R (.bool false) aj) ∧
 (ax = a7 →
 ∃ (I4 : Nat → List Value → World → Prop) (iy : Nat), I4 iy [.int .i64 0] aj ∧ ∀ (e8 : Nat) (bc : World) (b0 : Int), I4 e8 [.int .i64 b0] bc →
 (b0 < (a5 : Int) →
 0 ≤ (a0 : Int) ∧ (a0 : Int) < (4 : Int) ∧
 ∃ (gh : Option Addr), bc.cell? ((am.add 6).add (Int.toNat a0 * 1)) = some (.pointer gh) ∧
 Calls Try.prog 8 #[.pointer gh, .int .i64 b0] bc fun gt bb => ∃ (bf : Int) (aw : Int), gt = .returned (.tuple #[.int .u64 bf, .int .i64 aw]) ∧
 Keep [a9, ag] bc bb ∧
 (aw ≠ 0 →
 R (.bool false) bb) ∧
 (aw = 0 →
 ∃ gn : Addr, bw = some gn ∧
 0 ≤ (b0 : Int) ∧ (b0 : Int) < (a5 : Int) ∧
 ∃ (e7 : Int), bb.cell? (gn.add (Int.toNat b0 * 1)) = some (.int .u64 e7) ∧
 (bf ≠ e7 →
 R (.bool false) bb) ∧
 (bf = e7 →
 (-9223372036854775808 : Int) ≤ (b0 + 1) ∧ (b0 + 1) < 9223372036854775808 ∧
 ∃ g4, g4 < e8 ∧ I4 g4 [.int .i64 (b0 + 1)] bb))) ∧
 ((a5 : Int) ≤ b0 →
 (-9223372036854775808 : Int) ≤ (a0 + 1) ∧ (a0 + 1) < 9223372036854775808 ∧
 ∃ dz, dz < b3 ∧ I2 dz [.int .i64 (a0 + 1)] bc))))) ∧
 (a1 < b4 →
 (aa ≠ 11 →
 R (.bool false) aj) ∧
 (aa = 11 →
 (ab ≠ 11 →
 R (.bool false) aj) ∧
 (ab = 11 →
 (ax ≠ 0 →
 R (.bool false) aj) ∧
 (ax = 0 →
 ∃ (I4 : Nat → List Value → World → Prop) (iq : Nat), I4 iq [.int .i64 0] aj ∧ ∀ (gj : Nat) (cc : World) (ec : Int), I4 gj [.int .i64 ec] cc →
 (ec < (a5 : Int) →
 (-9223372036854775808 : Int) ≤ (a0 + 1) ∧ (a0 + 1) < 9223372036854775808 ∧
 ∃ fo, fo < b3 ∧ I2 fo [.int .i64 (a0 + 1)] cc) ∧
 ((a5 : Int) ≤ ec →
 (-9223372036854775808 : Int) ≤ (a0 + 1) ∧ (a0 + 1) < 9223372036854775808 ∧
 ∃ d8, d8 < b3 ∧ I2 d8 [.int .i64 (a0 + 1)] cc)))))) ∧
 (bt ≠ (-1) →
 0 ≤ (a0 : Int) ∧ (a0 : Int) < (4 : Int) ∧
 ∃ (g7 : Option Addr), av.cell? ((am.add 6).add (Int.toNat a0 * 1)) = some (.pointer g7) ∧
 ∀ (c4 : World), Ext no av c4 →
 Calls Try.prog 11 #[.pointer g7, .agg #[.int .i64 ak, .int .i64 b1, .int .u64 a8, .int .i64 ae, .slice a2 a3 a4, .slice ah ad af]] c4 fun g5 c8 => ∃ (ar : Int), g5 = .returned (.int .i64 ar) ∧
 Keep [a9, ag] c4 c8 ∧
 0 ≤ (a0 : Int) ∧ (a0 : Int) < (4 : Int) ∧
 ∃ (g3 : Option Addr), c8.cell? ((am.add 6).add (Int.toNat a0 * 1)) = some (.pointer g3) ∧
 ∀ (b9 : World), Ext no c8 b9 →
 Calls Try.prog 8 #[.pointer g3, .int .i64 a1] b9 fun g0 b5 => ∃ (bg : Int) (ay : Int), g0 = .returned (.tuple #[.int .u64 bg, .int .i64 ay]) ∧
 Keep [a9, ag] b9 b5 ∧
 (ar ≠ 11 →
 R (.bool false) b5) ∧
 (ar = 11 →
 (ay ≠ 11 →
 R (.bool false) b5) ∧
 (ay = 11 →
 (bg ≠ 0 →
 R (.bool false) b5) ∧
 (bg = 0 →
 ∃ (I4 : Nat → List Value → World → Prop) (io : Nat), I4 io [.int .i64 0] b5 ∧ ∀ (g9 : Nat) (bx : World) (e4 : Int), I4 g9 [.int .i64 e4] bx →
 (e4 < (a5 : Int) →
 (-9223372036854775808 : Int) ≤ (a0 + 1) ∧ (a0 + 1) < 9223372036854775808 ∧
 ∃ fy, fy < b3 ∧ I2 fy [.int .i64 (a0 + 1)] bx) ∧
 ((a5 : Int) ≤ e4 →
 (-9223372036854775808 : Int) ≤ (a0 + 1) ∧ (a0 + 1) < 9223372036854775808 ∧
 ∃ e2, e2 < b3 ∧ I2 e2 [.int .i64 (a0 + 1)] bx)))))) ∧
 (b2 = false →
 0 ≤ (a0 : Int) ∧ (a0 : Int) < (4 : Int) ∧
 ∃ (fg : Option Addr), av.cell? ((am.add 6).add (Int.toNat a0 * 1)) = some (.pointer fg) ∧
 ∀ (c5 : World), Ext no av c5 →
 Calls Try.prog 11 #[.pointer fg, .agg #[.int .i64 ak, .int .i64 b1, .int .u64 a8, .int .i64 ae, .slice a2 a3 a4, .slice ah ad af]] c5 fun fm c9 => ∃ (au : Int), fm = .returned (.int .i64 au) ∧
 Keep [a9, ag] c5 c9 ∧
 0 ≤ (a0 : Int) ∧ (a0 : Int) < (4 : Int) ∧
 ∃ (ft : Option Addr), c9.cell? ((am.add 6).add (Int.toNat a0 * 1)) = some (.pointer ft) ∧
 ∀ (b8 : World), Ext no c9 b8 →
 Calls Try.prog 8 #[.pointer ft, .int .i64 a1] b8 fun gy b7 => ∃ (bj : Int) (az : Int), gy = .returned (.tuple #[.int .u64 bj, .int .i64 az]) ∧
 Keep [a9, ag] b8 b7 ∧
 (au ≠ 11 →
 R (.bool false) b7) ∧
 (au = 11 →
 (az ≠ 11 →
 R (.bool false) b7) ∧
 (az = 11 →
 (bj ≠ 0 →
 R (.bool false) b7) ∧
 (bj = 0 →
 ∃ (I4 : Nat → List Value → World → Prop) (ix : Nat), I4 ix [.int .i64 0] b7 ∧ ∀ (fk : Nat) (c6 : World) (ej : Int), I4 fk [.int .i64 ej] c6 →
 (ej < (a5 : Int) →
 (-9223372036854775808 : Int) ≤ (a0 + 1) ∧ (a0 + 1) < 9223372036854775808 ∧
 ∃ gu, gu < b3 ∧ I2 gu [.int .i64 (a0 + 1)] c6) ∧
 ((a5 : Int) ≤ ej →
 (-9223372036854775808 : Int) ≤ (a0 + 1) ∧ (a0 + 1) < 9223372036854775808 ∧
 ∃ dl, dl < b3 ∧ I2 dl [.int .i64 (a0 + 1)] c6)))))) ∧
 ((4 : Int) ≤ a0 →
 (-9223372036854775808 : Int) ≤ (ai + 1) ∧ (ai + 1) < 9223372036854775808 ∧
 ∃ db, db < g1 ∧ I0 db [.slice bw a5 f4, .int .i64 (ai + 1)] bk))))))) ∧
 ((fb : Int) ≤ ai →
 Calls Try.prog 5 #[] an fun jf k2 => ∃ (dh : Bool), jf = .returned (.bool dh) ∧
 R (.bool dh) k2)))

theorem cachettelaw13_EpochsShared.up (iq : Option Addr) (ir : Nat) (it : Nat) (mv : Option Addr) (n2 : Nat) (mw : Nat) {R : Value → World → Prop} {w : World} (h : cachettelaw13_EpochsShared.N iq ir it mv n2 mw R w) : cachettelaw13_EpochsShared.M iq ir it mv n2 mw R w := by
  unfold cachettelaw13_EpochsShared.M
  unfold cachettelaw13_EpochsShared.N at h
  refine h.mono fun nr nt h => ?_
  obtain ⟨ln, he, h⟩ := h
  refine ⟨ln, he, ?_⟩
  refine bif_of (fun c6 => ?_) (fun c6 => ?_)
  ·have h := h.1 (not_t c6)
   refine h.mono fun nv nu h => ?_
   obtain ⟨ll, he, h⟩ := h
   refine ⟨ll, he, ?_⟩
   exact h
  have h := h.2 (not_f c6)
  unfold cachettelaw13_EpochsShared.J12
  refine h.mono fun nf n5 h => ?_
  obtain ⟨gz, he, h⟩ := h
  refine ⟨gz, he, ?_⟩
  refine bif_of (fun mf => ?_) (fun mf => ?_)
  ·have h := h.1 (isNone_t mf)
   exact h
  have h := h.2 (isNone_f mf)
  unfold cachettelaw13_EpochsShared.J11
  obtain ⟨I0, nm, h0, h⟩ := h
  refine ⟨I0, nm, h0, fun n7 m4 l1 ld kv ni hI => ?_⟩
  have h := h n7 m4 l1 ld kv ni hI
  refine bif_fo (fun mp => ?_) (fun mp => ?_)
  ·have h := h.2 (Int.not_lt.1 (of_decide_eq_false mp))
   refine h.mono fun mx mz h => ?_
   obtain ⟨jm, he, h⟩ := h
   refine ⟨jm, he, ?_⟩
   exact h
  have h := h.1 (of_decide_eq_true mp)
  unfold cachettelaw13_EpochsShared.J10
  obtain ⟨ns, fb, h⟩ := h
  refine elim_some fb ?_
  obtain ⟨b2, b3, h⟩ := h
  refine ⟨b2, b3, ?_⟩
  obtain ⟨lm, mt, h⟩ := h
  refine ⟨lm, mt, ?_⟩
  refine bif_of (fun ms => ?_) (fun ms => ?_)
  ·have h := h.1 (bne_t ms)
   refine elim_some fb ?_
   obtain ⟨b2, b3, h⟩ := h
   refine ⟨b2, b3, ?_⟩
   obtain ⟨lo, mn, h⟩ := h
   refine ⟨lo, mn, ?_⟩
   refine bif_fo (fun mg => ?_) (fun mg => ?_)
   ·have h := h.2 (beq_f mg)
    refine elim_some fb ?_
    obtain ⟨b2, b3, h⟩ := h
    refine ⟨b2, b3, ?_⟩
    obtain ⟨lk, mc, h⟩ := h
    refine ⟨lk, mc, ?_⟩
    refine bif_fo (fun mi => ?_) (fun mi => ?_)
    ·have h := h.2 (beq_f mi)
     obtain ⟨b4, b1, h⟩ := h
     try rw [w64 b4 b1]
     obtain ⟨nk, hk, h⟩ := h
     exact ⟨nk, hk, h⟩
    have h := h.1 (beq_t mi)
    refine elim_some fb ?_
    obtain ⟨b2, b3, h⟩ := h
    refine ⟨b2, b3, ?_⟩
    obtain ⟨l8, lj, j4, j6, j2, iv, l5, la, kw, mo, h⟩ := h
    refine ⟨l8, lj, j4, j6, j2, iv, l5, la, kw, mo, ?_⟩
    refine h.mono fun nj n8 h => ?_
    obtain ⟨lw, he, h⟩ := h
    refine ⟨lw, he, ?_⟩
    obtain ⟨b4, b1, h⟩ := h
    try rw [w64 b4 b1]
    obtain ⟨ng, hk, h⟩ := h
    exact ⟨ng, hk, h⟩
   have h := h.1 (beq_t mg)
   refine elim_some fb ?_
   obtain ⟨b2, b3, h⟩ := h
   refine ⟨b2, b3, ?_⟩
   obtain ⟨m9, mu, h⟩ := h
   refine ⟨m9, mu, ?_⟩
   refine bif_fo (fun me => ?_) (fun me => ?_)
   ·have h := h.2 (Int.not_le.1 (of_decide_eq_false me))
    refine elim_some fb ?_
    obtain ⟨b2, b3, h⟩ := h
    refine ⟨b2, b3, ?_⟩
    obtain ⟨li, mb, h⟩ := h
    refine ⟨li, mb, ?_⟩
    refine bif_fo (fun mh => ?_) (fun mh => ?_)
    ·have h := h.2 (beq_f mh)
     obtain ⟨b4, b1, h⟩ := h
     try rw [w64 b4 b1]
     obtain ⟨np, hk, h⟩ := h
     exact ⟨np, hk, h⟩
    have h := h.1 (beq_t mh)
    refine elim_some fb ?_
    obtain ⟨b2, b3, h⟩ := h
    refine ⟨b2, b3, ?_⟩
    obtain ⟨kz, lh, jc, j9, j3, j1, kx, l3, ku, ma, h⟩ := h
    refine ⟨kz, lh, jc, j9, j3, j1, kx, l3, ku, ma, ?_⟩
    refine h.mono fun ne n6 h => ?_
    obtain ⟨m1, he, h⟩ := h
    refine ⟨m1, he, ?_⟩
    obtain ⟨b4, b1, h⟩ := h
    try rw [w64 b4 b1]
    obtain ⟨nn, hk, h⟩ := h
    exact ⟨nn, hk, h⟩
   have h := h.1 (of_decide_eq_true me)
   refine elim_some fb ?_
   obtain ⟨b2, b3, h⟩ := h
   refine ⟨b2, b3, ?_⟩
   obtain ⟨ly, md, h⟩ := h
   refine ⟨ly, md, ?_⟩
   refine bif_of (fun mq => ?_) (fun mq => ?_)
   ·have h := h.1 (of_decide_eq_true mq)
    refine elim_some fb ?_
    obtain ⟨b2, b3, h⟩ := h
    refine ⟨b2, b3, ?_⟩
    obtain ⟨kt, lg, ja, j7, j8, iu, l2, lb, l4, mr, h⟩ := h
    refine ⟨kt, lg, ja, j7, j8, iu, l2, lb, l4, mr, ?_⟩
    refine h.mono fun n3 na h => ?_
    obtain ⟨lv, he, h⟩ := h
    refine ⟨lv, he, ?_⟩
    obtain ⟨b4, b1, h⟩ := h
    try rw [w64 b4 b1]
    obtain ⟨nd, hk, h⟩ := h
    exact ⟨nd, hk, h⟩
   have h := h.2 (Int.not_lt.1 (of_decide_eq_false mq))
   refine elim_some fb ?_
   obtain ⟨b2, b3, h⟩ := h
   refine ⟨b2, b3, ?_⟩
   obtain ⟨lp, mj, h⟩ := h
   refine ⟨lp, mj, ?_⟩
   refine bif_fo (fun mk => ?_) (fun mk => ?_)
   ·have h := h.2 (beq_f mk)
    obtain ⟨b4, b1, h⟩ := h
    try rw [w64 b4 b1]
    obtain ⟨nh, hk, h⟩ := h
    exact ⟨nh, hk, h⟩
   have h := h.1 (beq_t mk)
   refine elim_some fb ?_
   obtain ⟨b2, b3, h⟩ := h
   refine ⟨b2, b3, ?_⟩
   obtain ⟨l0, lf, iy, j5, iz, jb, l6, ky, l7, mm, h⟩ := h
   refine ⟨l0, lf, iy, j5, iz, jb, l6, ky, l7, mm, ?_⟩
   refine h.mono fun nb nc h => ?_
   obtain ⟨m8, he, h⟩ := h
   refine ⟨m8, he, ?_⟩
   obtain ⟨b4, b1, h⟩ := h
   try rw [w64 b4 b1]
   obtain ⟨nl, hk, h⟩ := h
   exact ⟨nl, hk, h⟩
  have h := h.2 (bne_f ms)
  unfold cachettelaw13_EpochsShared.J9
  refine thenW_in fun bw n9 => ?_
  have ix := (Ext.refl no m4).x_drew n9
  obtain ⟨nq, az, h⟩ := h
  refine elim_some az ?_
  obtain ⟨n4, lx, h⟩ := h
  refine ⟨n4, (ix).cell lx id, ?_⟩
  refine elim_some az ?_
  obtain ⟨ls, m0, m7, kp, lu, h⟩ := h
  refine ⟨ls, m0, m7, kp, cellsAt_no (ix) lu, ?_⟩
  refine elim_some az ?_
  obtain ⟨lr, m3, h⟩ := h
  refine ⟨lr, (ix).cell m3 id, ?_⟩
  refine ⟨?_, ?_⟩
  ·have h := h bw [] ix Priv.nil
   refine h.mono fun my be h => ?_
   obtain ⟨av, bb, ae, aj, a6, a7, a9, ap, am, ao, iw, ew, he, hkL, h⟩ := h
   refine ⟨av, bb, ae, aj, a6, a7, a9, ap, am, ao, iw, ew, he, ?_⟩
   refine thenW_in fun le m5 => ?_
   have a0 := Blk.of_new m5
   have lc := ((Ext.refl (fun b => b ∈ ([] : List Nat)) be)).size
   have m6 := (Ext.refl (fun b => b ∈ ([] : List Nat)) be).x_alloc m5
   refine ⟨a0.cani 0 rfl rfl, thenW_in fun jk je => ?_⟩
   have jj := m6.x_set (q := be.heap.size) (i := 0) rfl (.inr lc) je
   have a0 : Blk jk be.heap.size 52 [.int .i64 av, .int .i64 0, .int .u64 0, .int .i64 0, .slice none 0 0, .slice none 0 0] := a0.seti 0 rfl je
   refine ⟨a0.cani 1 rfl rfl, thenW_in fun kb jq => ?_⟩
   have jg := jj.x_set (q := be.heap.size) (i := 1) rfl (.inr lc) jq
   have a0 : Blk kb be.heap.size 52 [.int .i64 av, .int .i64 bb, .int .u64 0, .int .i64 0, .slice none 0 0, .slice none 0 0] := a0.seti 1 rfl jq
   refine ⟨a0.cani 2 rfl rfl, thenW_in fun jv kc => ?_⟩
   have jw := jg.x_set (q := be.heap.size) (i := 2) rfl (.inr lc) kc
   have a0 : Blk jv be.heap.size 52 [.int .i64 av, .int .i64 bb, .int .u64 ae, .int .i64 0, .slice none 0 0, .slice none 0 0] := a0.seti 2 rfl kc
   refine ⟨a0.cani 3 rfl rfl, thenW_in fun ki kr => ?_⟩
   have kh := jw.x_set (q := be.heap.size) (i := 3) rfl (.inr lc) kr
   have a0 : Blk ki be.heap.size 52 [.int .i64 av, .int .i64 bb, .int .u64 ae, .int .i64 aj, .slice none 0 0, .slice none 0 0] := a0.seti 3 rfl kr
   refine ⟨a0.cani 4 rfl rfl, thenW_in fun km jo => ?_⟩
   have kg := kh.x_set (q := be.heap.size) (i := 4) rfl (.inr lc) jo
   have a0 : Blk km be.heap.size 52 [.int .i64 av, .int .i64 bb, .int .u64 ae, .int .i64 aj, .slice a6 a7 a9, .slice none 0 0] := a0.seti 4 rfl jo
   refine ⟨a0.cani 5 rfl rfl, thenW_in fun eu k9 => ?_⟩
   have g5 := kg.x_set (q := be.heap.size) (i := 5) rfl (.inr lc) k9
   have a0 : Blk eu be.heap.size 52 [.int .i64 av, .int .i64 bb, .int .u64 ae, .int .i64 aj, .slice a6 a7 a9, .slice ap am ao] := a0.seti 5 rfl k9
   unfold cachettelaw13_EpochsShared.J8
   refine bif_of (fun i7 => ?_) (fun i7 => ?_)
   ·have h := h.1 (bne_t i7)
    have h := h eu g5
    exact h
   have h := h.2 (bne_f i7)
   refine bif_of (fun ia => ?_) (fun ia => ?_)
   ·have h := h.1 (beq_t ia)
    have h := h eu g5
    exact h
   have h := h.2 (beq_f ia)
   unfold cachettelaw13_EpochsShared.J7
   refine elim_some az ?_
   have h := h eu (be.heap.size) g5 (PrivJ.cons (.inr lc) a0.lt PrivJ.nil)
   obtain ⟨hcs, hof, h⟩ := h
   refine ⟨hcs, thenW_in fun f2 k2 => ?_⟩
   replace h := thenW_out h k2
   have a0 := a0.off (by rw [block_add]; exact hof _ (by simp)) k2
   refine thenW_in fun ke gd => ?_
   have a0 := a0.x_alloc gd
   have h := h ke f2.heap.size ((Ext.refl no f2).x_alloc gd) (Blk.of_new gd) ((Ext.refl no f2)).size (size_lt_alloc gd)
   obtain ⟨ji, jz, kd, gg, hr, hk, h⟩ := h
   refine ⟨ji, jz, kd, gg, hr, ?_⟩
   have a0 := hk.blk a0 (by simp)
   refine thenW_in fun b7 k3 => ?_
   have et := (Ext.refl no gg).x_drew k3
   have a0 := a0.x_drew k3
   refine elim_some az ?_
   obtain ⟨gl, ic, gt, ev, gf, h⟩ := h
   refine ⟨gl, ic, gt, ev, cellsAt_no (et) gf, ?_⟩
   refine ⟨av, bb, ae, aj, a6, a7, a9, ap, am, ao, ⟨a0.celli 0 rfl rfl, a0.celli 1 rfl rfl, a0.celli 2 rfl rfl, a0.celli 3 rfl rfl, a0.celli 4 rfl rfl, a0.celli 5 rfl rfl, trivial⟩, ?_⟩
   refine ⟨?_, ?_⟩
   ·have h := h b7 [] et Priv.nil
    refine h.mono fun lz bd h => ?_
    obtain ⟨c0, c1, bx, ab, f8, he, hkL, hk, h⟩ := h
    refine ⟨c0, c1, bx, ab, f8, he, ?_⟩
    have a0 := hk.blk a0 (by simp)
    refine thenW_in fun ge i0 => ?_
    have a1 := Blk.of_new i0
    have jt := ((Ext.refl (fun b => b ∈ ([] : List Nat)) bd)).size
    have dd := Nat.ne_of_lt a0.lt
    have a0 := a0.x_alloc i0
    have ko := (Ext.refl (fun b => b ∈ ([] : List Nat)) bd).x_alloc i0
    refine ⟨a1.cani 0 rfl rfl, thenW_in fun k8 e9 => ?_⟩
    have ey := ko.x_set (q := bd.heap.size) (i := 0) rfl (.inr jt) e9
    have a0 := a0.oth (q := bd.heap.size) (i := 0) rfl dd e9
    have a1 := a1.seti 0 rfl e9
    refine ⟨a1.cani 1 rfl rfl, thenW_in fun ca dj => ?_⟩
    have ci := ey.x_set (q := bd.heap.size) (i := 1) rfl (.inr jt) dj
    have a0 := a0.oth (q := bd.heap.size) (i := 1) rfl dd dj
    have a1 := a1.seti 1 rfl dj
    unfold cachettelaw13_EpochsShared.J6
    refine bif_of (fun e5 => ?_) (fun e5 => ?_)
    ·have h := h.1 (bne_t e5)
     refine bif_fo (fun dn => ?_) (fun dn => ?_)
     ·have h := h.2 (beq_f dn)
      have h := h ca ci
      exact h
     have h := h.1 (beq_t dn)
     have h := h ca ci
     refine h.mono fun kl k6 h => ?_
     obtain ⟨ck, he, h⟩ := h
     refine ⟨ck, he, ?_⟩
     exact h
    have h := h.2 (bne_f e5)
    unfold cachettelaw13_EpochsShared.J5
    refine ⟨c0, c1, bx, ab, ⟨a1.celli 0 rfl rfl, a1.celli 1 rfl rfl, trivial⟩, ?_⟩
    refine elim_some az ?_
    have h := h ca (bd.heap.size) ci (PrivJ.cons (.inr jt) a1.lt PrivJ.nil)
    obtain ⟨hcs, hof, h⟩ := h
    refine ⟨hcs, thenW_in fun jx ec => ?_⟩
    replace h := thenW_out h ec
    have a0 := a0.off (by rw [block_add]; exact hof _ (by simp)) ec
    have a1 := a1.off (by rw [block_add]; exact hof _ (by simp)) ec
    obtain ⟨hcs, h⟩ := h
    refine ⟨hcs, thenW_in fun fw di => ?_⟩
    replace h := thenW_out h di
    have a0 := a0.off (by rw [block_add]; exact hof _ (by simp)) di
    have a1 := a1.off (by rw [block_add]; exact hof _ (by simp)) di
    refine thenW_in fun ah en => ?_
    have bl := (Ext.refl no fw).x_drew en
    have a0 := a0.x_drew en
    have a1 := a1.x_drew en
    refine elim_some az ?_
    obtain ⟨dk, dt, ei, bq, d6, h⟩ := h
    refine ⟨dk, dt, ei, bq, cellsAt_no (bl) d6, ?_⟩
    refine ⟨av, bb, ae, aj, a6, a7, a9, ap, am, ao, ⟨a0.celli 0 rfl rfl, a0.celli 1 rfl rfl, a0.celli 2 rfl rfl, a0.celli 3 rfl rfl, a0.celli 4 rfl rfl, a0.celli 5 rfl rfl, trivial⟩, ?_⟩
    obtain ⟨h0', h1'⟩ := h
    refine ⟨?_, ?_⟩
    focus
     have h := h0'
     have h := h ah [] bl Priv.nil
     refine h.mono fun k1 ad h => ?_
     obtain ⟨ct, e7, br, cd, bo, bn, bv, cx, d2, d0, he, hkL, hk, h⟩ := h
     refine ⟨ct, e7, br, cd, bo, bn, bv, cx, d2, d0, he, ?_⟩
     have a0 := hk.blk a0 (by simp)
     have a1 := hk.blk a1 (by simp)
     obtain ⟨f6, h⟩ := h
     refine ⟨f6, ?_⟩
     obtain ⟨h0', h1'⟩ := h
     refine ⟨?_, ?_⟩
     have h := h0'
     have h := h ad [] (Ext.refl (fun b => b ∈ ([] : List Nat)) ad) PrivJ.nil
     refine h.mono fun jd ay h => ?_
     obtain ⟨b5, b6, b8, a3, ce, he, hkL, hk, h⟩ := h
     refine ⟨b5, b6, b8, a3, ce, he, ?_⟩
     have a0 := hk.blk a0 (by simp)
     have a1 := hk.blk a1 (by simp)
     refine thenW_in fun da cp => ?_
     have ai := Blk.of_new cp
     have ex := ((Ext.refl (fun b => b ∈ ([] : List Nat)) ay)).size
     have au := Nat.ne_of_lt a0.lt
     have a0 := a0.x_alloc cp
     have aw := Nat.ne_of_lt a1.lt
     have a1 := a1.x_alloc cp
     have f9 := (Ext.refl (fun b => b ∈ ([] : List Nat)) ay).x_alloc cp
     refine ⟨ai.cani 0 rfl rfl, thenW_in fun f1 b9 => ?_⟩
     have cg := f9.x_set (q := ay.heap.size) (i := 0) rfl (.inr ex) b9
     have a0 := a0.oth (q := ay.heap.size) (i := 0) rfl au b9
     have a1 := a1.oth (q := ay.heap.size) (i := 0) rfl aw b9
     have ai := ai.seti 0 rfl b9
     refine ⟨ai.cani 1 rfl rfl, thenW_in fun cb ba => ?_⟩
     have c8 := cg.x_set (q := ay.heap.size) (i := 1) rfl (.inr ex) ba
     have a0 := a0.oth (q := ay.heap.size) (i := 1) rfl au ba
     have a1 := a1.oth (q := ay.heap.size) (i := 1) rfl aw ba
     have ai := ai.seti 1 rfl ba
     rotate_left
     have h := h1'
     refine thenW_in fun cj co => ?_
     have ai := Blk.of_new co
     have ex := ((Ext.refl (fun b => b ∈ ([] : List Nat)) ad)).size
     have au := Nat.ne_of_lt a0.lt
     have a0 := a0.x_alloc co
     have aw := Nat.ne_of_lt a1.lt
     have a1 := a1.x_alloc co
     have fh := (Ext.refl (fun b => b ∈ ([] : List Nat)) ad).x_alloc co
     have h := h cj (ad.heap.size) fh (PrivJ.cons (.inr ex) ai.lt PrivJ.nil)
     obtain ⟨g2, h⟩ := h
     refine ⟨g2, ?_⟩
     have h := h cj [] (Ext.refl no cj) Priv.nil
     refine h.mono fun k0 b0 h => ?_
     obtain ⟨b5, b6, b8, a3, cc, he, hkL, hk, h⟩ := h
     refine ⟨b5, b6, b8, a3, cc, he, ?_⟩
     have a0 := hk.blk a0 (by simp)
     have a1 := hk.blk a1 (by simp)
     have ai := hk.blk ai (by simp)
     have h := h b0 (Ext.refl (fun b => b ∈ ([] : List Nat)) b0)
     have f0 : Ext (fun b => b = ad.heap.size) b0 b0 := ((Ext.refl no b0)).none
     refine ⟨ai.cani 0 rfl rfl, thenW_in fun kj cl => ?_⟩
     have g0 := f0.x_set (q := ad.heap.size) (i := 0) rfl (.inl rfl) cl
     have a0 := a0.oth (q := ad.heap.size) (i := 0) rfl au cl
     have a1 := a1.oth (q := ad.heap.size) (i := 0) rfl aw cl
     have ai := ai.seti 0 rfl cl
     refine ⟨ai.cani 1 rfl rfl, thenW_in fun cb bm => ?_⟩
     have c8 := g0.x_set (q := ad.heap.size) (i := 1) rfl (.inl rfl) bm
     have a0 := a0.oth (q := ad.heap.size) (i := 1) rfl au bm
     have a1 := a1.oth (q := ad.heap.size) (i := 1) rfl aw bm
     have ai := ai.seti 1 rfl bm
     rotate_left
    rotate_left 2
    have h := h1'
    refine thenW_in fun g7 cv => ?_
    have ai := Blk.of_new cv
    have ex := (bl).size
    have au := Nat.ne_of_lt a0.lt
    have a0 := a0.x_alloc cv
    have aw := Nat.ne_of_lt a1.lt
    have a1 := a1.x_alloc cv
    have dc := bl.x_alloc cv
    refine ⟨⟨a0.celli 0 rfl rfl, a0.celli 1 rfl rfl, a0.celli 2 rfl rfl, a0.celli 3 rfl rfl, a0.celli 4 rfl rfl, a0.celli 5 rfl rfl, trivial⟩, cellsAt_no (dc) d6, ?_⟩
    have h := h g7 [ah.heap.size] dc (Priv.cons ex ai.lt Priv.nil)
    refine h.mono fun jr db h => ?_
    obtain ⟨cs, ed, bs, ch, bu, bt, bp, cu, cy, d1, he, hkL, hk, h⟩ := h
    refine ⟨cs, ed, bs, ch, bu, bt, bp, cu, cy, d1, he, ?_⟩
    have ai := hkL.blk ai (by simp)
    have a0 := hk.blk a0 (by simp)
    have a1 := hk.blk a1 (by simp)
    obtain ⟨f4, h⟩ := h
    refine ⟨f4, ?_⟩
    have h := h db [ah.heap.size] (Ext.refl (fun b => b ∈ ([ah.heap.size] : List Nat)) db) (PrivJ.cons (.inl (by simp)) ai.lt PrivJ.nil)
    refine h.mono fun k5 da h => ?_
    obtain ⟨b5, b6, b8, a3, cf, he, hkL, hk, h⟩ := h
    refine ⟨b5, b6, b8, a3, cf, he, ?_⟩
    have ai := hkL.blk ai (by simp)
    have a0 := hk.blk a0 (by simp)
    have a1 := hk.blk a1 (by simp)
    refine ⟨ai.cani 0 rfl rfl, thenW_in fun f1 b9 => ?_⟩
    have cg := (Ext.refl (fun b => b ∈ ([ah.heap.size] : List Nat)) da).x_set (q := ah.heap.size) (i := 0) rfl (.inl (by simp)) b9
    have a0 := a0.oth (q := ah.heap.size) (i := 0) rfl au b9
    have a1 := a1.oth (q := ah.heap.size) (i := 0) rfl aw b9
    have ai := ai.seti 0 rfl b9
    refine ⟨ai.cani 1 rfl rfl, thenW_in fun cb ba => ?_⟩
    have c8 := cg.x_set (q := ah.heap.size) (i := 1) rfl (.inl (by simp)) ba
    have a0 := a0.oth (q := ah.heap.size) (i := 1) rfl au ba
    have a1 := a1.oth (q := ah.heap.size) (i := 1) rfl aw ba
    have ai := ai.seti 1 rfl ba
    rotate_left
    all_goals
     unfold cachettelaw13_EpochsShared.J4
     refine ⟨b5, b6, b8, a3, ⟨ai.celli 0 rfl rfl, ai.celli 1 rfl rfl, trivial⟩, ?_⟩
     refine elim_some az ?_
     have h := h cb c8
     obtain ⟨hcs, hof, h⟩ := h
     refine ⟨hcs, thenW_in fun kk e4 => ?_⟩
     replace h := thenW_out h e4
     have a0 := a0.off (by rw [block_add]; exact hof _ (by simp)) e4
     have a1 := a1.off (by rw [block_add]; exact hof _ (by simp)) e4
     obtain ⟨hcs, h⟩ := h
     refine ⟨hcs, thenW_in fun jy el => ?_⟩
     replace h := thenW_out h el
     have a0 := a0.off (by rw [block_add]; exact hof _ (by simp)) el
     have a1 := a1.off (by rw [block_add]; exact hof _ (by simp)) el
     obtain ⟨I2, gx, h0, h⟩ := h
     refine ⟨fun k vs ww => Blk ww be.heap.size 52 [.int .i64 av, .int .i64 bb, .int .u64 ae, .int .i64 aj, .slice a6 a7 a9, .slice ap am ao] ∧ Blk ww bd.heap.size 43 [.slice c0 c1 bx, .int .i64 ab] ∧ I2 k vs ww, gx, ⟨a0, a1, h0⟩, fun i8 ft im hI => ?_⟩
     obtain ⟨a0, a1, hI⟩ := hI
     have h := h i8 ft im hI
     refine bif_fo (fun e0 => ?_) (fun e0 => ?_)
     ·have h := h.2 (Int.not_lt.1 (of_decide_eq_false e0))
      obtain ⟨b4, b1, h⟩ := h
      try rw [w64 b4 b1]
      obtain ⟨gs, hk, h⟩ := h
      exact ⟨gs, hk, h⟩
     have h := h.1 (of_decide_eq_true e0)
     unfold cachettelaw13_EpochsShared.J3
     refine ⟨c0, c1, bx, ab, ⟨a1.celli 0 rfl rfl, a1.celli 1 rfl rfl, trivial⟩, ?_⟩
     refine h.mono fun k7 a2 h => ?_
     obtain ⟨al, a4, ak, bk, bf, cn, he, hk, h⟩ := h
     refine ⟨al, a4, ak, bk, bf, cn, he, ?_⟩
     have a0 := hk.blk a0 (by simp)
     have a1 := hk.blk a1 (by simp)
     refine thenW_in fun jl cq => ?_
     have bh := Blk.of_new cq
     have f3 := ((Ext.refl no a2)).size
     have bg := Nat.ne_of_lt a0.lt
     have a0 := a0.x_alloc cq
     have bi := Nat.ne_of_lt a1.lt
     have a1 := a1.x_alloc cq
     have g8 := (Ext.refl no a2).x_alloc cq
     refine ⟨bh.cani 0 rfl rfl, thenW_in fun fe d3 => ?_⟩
     have ez := g8.x_set (q := a2.heap.size) (i := 0) rfl (.inr f3) d3
     have a0 := a0.oth (q := a2.heap.size) (i := 0) rfl bg d3
     have a1 := a1.oth (q := a2.heap.size) (i := 0) rfl bi d3
     have bh : Blk fe a2.heap.size 70 [.int .i64 al, .int .u64 0, .int .i64 0, .int .i64 0, .int .i64 0] := bh.seti 0 rfl d3
     refine ⟨bh.cani 1 rfl rfl, thenW_in fun g9 cr => ?_⟩
     have ff := ez.x_set (q := a2.heap.size) (i := 1) rfl (.inr f3) cr
     have a0 := a0.oth (q := a2.heap.size) (i := 1) rfl bg cr
     have a1 := a1.oth (q := a2.heap.size) (i := 1) rfl bi cr
     have bh : Blk g9 a2.heap.size 70 [.int .i64 al, .int .u64 a4, .int .i64 0, .int .i64 0, .int .i64 0] := bh.seti 1 rfl cr
     refine ⟨bh.cani 2 rfl rfl, thenW_in fun fd cw => ?_⟩
     have g6 := ff.x_set (q := a2.heap.size) (i := 2) rfl (.inr f3) cw
     have a0 := a0.oth (q := a2.heap.size) (i := 2) rfl bg cw
     have a1 := a1.oth (q := a2.heap.size) (i := 2) rfl bi cw
     have bh : Blk fd a2.heap.size 70 [.int .i64 al, .int .u64 a4, .int .i64 ak, .int .i64 0, .int .i64 0] := bh.seti 2 rfl cw
     refine ⟨bh.cani 3 rfl rfl, thenW_in fun f5 cm => ?_⟩
     have fv := g6.x_set (q := a2.heap.size) (i := 3) rfl (.inr f3) cm
     have a0 := a0.oth (q := a2.heap.size) (i := 3) rfl bg cm
     have a1 := a1.oth (q := a2.heap.size) (i := 3) rfl bi cm
     have bh : Blk f5 a2.heap.size 70 [.int .i64 al, .int .u64 a4, .int .i64 ak, .int .i64 bk, .int .i64 0] := bh.seti 3 rfl cm
     refine ⟨bh.cani 4 rfl rfl, thenW_in fun fx cz => ?_⟩
     have c5 := fv.x_set (q := a2.heap.size) (i := 4) rfl (.inr f3) cz
     have a0 := a0.oth (q := a2.heap.size) (i := 4) rfl bg cz
     have a1 := a1.oth (q := a2.heap.size) (i := 4) rfl bi cz
     have bh : Blk fx a2.heap.size 70 [.int .i64 al, .int .u64 a4, .int .i64 ak, .int .i64 bk, .int .i64 bf] := bh.seti 4 rfl cz
     refine bif_fo (fun ef => ?_) (fun ef => ?_)
     ·have h := h.2 ef
      first | unfold cachettelaw13_EpochsShared.J1 | unfold cachettelaw13_EpochsShared.J2
      refine thenW_in fun fs e1 => ?_
      have d5 := c5.x_drew e1
      have a0 := a0.x_drew e1
      have a1 := a1.x_drew e1
      refine elim_some az ?_
      obtain ⟨b2, b3, h⟩ := h
      refine ⟨b2, b3, ?_⟩
      obtain ⟨gj, ga, h⟩ := h
      refine ⟨gj, (d5).cell ga id, ?_⟩
      refine ⟨av, bb, ae, aj, a6, a7, a9, ap, am, ao, ⟨a0.celli 0 rfl rfl, a0.celli 1 rfl rfl, a0.celli 2 rfl rfl, a0.celli 3 rfl rfl, a0.celli 4 rfl rfl, a0.celli 5 rfl rfl, trivial⟩, ?_⟩
      have h := h fs d5
      refine h.mono fun jh g4 h => ?_
      obtain ⟨c9, he, hk, h⟩ := h
      refine ⟨c9, he, ?_⟩
      have a0 := hk.blk a0 (by simp)
      have a1 := hk.blk a1 (by simp)
      refine thenW_in fun fo df => ?_
      have de := (Ext.refl no g4).x_drew df
      have a0 := a0.x_drew df
      have a1 := a1.x_drew df
      refine elim_some az ?_
      obtain ⟨b2, b3, h⟩ := h
      refine ⟨b2, b3, ?_⟩
      obtain ⟨gu, fc, h⟩ := h
      refine ⟨gu, (de).cell fc id, ?_⟩
      refine ⟨ab, a1.celli 1 rfl rfl, ?_⟩
      have h := h fo de
      refine h.mono fun ks jn h => ?_
      obtain ⟨ej, ep, he, hk, h⟩ := h
      refine ⟨ej, ep, he, ?_⟩
      have a0 := hk.blk a0 (by simp)
      have a1 := hk.blk a1 (by simp)
      refine bif_of (fun dx => ?_) (fun dx => ?_)
      ·have h := h.1 (bne_t dx)
       exact h
      have h := h.2 (bne_f dx)
      refine bif_of (fun du => ?_) (fun du => ?_)
      ·have h := h.1 (bne_t du)
       exact h
      have h := h.2 (bne_f du)
      refine bif_of (fun eo => ?_) (fun eo => ?_)
      ·have h := h.1 (bne_t eo)
       exact h
      have h := h.2 (bne_f eo)
      obtain ⟨I4, ih, h0, h⟩ := h
      refine ⟨fun k vs ww => Blk ww be.heap.size 52 [.int .i64 av, .int .i64 bb, .int .u64 ae, .int .i64 aj, .slice a6 a7 a9, .slice ap am ao] ∧ Blk ww bd.heap.size 43 [.slice c0 c1 bx, .int .i64 ab] ∧ I4 k vs ww, ih, ⟨a0, a1, h0⟩, fun gm fu ip hI => ?_⟩
      obtain ⟨a0, a1, hI⟩ := hI
      have h := h gm fu ip hI
      refine bif_of (fun dy => ?_) (fun dy => ?_)
      ·have h := h.1 (of_decide_eq_true dy)
       obtain ⟨b4, b1, h⟩ := h
       try rw [w64 b4 b1]
       obtain ⟨il, hk, h⟩ := h
       exact ⟨il, hk, a0, a1, h⟩
      have h := h.2 (Int.not_lt.1 (of_decide_eq_false dy))
      obtain ⟨b4, b1, h⟩ := h
      try rw [w64 b4 b1]
      obtain ⟨i9, hk, h⟩ := h
      exact ⟨i9, hk, a0, a1, h⟩
     have h := h.1 ef
     refine ⟨bk, bh.celli 3 rfl rfl, ?_⟩
     refine bif_fo (fun dv => ?_) (fun dv => ?_)
     ·have h := h.2 (beq_f dv)
      first | unfold cachettelaw13_EpochsShared.J1 | unfold cachettelaw13_EpochsShared.J2
      refine thenW_in fun fr dz => ?_
      have d4 := c5.x_drew dz
      have a0 := a0.x_drew dz
      have a1 := a1.x_drew dz
      refine elim_some az ?_
      obtain ⟨b2, b3, h⟩ := h
      refine ⟨b2, b3, ?_⟩
      obtain ⟨i5, fl, h⟩ := h
      refine ⟨i5, (d4).cell fl id, ?_⟩
      refine ⟨av, bb, ae, aj, a6, a7, a9, ap, am, ao, ⟨a0.celli 0 rfl rfl, a0.celli 1 rfl rfl, a0.celli 2 rfl rfl, a0.celli 3 rfl rfl, a0.celli 4 rfl rfl, a0.celli 5 rfl rfl, trivial⟩, ?_⟩
      have h := h fr d4
      refine h.mono fun ju g3 h => ?_
      obtain ⟨c7, he, hk, h⟩ := h
      refine ⟨c7, he, ?_⟩
      have a0 := hk.blk a0 (by simp)
      have a1 := hk.blk a1 (by simp)
      refine thenW_in fun fq eg => ?_
      have d8 := (Ext.refl no g3).x_drew eg
      have a0 := a0.x_drew eg
      have a1 := a1.x_drew eg
      refine elim_some az ?_
      obtain ⟨b2, b3, h⟩ := h
      refine ⟨b2, b3, ?_⟩
      obtain ⟨i2, fz, h⟩ := h
      refine ⟨i2, (d8).cell fz id, ?_⟩
      refine ⟨ab, a1.celli 1 rfl rfl, ?_⟩
      have h := h fq d8
      refine h.mono fun jp jf h => ?_
      obtain ⟨ds, ek, he, hk, h⟩ := h
      refine ⟨ds, ek, he, ?_⟩
      have a0 := hk.blk a0 (by simp)
      have a1 := hk.blk a1 (by simp)
      refine bif_of (fun dp => ?_) (fun dp => ?_)
      ·have h := h.1 (bne_t dp)
       exact h
      have h := h.2 (bne_f dp)
      refine bif_of (fun e8 => ?_) (fun e8 => ?_)
      ·have h := h.1 (bne_t e8)
       exact h
      have h := h.2 (bne_f e8)
      refine bif_of (fun eq => ?_) (fun eq => ?_)
      ·have h := h.1 (bne_t eq)
       exact h
      have h := h.2 (bne_f eq)
      obtain ⟨I4, gp, h0, h⟩ := h
      refine ⟨fun k vs ww => Blk ww be.heap.size 52 [.int .i64 av, .int .i64 bb, .int .u64 ae, .int .i64 aj, .slice a6 a7 a9, .slice ap am ao] ∧ Blk ww bd.heap.size 43 [.slice c0 c1 bx, .int .i64 ab] ∧ I4 k vs ww, gp, ⟨a0, a1, h0⟩, fun i6 f7 gi hI => ?_⟩
      obtain ⟨a0, a1, hI⟩ := hI
      have h := h i6 f7 gi hI
      refine bif_of (fun em => ?_) (fun em => ?_)
      ·have h := h.1 (of_decide_eq_true em)
       obtain ⟨b4, b1, h⟩ := h
       try rw [w64 b4 b1]
       obtain ⟨gw, hk, h⟩ := h
       exact ⟨gw, hk, a0, a1, h⟩
      have h := h.2 (Int.not_lt.1 (of_decide_eq_false em))
      obtain ⟨b4, b1, h⟩ := h
      try rw [w64 b4 b1]
      obtain ⟨io, hk, h⟩ := h
      exact ⟨io, hk, a0, a1, h⟩
     have h := h.1 (beq_t dv)
     refine ⟨ak, bh.celli 2 rfl rfl, ?_⟩
     refine ⟨ab, a1.celli 1 rfl rfl, ?_⟩
     first | unfold cachettelaw13_EpochsShared.J1 | unfold cachettelaw13_EpochsShared.J2
     refine thenW_in fun fa dh => ?_
     have d7 := c5.x_drew dh
     have a0 := a0.x_drew dh
     have a1 := a1.x_drew dh
     refine elim_some az ?_
     obtain ⟨b2, b3, h⟩ := h
     refine ⟨b2, b3, ?_⟩
     obtain ⟨gv, fj, h⟩ := h
     refine ⟨gv, (d7).cell fj id, ?_⟩
     refine ⟨av, bb, ae, aj, a6, a7, a9, ap, am, ao, ⟨a0.celli 0 rfl rfl, a0.celli 1 rfl rfl, a0.celli 2 rfl rfl, a0.celli 3 rfl rfl, a0.celli 4 rfl rfl, a0.celli 5 rfl rfl, trivial⟩, ?_⟩
     have h := h fa d7
     refine h.mono fun ka fm h => ?_
     obtain ⟨c4, he, hk, h⟩ := h
     refine ⟨c4, he, ?_⟩
     have a0 := hk.blk a0 (by simp)
     have a1 := hk.blk a1 (by simp)
     refine thenW_in fun g1 e2 => ?_
     have d9 := (Ext.refl no fm).x_drew e2
     have a0 := a0.x_drew e2
     have a1 := a1.x_drew e2
     refine elim_some az ?_
     obtain ⟨b2, b3, h⟩ := h
     refine ⟨b2, b3, ?_⟩
     obtain ⟨gq, fg, h⟩ := h
     refine ⟨gq, (d9).cell fg id, ?_⟩
     refine ⟨ab, a1.celli 1 rfl rfl, ?_⟩
     have h := h g1 d9
     refine h.mono fun kq js h => ?_
     obtain ⟨eh, dg, he, hk, h⟩ := h
     refine ⟨eh, dg, he, ?_⟩
     have a0 := hk.blk a0 (by simp)
     have a1 := hk.blk a1 (by simp)
     refine bif_fo (fun bj => ?_) (fun bj => ?_)
     ·have h := h.2 (Int.not_le.1 (of_decide_eq_false bj))
      refine bif_tt (by rw [bj]; rfl) ?_
      refine bif_of (fun e6 => ?_) (fun e6 => ?_)
      ·have h := h.1 (bne_t e6)
       exact h
      have h := h.2 (bne_f e6)
      refine bif_of (fun er => ?_) (fun er => ?_)
      ·have h := h.1 (bne_t er)
       exact h
      have h := h.2 (bne_f er)
      refine bif_of (fun dw => ?_) (fun dw => ?_)
      ·have h := h.1 (bne_t dw)
       exact h
      have h := h.2 (bne_f dw)
      obtain ⟨I4, gr, h0, h⟩ := h
      refine ⟨fun k vs ww => Blk ww be.heap.size 52 [.int .i64 av, .int .i64 bb, .int .u64 ae, .int .i64 aj, .slice a6 a7 a9, .slice ap am ao] ∧ Blk ww bd.heap.size 43 [.slice c0 c1 bx, .int .i64 ab] ∧ I4 k vs ww, gr, ⟨a0, a1, h0⟩, fun ig gb ib hI => ?_⟩
      obtain ⟨a0, a1, hI⟩ := hI
      have h := h ig gb ib hI
      refine bif_fo (fun e3 => ?_) (fun e3 => ?_)
      ·have h := h.2 (Int.not_lt.1 (of_decide_eq_false e3))
       obtain ⟨b4, b1, h⟩ := h
       try rw [w64 b4 b1]
       obtain ⟨gk, hk, h⟩ := h
       exact ⟨gk, hk, a0, a1, h⟩
      have h := h.1 (of_decide_eq_true e3)
      refine bif_ff bj ?_
      obtain ⟨b4, b1, h⟩ := h
      try rw [w64 b4 b1]
      obtain ⟨gn, hk, h⟩ := h
      exact ⟨gn, hk, a0, a1, h⟩
     have h := h.1 (of_decide_eq_true bj)
     refine bif_of (fun eb => ?_) (fun eb => ?_)
     ·have h := h.1 (bne_t eb)
      exact h
     have h := h.2 (bne_f eb)
     refine bif_of (fun ee => ?_) (fun ee => ?_)
     ·have h := h.1 (bne_t ee)
      exact h
     have h := h.2 (bne_f ee)
     refine bif_of (fun dl => ?_) (fun dl => ?_)
     ·have h := h.1 (bne_t dl)
      exact h
     have h := h.2 (bne_f dl)
     refine bif_ff (by rw [bj]; rfl) ?_
     obtain ⟨I4, ii, h0, h⟩ := h
     refine ⟨fun k vs ww => Blk ww be.heap.size 52 [.int .i64 av, .int .i64 bb, .int .u64 ae, .int .i64 aj, .slice a6 a7 a9, .slice ap am ao] ∧ Blk ww bd.heap.size 43 [.slice c0 c1 bx, .int .i64 ab] ∧ I4 k vs ww, ii, ⟨a0, a1, h0⟩, fun i4 fy ik hI => ?_⟩
     obtain ⟨a0, a1, hI⟩ := hI
     have h := h i4 fy ik hI
     refine bif_fo (fun dq => ?_) (fun dq => ?_)
     ·have h := h.2 (Int.not_lt.1 (of_decide_eq_false dq))
      obtain ⟨b4, b1, h⟩ := h
      try rw [w64 b4 b1]
      obtain ⟨ij, hk, h⟩ := h
      exact ⟨ij, hk, a0, a1, h⟩
     have h := h.1 (of_decide_eq_true dq)
     refine bif_tt bj ?_
     refine elim_some az ?_
     obtain ⟨b2, b3, h⟩ := h
     refine ⟨b2, b3, ?_⟩
     obtain ⟨ie, fi, h⟩ := h
     refine ⟨ie, fi, ?_⟩
     refine h.mono fun kn k4 h => ?_
     obtain ⟨dm, ea, he, hk, h⟩ := h
     refine ⟨dm, ea, he, ?_⟩
     have a0 := hk.blk a0 (by simp)
     have a1 := hk.blk a1 (by simp)
     refine bif_of (fun dr => ?_) (fun dr => ?_)
     ·have h := h.1 (bne_t dr)
      exact h
     have h := h.2 (bne_f dr)
     obtain ⟨lq, fk, h⟩ := h
     refine elim_some fk ?_
     obtain ⟨b2, b3, h⟩ := h
     refine ⟨b2, b3, ?_⟩
     obtain ⟨gy, gc, h⟩ := h
     refine ⟨gy, gc, ?_⟩
     refine bif_of (fun es => ?_) (fun es => ?_)
     ·have h := h.1 (bne_t es)
      exact h
     have h := h.2 (bne_f es)
     obtain ⟨b4, b1, h⟩ := h
     try rw [w64 b4 b1]
     obtain ⟨i3, hk, h⟩ := h
     exact ⟨i3, hk, a0, a1, h⟩
   refine thenW_in fun kf i1 => ?_
   have a1 := Blk.of_new i1
   have jt := (et).size
   have dd := Nat.ne_of_lt a0.lt
   have a0 := a0.x_alloc i1
   have gh := et.x_alloc i1
   refine ⟨⟨a0.celli 0 rfl rfl, a0.celli 1 rfl rfl, a0.celli 2 rfl rfl, a0.celli 3 rfl rfl, a0.celli 4 rfl rfl, a0.celli 5 rfl rfl, trivial⟩, cellsAt_no (gh) gf, ?_⟩
   have h := h kf [b7.heap.size] gh (Priv.cons jt a1.lt Priv.nil)
   refine h.mono fun m2 ge h => ?_
   obtain ⟨bz, c2, c3, ac, fp, he, hkL, hk, h⟩ := h
   refine ⟨bz, c2, c3, ac, fp, he, ?_⟩
   have a1 := hkL.blk a1 (by simp)
   have a0 := hk.blk a0 (by simp)
   refine ⟨a1.cani 0 rfl rfl, thenW_in fun k8 e9 => ?_⟩
   have ey := (Ext.refl (fun b => b ∈ ([b7.heap.size] : List Nat)) ge).x_set (q := b7.heap.size) (i := 0) rfl (.inl (by simp)) e9
   have a0 := a0.oth (q := b7.heap.size) (i := 0) rfl dd e9
   have a1 := a1.seti 0 rfl e9
   refine ⟨a1.cani 1 rfl rfl, thenW_in fun ca dj => ?_⟩
   have ci := ey.x_set (q := b7.heap.size) (i := 1) rfl (.inl (by simp)) dj
   have a0 := a0.oth (q := b7.heap.size) (i := 1) rfl dd dj
   have a1 := a1.seti 1 rfl dj
   unfold cachettelaw13_EpochsShared.J6
   refine bif_of (fun e5 => ?_) (fun e5 => ?_)
   ·have h := h.1 (bne_t e5)
    refine bif_fo (fun dn => ?_) (fun dn => ?_)
    ·have h := h.2 (beq_f dn)
     have h := h ca ci
     exact h
    have h := h.1 (beq_t dn)
    have h := h ca ci
    refine h.mono fun kl k6 h => ?_
    obtain ⟨ck, he, h⟩ := h
    refine ⟨ck, he, ?_⟩
    exact h
   have h := h.2 (bne_f e5)
   unfold cachettelaw13_EpochsShared.J5
   refine ⟨bz, c2, c3, ac, ⟨a1.celli 0 rfl rfl, a1.celli 1 rfl rfl, trivial⟩, ?_⟩
   refine elim_some az ?_
   have h := h ca (b7.heap.size) ci (PrivJ.cons (.inl (by simp)) a1.lt PrivJ.nil)
   obtain ⟨hcs, hof, h⟩ := h
   refine ⟨hcs, thenW_in fun jx ec => ?_⟩
   replace h := thenW_out h ec
   have a0 := a0.off (by rw [block_add]; exact hof _ (by simp)) ec
   have a1 := a1.off (by rw [block_add]; exact hof _ (by simp)) ec
   obtain ⟨hcs, h⟩ := h
   refine ⟨hcs, thenW_in fun fw di => ?_⟩
   replace h := thenW_out h di
   have a0 := a0.off (by rw [block_add]; exact hof _ (by simp)) di
   have a1 := a1.off (by rw [block_add]; exact hof _ (by simp)) di
   refine thenW_in fun ah en => ?_
   have bl := (Ext.refl no fw).x_drew en
   have a0 := a0.x_drew en
   have a1 := a1.x_drew en
   refine elim_some az ?_
   obtain ⟨dk, dt, ei, bq, d6, h⟩ := h
   refine ⟨dk, dt, ei, bq, cellsAt_no (bl) d6, ?_⟩
   refine ⟨av, bb, ae, aj, a6, a7, a9, ap, am, ao, ⟨a0.celli 0 rfl rfl, a0.celli 1 rfl rfl, a0.celli 2 rfl rfl, a0.celli 3 rfl rfl, a0.celli 4 rfl rfl, a0.celli 5 rfl rfl, trivial⟩, ?_⟩
   obtain ⟨h0', h1'⟩ := h
   refine ⟨?_, ?_⟩
   focus
    have h := h0'
    have h := h ah [] bl Priv.nil
    refine h.mono fun k1 ad h => ?_
    obtain ⟨ct, e7, br, cd, bo, bn, bv, cx, d2, d0, he, hkL, hk, h⟩ := h
    refine ⟨ct, e7, br, cd, bo, bn, bv, cx, d2, d0, he, ?_⟩
    have a0 := hk.blk a0 (by simp)
    have a1 := hk.blk a1 (by simp)
    obtain ⟨f6, h⟩ := h
    refine ⟨f6, ?_⟩
    obtain ⟨h0', h1'⟩ := h
    refine ⟨?_, ?_⟩
    have h := h0'
    have h := h ad [] (Ext.refl (fun b => b ∈ ([] : List Nat)) ad) PrivJ.nil
    refine h.mono fun jd ay h => ?_
    obtain ⟨b5, b6, b8, a3, ce, he, hkL, hk, h⟩ := h
    refine ⟨b5, b6, b8, a3, ce, he, ?_⟩
    have a0 := hk.blk a0 (by simp)
    have a1 := hk.blk a1 (by simp)
    refine thenW_in fun da cp => ?_
    have ai := Blk.of_new cp
    have ex := ((Ext.refl (fun b => b ∈ ([] : List Nat)) ay)).size
    have au := Nat.ne_of_lt a0.lt
    have a0 := a0.x_alloc cp
    have aw := Nat.ne_of_lt a1.lt
    have a1 := a1.x_alloc cp
    have f9 := (Ext.refl (fun b => b ∈ ([] : List Nat)) ay).x_alloc cp
    refine ⟨ai.cani 0 rfl rfl, thenW_in fun f1 b9 => ?_⟩
    have cg := f9.x_set (q := ay.heap.size) (i := 0) rfl (.inr ex) b9
    have a0 := a0.oth (q := ay.heap.size) (i := 0) rfl au b9
    have a1 := a1.oth (q := ay.heap.size) (i := 0) rfl aw b9
    have ai := ai.seti 0 rfl b9
    refine ⟨ai.cani 1 rfl rfl, thenW_in fun cb ba => ?_⟩
    have c8 := cg.x_set (q := ay.heap.size) (i := 1) rfl (.inr ex) ba
    have a0 := a0.oth (q := ay.heap.size) (i := 1) rfl au ba
    have a1 := a1.oth (q := ay.heap.size) (i := 1) rfl aw ba
    have ai := ai.seti 1 rfl ba
    rotate_left
    have h := h1'
    refine thenW_in fun cj co => ?_
    have ai := Blk.of_new co
    have ex := ((Ext.refl (fun b => b ∈ ([] : List Nat)) ad)).size
    have au := Nat.ne_of_lt a0.lt
    have a0 := a0.x_alloc co
    have aw := Nat.ne_of_lt a1.lt
    have a1 := a1.x_alloc co
    have fh := (Ext.refl (fun b => b ∈ ([] : List Nat)) ad).x_alloc co
    have h := h cj (ad.heap.size) fh (PrivJ.cons (.inr ex) ai.lt PrivJ.nil)
    obtain ⟨g2, h⟩ := h
    refine ⟨g2, ?_⟩
    have h := h cj [] (Ext.refl no cj) Priv.nil
    refine h.mono fun k0 b0 h => ?_
    obtain ⟨b5, b6, b8, a3, cc, he, hkL, hk, h⟩ := h
    refine ⟨b5, b6, b8, a3, cc, he, ?_⟩
    have a0 := hk.blk a0 (by simp)
    have a1 := hk.blk a1 (by simp)
    have ai := hk.blk ai (by simp)
    have h := h b0 (Ext.refl (fun b => b ∈ ([] : List Nat)) b0)
    have f0 : Ext (fun b => b = ad.heap.size) b0 b0 := ((Ext.refl no b0)).none
    refine ⟨ai.cani 0 rfl rfl, thenW_in fun kj cl => ?_⟩
    have g0 := f0.x_set (q := ad.heap.size) (i := 0) rfl (.inl rfl) cl
    have a0 := a0.oth (q := ad.heap.size) (i := 0) rfl au cl
    have a1 := a1.oth (q := ad.heap.size) (i := 0) rfl aw cl
    have ai := ai.seti 0 rfl cl
    refine ⟨ai.cani 1 rfl rfl, thenW_in fun cb bm => ?_⟩
    have c8 := g0.x_set (q := ad.heap.size) (i := 1) rfl (.inl rfl) bm
    have a0 := a0.oth (q := ad.heap.size) (i := 1) rfl au bm
    have a1 := a1.oth (q := ad.heap.size) (i := 1) rfl aw bm
    have ai := ai.seti 1 rfl bm
    rotate_left
   rotate_left 2
   have h := h1'
   refine thenW_in fun g7 cv => ?_
   have ai := Blk.of_new cv
   have ex := (bl).size
   have au := Nat.ne_of_lt a0.lt
   have a0 := a0.x_alloc cv
   have aw := Nat.ne_of_lt a1.lt
   have a1 := a1.x_alloc cv
   have dc := bl.x_alloc cv
   refine ⟨⟨a0.celli 0 rfl rfl, a0.celli 1 rfl rfl, a0.celli 2 rfl rfl, a0.celli 3 rfl rfl, a0.celli 4 rfl rfl, a0.celli 5 rfl rfl, trivial⟩, cellsAt_no (dc) d6, ?_⟩
   have h := h g7 [ah.heap.size] dc (Priv.cons ex ai.lt Priv.nil)
   refine h.mono fun jr db h => ?_
   obtain ⟨cs, ed, bs, ch, bu, bt, bp, cu, cy, d1, he, hkL, hk, h⟩ := h
   refine ⟨cs, ed, bs, ch, bu, bt, bp, cu, cy, d1, he, ?_⟩
   have ai := hkL.blk ai (by simp)
   have a0 := hk.blk a0 (by simp)
   have a1 := hk.blk a1 (by simp)
   obtain ⟨f4, h⟩ := h
   refine ⟨f4, ?_⟩
   have h := h db [ah.heap.size] (Ext.refl (fun b => b ∈ ([ah.heap.size] : List Nat)) db) (PrivJ.cons (.inl (by simp)) ai.lt PrivJ.nil)
   refine h.mono fun k5 da h => ?_
   obtain ⟨b5, b6, b8, a3, cf, he, hkL, hk, h⟩ := h
   refine ⟨b5, b6, b8, a3, cf, he, ?_⟩
   have ai := hkL.blk ai (by simp)
   have a0 := hk.blk a0 (by simp)
   have a1 := hk.blk a1 (by simp)
   refine ⟨ai.cani 0 rfl rfl, thenW_in fun f1 b9 => ?_⟩
   have cg := (Ext.refl (fun b => b ∈ ([ah.heap.size] : List Nat)) da).x_set (q := ah.heap.size) (i := 0) rfl (.inl (by simp)) b9
   have a0 := a0.oth (q := ah.heap.size) (i := 0) rfl au b9
   have a1 := a1.oth (q := ah.heap.size) (i := 0) rfl aw b9
   have ai := ai.seti 0 rfl b9
   refine ⟨ai.cani 1 rfl rfl, thenW_in fun cb ba => ?_⟩
   have c8 := cg.x_set (q := ah.heap.size) (i := 1) rfl (.inl (by simp)) ba
   have a0 := a0.oth (q := ah.heap.size) (i := 1) rfl au ba
   have a1 := a1.oth (q := ah.heap.size) (i := 1) rfl aw ba
   have ai := ai.seti 1 rfl ba
   rotate_left
   all_goals
    unfold cachettelaw13_EpochsShared.J4
    refine ⟨b5, b6, b8, a3, ⟨ai.celli 0 rfl rfl, ai.celli 1 rfl rfl, trivial⟩, ?_⟩
    refine elim_some az ?_
    have h := h cb c8
    obtain ⟨hcs, hof, h⟩ := h
    refine ⟨hcs, thenW_in fun kk e4 => ?_⟩
    replace h := thenW_out h e4
    have a0 := a0.off (by rw [block_add]; exact hof _ (by simp)) e4
    have a1 := a1.off (by rw [block_add]; exact hof _ (by simp)) e4
    obtain ⟨hcs, h⟩ := h
    refine ⟨hcs, thenW_in fun jy el => ?_⟩
    replace h := thenW_out h el
    have a0 := a0.off (by rw [block_add]; exact hof _ (by simp)) el
    have a1 := a1.off (by rw [block_add]; exact hof _ (by simp)) el
    obtain ⟨I2, gx, h0, h⟩ := h
    refine ⟨fun k vs ww => Blk ww be.heap.size 52 [.int .i64 av, .int .i64 bb, .int .u64 ae, .int .i64 aj, .slice a6 a7 a9, .slice ap am ao] ∧ Blk ww b7.heap.size 43 [.slice bz c2 c3, .int .i64 ac] ∧ I2 k vs ww, gx, ⟨a0, a1, h0⟩, fun i8 ft im hI => ?_⟩
    obtain ⟨a0, a1, hI⟩ := hI
    have h := h i8 ft im hI
    refine bif_fo (fun e0 => ?_) (fun e0 => ?_)
    ·have h := h.2 (Int.not_lt.1 (of_decide_eq_false e0))
     obtain ⟨b4, b1, h⟩ := h
     try rw [w64 b4 b1]
     obtain ⟨gs, hk, h⟩ := h
     exact ⟨gs, hk, h⟩
    have h := h.1 (of_decide_eq_true e0)
    unfold cachettelaw13_EpochsShared.J3
    refine ⟨bz, c2, c3, ac, ⟨a1.celli 0 rfl rfl, a1.celli 1 rfl rfl, trivial⟩, ?_⟩
    refine h.mono fun k7 a2 h => ?_
    obtain ⟨al, a4, ak, bk, bf, cn, he, hk, h⟩ := h
    refine ⟨al, a4, ak, bk, bf, cn, he, ?_⟩
    have a0 := hk.blk a0 (by simp)
    have a1 := hk.blk a1 (by simp)
    refine thenW_in fun jl cq => ?_
    have bh := Blk.of_new cq
    have f3 := ((Ext.refl no a2)).size
    have bg := Nat.ne_of_lt a0.lt
    have a0 := a0.x_alloc cq
    have bi := Nat.ne_of_lt a1.lt
    have a1 := a1.x_alloc cq
    have g8 := (Ext.refl no a2).x_alloc cq
    refine ⟨bh.cani 0 rfl rfl, thenW_in fun fe d3 => ?_⟩
    have ez := g8.x_set (q := a2.heap.size) (i := 0) rfl (.inr f3) d3
    have a0 := a0.oth (q := a2.heap.size) (i := 0) rfl bg d3
    have a1 := a1.oth (q := a2.heap.size) (i := 0) rfl bi d3
    have bh : Blk fe a2.heap.size 70 [.int .i64 al, .int .u64 0, .int .i64 0, .int .i64 0, .int .i64 0] := bh.seti 0 rfl d3
    refine ⟨bh.cani 1 rfl rfl, thenW_in fun g9 cr => ?_⟩
    have ff := ez.x_set (q := a2.heap.size) (i := 1) rfl (.inr f3) cr
    have a0 := a0.oth (q := a2.heap.size) (i := 1) rfl bg cr
    have a1 := a1.oth (q := a2.heap.size) (i := 1) rfl bi cr
    have bh : Blk g9 a2.heap.size 70 [.int .i64 al, .int .u64 a4, .int .i64 0, .int .i64 0, .int .i64 0] := bh.seti 1 rfl cr
    refine ⟨bh.cani 2 rfl rfl, thenW_in fun fd cw => ?_⟩
    have g6 := ff.x_set (q := a2.heap.size) (i := 2) rfl (.inr f3) cw
    have a0 := a0.oth (q := a2.heap.size) (i := 2) rfl bg cw
    have a1 := a1.oth (q := a2.heap.size) (i := 2) rfl bi cw
    have bh : Blk fd a2.heap.size 70 [.int .i64 al, .int .u64 a4, .int .i64 ak, .int .i64 0, .int .i64 0] := bh.seti 2 rfl cw
    refine ⟨bh.cani 3 rfl rfl, thenW_in fun f5 cm => ?_⟩
    have fv := g6.x_set (q := a2.heap.size) (i := 3) rfl (.inr f3) cm
    have a0 := a0.oth (q := a2.heap.size) (i := 3) rfl bg cm
    have a1 := a1.oth (q := a2.heap.size) (i := 3) rfl bi cm
    have bh : Blk f5 a2.heap.size 70 [.int .i64 al, .int .u64 a4, .int .i64 ak, .int .i64 bk, .int .i64 0] := bh.seti 3 rfl cm
    refine ⟨bh.cani 4 rfl rfl, thenW_in fun fx cz => ?_⟩
    have c5 := fv.x_set (q := a2.heap.size) (i := 4) rfl (.inr f3) cz
    have a0 := a0.oth (q := a2.heap.size) (i := 4) rfl bg cz
    have a1 := a1.oth (q := a2.heap.size) (i := 4) rfl bi cz
    have bh : Blk fx a2.heap.size 70 [.int .i64 al, .int .u64 a4, .int .i64 ak, .int .i64 bk, .int .i64 bf] := bh.seti 4 rfl cz
    refine bif_fo (fun ef => ?_) (fun ef => ?_)
    ·have h := h.2 ef
     first | unfold cachettelaw13_EpochsShared.J1 | unfold cachettelaw13_EpochsShared.J2
     refine thenW_in fun fs e1 => ?_
     have d5 := c5.x_drew e1
     have a0 := a0.x_drew e1
     have a1 := a1.x_drew e1
     refine elim_some az ?_
     obtain ⟨b2, b3, h⟩ := h
     refine ⟨b2, b3, ?_⟩
     obtain ⟨gj, ga, h⟩ := h
     refine ⟨gj, (d5).cell ga id, ?_⟩
     refine ⟨av, bb, ae, aj, a6, a7, a9, ap, am, ao, ⟨a0.celli 0 rfl rfl, a0.celli 1 rfl rfl, a0.celli 2 rfl rfl, a0.celli 3 rfl rfl, a0.celli 4 rfl rfl, a0.celli 5 rfl rfl, trivial⟩, ?_⟩
     have h := h fs d5
     refine h.mono fun jh g4 h => ?_
     obtain ⟨c9, he, hk, h⟩ := h
     refine ⟨c9, he, ?_⟩
     have a0 := hk.blk a0 (by simp)
     have a1 := hk.blk a1 (by simp)
     refine thenW_in fun fo df => ?_
     have de := (Ext.refl no g4).x_drew df
     have a0 := a0.x_drew df
     have a1 := a1.x_drew df
     refine elim_some az ?_
     obtain ⟨b2, b3, h⟩ := h
     refine ⟨b2, b3, ?_⟩
     obtain ⟨gu, fc, h⟩ := h
     refine ⟨gu, (de).cell fc id, ?_⟩
     refine ⟨ac, a1.celli 1 rfl rfl, ?_⟩
     have h := h fo de
     refine h.mono fun ks jn h => ?_
     obtain ⟨ej, ep, he, hk, h⟩ := h
     refine ⟨ej, ep, he, ?_⟩
     have a0 := hk.blk a0 (by simp)
     have a1 := hk.blk a1 (by simp)
     refine bif_of (fun dx => ?_) (fun dx => ?_)
     ·have h := h.1 (bne_t dx)
      exact h
     have h := h.2 (bne_f dx)
     refine bif_of (fun du => ?_) (fun du => ?_)
     ·have h := h.1 (bne_t du)
      exact h
     have h := h.2 (bne_f du)
     refine bif_of (fun eo => ?_) (fun eo => ?_)
     ·have h := h.1 (bne_t eo)
      exact h
     have h := h.2 (bne_f eo)
     obtain ⟨I4, ih, h0, h⟩ := h
     refine ⟨fun k vs ww => Blk ww be.heap.size 52 [.int .i64 av, .int .i64 bb, .int .u64 ae, .int .i64 aj, .slice a6 a7 a9, .slice ap am ao] ∧ Blk ww b7.heap.size 43 [.slice bz c2 c3, .int .i64 ac] ∧ I4 k vs ww, ih, ⟨a0, a1, h0⟩, fun gm fu ip hI => ?_⟩
     obtain ⟨a0, a1, hI⟩ := hI
     have h := h gm fu ip hI
     refine bif_of (fun dy => ?_) (fun dy => ?_)
     ·have h := h.1 (of_decide_eq_true dy)
      obtain ⟨b4, b1, h⟩ := h
      try rw [w64 b4 b1]
      obtain ⟨il, hk, h⟩ := h
      exact ⟨il, hk, a0, a1, h⟩
     have h := h.2 (Int.not_lt.1 (of_decide_eq_false dy))
     obtain ⟨b4, b1, h⟩ := h
     try rw [w64 b4 b1]
     obtain ⟨i9, hk, h⟩ := h
     exact ⟨i9, hk, a0, a1, h⟩
    have h := h.1 ef
    refine ⟨bk, bh.celli 3 rfl rfl, ?_⟩
    refine bif_fo (fun dv => ?_) (fun dv => ?_)
    ·have h := h.2 (beq_f dv)
     first | unfold cachettelaw13_EpochsShared.J1 | unfold cachettelaw13_EpochsShared.J2
     refine thenW_in fun fr dz => ?_
     have d4 := c5.x_drew dz
     have a0 := a0.x_drew dz
     have a1 := a1.x_drew dz
     refine elim_some az ?_
     obtain ⟨b2, b3, h⟩ := h
     refine ⟨b2, b3, ?_⟩
     obtain ⟨i5, fl, h⟩ := h
     refine ⟨i5, (d4).cell fl id, ?_⟩
     refine ⟨av, bb, ae, aj, a6, a7, a9, ap, am, ao, ⟨a0.celli 0 rfl rfl, a0.celli 1 rfl rfl, a0.celli 2 rfl rfl, a0.celli 3 rfl rfl, a0.celli 4 rfl rfl, a0.celli 5 rfl rfl, trivial⟩, ?_⟩
     have h := h fr d4
     refine h.mono fun ju g3 h => ?_
     obtain ⟨c7, he, hk, h⟩ := h
     refine ⟨c7, he, ?_⟩
     have a0 := hk.blk a0 (by simp)
     have a1 := hk.blk a1 (by simp)
     refine thenW_in fun fq eg => ?_
     have d8 := (Ext.refl no g3).x_drew eg
     have a0 := a0.x_drew eg
     have a1 := a1.x_drew eg
     refine elim_some az ?_
     obtain ⟨b2, b3, h⟩ := h
     refine ⟨b2, b3, ?_⟩
     obtain ⟨i2, fz, h⟩ := h
     refine ⟨i2, (d8).cell fz id, ?_⟩
     refine ⟨ac, a1.celli 1 rfl rfl, ?_⟩
     have h := h fq d8
     refine h.mono fun jp jf h => ?_
     obtain ⟨ds, ek, he, hk, h⟩ := h
     refine ⟨ds, ek, he, ?_⟩
     have a0 := hk.blk a0 (by simp)
     have a1 := hk.blk a1 (by simp)
     refine bif_of (fun dp => ?_) (fun dp => ?_)
     ·have h := h.1 (bne_t dp)
      exact h
     have h := h.2 (bne_f dp)
     refine bif_of (fun e8 => ?_) (fun e8 => ?_)
     ·have h := h.1 (bne_t e8)
      exact h
     have h := h.2 (bne_f e8)
     refine bif_of (fun eq => ?_) (fun eq => ?_)
     ·have h := h.1 (bne_t eq)
      exact h
     have h := h.2 (bne_f eq)
     obtain ⟨I4, gp, h0, h⟩ := h
     refine ⟨fun k vs ww => Blk ww be.heap.size 52 [.int .i64 av, .int .i64 bb, .int .u64 ae, .int .i64 aj, .slice a6 a7 a9, .slice ap am ao] ∧ Blk ww b7.heap.size 43 [.slice bz c2 c3, .int .i64 ac] ∧ I4 k vs ww, gp, ⟨a0, a1, h0⟩, fun i6 f7 gi hI => ?_⟩
     obtain ⟨a0, a1, hI⟩ := hI
     have h := h i6 f7 gi hI
     refine bif_of (fun em => ?_) (fun em => ?_)
     ·have h := h.1 (of_decide_eq_true em)
      obtain ⟨b4, b1, h⟩ := h
      try rw [w64 b4 b1]
      obtain ⟨gw, hk, h⟩ := h
      exact ⟨gw, hk, a0, a1, h⟩
     have h := h.2 (Int.not_lt.1 (of_decide_eq_false em))
     obtain ⟨b4, b1, h⟩ := h
     try rw [w64 b4 b1]
     obtain ⟨io, hk, h⟩ := h
     exact ⟨io, hk, a0, a1, h⟩
    have h := h.1 (beq_t dv)
    refine ⟨ak, bh.celli 2 rfl rfl, ?_⟩
    refine ⟨ac, a1.celli 1 rfl rfl, ?_⟩
    first | unfold cachettelaw13_EpochsShared.J1 | unfold cachettelaw13_EpochsShared.J2
    refine thenW_in fun fa dh => ?_
    have d7 := c5.x_drew dh
    have a0 := a0.x_drew dh
    have a1 := a1.x_drew dh
    refine elim_some az ?_
    obtain ⟨b2, b3, h⟩ := h
    refine ⟨b2, b3, ?_⟩
    obtain ⟨gv, fj, h⟩ := h
    refine ⟨gv, (d7).cell fj id, ?_⟩
    refine ⟨av, bb, ae, aj, a6, a7, a9, ap, am, ao, ⟨a0.celli 0 rfl rfl, a0.celli 1 rfl rfl, a0.celli 2 rfl rfl, a0.celli 3 rfl rfl, a0.celli 4 rfl rfl, a0.celli 5 rfl rfl, trivial⟩, ?_⟩
    have h := h fa d7
    refine h.mono fun ka fm h => ?_
    obtain ⟨c4, he, hk, h⟩ := h
    refine ⟨c4, he, ?_⟩
    have a0 := hk.blk a0 (by simp)
    have a1 := hk.blk a1 (by simp)
    refine thenW_in fun g1 e2 => ?_
    have d9 := (Ext.refl no fm).x_drew e2
    have a0 := a0.x_drew e2
    have a1 := a1.x_drew e2
    refine elim_some az ?_
    obtain ⟨b2, b3, h⟩ := h
    refine ⟨b2, b3, ?_⟩
    obtain ⟨gq, fg, h⟩ := h
    refine ⟨gq, (d9).cell fg id, ?_⟩
    refine ⟨ac, a1.celli 1 rfl rfl, ?_⟩
    have h := h g1 d9
    refine h.mono fun kq js h => ?_
    obtain ⟨eh, dg, he, hk, h⟩ := h
    refine ⟨eh, dg, he, ?_⟩
    have a0 := hk.blk a0 (by simp)
    have a1 := hk.blk a1 (by simp)
    refine bif_fo (fun bj => ?_) (fun bj => ?_)
    ·have h := h.2 (Int.not_le.1 (of_decide_eq_false bj))
     refine bif_tt (by rw [bj]; rfl) ?_
     refine bif_of (fun e6 => ?_) (fun e6 => ?_)
     ·have h := h.1 (bne_t e6)
      exact h
     have h := h.2 (bne_f e6)
     refine bif_of (fun er => ?_) (fun er => ?_)
     ·have h := h.1 (bne_t er)
      exact h
     have h := h.2 (bne_f er)
     refine bif_of (fun dw => ?_) (fun dw => ?_)
     ·have h := h.1 (bne_t dw)
      exact h
     have h := h.2 (bne_f dw)
     obtain ⟨I4, gr, h0, h⟩ := h
     refine ⟨fun k vs ww => Blk ww be.heap.size 52 [.int .i64 av, .int .i64 bb, .int .u64 ae, .int .i64 aj, .slice a6 a7 a9, .slice ap am ao] ∧ Blk ww b7.heap.size 43 [.slice bz c2 c3, .int .i64 ac] ∧ I4 k vs ww, gr, ⟨a0, a1, h0⟩, fun ig gb ib hI => ?_⟩
     obtain ⟨a0, a1, hI⟩ := hI
     have h := h ig gb ib hI
     refine bif_fo (fun e3 => ?_) (fun e3 => ?_)
     ·have h := h.2 (Int.not_lt.1 (of_decide_eq_false e3))
      obtain ⟨b4, b1, h⟩ := h
      try rw [w64 b4 b1]
      obtain ⟨gk, hk, h⟩ := h
      exact ⟨gk, hk, a0, a1, h⟩
     have h := h.1 (of_decide_eq_true e3)
     refine bif_ff bj ?_
     obtain ⟨b4, b1, h⟩ := h
     try rw [w64 b4 b1]
     obtain ⟨gn, hk, h⟩ := h
     exact ⟨gn, hk, a0, a1, h⟩
    have h := h.1 (of_decide_eq_true bj)
    refine bif_of (fun eb => ?_) (fun eb => ?_)
    ·have h := h.1 (bne_t eb)
     exact h
    have h := h.2 (bne_f eb)
    refine bif_of (fun ee => ?_) (fun ee => ?_)
    ·have h := h.1 (bne_t ee)
     exact h
    have h := h.2 (bne_f ee)
    refine bif_of (fun dl => ?_) (fun dl => ?_)
    ·have h := h.1 (bne_t dl)
     exact h
    have h := h.2 (bne_f dl)
    refine bif_ff (by rw [bj]; rfl) ?_
    obtain ⟨I4, ii, h0, h⟩ := h
    refine ⟨fun k vs ww => Blk ww be.heap.size 52 [.int .i64 av, .int .i64 bb, .int .u64 ae, .int .i64 aj, .slice a6 a7 a9, .slice ap am ao] ∧ Blk ww b7.heap.size 43 [.slice bz c2 c3, .int .i64 ac] ∧ I4 k vs ww, ii, ⟨a0, a1, h0⟩, fun i4 fy ik hI => ?_⟩
    obtain ⟨a0, a1, hI⟩ := hI
    have h := h i4 fy ik hI
    refine bif_fo (fun dq => ?_) (fun dq => ?_)
    ·have h := h.2 (Int.not_lt.1 (of_decide_eq_false dq))
     obtain ⟨b4, b1, h⟩ := h
     try rw [w64 b4 b1]
     obtain ⟨ij, hk, h⟩ := h
     exact ⟨ij, hk, a0, a1, h⟩
    have h := h.1 (of_decide_eq_true dq)
    refine bif_tt bj ?_
    refine elim_some az ?_
    obtain ⟨b2, b3, h⟩ := h
    refine ⟨b2, b3, ?_⟩
    obtain ⟨ie, fi, h⟩ := h
    refine ⟨ie, fi, ?_⟩
    refine h.mono fun kn k4 h => ?_
    obtain ⟨dm, ea, he, hk, h⟩ := h
    refine ⟨dm, ea, he, ?_⟩
    have a0 := hk.blk a0 (by simp)
    have a1 := hk.blk a1 (by simp)
    refine bif_of (fun dr => ?_) (fun dr => ?_)
    ·have h := h.1 (bne_t dr)
     exact h
    have h := h.2 (bne_f dr)
    obtain ⟨lq, fk, h⟩ := h
    refine elim_some fk ?_
    obtain ⟨b2, b3, h⟩ := h
    refine ⟨b2, b3, ?_⟩
    obtain ⟨gy, gc, h⟩ := h
    refine ⟨gy, gc, ?_⟩
    refine bif_of (fun es => ?_) (fun es => ?_)
    ·have h := h.1 (bne_t es)
     exact h
    have h := h.2 (bne_f es)
    obtain ⟨b4, b1, h⟩ := h
    try rw [w64 b4 b1]
    obtain ⟨i3, hk, h⟩ := h
    exact ⟨i3, hk, a0, a1, h⟩
  refine thenW_in fun ml n0 => ?_
  have a0 := Blk.of_new n0
  have lc := (ix).size
  have l9 := ix.x_alloc n0
  refine ⟨(l9).cell m3 id, cellsAt_no (l9) lu, (l9).cell lx id, ?_⟩
  have h := h ml [bw.heap.size] l9 (Priv.cons lc a0.lt Priv.nil)
  refine h.mono fun n1 le h => ?_
  obtain ⟨ax, bc, af, ag, a8, aa, a5, an, ar, aq, ew, j0, he, hkL, h⟩ := h
  refine ⟨ax, bc, af, ag, a8, aa, a5, an, ar, aq, ew, j0, he, ?_⟩
  have a0 := hkL.blk a0 (by simp)
  refine ⟨a0.cani 0 rfl rfl, thenW_in fun jk je => ?_⟩
  have jj := (Ext.refl (fun b => b ∈ ([bw.heap.size] : List Nat)) le).x_set (q := bw.heap.size) (i := 0) rfl (.inl (by simp)) je
  have a0 : Blk jk bw.heap.size 52 [.int .i64 ax, .int .i64 0, .int .u64 0, .int .i64 0, .slice none 0 0, .slice none 0 0] := a0.seti 0 rfl je
  refine ⟨a0.cani 1 rfl rfl, thenW_in fun kb jq => ?_⟩
  have jg := jj.x_set (q := bw.heap.size) (i := 1) rfl (.inl (by simp)) jq
  have a0 : Blk kb bw.heap.size 52 [.int .i64 ax, .int .i64 bc, .int .u64 0, .int .i64 0, .slice none 0 0, .slice none 0 0] := a0.seti 1 rfl jq
  refine ⟨a0.cani 2 rfl rfl, thenW_in fun jv kc => ?_⟩
  have jw := jg.x_set (q := bw.heap.size) (i := 2) rfl (.inl (by simp)) kc
  have a0 : Blk jv bw.heap.size 52 [.int .i64 ax, .int .i64 bc, .int .u64 af, .int .i64 0, .slice none 0 0, .slice none 0 0] := a0.seti 2 rfl kc
  refine ⟨a0.cani 3 rfl rfl, thenW_in fun ki kr => ?_⟩
  have kh := jw.x_set (q := bw.heap.size) (i := 3) rfl (.inl (by simp)) kr
  have a0 : Blk ki bw.heap.size 52 [.int .i64 ax, .int .i64 bc, .int .u64 af, .int .i64 ag, .slice none 0 0, .slice none 0 0] := a0.seti 3 rfl kr
  refine ⟨a0.cani 4 rfl rfl, thenW_in fun km jo => ?_⟩
  have kg := kh.x_set (q := bw.heap.size) (i := 4) rfl (.inl (by simp)) jo
  have a0 : Blk km bw.heap.size 52 [.int .i64 ax, .int .i64 bc, .int .u64 af, .int .i64 ag, .slice a8 aa a5, .slice none 0 0] := a0.seti 4 rfl jo
  refine ⟨a0.cani 5 rfl rfl, thenW_in fun eu k9 => ?_⟩
  have g5 := kg.x_set (q := bw.heap.size) (i := 5) rfl (.inl (by simp)) k9
  have a0 : Blk eu bw.heap.size 52 [.int .i64 ax, .int .i64 bc, .int .u64 af, .int .i64 ag, .slice a8 aa a5, .slice an ar aq] := a0.seti 5 rfl k9
  unfold cachettelaw13_EpochsShared.J8
  refine bif_of (fun i7 => ?_) (fun i7 => ?_)
  ·have h := h.1 (bne_t i7)
   have h := h eu g5
   exact h
  have h := h.2 (bne_f i7)
  refine bif_of (fun ia => ?_) (fun ia => ?_)
  ·have h := h.1 (beq_t ia)
   have h := h eu g5
   exact h
  have h := h.2 (beq_f ia)
  unfold cachettelaw13_EpochsShared.J7
  refine elim_some az ?_
  have h := h eu (bw.heap.size) g5 (PrivJ.cons (.inl (by simp)) a0.lt PrivJ.nil)
  obtain ⟨hcs, hof, h⟩ := h
  refine ⟨hcs, thenW_in fun f2 k2 => ?_⟩
  replace h := thenW_out h k2
  have a0 := a0.off (by rw [block_add]; exact hof _ (by simp)) k2
  refine thenW_in fun ke gd => ?_
  have a0 := a0.x_alloc gd
  have h := h ke f2.heap.size ((Ext.refl no f2).x_alloc gd) (Blk.of_new gd) ((Ext.refl no f2)).size (size_lt_alloc gd)
  obtain ⟨ji, jz, kd, gg, hr, hk, h⟩ := h
  refine ⟨ji, jz, kd, gg, hr, ?_⟩
  have a0 := hk.blk a0 (by simp)
  refine thenW_in fun b7 k3 => ?_
  have et := (Ext.refl no gg).x_drew k3
  have a0 := a0.x_drew k3
  refine elim_some az ?_
  obtain ⟨gl, ic, gt, ev, gf, h⟩ := h
  refine ⟨gl, ic, gt, ev, cellsAt_no (et) gf, ?_⟩
  refine ⟨ax, bc, af, ag, a8, aa, a5, an, ar, aq, ⟨a0.celli 0 rfl rfl, a0.celli 1 rfl rfl, a0.celli 2 rfl rfl, a0.celli 3 rfl rfl, a0.celli 4 rfl rfl, a0.celli 5 rfl rfl, trivial⟩, ?_⟩
  refine ⟨?_, ?_⟩
  ·have h := h b7 [] et Priv.nil
   refine h.mono fun lz bd h => ?_
   obtain ⟨c0, c1, bx, ab, f8, he, hkL, hk, h⟩ := h
   refine ⟨c0, c1, bx, ab, f8, he, ?_⟩
   have a0 := hk.blk a0 (by simp)
   refine thenW_in fun ge i0 => ?_
   have a1 := Blk.of_new i0
   have jt := ((Ext.refl (fun b => b ∈ ([] : List Nat)) bd)).size
   have dd := Nat.ne_of_lt a0.lt
   have a0 := a0.x_alloc i0
   have ko := (Ext.refl (fun b => b ∈ ([] : List Nat)) bd).x_alloc i0
   refine ⟨a1.cani 0 rfl rfl, thenW_in fun k8 e9 => ?_⟩
   have ey := ko.x_set (q := bd.heap.size) (i := 0) rfl (.inr jt) e9
   have a0 := a0.oth (q := bd.heap.size) (i := 0) rfl dd e9
   have a1 := a1.seti 0 rfl e9
   refine ⟨a1.cani 1 rfl rfl, thenW_in fun ca dj => ?_⟩
   have ci := ey.x_set (q := bd.heap.size) (i := 1) rfl (.inr jt) dj
   have a0 := a0.oth (q := bd.heap.size) (i := 1) rfl dd dj
   have a1 := a1.seti 1 rfl dj
   unfold cachettelaw13_EpochsShared.J6
   refine bif_of (fun e5 => ?_) (fun e5 => ?_)
   ·have h := h.1 (bne_t e5)
    refine bif_fo (fun dn => ?_) (fun dn => ?_)
    ·have h := h.2 (beq_f dn)
     have h := h ca ci
     exact h
    have h := h.1 (beq_t dn)
    have h := h ca ci
    refine h.mono fun kl k6 h => ?_
    obtain ⟨ck, he, h⟩ := h
    refine ⟨ck, he, ?_⟩
    exact h
   have h := h.2 (bne_f e5)
   unfold cachettelaw13_EpochsShared.J5
   refine ⟨c0, c1, bx, ab, ⟨a1.celli 0 rfl rfl, a1.celli 1 rfl rfl, trivial⟩, ?_⟩
   refine elim_some az ?_
   have h := h ca (bd.heap.size) ci (PrivJ.cons (.inr jt) a1.lt PrivJ.nil)
   obtain ⟨hcs, hof, h⟩ := h
   refine ⟨hcs, thenW_in fun jx ec => ?_⟩
   replace h := thenW_out h ec
   have a0 := a0.off (by rw [block_add]; exact hof _ (by simp)) ec
   have a1 := a1.off (by rw [block_add]; exact hof _ (by simp)) ec
   obtain ⟨hcs, h⟩ := h
   refine ⟨hcs, thenW_in fun fw di => ?_⟩
   replace h := thenW_out h di
   have a0 := a0.off (by rw [block_add]; exact hof _ (by simp)) di
   have a1 := a1.off (by rw [block_add]; exact hof _ (by simp)) di
   refine thenW_in fun ah en => ?_
   have bl := (Ext.refl no fw).x_drew en
   have a0 := a0.x_drew en
   have a1 := a1.x_drew en
   refine elim_some az ?_
   obtain ⟨dk, dt, ei, bq, d6, h⟩ := h
   refine ⟨dk, dt, ei, bq, cellsAt_no (bl) d6, ?_⟩
   refine ⟨ax, bc, af, ag, a8, aa, a5, an, ar, aq, ⟨a0.celli 0 rfl rfl, a0.celli 1 rfl rfl, a0.celli 2 rfl rfl, a0.celli 3 rfl rfl, a0.celli 4 rfl rfl, a0.celli 5 rfl rfl, trivial⟩, ?_⟩
   obtain ⟨h0', h1'⟩ := h
   refine ⟨?_, ?_⟩
   focus
    have h := h0'
    have h := h ah [] bl Priv.nil
    refine h.mono fun k1 ad h => ?_
    obtain ⟨ct, e7, br, cd, bo, bn, bv, cx, d2, d0, he, hkL, hk, h⟩ := h
    refine ⟨ct, e7, br, cd, bo, bn, bv, cx, d2, d0, he, ?_⟩
    have a0 := hk.blk a0 (by simp)
    have a1 := hk.blk a1 (by simp)
    obtain ⟨f6, h⟩ := h
    refine ⟨f6, ?_⟩
    obtain ⟨h0', h1'⟩ := h
    refine ⟨?_, ?_⟩
    have h := h0'
    have h := h ad [] (Ext.refl (fun b => b ∈ ([] : List Nat)) ad) PrivJ.nil
    refine h.mono fun jd ay h => ?_
    obtain ⟨b5, b6, b8, a3, ce, he, hkL, hk, h⟩ := h
    refine ⟨b5, b6, b8, a3, ce, he, ?_⟩
    have a0 := hk.blk a0 (by simp)
    have a1 := hk.blk a1 (by simp)
    refine thenW_in fun da cp => ?_
    have ai := Blk.of_new cp
    have ex := ((Ext.refl (fun b => b ∈ ([] : List Nat)) ay)).size
    have au := Nat.ne_of_lt a0.lt
    have a0 := a0.x_alloc cp
    have aw := Nat.ne_of_lt a1.lt
    have a1 := a1.x_alloc cp
    have f9 := (Ext.refl (fun b => b ∈ ([] : List Nat)) ay).x_alloc cp
    refine ⟨ai.cani 0 rfl rfl, thenW_in fun f1 b9 => ?_⟩
    have cg := f9.x_set (q := ay.heap.size) (i := 0) rfl (.inr ex) b9
    have a0 := a0.oth (q := ay.heap.size) (i := 0) rfl au b9
    have a1 := a1.oth (q := ay.heap.size) (i := 0) rfl aw b9
    have ai := ai.seti 0 rfl b9
    refine ⟨ai.cani 1 rfl rfl, thenW_in fun cb ba => ?_⟩
    have c8 := cg.x_set (q := ay.heap.size) (i := 1) rfl (.inr ex) ba
    have a0 := a0.oth (q := ay.heap.size) (i := 1) rfl au ba
    have a1 := a1.oth (q := ay.heap.size) (i := 1) rfl aw ba
    have ai := ai.seti 1 rfl ba
    rotate_left
    have h := h1'
    refine thenW_in fun cj co => ?_
    have ai := Blk.of_new co
    have ex := ((Ext.refl (fun b => b ∈ ([] : List Nat)) ad)).size
    have au := Nat.ne_of_lt a0.lt
    have a0 := a0.x_alloc co
    have aw := Nat.ne_of_lt a1.lt
    have a1 := a1.x_alloc co
    have fh := (Ext.refl (fun b => b ∈ ([] : List Nat)) ad).x_alloc co
    have h := h cj (ad.heap.size) fh (PrivJ.cons (.inr ex) ai.lt PrivJ.nil)
    obtain ⟨g2, h⟩ := h
    refine ⟨g2, ?_⟩
    have h := h cj [] (Ext.refl no cj) Priv.nil
    refine h.mono fun k0 b0 h => ?_
    obtain ⟨b5, b6, b8, a3, cc, he, hkL, hk, h⟩ := h
    refine ⟨b5, b6, b8, a3, cc, he, ?_⟩
    have a0 := hk.blk a0 (by simp)
    have a1 := hk.blk a1 (by simp)
    have ai := hk.blk ai (by simp)
    have h := h b0 (Ext.refl (fun b => b ∈ ([] : List Nat)) b0)
    have f0 : Ext (fun b => b = ad.heap.size) b0 b0 := ((Ext.refl no b0)).none
    refine ⟨ai.cani 0 rfl rfl, thenW_in fun kj cl => ?_⟩
    have g0 := f0.x_set (q := ad.heap.size) (i := 0) rfl (.inl rfl) cl
    have a0 := a0.oth (q := ad.heap.size) (i := 0) rfl au cl
    have a1 := a1.oth (q := ad.heap.size) (i := 0) rfl aw cl
    have ai := ai.seti 0 rfl cl
    refine ⟨ai.cani 1 rfl rfl, thenW_in fun cb bm => ?_⟩
    have c8 := g0.x_set (q := ad.heap.size) (i := 1) rfl (.inl rfl) bm
    have a0 := a0.oth (q := ad.heap.size) (i := 1) rfl au bm
    have a1 := a1.oth (q := ad.heap.size) (i := 1) rfl aw bm
    have ai := ai.seti 1 rfl bm
    rotate_left
   rotate_left 2
   have h := h1'
   refine thenW_in fun g7 cv => ?_
   have ai := Blk.of_new cv
   have ex := (bl).size
   have au := Nat.ne_of_lt a0.lt
   have a0 := a0.x_alloc cv
   have aw := Nat.ne_of_lt a1.lt
   have a1 := a1.x_alloc cv
   have dc := bl.x_alloc cv
   refine ⟨⟨a0.celli 0 rfl rfl, a0.celli 1 rfl rfl, a0.celli 2 rfl rfl, a0.celli 3 rfl rfl, a0.celli 4 rfl rfl, a0.celli 5 rfl rfl, trivial⟩, cellsAt_no (dc) d6, ?_⟩
   have h := h g7 [ah.heap.size] dc (Priv.cons ex ai.lt Priv.nil)
   refine h.mono fun jr db h => ?_
   obtain ⟨cs, ed, bs, ch, bu, bt, bp, cu, cy, d1, he, hkL, hk, h⟩ := h
   refine ⟨cs, ed, bs, ch, bu, bt, bp, cu, cy, d1, he, ?_⟩
   have ai := hkL.blk ai (by simp)
   have a0 := hk.blk a0 (by simp)
   have a1 := hk.blk a1 (by simp)
   obtain ⟨f4, h⟩ := h
   refine ⟨f4, ?_⟩
   have h := h db [ah.heap.size] (Ext.refl (fun b => b ∈ ([ah.heap.size] : List Nat)) db) (PrivJ.cons (.inl (by simp)) ai.lt PrivJ.nil)
   refine h.mono fun k5 da h => ?_
   obtain ⟨b5, b6, b8, a3, cf, he, hkL, hk, h⟩ := h
   refine ⟨b5, b6, b8, a3, cf, he, ?_⟩
   have ai := hkL.blk ai (by simp)
   have a0 := hk.blk a0 (by simp)
   have a1 := hk.blk a1 (by simp)
   refine ⟨ai.cani 0 rfl rfl, thenW_in fun f1 b9 => ?_⟩
   have cg := (Ext.refl (fun b => b ∈ ([ah.heap.size] : List Nat)) da).x_set (q := ah.heap.size) (i := 0) rfl (.inl (by simp)) b9
   have a0 := a0.oth (q := ah.heap.size) (i := 0) rfl au b9
   have a1 := a1.oth (q := ah.heap.size) (i := 0) rfl aw b9
   have ai := ai.seti 0 rfl b9
   refine ⟨ai.cani 1 rfl rfl, thenW_in fun cb ba => ?_⟩
   have c8 := cg.x_set (q := ah.heap.size) (i := 1) rfl (.inl (by simp)) ba
   have a0 := a0.oth (q := ah.heap.size) (i := 1) rfl au ba
   have a1 := a1.oth (q := ah.heap.size) (i := 1) rfl aw ba
   have ai := ai.seti 1 rfl ba
   rotate_left
   all_goals
    unfold cachettelaw13_EpochsShared.J4
    refine ⟨b5, b6, b8, a3, ⟨ai.celli 0 rfl rfl, ai.celli 1 rfl rfl, trivial⟩, ?_⟩
    refine elim_some az ?_
    have h := h cb c8
    obtain ⟨hcs, hof, h⟩ := h
    refine ⟨hcs, thenW_in fun kk e4 => ?_⟩
    replace h := thenW_out h e4
    have a0 := a0.off (by rw [block_add]; exact hof _ (by simp)) e4
    have a1 := a1.off (by rw [block_add]; exact hof _ (by simp)) e4
    obtain ⟨hcs, h⟩ := h
    refine ⟨hcs, thenW_in fun jy el => ?_⟩
    replace h := thenW_out h el
    have a0 := a0.off (by rw [block_add]; exact hof _ (by simp)) el
    have a1 := a1.off (by rw [block_add]; exact hof _ (by simp)) el
    obtain ⟨I2, gx, h0, h⟩ := h
    refine ⟨fun k vs ww => Blk ww bw.heap.size 52 [.int .i64 ax, .int .i64 bc, .int .u64 af, .int .i64 ag, .slice a8 aa a5, .slice an ar aq] ∧ Blk ww bd.heap.size 43 [.slice c0 c1 bx, .int .i64 ab] ∧ I2 k vs ww, gx, ⟨a0, a1, h0⟩, fun i8 ft im hI => ?_⟩
    obtain ⟨a0, a1, hI⟩ := hI
    have h := h i8 ft im hI
    refine bif_fo (fun e0 => ?_) (fun e0 => ?_)
    ·have h := h.2 (Int.not_lt.1 (of_decide_eq_false e0))
     obtain ⟨b4, b1, h⟩ := h
     try rw [w64 b4 b1]
     obtain ⟨gs, hk, h⟩ := h
     exact ⟨gs, hk, h⟩
    have h := h.1 (of_decide_eq_true e0)
    unfold cachettelaw13_EpochsShared.J3
    refine ⟨c0, c1, bx, ab, ⟨a1.celli 0 rfl rfl, a1.celli 1 rfl rfl, trivial⟩, ?_⟩
    refine h.mono fun k7 a2 h => ?_
    obtain ⟨al, a4, ak, bk, bf, cn, he, hk, h⟩ := h
    refine ⟨al, a4, ak, bk, bf, cn, he, ?_⟩
    have a0 := hk.blk a0 (by simp)
    have a1 := hk.blk a1 (by simp)
    refine thenW_in fun jl cq => ?_
    have bh := Blk.of_new cq
    have f3 := ((Ext.refl no a2)).size
    have bg := Nat.ne_of_lt a0.lt
    have a0 := a0.x_alloc cq
    have bi := Nat.ne_of_lt a1.lt
    have a1 := a1.x_alloc cq
    have g8 := (Ext.refl no a2).x_alloc cq
    refine ⟨bh.cani 0 rfl rfl, thenW_in fun fe d3 => ?_⟩
    have ez := g8.x_set (q := a2.heap.size) (i := 0) rfl (.inr f3) d3
    have a0 := a0.oth (q := a2.heap.size) (i := 0) rfl bg d3
    have a1 := a1.oth (q := a2.heap.size) (i := 0) rfl bi d3
    have bh : Blk fe a2.heap.size 70 [.int .i64 al, .int .u64 0, .int .i64 0, .int .i64 0, .int .i64 0] := bh.seti 0 rfl d3
    refine ⟨bh.cani 1 rfl rfl, thenW_in fun g9 cr => ?_⟩
    have ff := ez.x_set (q := a2.heap.size) (i := 1) rfl (.inr f3) cr
    have a0 := a0.oth (q := a2.heap.size) (i := 1) rfl bg cr
    have a1 := a1.oth (q := a2.heap.size) (i := 1) rfl bi cr
    have bh : Blk g9 a2.heap.size 70 [.int .i64 al, .int .u64 a4, .int .i64 0, .int .i64 0, .int .i64 0] := bh.seti 1 rfl cr
    refine ⟨bh.cani 2 rfl rfl, thenW_in fun fd cw => ?_⟩
    have g6 := ff.x_set (q := a2.heap.size) (i := 2) rfl (.inr f3) cw
    have a0 := a0.oth (q := a2.heap.size) (i := 2) rfl bg cw
    have a1 := a1.oth (q := a2.heap.size) (i := 2) rfl bi cw
    have bh : Blk fd a2.heap.size 70 [.int .i64 al, .int .u64 a4, .int .i64 ak, .int .i64 0, .int .i64 0] := bh.seti 2 rfl cw
    refine ⟨bh.cani 3 rfl rfl, thenW_in fun f5 cm => ?_⟩
    have fv := g6.x_set (q := a2.heap.size) (i := 3) rfl (.inr f3) cm
    have a0 := a0.oth (q := a2.heap.size) (i := 3) rfl bg cm
    have a1 := a1.oth (q := a2.heap.size) (i := 3) rfl bi cm
    have bh : Blk f5 a2.heap.size 70 [.int .i64 al, .int .u64 a4, .int .i64 ak, .int .i64 bk, .int .i64 0] := bh.seti 3 rfl cm
    refine ⟨bh.cani 4 rfl rfl, thenW_in fun fx cz => ?_⟩
    have c5 := fv.x_set (q := a2.heap.size) (i := 4) rfl (.inr f3) cz
    have a0 := a0.oth (q := a2.heap.size) (i := 4) rfl bg cz
    have a1 := a1.oth (q := a2.heap.size) (i := 4) rfl bi cz
    have bh : Blk fx a2.heap.size 70 [.int .i64 al, .int .u64 a4, .int .i64 ak, .int .i64 bk, .int .i64 bf] := bh.seti 4 rfl cz
    refine bif_fo (fun ef => ?_) (fun ef => ?_)
    ·have h := h.2 ef
     first | unfold cachettelaw13_EpochsShared.J1 | unfold cachettelaw13_EpochsShared.J2
     refine thenW_in fun fs e1 => ?_
     have d5 := c5.x_drew e1
     have a0 := a0.x_drew e1
     have a1 := a1.x_drew e1
     refine elim_some az ?_
     obtain ⟨b2, b3, h⟩ := h
     refine ⟨b2, b3, ?_⟩
     obtain ⟨gj, ga, h⟩ := h
     refine ⟨gj, (d5).cell ga id, ?_⟩
     refine ⟨ax, bc, af, ag, a8, aa, a5, an, ar, aq, ⟨a0.celli 0 rfl rfl, a0.celli 1 rfl rfl, a0.celli 2 rfl rfl, a0.celli 3 rfl rfl, a0.celli 4 rfl rfl, a0.celli 5 rfl rfl, trivial⟩, ?_⟩
     have h := h fs d5
     refine h.mono fun jh g4 h => ?_
     obtain ⟨c9, he, hk, h⟩ := h
     refine ⟨c9, he, ?_⟩
     have a0 := hk.blk a0 (by simp)
     have a1 := hk.blk a1 (by simp)
     refine thenW_in fun fo df => ?_
     have de := (Ext.refl no g4).x_drew df
     have a0 := a0.x_drew df
     have a1 := a1.x_drew df
     refine elim_some az ?_
     obtain ⟨b2, b3, h⟩ := h
     refine ⟨b2, b3, ?_⟩
     obtain ⟨gu, fc, h⟩ := h
     refine ⟨gu, (de).cell fc id, ?_⟩
     refine ⟨ab, a1.celli 1 rfl rfl, ?_⟩
     have h := h fo de
     refine h.mono fun ks jn h => ?_
     obtain ⟨ej, ep, he, hk, h⟩ := h
     refine ⟨ej, ep, he, ?_⟩
     have a0 := hk.blk a0 (by simp)
     have a1 := hk.blk a1 (by simp)
     refine bif_of (fun dx => ?_) (fun dx => ?_)
     ·have h := h.1 (bne_t dx)
      exact h
     have h := h.2 (bne_f dx)
     refine bif_of (fun du => ?_) (fun du => ?_)
     ·have h := h.1 (bne_t du)
      exact h
     have h := h.2 (bne_f du)
     refine bif_of (fun eo => ?_) (fun eo => ?_)
     ·have h := h.1 (bne_t eo)
      exact h
     have h := h.2 (bne_f eo)
     obtain ⟨I4, ih, h0, h⟩ := h
     refine ⟨fun k vs ww => Blk ww bw.heap.size 52 [.int .i64 ax, .int .i64 bc, .int .u64 af, .int .i64 ag, .slice a8 aa a5, .slice an ar aq] ∧ Blk ww bd.heap.size 43 [.slice c0 c1 bx, .int .i64 ab] ∧ I4 k vs ww, ih, ⟨a0, a1, h0⟩, fun gm fu ip hI => ?_⟩
     obtain ⟨a0, a1, hI⟩ := hI
     have h := h gm fu ip hI
     refine bif_of (fun dy => ?_) (fun dy => ?_)
     ·have h := h.1 (of_decide_eq_true dy)
      obtain ⟨b4, b1, h⟩ := h
      try rw [w64 b4 b1]
      obtain ⟨il, hk, h⟩ := h
      exact ⟨il, hk, a0, a1, h⟩
     have h := h.2 (Int.not_lt.1 (of_decide_eq_false dy))
     obtain ⟨b4, b1, h⟩ := h
     try rw [w64 b4 b1]
     obtain ⟨i9, hk, h⟩ := h
     exact ⟨i9, hk, a0, a1, h⟩
    have h := h.1 ef
    refine ⟨bk, bh.celli 3 rfl rfl, ?_⟩
    refine bif_fo (fun dv => ?_) (fun dv => ?_)
    ·have h := h.2 (beq_f dv)
     first | unfold cachettelaw13_EpochsShared.J1 | unfold cachettelaw13_EpochsShared.J2
     refine thenW_in fun fr dz => ?_
     have d4 := c5.x_drew dz
     have a0 := a0.x_drew dz
     have a1 := a1.x_drew dz
     refine elim_some az ?_
     obtain ⟨b2, b3, h⟩ := h
     refine ⟨b2, b3, ?_⟩
     obtain ⟨i5, fl, h⟩ := h
     refine ⟨i5, (d4).cell fl id, ?_⟩
     refine ⟨ax, bc, af, ag, a8, aa, a5, an, ar, aq, ⟨a0.celli 0 rfl rfl, a0.celli 1 rfl rfl, a0.celli 2 rfl rfl, a0.celli 3 rfl rfl, a0.celli 4 rfl rfl, a0.celli 5 rfl rfl, trivial⟩, ?_⟩
     have h := h fr d4
     refine h.mono fun ju g3 h => ?_
     obtain ⟨c7, he, hk, h⟩ := h
     refine ⟨c7, he, ?_⟩
     have a0 := hk.blk a0 (by simp)
     have a1 := hk.blk a1 (by simp)
     refine thenW_in fun fq eg => ?_
     have d8 := (Ext.refl no g3).x_drew eg
     have a0 := a0.x_drew eg
     have a1 := a1.x_drew eg
     refine elim_some az ?_
     obtain ⟨b2, b3, h⟩ := h
     refine ⟨b2, b3, ?_⟩
     obtain ⟨i2, fz, h⟩ := h
     refine ⟨i2, (d8).cell fz id, ?_⟩
     refine ⟨ab, a1.celli 1 rfl rfl, ?_⟩
     have h := h fq d8
     refine h.mono fun jp jf h => ?_
     obtain ⟨ds, ek, he, hk, h⟩ := h
     refine ⟨ds, ek, he, ?_⟩
     have a0 := hk.blk a0 (by simp)
     have a1 := hk.blk a1 (by simp)
     refine bif_of (fun dp => ?_) (fun dp => ?_)
     ·have h := h.1 (bne_t dp)
      exact h
     have h := h.2 (bne_f dp)
     refine bif_of (fun e8 => ?_) (fun e8 => ?_)
     ·have h := h.1 (bne_t e8)
      exact h
     have h := h.2 (bne_f e8)
     refine bif_of (fun eq => ?_) (fun eq => ?_)
     ·have h := h.1 (bne_t eq)
      exact h
     have h := h.2 (bne_f eq)
     obtain ⟨I4, gp, h0, h⟩ := h
     refine ⟨fun k vs ww => Blk ww bw.heap.size 52 [.int .i64 ax, .int .i64 bc, .int .u64 af, .int .i64 ag, .slice a8 aa a5, .slice an ar aq] ∧ Blk ww bd.heap.size 43 [.slice c0 c1 bx, .int .i64 ab] ∧ I4 k vs ww, gp, ⟨a0, a1, h0⟩, fun i6 f7 gi hI => ?_⟩
     obtain ⟨a0, a1, hI⟩ := hI
     have h := h i6 f7 gi hI
     refine bif_of (fun em => ?_) (fun em => ?_)
     ·have h := h.1 (of_decide_eq_true em)
      obtain ⟨b4, b1, h⟩ := h
      try rw [w64 b4 b1]
      obtain ⟨gw, hk, h⟩ := h
      exact ⟨gw, hk, a0, a1, h⟩
     have h := h.2 (Int.not_lt.1 (of_decide_eq_false em))
     obtain ⟨b4, b1, h⟩ := h
     try rw [w64 b4 b1]
     obtain ⟨io, hk, h⟩ := h
     exact ⟨io, hk, a0, a1, h⟩
    have h := h.1 (beq_t dv)
    refine ⟨ak, bh.celli 2 rfl rfl, ?_⟩
    refine ⟨ab, a1.celli 1 rfl rfl, ?_⟩
    first | unfold cachettelaw13_EpochsShared.J1 | unfold cachettelaw13_EpochsShared.J2
    refine thenW_in fun fa dh => ?_
    have d7 := c5.x_drew dh
    have a0 := a0.x_drew dh
    have a1 := a1.x_drew dh
    refine elim_some az ?_
    obtain ⟨b2, b3, h⟩ := h
    refine ⟨b2, b3, ?_⟩
    obtain ⟨gv, fj, h⟩ := h
    refine ⟨gv, (d7).cell fj id, ?_⟩
    refine ⟨ax, bc, af, ag, a8, aa, a5, an, ar, aq, ⟨a0.celli 0 rfl rfl, a0.celli 1 rfl rfl, a0.celli 2 rfl rfl, a0.celli 3 rfl rfl, a0.celli 4 rfl rfl, a0.celli 5 rfl rfl, trivial⟩, ?_⟩
    have h := h fa d7
    refine h.mono fun ka fm h => ?_
    obtain ⟨c4, he, hk, h⟩ := h
    refine ⟨c4, he, ?_⟩
    have a0 := hk.blk a0 (by simp)
    have a1 := hk.blk a1 (by simp)
    refine thenW_in fun g1 e2 => ?_
    have d9 := (Ext.refl no fm).x_drew e2
    have a0 := a0.x_drew e2
    have a1 := a1.x_drew e2
    refine elim_some az ?_
    obtain ⟨b2, b3, h⟩ := h
    refine ⟨b2, b3, ?_⟩
    obtain ⟨gq, fg, h⟩ := h
    refine ⟨gq, (d9).cell fg id, ?_⟩
    refine ⟨ab, a1.celli 1 rfl rfl, ?_⟩
    have h := h g1 d9
    refine h.mono fun kq js h => ?_
    obtain ⟨eh, dg, he, hk, h⟩ := h
    refine ⟨eh, dg, he, ?_⟩
    have a0 := hk.blk a0 (by simp)
    have a1 := hk.blk a1 (by simp)
    refine bif_fo (fun bj => ?_) (fun bj => ?_)
    ·have h := h.2 (Int.not_le.1 (of_decide_eq_false bj))
     refine bif_tt (by rw [bj]; rfl) ?_
     refine bif_of (fun e6 => ?_) (fun e6 => ?_)
     ·have h := h.1 (bne_t e6)
      exact h
     have h := h.2 (bne_f e6)
     refine bif_of (fun er => ?_) (fun er => ?_)
     ·have h := h.1 (bne_t er)
      exact h
     have h := h.2 (bne_f er)
     refine bif_of (fun dw => ?_) (fun dw => ?_)
     ·have h := h.1 (bne_t dw)
      exact h
     have h := h.2 (bne_f dw)
     obtain ⟨I4, gr, h0, h⟩ := h
     refine ⟨fun k vs ww => Blk ww bw.heap.size 52 [.int .i64 ax, .int .i64 bc, .int .u64 af, .int .i64 ag, .slice a8 aa a5, .slice an ar aq] ∧ Blk ww bd.heap.size 43 [.slice c0 c1 bx, .int .i64 ab] ∧ I4 k vs ww, gr, ⟨a0, a1, h0⟩, fun ig gb ib hI => ?_⟩
     obtain ⟨a0, a1, hI⟩ := hI
     have h := h ig gb ib hI
     refine bif_fo (fun e3 => ?_) (fun e3 => ?_)
     ·have h := h.2 (Int.not_lt.1 (of_decide_eq_false e3))
      obtain ⟨b4, b1, h⟩ := h
      try rw [w64 b4 b1]
      obtain ⟨gk, hk, h⟩ := h
      exact ⟨gk, hk, a0, a1, h⟩
     have h := h.1 (of_decide_eq_true e3)
     refine bif_ff bj ?_
     obtain ⟨b4, b1, h⟩ := h
     try rw [w64 b4 b1]
     obtain ⟨gn, hk, h⟩ := h
     exact ⟨gn, hk, a0, a1, h⟩
    have h := h.1 (of_decide_eq_true bj)
    refine bif_of (fun eb => ?_) (fun eb => ?_)
    ·have h := h.1 (bne_t eb)
     exact h
    have h := h.2 (bne_f eb)
    refine bif_of (fun ee => ?_) (fun ee => ?_)
    ·have h := h.1 (bne_t ee)
     exact h
    have h := h.2 (bne_f ee)
    refine bif_of (fun dl => ?_) (fun dl => ?_)
    ·have h := h.1 (bne_t dl)
     exact h
    have h := h.2 (bne_f dl)
    refine bif_ff (by rw [bj]; rfl) ?_
    obtain ⟨I4, ii, h0, h⟩ := h
    refine ⟨fun k vs ww => Blk ww bw.heap.size 52 [.int .i64 ax, .int .i64 bc, .int .u64 af, .int .i64 ag, .slice a8 aa a5, .slice an ar aq] ∧ Blk ww bd.heap.size 43 [.slice c0 c1 bx, .int .i64 ab] ∧ I4 k vs ww, ii, ⟨a0, a1, h0⟩, fun i4 fy ik hI => ?_⟩
    obtain ⟨a0, a1, hI⟩ := hI
    have h := h i4 fy ik hI
    refine bif_fo (fun dq => ?_) (fun dq => ?_)
    ·have h := h.2 (Int.not_lt.1 (of_decide_eq_false dq))
     obtain ⟨b4, b1, h⟩ := h
     try rw [w64 b4 b1]
     obtain ⟨ij, hk, h⟩ := h
     exact ⟨ij, hk, a0, a1, h⟩
    have h := h.1 (of_decide_eq_true dq)
    refine bif_tt bj ?_
    refine elim_some az ?_
    obtain ⟨b2, b3, h⟩ := h
    refine ⟨b2, b3, ?_⟩
    obtain ⟨ie, fi, h⟩ := h
    refine ⟨ie, fi, ?_⟩
    refine h.mono fun kn k4 h => ?_
    obtain ⟨dm, ea, he, hk, h⟩ := h
    refine ⟨dm, ea, he, ?_⟩
    have a0 := hk.blk a0 (by simp)
    have a1 := hk.blk a1 (by simp)
    refine bif_of (fun dr => ?_) (fun dr => ?_)
    ·have h := h.1 (bne_t dr)
     exact h
    have h := h.2 (bne_f dr)
    obtain ⟨lq, fk, h⟩ := h
    refine elim_some fk ?_
    obtain ⟨b2, b3, h⟩ := h
    refine ⟨b2, b3, ?_⟩
    obtain ⟨gy, gc, h⟩ := h
    refine ⟨gy, gc, ?_⟩
    refine bif_of (fun es => ?_) (fun es => ?_)
    ·have h := h.1 (bne_t es)
     exact h
    have h := h.2 (bne_f es)
    obtain ⟨b4, b1, h⟩ := h
    try rw [w64 b4 b1]
    obtain ⟨i3, hk, h⟩ := h
    exact ⟨i3, hk, a0, a1, h⟩
  refine thenW_in fun kf i1 => ?_
  have a1 := Blk.of_new i1
  have jt := (et).size
  have dd := Nat.ne_of_lt a0.lt
  have a0 := a0.x_alloc i1
  have gh := et.x_alloc i1
  refine ⟨⟨a0.celli 0 rfl rfl, a0.celli 1 rfl rfl, a0.celli 2 rfl rfl, a0.celli 3 rfl rfl, a0.celli 4 rfl rfl, a0.celli 5 rfl rfl, trivial⟩, cellsAt_no (gh) gf, ?_⟩
  have h := h kf [b7.heap.size] gh (Priv.cons jt a1.lt Priv.nil)
  refine h.mono fun m2 ge h => ?_
  obtain ⟨bz, c2, c3, ac, fp, he, hkL, hk, h⟩ := h
  refine ⟨bz, c2, c3, ac, fp, he, ?_⟩
  have a1 := hkL.blk a1 (by simp)
  have a0 := hk.blk a0 (by simp)
  refine ⟨a1.cani 0 rfl rfl, thenW_in fun k8 e9 => ?_⟩
  have ey := (Ext.refl (fun b => b ∈ ([b7.heap.size] : List Nat)) ge).x_set (q := b7.heap.size) (i := 0) rfl (.inl (by simp)) e9
  have a0 := a0.oth (q := b7.heap.size) (i := 0) rfl dd e9
  have a1 := a1.seti 0 rfl e9
  refine ⟨a1.cani 1 rfl rfl, thenW_in fun ca dj => ?_⟩
  have ci := ey.x_set (q := b7.heap.size) (i := 1) rfl (.inl (by simp)) dj
  have a0 := a0.oth (q := b7.heap.size) (i := 1) rfl dd dj
  have a1 := a1.seti 1 rfl dj
  unfold cachettelaw13_EpochsShared.J6
  refine bif_of (fun e5 => ?_) (fun e5 => ?_)
  ·have h := h.1 (bne_t e5)
   refine bif_fo (fun dn => ?_) (fun dn => ?_)
   ·have h := h.2 (beq_f dn)
    have h := h ca ci
    exact h
   have h := h.1 (beq_t dn)
   have h := h ca ci
   refine h.mono fun kl k6 h => ?_
   obtain ⟨ck, he, h⟩ := h
   refine ⟨ck, he, ?_⟩
   exact h
  have h := h.2 (bne_f e5)
  unfold cachettelaw13_EpochsShared.J5
  refine ⟨bz, c2, c3, ac, ⟨a1.celli 0 rfl rfl, a1.celli 1 rfl rfl, trivial⟩, ?_⟩
  refine elim_some az ?_
  have h := h ca (b7.heap.size) ci (PrivJ.cons (.inl (by simp)) a1.lt PrivJ.nil)
  obtain ⟨hcs, hof, h⟩ := h
  refine ⟨hcs, thenW_in fun jx ec => ?_⟩
  replace h := thenW_out h ec
  have a0 := a0.off (by rw [block_add]; exact hof _ (by simp)) ec
  have a1 := a1.off (by rw [block_add]; exact hof _ (by simp)) ec
  obtain ⟨hcs, h⟩ := h
  refine ⟨hcs, thenW_in fun fw di => ?_⟩
  replace h := thenW_out h di
  have a0 := a0.off (by rw [block_add]; exact hof _ (by simp)) di
  have a1 := a1.off (by rw [block_add]; exact hof _ (by simp)) di
  refine thenW_in fun ah en => ?_
  have bl := (Ext.refl no fw).x_drew en
  have a0 := a0.x_drew en
  have a1 := a1.x_drew en
  refine elim_some az ?_
  obtain ⟨dk, dt, ei, bq, d6, h⟩ := h
  refine ⟨dk, dt, ei, bq, cellsAt_no (bl) d6, ?_⟩
  refine ⟨ax, bc, af, ag, a8, aa, a5, an, ar, aq, ⟨a0.celli 0 rfl rfl, a0.celli 1 rfl rfl, a0.celli 2 rfl rfl, a0.celli 3 rfl rfl, a0.celli 4 rfl rfl, a0.celli 5 rfl rfl, trivial⟩, ?_⟩
  obtain ⟨h0', h1'⟩ := h
  refine ⟨?_, ?_⟩
  focus
   have h := h0'
   have h := h ah [] bl Priv.nil
   refine h.mono fun k1 ad h => ?_
   obtain ⟨ct, e7, br, cd, bo, bn, bv, cx, d2, d0, he, hkL, hk, h⟩ := h
   refine ⟨ct, e7, br, cd, bo, bn, bv, cx, d2, d0, he, ?_⟩
   have a0 := hk.blk a0 (by simp)
   have a1 := hk.blk a1 (by simp)
   obtain ⟨f6, h⟩ := h
   refine ⟨f6, ?_⟩
   obtain ⟨h0', h1'⟩ := h
   refine ⟨?_, ?_⟩
   have h := h0'
   have h := h ad [] (Ext.refl (fun b => b ∈ ([] : List Nat)) ad) PrivJ.nil
   refine h.mono fun jd ay h => ?_
   obtain ⟨b5, b6, b8, a3, ce, he, hkL, hk, h⟩ := h
   refine ⟨b5, b6, b8, a3, ce, he, ?_⟩
   have a0 := hk.blk a0 (by simp)
   have a1 := hk.blk a1 (by simp)
   refine thenW_in fun da cp => ?_
   have ai := Blk.of_new cp
   have ex := ((Ext.refl (fun b => b ∈ ([] : List Nat)) ay)).size
   have au := Nat.ne_of_lt a0.lt
   have a0 := a0.x_alloc cp
   have aw := Nat.ne_of_lt a1.lt
   have a1 := a1.x_alloc cp
   have f9 := (Ext.refl (fun b => b ∈ ([] : List Nat)) ay).x_alloc cp
   refine ⟨ai.cani 0 rfl rfl, thenW_in fun f1 b9 => ?_⟩
   have cg := f9.x_set (q := ay.heap.size) (i := 0) rfl (.inr ex) b9
   have a0 := a0.oth (q := ay.heap.size) (i := 0) rfl au b9
   have a1 := a1.oth (q := ay.heap.size) (i := 0) rfl aw b9
   have ai := ai.seti 0 rfl b9
   refine ⟨ai.cani 1 rfl rfl, thenW_in fun cb ba => ?_⟩
   have c8 := cg.x_set (q := ay.heap.size) (i := 1) rfl (.inr ex) ba
   have a0 := a0.oth (q := ay.heap.size) (i := 1) rfl au ba
   have a1 := a1.oth (q := ay.heap.size) (i := 1) rfl aw ba
   have ai := ai.seti 1 rfl ba
   rotate_left
   have h := h1'
   refine thenW_in fun cj co => ?_
   have ai := Blk.of_new co
   have ex := ((Ext.refl (fun b => b ∈ ([] : List Nat)) ad)).size
   have au := Nat.ne_of_lt a0.lt
   have a0 := a0.x_alloc co
   have aw := Nat.ne_of_lt a1.lt
   have a1 := a1.x_alloc co
   have fh := (Ext.refl (fun b => b ∈ ([] : List Nat)) ad).x_alloc co
   have h := h cj (ad.heap.size) fh (PrivJ.cons (.inr ex) ai.lt PrivJ.nil)
   obtain ⟨g2, h⟩ := h
   refine ⟨g2, ?_⟩
   have h := h cj [] (Ext.refl no cj) Priv.nil
   refine h.mono fun k0 b0 h => ?_
   obtain ⟨b5, b6, b8, a3, cc, he, hkL, hk, h⟩ := h
   refine ⟨b5, b6, b8, a3, cc, he, ?_⟩
   have a0 := hk.blk a0 (by simp)
   have a1 := hk.blk a1 (by simp)
   have ai := hk.blk ai (by simp)
   have h := h b0 (Ext.refl (fun b => b ∈ ([] : List Nat)) b0)
   have f0 : Ext (fun b => b = ad.heap.size) b0 b0 := ((Ext.refl no b0)).none
   refine ⟨ai.cani 0 rfl rfl, thenW_in fun kj cl => ?_⟩
   have g0 := f0.x_set (q := ad.heap.size) (i := 0) rfl (.inl rfl) cl
   have a0 := a0.oth (q := ad.heap.size) (i := 0) rfl au cl
   have a1 := a1.oth (q := ad.heap.size) (i := 0) rfl aw cl
   have ai := ai.seti 0 rfl cl
   refine ⟨ai.cani 1 rfl rfl, thenW_in fun cb bm => ?_⟩
   have c8 := g0.x_set (q := ad.heap.size) (i := 1) rfl (.inl rfl) bm
   have a0 := a0.oth (q := ad.heap.size) (i := 1) rfl au bm
   have a1 := a1.oth (q := ad.heap.size) (i := 1) rfl aw bm
   have ai := ai.seti 1 rfl bm
   rotate_left
  rotate_left 2
  have h := h1'
  refine thenW_in fun g7 cv => ?_
  have ai := Blk.of_new cv
  have ex := (bl).size
  have au := Nat.ne_of_lt a0.lt
  have a0 := a0.x_alloc cv
  have aw := Nat.ne_of_lt a1.lt
  have a1 := a1.x_alloc cv
  have dc := bl.x_alloc cv
  refine ⟨⟨a0.celli 0 rfl rfl, a0.celli 1 rfl rfl, a0.celli 2 rfl rfl, a0.celli 3 rfl rfl, a0.celli 4 rfl rfl, a0.celli 5 rfl rfl, trivial⟩, cellsAt_no (dc) d6, ?_⟩
  have h := h g7 [ah.heap.size] dc (Priv.cons ex ai.lt Priv.nil)
  refine h.mono fun jr db h => ?_
  obtain ⟨cs, ed, bs, ch, bu, bt, bp, cu, cy, d1, he, hkL, hk, h⟩ := h
  refine ⟨cs, ed, bs, ch, bu, bt, bp, cu, cy, d1, he, ?_⟩
  have ai := hkL.blk ai (by simp)
  have a0 := hk.blk a0 (by simp)
  have a1 := hk.blk a1 (by simp)
  obtain ⟨f4, h⟩ := h
  refine ⟨f4, ?_⟩
  have h := h db [ah.heap.size] (Ext.refl (fun b => b ∈ ([ah.heap.size] : List Nat)) db) (PrivJ.cons (.inl (by simp)) ai.lt PrivJ.nil)
  refine h.mono fun k5 da h => ?_
  obtain ⟨b5, b6, b8, a3, cf, he, hkL, hk, h⟩ := h
  refine ⟨b5, b6, b8, a3, cf, he, ?_⟩
  have ai := hkL.blk ai (by simp)
  have a0 := hk.blk a0 (by simp)
  have a1 := hk.blk a1 (by simp)
  refine ⟨ai.cani 0 rfl rfl, thenW_in fun f1 b9 => ?_⟩
  have cg := (Ext.refl (fun b => b ∈ ([ah.heap.size] : List Nat)) da).x_set (q := ah.heap.size) (i := 0) rfl (.inl (by simp)) b9
  have a0 := a0.oth (q := ah.heap.size) (i := 0) rfl au b9
  have a1 := a1.oth (q := ah.heap.size) (i := 0) rfl aw b9
  have ai := ai.seti 0 rfl b9
  refine ⟨ai.cani 1 rfl rfl, thenW_in fun cb ba => ?_⟩
  have c8 := cg.x_set (q := ah.heap.size) (i := 1) rfl (.inl (by simp)) ba
  have a0 := a0.oth (q := ah.heap.size) (i := 1) rfl au ba
  have a1 := a1.oth (q := ah.heap.size) (i := 1) rfl aw ba
  have ai := ai.seti 1 rfl ba
  rotate_left
  all_goals
   unfold cachettelaw13_EpochsShared.J4
   refine ⟨b5, b6, b8, a3, ⟨ai.celli 0 rfl rfl, ai.celli 1 rfl rfl, trivial⟩, ?_⟩
   refine elim_some az ?_
   have h := h cb c8
   obtain ⟨hcs, hof, h⟩ := h
   refine ⟨hcs, thenW_in fun kk e4 => ?_⟩
   replace h := thenW_out h e4
   have a0 := a0.off (by rw [block_add]; exact hof _ (by simp)) e4
   have a1 := a1.off (by rw [block_add]; exact hof _ (by simp)) e4
   obtain ⟨hcs, h⟩ := h
   refine ⟨hcs, thenW_in fun jy el => ?_⟩
   replace h := thenW_out h el
   have a0 := a0.off (by rw [block_add]; exact hof _ (by simp)) el
   have a1 := a1.off (by rw [block_add]; exact hof _ (by simp)) el
   obtain ⟨I2, gx, h0, h⟩ := h
   refine ⟨fun k vs ww => Blk ww bw.heap.size 52 [.int .i64 ax, .int .i64 bc, .int .u64 af, .int .i64 ag, .slice a8 aa a5, .slice an ar aq] ∧ Blk ww b7.heap.size 43 [.slice bz c2 c3, .int .i64 ac] ∧ I2 k vs ww, gx, ⟨a0, a1, h0⟩, fun i8 ft im hI => ?_⟩
   obtain ⟨a0, a1, hI⟩ := hI
   have h := h i8 ft im hI
   refine bif_fo (fun e0 => ?_) (fun e0 => ?_)
   ·have h := h.2 (Int.not_lt.1 (of_decide_eq_false e0))
    obtain ⟨b4, b1, h⟩ := h
    try rw [w64 b4 b1]
    obtain ⟨gs, hk, h⟩ := h
    exact ⟨gs, hk, h⟩
   have h := h.1 (of_decide_eq_true e0)
   unfold cachettelaw13_EpochsShared.J3
   refine ⟨bz, c2, c3, ac, ⟨a1.celli 0 rfl rfl, a1.celli 1 rfl rfl, trivial⟩, ?_⟩
   refine h.mono fun k7 a2 h => ?_
   obtain ⟨al, a4, ak, bk, bf, cn, he, hk, h⟩ := h
   refine ⟨al, a4, ak, bk, bf, cn, he, ?_⟩
   have a0 := hk.blk a0 (by simp)
   have a1 := hk.blk a1 (by simp)
   refine thenW_in fun jl cq => ?_
   have bh := Blk.of_new cq
   have f3 := ((Ext.refl no a2)).size
   have bg := Nat.ne_of_lt a0.lt
   have a0 := a0.x_alloc cq
   have bi := Nat.ne_of_lt a1.lt
   have a1 := a1.x_alloc cq
   have g8 := (Ext.refl no a2).x_alloc cq
   refine ⟨bh.cani 0 rfl rfl, thenW_in fun fe d3 => ?_⟩
   have ez := g8.x_set (q := a2.heap.size) (i := 0) rfl (.inr f3) d3
   have a0 := a0.oth (q := a2.heap.size) (i := 0) rfl bg d3
   have a1 := a1.oth (q := a2.heap.size) (i := 0) rfl bi d3
   have bh : Blk fe a2.heap.size 70 [.int .i64 al, .int .u64 0, .int .i64 0, .int .i64 0, .int .i64 0] := bh.seti 0 rfl d3
   refine ⟨bh.cani 1 rfl rfl, thenW_in fun g9 cr => ?_⟩
   have ff := ez.x_set (q := a2.heap.size) (i := 1) rfl (.inr f3) cr
   have a0 := a0.oth (q := a2.heap.size) (i := 1) rfl bg cr
   have a1 := a1.oth (q := a2.heap.size) (i := 1) rfl bi cr
   have bh : Blk g9 a2.heap.size 70 [.int .i64 al, .int .u64 a4, .int .i64 0, .int .i64 0, .int .i64 0] := bh.seti 1 rfl cr
   refine ⟨bh.cani 2 rfl rfl, thenW_in fun fd cw => ?_⟩
   have g6 := ff.x_set (q := a2.heap.size) (i := 2) rfl (.inr f3) cw
   have a0 := a0.oth (q := a2.heap.size) (i := 2) rfl bg cw
   have a1 := a1.oth (q := a2.heap.size) (i := 2) rfl bi cw
   have bh : Blk fd a2.heap.size 70 [.int .i64 al, .int .u64 a4, .int .i64 ak, .int .i64 0, .int .i64 0] := bh.seti 2 rfl cw
   refine ⟨bh.cani 3 rfl rfl, thenW_in fun f5 cm => ?_⟩
   have fv := g6.x_set (q := a2.heap.size) (i := 3) rfl (.inr f3) cm
   have a0 := a0.oth (q := a2.heap.size) (i := 3) rfl bg cm
   have a1 := a1.oth (q := a2.heap.size) (i := 3) rfl bi cm
   have bh : Blk f5 a2.heap.size 70 [.int .i64 al, .int .u64 a4, .int .i64 ak, .int .i64 bk, .int .i64 0] := bh.seti 3 rfl cm
   refine ⟨bh.cani 4 rfl rfl, thenW_in fun fx cz => ?_⟩
   have c5 := fv.x_set (q := a2.heap.size) (i := 4) rfl (.inr f3) cz
   have a0 := a0.oth (q := a2.heap.size) (i := 4) rfl bg cz
   have a1 := a1.oth (q := a2.heap.size) (i := 4) rfl bi cz
   have bh : Blk fx a2.heap.size 70 [.int .i64 al, .int .u64 a4, .int .i64 ak, .int .i64 bk, .int .i64 bf] := bh.seti 4 rfl cz
   refine bif_fo (fun ef => ?_) (fun ef => ?_)
   ·have h := h.2 ef
    first | unfold cachettelaw13_EpochsShared.J1 | unfold cachettelaw13_EpochsShared.J2
    refine thenW_in fun fs e1 => ?_
    have d5 := c5.x_drew e1
    have a0 := a0.x_drew e1
    have a1 := a1.x_drew e1
    refine elim_some az ?_
    obtain ⟨b2, b3, h⟩ := h
    refine ⟨b2, b3, ?_⟩
    obtain ⟨gj, ga, h⟩ := h
    refine ⟨gj, (d5).cell ga id, ?_⟩
    refine ⟨ax, bc, af, ag, a8, aa, a5, an, ar, aq, ⟨a0.celli 0 rfl rfl, a0.celli 1 rfl rfl, a0.celli 2 rfl rfl, a0.celli 3 rfl rfl, a0.celli 4 rfl rfl, a0.celli 5 rfl rfl, trivial⟩, ?_⟩
    have h := h fs d5
    refine h.mono fun jh g4 h => ?_
    obtain ⟨c9, he, hk, h⟩ := h
    refine ⟨c9, he, ?_⟩
    have a0 := hk.blk a0 (by simp)
    have a1 := hk.blk a1 (by simp)
    refine thenW_in fun fo df => ?_
    have de := (Ext.refl no g4).x_drew df
    have a0 := a0.x_drew df
    have a1 := a1.x_drew df
    refine elim_some az ?_
    obtain ⟨b2, b3, h⟩ := h
    refine ⟨b2, b3, ?_⟩
    obtain ⟨gu, fc, h⟩ := h
    refine ⟨gu, (de).cell fc id, ?_⟩
    refine ⟨ac, a1.celli 1 rfl rfl, ?_⟩
    have h := h fo de
    refine h.mono fun ks jn h => ?_
    obtain ⟨ej, ep, he, hk, h⟩ := h
    refine ⟨ej, ep, he, ?_⟩
    have a0 := hk.blk a0 (by simp)
    have a1 := hk.blk a1 (by simp)
    refine bif_of (fun dx => ?_) (fun dx => ?_)
    ·have h := h.1 (bne_t dx)
     exact h
    have h := h.2 (bne_f dx)
    refine bif_of (fun du => ?_) (fun du => ?_)
    ·have h := h.1 (bne_t du)
     exact h
    have h := h.2 (bne_f du)
    refine bif_of (fun eo => ?_) (fun eo => ?_)
    ·have h := h.1 (bne_t eo)
     exact h
    have h := h.2 (bne_f eo)
    obtain ⟨I4, ih, h0, h⟩ := h
    refine ⟨fun k vs ww => Blk ww bw.heap.size 52 [.int .i64 ax, .int .i64 bc, .int .u64 af, .int .i64 ag, .slice a8 aa a5, .slice an ar aq] ∧ Blk ww b7.heap.size 43 [.slice bz c2 c3, .int .i64 ac] ∧ I4 k vs ww, ih, ⟨a0, a1, h0⟩, fun gm fu ip hI => ?_⟩
    obtain ⟨a0, a1, hI⟩ := hI
    have h := h gm fu ip hI
    refine bif_of (fun dy => ?_) (fun dy => ?_)
    ·have h := h.1 (of_decide_eq_true dy)
     obtain ⟨b4, b1, h⟩ := h
     try rw [w64 b4 b1]
     obtain ⟨il, hk, h⟩ := h
     exact ⟨il, hk, a0, a1, h⟩
    have h := h.2 (Int.not_lt.1 (of_decide_eq_false dy))
    obtain ⟨b4, b1, h⟩ := h
    try rw [w64 b4 b1]
    obtain ⟨i9, hk, h⟩ := h
    exact ⟨i9, hk, a0, a1, h⟩
   have h := h.1 ef
   refine ⟨bk, bh.celli 3 rfl rfl, ?_⟩
   refine bif_fo (fun dv => ?_) (fun dv => ?_)
   ·have h := h.2 (beq_f dv)
    first | unfold cachettelaw13_EpochsShared.J1 | unfold cachettelaw13_EpochsShared.J2
    refine thenW_in fun fr dz => ?_
    have d4 := c5.x_drew dz
    have a0 := a0.x_drew dz
    have a1 := a1.x_drew dz
    refine elim_some az ?_
    obtain ⟨b2, b3, h⟩ := h
    refine ⟨b2, b3, ?_⟩
    obtain ⟨i5, fl, h⟩ := h
    refine ⟨i5, (d4).cell fl id, ?_⟩
    refine ⟨ax, bc, af, ag, a8, aa, a5, an, ar, aq, ⟨a0.celli 0 rfl rfl, a0.celli 1 rfl rfl, a0.celli 2 rfl rfl, a0.celli 3 rfl rfl, a0.celli 4 rfl rfl, a0.celli 5 rfl rfl, trivial⟩, ?_⟩
    have h := h fr d4
    refine h.mono fun ju g3 h => ?_
    obtain ⟨c7, he, hk, h⟩ := h
    refine ⟨c7, he, ?_⟩
    have a0 := hk.blk a0 (by simp)
    have a1 := hk.blk a1 (by simp)
    refine thenW_in fun fq eg => ?_
    have d8 := (Ext.refl no g3).x_drew eg
    have a0 := a0.x_drew eg
    have a1 := a1.x_drew eg
    refine elim_some az ?_
    obtain ⟨b2, b3, h⟩ := h
    refine ⟨b2, b3, ?_⟩
    obtain ⟨i2, fz, h⟩ := h
    refine ⟨i2, (d8).cell fz id, ?_⟩
    refine ⟨ac, a1.celli 1 rfl rfl, ?_⟩
    have h := h fq d8
    refine h.mono fun jp jf h => ?_
    obtain ⟨ds, ek, he, hk, h⟩ := h
    refine ⟨ds, ek, he, ?_⟩
    have a0 := hk.blk a0 (by simp)
    have a1 := hk.blk a1 (by simp)
    refine bif_of (fun dp => ?_) (fun dp => ?_)
    ·have h := h.1 (bne_t dp)
     exact h
    have h := h.2 (bne_f dp)
    refine bif_of (fun e8 => ?_) (fun e8 => ?_)
    ·have h := h.1 (bne_t e8)
     exact h
    have h := h.2 (bne_f e8)
    refine bif_of (fun eq => ?_) (fun eq => ?_)
    ·have h := h.1 (bne_t eq)
     exact h
    have h := h.2 (bne_f eq)
    obtain ⟨I4, gp, h0, h⟩ := h
    refine ⟨fun k vs ww => Blk ww bw.heap.size 52 [.int .i64 ax, .int .i64 bc, .int .u64 af, .int .i64 ag, .slice a8 aa a5, .slice an ar aq] ∧ Blk ww b7.heap.size 43 [.slice bz c2 c3, .int .i64 ac] ∧ I4 k vs ww, gp, ⟨a0, a1, h0⟩, fun i6 f7 gi hI => ?_⟩
    obtain ⟨a0, a1, hI⟩ := hI
    have h := h i6 f7 gi hI
    refine bif_of (fun em => ?_) (fun em => ?_)
    ·have h := h.1 (of_decide_eq_true em)
     obtain ⟨b4, b1, h⟩ := h
     try rw [w64 b4 b1]
     obtain ⟨gw, hk, h⟩ := h
     exact ⟨gw, hk, a0, a1, h⟩
    have h := h.2 (Int.not_lt.1 (of_decide_eq_false em))
    obtain ⟨b4, b1, h⟩ := h
    try rw [w64 b4 b1]
    obtain ⟨io, hk, h⟩ := h
    exact ⟨io, hk, a0, a1, h⟩
   have h := h.1 (beq_t dv)
   refine ⟨ak, bh.celli 2 rfl rfl, ?_⟩
   refine ⟨ac, a1.celli 1 rfl rfl, ?_⟩
   first | unfold cachettelaw13_EpochsShared.J1 | unfold cachettelaw13_EpochsShared.J2
   refine thenW_in fun fa dh => ?_
   have d7 := c5.x_drew dh
   have a0 := a0.x_drew dh
   have a1 := a1.x_drew dh
   refine elim_some az ?_
   obtain ⟨b2, b3, h⟩ := h
   refine ⟨b2, b3, ?_⟩
   obtain ⟨gv, fj, h⟩ := h
   refine ⟨gv, (d7).cell fj id, ?_⟩
   refine ⟨ax, bc, af, ag, a8, aa, a5, an, ar, aq, ⟨a0.celli 0 rfl rfl, a0.celli 1 rfl rfl, a0.celli 2 rfl rfl, a0.celli 3 rfl rfl, a0.celli 4 rfl rfl, a0.celli 5 rfl rfl, trivial⟩, ?_⟩
   have h := h fa d7
   refine h.mono fun ka fm h => ?_
   obtain ⟨c4, he, hk, h⟩ := h
   refine ⟨c4, he, ?_⟩
   have a0 := hk.blk a0 (by simp)
   have a1 := hk.blk a1 (by simp)
   refine thenW_in fun g1 e2 => ?_
   have d9 := (Ext.refl no fm).x_drew e2
   have a0 := a0.x_drew e2
   have a1 := a1.x_drew e2
   refine elim_some az ?_
   obtain ⟨b2, b3, h⟩ := h
   refine ⟨b2, b3, ?_⟩
   obtain ⟨gq, fg, h⟩ := h
   refine ⟨gq, (d9).cell fg id, ?_⟩
   refine ⟨ac, a1.celli 1 rfl rfl, ?_⟩
   have h := h g1 d9
   refine h.mono fun kq js h => ?_
   obtain ⟨eh, dg, he, hk, h⟩ := h
   refine ⟨eh, dg, he, ?_⟩
   have a0 := hk.blk a0 (by simp)
   have a1 := hk.blk a1 (by simp)
   refine bif_fo (fun bj => ?_) (fun bj => ?_)
   ·have h := h.2 (Int.not_le.1 (of_decide_eq_false bj))
    refine bif_tt (by rw [bj]; rfl) ?_
    refine bif_of (fun e6 => ?_) (fun e6 => ?_)
    ·have h := h.1 (bne_t e6)
     exact h
    have h := h.2 (bne_f e6)
    refine bif_of (fun er => ?_) (fun er => ?_)
    ·have h := h.1 (bne_t er)
     exact h
    have h := h.2 (bne_f er)
    refine bif_of (fun dw => ?_) (fun dw => ?_)
    ·have h := h.1 (bne_t dw)
     exact h
    have h := h.2 (bne_f dw)
    obtain ⟨I4, gr, h0, h⟩ := h
    refine ⟨fun k vs ww => Blk ww bw.heap.size 52 [.int .i64 ax, .int .i64 bc, .int .u64 af, .int .i64 ag, .slice a8 aa a5, .slice an ar aq] ∧ Blk ww b7.heap.size 43 [.slice bz c2 c3, .int .i64 ac] ∧ I4 k vs ww, gr, ⟨a0, a1, h0⟩, fun ig gb ib hI => ?_⟩
    obtain ⟨a0, a1, hI⟩ := hI
    have h := h ig gb ib hI
    refine bif_fo (fun e3 => ?_) (fun e3 => ?_)
    ·have h := h.2 (Int.not_lt.1 (of_decide_eq_false e3))
     obtain ⟨b4, b1, h⟩ := h
     try rw [w64 b4 b1]
     obtain ⟨gk, hk, h⟩ := h
     exact ⟨gk, hk, a0, a1, h⟩
    have h := h.1 (of_decide_eq_true e3)
    refine bif_ff bj ?_
    obtain ⟨b4, b1, h⟩ := h
    try rw [w64 b4 b1]
    obtain ⟨gn, hk, h⟩ := h
    exact ⟨gn, hk, a0, a1, h⟩
   have h := h.1 (of_decide_eq_true bj)
   refine bif_of (fun eb => ?_) (fun eb => ?_)
   ·have h := h.1 (bne_t eb)
    exact h
   have h := h.2 (bne_f eb)
   refine bif_of (fun ee => ?_) (fun ee => ?_)
   ·have h := h.1 (bne_t ee)
    exact h
   have h := h.2 (bne_f ee)
   refine bif_of (fun dl => ?_) (fun dl => ?_)
   ·have h := h.1 (bne_t dl)
    exact h
   have h := h.2 (bne_f dl)
   refine bif_ff (by rw [bj]; rfl) ?_
   obtain ⟨I4, ii, h0, h⟩ := h
   refine ⟨fun k vs ww => Blk ww bw.heap.size 52 [.int .i64 ax, .int .i64 bc, .int .u64 af, .int .i64 ag, .slice a8 aa a5, .slice an ar aq] ∧ Blk ww b7.heap.size 43 [.slice bz c2 c3, .int .i64 ac] ∧ I4 k vs ww, ii, ⟨a0, a1, h0⟩, fun i4 fy ik hI => ?_⟩
   obtain ⟨a0, a1, hI⟩ := hI
   have h := h i4 fy ik hI
   refine bif_fo (fun dq => ?_) (fun dq => ?_)
   ·have h := h.2 (Int.not_lt.1 (of_decide_eq_false dq))
    obtain ⟨b4, b1, h⟩ := h
    try rw [w64 b4 b1]
    obtain ⟨ij, hk, h⟩ := h
    exact ⟨ij, hk, a0, a1, h⟩
   have h := h.1 (of_decide_eq_true dq)
   refine bif_tt bj ?_
   refine elim_some az ?_
   obtain ⟨b2, b3, h⟩ := h
   refine ⟨b2, b3, ?_⟩
   obtain ⟨ie, fi, h⟩ := h
   refine ⟨ie, fi, ?_⟩
   refine h.mono fun kn k4 h => ?_
   obtain ⟨dm, ea, he, hk, h⟩ := h
   refine ⟨dm, ea, he, ?_⟩
   have a0 := hk.blk a0 (by simp)
   have a1 := hk.blk a1 (by simp)
   refine bif_of (fun dr => ?_) (fun dr => ?_)
   ·have h := h.1 (bne_t dr)
    exact h
   have h := h.2 (bne_f dr)
   obtain ⟨lq, fk, h⟩ := h
   refine elim_some fk ?_
   obtain ⟨b2, b3, h⟩ := h
   refine ⟨b2, b3, ?_⟩
   obtain ⟨gy, gc, h⟩ := h
   refine ⟨gy, gc, ?_⟩
   refine bif_of (fun es => ?_) (fun es => ?_)
   ·have h := h.1 (bne_t es)
    exact h
   have h := h.2 (bne_f es)
   obtain ⟨b4, b1, h⟩ := h
   try rw [w64 b4 b1]
   obtain ⟨i3, hk, h⟩ := h
   exact ⟨i3, hk, a0, a1, h⟩

theorem cachettelaw13_EpochsShared.go (a2 : Option Addr) (a0 : Nat) (a1 : Nat) (a3 : Option Addr) (a4 : Nat) (a5 : Nat) {R : Value → World → Prop} {w : World} (h : cachettelaw13_EpochsShared.N a2 a0 a1 a3 a4 a5 R w) : Calls Try.prog 4 #[.slice a2 a0 a1, .slice a3 a4 a5] w fun e w' => ∃ v, e = .returned v ∧ R v w' := cachettelaw13_EpochsShared.ok a2 a0 a1 a3 a4 a5 (cachettelaw13_EpochsShared.up a2 a0 a1 a3 a4 a5 h)
end Go.Proofs.Ytaifegpikhjiiaa

/- Epochs: EpochsShared. -/
set_option linter.unusedVariables false
set_option linter.unusedSimpArgs false
set_option maxRecDepth 20000
set_option maxHeartbeats 4000000
namespace Go.Proofs.Ytaifegpikhjiiaa
open Go Go.Mx Go.Proofs
section
variable {w w' w1 w2 : World} {o o' o1 : Own} {q k p N m n i b : Nat} {K : Nat → Prop} {X X' : WD} {S T : OS} {R M : Nat → RS}
theorem topE {K : Nat → Prop} {W w : World} {o : Own} (s : Step K W (fun _ => none) w o) : Ext no W w := s.ext.mono fun b ⟨_, h, _⟩ _ => by cases h
theorem off_ex (A : All w o q X S T n R M) : ∃ b, b < w.heap.size ∧ Off b q X := by
  obtain ⟨g, hg, h1, _⟩ := A.orc
  have hm := h1.used
  have hlt := hm.lt
  have ne : ∀ {r : Nat} {t : TypeId} {cs : List Value}, Blk w r t cs → g.used ≠ r := fun hb e => by
    obtain ⟨es, f, he, _⟩ := hm
    rw [e] at he
    have e2 := he.symm.trans hb
    cases e2
  refine ⟨g.used, hlt, ?_, ?_, ?_, fun i hi r hr => ?_, fun i hi r hr => ?_⟩
  · obtain ⟨_, b⟩ := A.wd.typ; exact ne b
  · obtain ⟨_, b⟩ := A.orc.typ; exact ne b
  · obtain ⟨_, b⟩ := A.rof.typ; exact ne b
  · obtain ⟨r', e, g', _⟩ := A.ring i hi
    rw [hr] at e; cases e
    obtain ⟨_, b⟩ := g'.typ; exact ne b
  · obtain ⟨r', e, g', _⟩ := A.model i hi
    rw [hr] at e; cases e
    obtain ⟨_, b⟩ := g'.typ; exact ne b
theorem doX_same (X : WD) (c : Chg) : (doX X c).k = X.k ∧ (doX X c).j = X.j ∧ (doX X c).rq = X.rq ∧ (doX X c).mq = X.mq := by
  unfold doX
  split <;> exact ⟨rfl, rfl, rfl, rfl⟩
theorem Off.of (h : Off b q X) (e : X'.k = X.k ∧ X'.j = X.j ∧ X'.rq = X.rq ∧ X'.mq = X.mq) : Off b q X' := ⟨h.q, by rw [e.1]; exact h.k, by rw [e.2.1]; exact h.j, by rw [e.2.2.1]; exact h.r, by rw [e.2.2.2]; exact h.m⟩
theorem Under.of (h : Under q X N) (e : X'.k = X.k ∧ X'.j = X.j ∧ X'.rq = X.rq ∧ X'.mq = X.mq) : Under q X' N := ⟨h.q, by rw [e.1]; exact h.k, by rw [e.2.1]; exact h.j, by rw [e.2.2.1]; exact h.r, by rw [e.2.2.2]; exact h.m⟩
theorem krw_push {a : Option Addr} {c : Nat} {l : List Int} (h : KRw w o b a c l) (ok : Tags w o) (hb : b < w.heap.size) (hl : l.length < 1000000) (x : Int) {qb : Nat} (hq : Blk w qb 27 [.int .u64 x]) :
    ∃ a' c' w' o', (Builtin.append_ #[22, 22] 22 #[.slice a l.length c, .slice (some (blk qb)) 1 1]).run Try.prog w = .ok (.slice a' (l ++ [x]).length c') w' ∧ Step (fun j => j = b) w o w' o' ∧ KRw w' o' b a' c' (l ++ [x]) := by
  obtain ⟨i, hi, hz, hsz, hby⟩ := info_of inf27
  obtain ⟨a', c', w', o', hrun, s2, hk2, hk, _⟩ := Grows.push (ty := 22) Try.underlying22 hi hz hsz hby rfl (by decide) h ok hb (xa := some (blk qb)) (m := 1) (xc := 1) (news := [x].map u64V) rfl (RowAt.of_blk hq) u64_ones (by omega) (by omega)
  refine ⟨a', c', w', o', by rw [List.length_append]; exact hrun, s2, ?_⟩
  unfold KRw
  rw [List.length_append, List.map_append]; exact hk2
def ShL (W : World) (b q N : Nat) (len m : Nat) (vs : List Value) (w' : World) : Prop :=
  ∃ (t : Nat) (ka : Option Addr) (kc : Nat) (o' : Own) (X : WD) (S T : OS) (nn : Nat) (R M : Nat → RS) (K : List Int) (O : List (List UInt8)), vs = [.slice ka K.length kc, .int .i64 t] ∧ m + t = len ∧ Step allK W (fun _ => none) w' o' ∧
    All w' o' q X S T nn R M ∧ PI X S R K O ∧ KRw w' o' b ka kc K ∧ Off b q X ∧ Under q X N ∧ N ≤ w'.heap.size ∧ b < N ∧ S.used.length ≤ 8 + 10 * t
theorem EpochsShared_walk (W : World) (a0 : Option Addr) (len0 cap0 : Nat) (a1 : Option Addr) (len1 cap1 : Nat) (o0 : IntsQ .u64 W [.slice a0 len0 cap0]) (o1 : EOsQ W [.slice a1 len1 cap1]) :
    Calls Try.prog 4 #[.slice a0 len0 cap0, .slice a1 len1 cap1] W (Gives (.bool true) fun w' => Ext no W w') := by
  obtain ⟨_, _, d, e, hdc, _, hd, hdw⟩ := o0
  cases e
  obtain ⟨_, _, l, e, hlc, _, hl, hlg⟩ := o1
  cases e
  have tg0 : Tags W fun _ => none := fun b j _ h => by cases h
  have hd0 : Row W (fun _ => none) a0 (d.map u64V) := ⟨hd, fun _ _ _ => rfl⟩
  have hl0 : Row W (fun _ => none) a1 (l.flatMap EO.C) := ⟨hl, fun _ _ _ => rfl⟩
  refine (cachettelaw13_EpochsShared.go a0 d.length cap0 a1 l.length cap1 (R := fun v w' => v = .bool true ∧ Ext no W w') ?_).mono fun x w' ⟨v, he, hv, X⟩ => ⟨by rw [he, hv], X⟩
  unfold cachettelaw13_EpochsShared.N
  refine (light13_spec hl hlg).mono fun x w5 ⟨lt, he, hw, hlt⟩ => ⟨lt, he, ?_⟩
  subst hw
  have live : ∀ {w2 : World} {o2 : Own}, Step allK w5 (fun _ => none) w2 o2 → Calls Try.prog 5 #[] w2 fun ee ww => ∃ (al : Bool), ee = .returned (.bool al) ∧ (Value.bool al = .bool true ∧ Ext no w5 ww) := fun s =>
    (alive13 s.ok).mono fun x ww ⟨o2, he, s2⟩ => ⟨true, he, rfl, topE (s.trans (sTop s2))⟩
  refine ⟨fun _ => live (Step.refl _ tg0), fun hlb => ?_⟩
  obtain ⟨hd50, hl40⟩ := hlt hlb
  refine (newWorld_spec tg0 hd0 hdc (fun x hx => wf_u64 (hdw x hx)) (by omega)).mono fun x w12 ⟨q, o12, X, S, R, he, s12, NW⟩ => ⟨_, he, fun h => (by cases h), fun _ => ?_⟩
  obtain ⟨b, hb1, hb2⟩ := off_ex NW.all
  refine ⟨ShL w5 b q w12.heap.size l.length, l.length, ⟨0, none, 0, o12, X, S, S, 8, R, R, [], [], rfl, rfl, sTop s12, NW.all, NW.pi, Grows.nil _ _ _ _ _, hb2, NW.all.under, Nat.le_refl _, hb1, NW.used⟩, ?_⟩
  clear NW hb2 he X S R s12 o12
  rintro m17 w18 ka kn kc i15 ⟨t, ka', kc', o18, X, S, T, nn, R, M, K, O, hv, hm, s18, A18, P18, k18, hoff, hun, hN, hbN, hus⟩
  cases hv
  refine ⟨fun ht => ?_, fun ht => live s18⟩
  have htl : t < l.length := by omega
  have hgt : l[t]? = some l[t] := List.getElem?_eq_getElem htl
  have hr18 := (hl0.step s18).1
  obtain ⟨ad, rfl⟩ := hl.faddr EO.len (by decide) htl
  generalize l[t] = x at *
  obtain ⟨kd, who, pub, xa, xc, xl, oa, oc, old⟩ := x
  have c0 : w18.cell? ((ad.add (Int.toNat (t : Int) * 5)).add 0) = some (.int .i64 kd) := by rw [Int.toNat_natCast]; exact hr18.fcell EO.len hgt 0 rfl
  have c1 : w18.cell? ((ad.add (Int.toNat (t : Int) * 5)).add 1) = some (.int .i64 who) := by rw [Int.toNat_natCast]; exact hr18.fcell EO.len hgt 1 rfl
  have cA : cellsAt w18 (ad.add (Int.toNat (t : Int) * 5)) [.int .i64 kd, .int .i64 who, .int .u64 pub, .slice xa xl.length xc, .slice oa old.length oc] 0 := by rw [Int.toNat_natCast]; exact hr18.floads EO.len hgt
  have next : ∀ {w2 : World} {o2 : Own} {X2 : WD}, Step (fun j => j = q) w18 o18 w2 o2 → All w2 o2 q X2 S T nn R M → PI X2 S R K O → (X2.k = X.k ∧ X2.j = X.j ∧ X2.rq = X.rq ∧ X2.mq = X.mq) → ∃ m, m < m17 ∧ ShL w5 b q w12.heap.size l.length m [.slice ka K.length kc, .int .i64 ((t : Int) + 1)] w2 := fun s A2 P2 e =>
    ⟨m17 - 1, by omega, t + 1, ka, kc, _, _, S, T, nn, R, M, K, O, rfl, by omega, s18.trans (sTop s), A2, P2, k18.step s hoff.q, hoff.of e, hun.of e, by have := s.size; omega, hbN, by omega⟩
  have stay : ∃ m, m < m17 ∧ ShL w5 b q w12.heap.size l.length m [.slice ka K.length kc, .int .i64 ((t : Int) + 1)] w18 :=
    ⟨m17 - 1, by omega, t + 1, ka, kc, o18, X, S, T, nn, R, M, K, O, rfl, by omega, s18, A18, P18, k18, hoff, hun, hN, hbN, by omega⟩
  have two : kd = 2 → Calls Try.prog 7 #[.pointer (some (blk q)), .agg #[.int .i64 kd, .int .i64 who, .int .u64 pub, .slice xa xl.length xc, .slice oa old.length oc]] w18 fun ee81 ww82 => ∃ (dov80 : Bool), ee81 = .returned (.bool dov80) ∧
      (-9223372036854775808 : Int) ≤ ((t : Int) + 1) ∧ ((t : Int) + 1) < 9223372036854775808 ∧ ∃ m, m < m17 ∧ ShL w5 b q w12.heap.size l.length m [.slice ka K.length kc, .int .i64 ((t : Int) + 1)] ww82 := fun e => by
    subst e
    exact (do2_spec A18 s18.ok P18.st P18.ok).mono fun x w2 ⟨o2, he, s2, A2⟩ => ⟨true, he, by omega, by omega, next s2 A2 (P18.doX2 who) (doX_same _ _)⟩
  have zero : kd = 0 → 0 ≤ who → who < 4 → Calls Try.prog 7 #[.pointer (some (blk q)), .agg #[.int .i64 kd, .int .i64 who, .int .u64 pub, .slice xa xl.length xc, .slice oa old.length oc]] w18 fun ee81 ww82 => ∃ (dov80 : Bool), ee81 = .returned (.bool dov80) ∧
      (-9223372036854775808 : Int) ≤ ((t : Int) + 1) ∧ ((t : Int) + 1) < 9223372036854775808 ∧ ∃ m, m < m17 ∧ ShL w5 b q w12.heap.size l.length m [.slice ka K.length kc, .int .i64 ((t : Int) + 1)] ww82 := fun e h0 h1 => by
    subst e
    obtain ⟨i, rfl⟩ := Int.eq_ofNat_of_zero_le h0
    have hi : i < 4 := by omega
    exact (do0_spec A18 s18.ok P18.st P18.ok hi).mono fun x w2 ⟨o2, he, s2, A2⟩ => ⟨true, he, by omega, by omega, next s2 A2 (P18.doX0 hi) (doX_same _ _)⟩
  refine ⟨ad, rfl, by omega, by omega, kd, c0, fun hk3 => ?_, fun hk3 => ?_⟩
  · refine ⟨by omega, by omega, kd, c0, fun hk0 => ?_, fun hk0 => ?_⟩
    · refine ⟨by omega, by omega, who, c1, fun hw0 => ⟨by omega, by omega, who, c1, fun hw4 => ⟨by omega, by omega, _, _, _, _, _, _, _, _, _, cA, zero hk0 hw0 hw4⟩, fun hw4 => ⟨by omega, by omega, kd, c0, fun h2 => ⟨by omega, by omega, _, _, _, _, _, _, _, _, _, cA, two h2⟩, fun h2 => ⟨by omega, by omega, stay⟩⟩⟩,
        fun hw0 => ⟨by omega, by omega, kd, c0, fun h2 => ⟨by omega, by omega, _, _, _, _, _, _, _, _, _, cA, two h2⟩, fun h2 => ⟨by omega, by omega, stay⟩⟩⟩
    · exact ⟨by omega, by omega, kd, c0, fun h2 => ⟨by omega, by omega, _, _, _, _, _, _, _, _, _, cA, two h2⟩, fun h2 => ⟨by omega, by omega, stay⟩⟩
  · clear two zero stay next
    obtain ⟨sa, sc, hcs, hsr⟩ := A18.wd.s
    have hul : S.used.length < 10000000 := by omega
    have B := P18.begin hul
    have hlr := P18.last_rng
    refine ⟨_, rfl, _, A18.wd.at (i := 0) rfl fun _ _ _ _ => rfl, sa, _, sc, _, hcs, X.last, A18.wd.at (i := 22) rfl fun _ _ _ _ => rfl, fun w95 L94 X95 hp95 => ?_⟩
    obtain ⟨s95, M95⟩ := Step.priv X95 hp95 s18.ok
    have A95 := A18.no s95
    have hL : ∀ j, j ∈ L94 → w18.heap.size ≤ j := fun j hj => (hp95 j hj).1
    refine (Begin_spec A95.orc s95.ok P18.ki.inv.ok (by omega) (hsr.step s95) P18.ok hlr.1 hlr.2 P18.known P18.ne).mono fun x w105 ⟨o105, wa, wc, ba, bc, ws, he, s105, P105, C105, hwc, hbc⟩ => ⟨_, _, _, _, _, _, _, _, _, _, _, _, he, ?_⟩
    have A105 := A95.toOrc s105 P105
    have hkq := hun.k
    have hqq := hun.q
    refine ⟨M95.keep s105 (fun p hp e => by have := hL p hp; omega), fun h => absurd rfl h, fun _ => ⟨fun h => absurd h B.nz, fun _ w299 p119 X299 hp299 => ?_⟩⟩
    obtain ⟨s299, M299⟩ := Step.join X299 s105.ok (M95.step s105) hp299
    have u18 := A18.under
    have A299 := A105.far u18 s299 hL
    have h119 : w18.heap.size ≤ p119 := by
      rcases (hp299 p119 (by simp)).1 with h | h
      · exact hL _ h
      · have := s95.size; have := s105.size; omega
    refine ⟨A299.wd.can (i := 22) rfl (by omega), fun p hp e => ?_, thenW_in fun w120 e120 => ?_⟩
    · rw [show Addr.block ((blk q).add 22) = q from rfl] at e; subst e
      simp at hp; omega
    obtain ⟨s120, W120⟩ := A299.wd.set s299.ok (i := 22) rfl (X' := { X with last := (beginK S X.sm X.last).2.1 }) rfl rfl (fun sa sc ta tc => S_last _ sa sc ta tc) e120
    have A120 := A299.toWd s120 (X' := { X with last := (beginK S X.sm X.last).2.1 }) rfl rfl rfl rfl W120
    intro w121 q122 X121 b121 hq121 hq121'
    have s121 := Step.of_no X121 s120.ok
    have A121 := A120.no s121
    have kk := ((((k18.step s95 id).step s105 hoff.k).step s299 (fun h => by have := hL _ h; omega)).step s120 hoff.q).step s121 id
    have z95 := s95.size
    have z105 := s105.size
    have z299 := s299.size
    have z120 := s120.size
    have z121 := s121.size
    have hep := P18.ep
    have hep1 := P18.ok.ep1
    obtain ⟨ka2, kc2, w124, o124, hrun, s124, k124⟩ := krw_push kk s121.ok (by omega) (by omega) (beginK S X.sm X.last).2.1 b121
    have M121 := (M299.step s120).step s121
    refine ⟨ka2, _, kc2, w124, hrun, M121.keep s124 (fun p hp e => by simp at hp; omega), ?_⟩
    have off2 : Off b q { X with last := (beginK S X.sm X.last).2.1 } := ⟨hoff.q, hoff.k, hoff.j, hoff.r, hoff.m⟩
    have A124 : All w124 o124 q { X with last := (beginK S X.sm X.last).2.1 } (beginK S X.sm X.last).2.2 T nn R M :=
      ⟨A121.wd.step s124 fun e => hoff.q e.symm, A121.orc.step s124 fun e => hoff.k e.symm, A121.rof.step s124 fun e => hoff.j e.symm,
       fun i hi => by obtain ⟨r, e, g, hw⟩ := A121.ring i hi; exact ⟨r, e, g.step s124 fun e2 => hoff.r i hi r e e2.symm, hw⟩,
       fun i hi => by obtain ⟨r, e, g, hw⟩ := A121.model i hi; exact ⟨r, e, g.step s124 fun e2 => hoff.m i hi r e e2.symm, hw⟩⟩
    obtain ⟨sa2, sc2, hcs2, hsr2⟩ := A124.wd.s
    refine ⟨sa2, _, sc2, _, hcs2, fun w130 L129 X130 hp130 => ?_⟩
    obtain ⟨s130, M130⟩ := Step.priv X130 hp130 s124.ok
    have A130 := A124.no s130
    have hL129 : ∀ j, j ∈ L129 → w18.heap.size ≤ j := fun j hj => by have := (hp130 j hj).1; have := s124.size; omega
    have C130 := (((((C105.step s299).step s120).step s121).step s124).step s130)
    refine (Apply_spec (s := X.sm) (cg := (beginK S X.sm X.last).1) (hsr2.step s130) s130.ok P18.ok C130.ws C130.m C130.n C130.ol).mono fun x w135 ⟨o135, a135, c135, he, s135, r135, hc135⟩ => ⟨_, _, _, _, _, he, M130.keep s135 (fun _ _ => id), ?_⟩
    have M124 := M121.step s124
    have sTo : Step allK w5 (fun _ => none) w135 o135 := ((((((((s18.trans (sTop s95)).trans (sTop s105)).trans (sTop s299)).trans (sTop s120)).trans (sTop s121)).trans (sTop s124)).trans (sTop s130)).trans (sTop s135))
    have happ := B.app
    have h6 : (applyM X.sm (beginK S X.sm X.last).1).2 = if X.sm.ep + 1 ≥ 20 then 2 else 0 := by rw [happ]; split <;> rfl
    refine ⟨(M124.step s130).keep s135 (fun _ _ => id), fun hne => ⟨fun _ w145 X145 => ?_, fun hn2 => ?_⟩, fun h0 w298 p148 X298 hp298 => ?_⟩
    · exact live (sTo.trans (sTop (Step.joins X145 s135.ok (M130.step s135))))
    · exfalso
      by_cases h20 : X.sm.ep + 1 ≥ 20
      · rw [if_pos h20] at h6; exact hn2 h6
      · rw [if_neg h20] at h6; exact hne h6
    have h20 : X.sm.ep + 1 < 20 := by
      by_cases h20 : X.sm.ep + 1 ≥ 20
      · rw [if_pos h20] at h6; omega
      · omega
    rw [if_neg (by omega)] at happ
    rw [happ] at r135 hc135 ⊢
    obtain ⟨s298, M298⟩ := Step.join X298 s135.ok (M130.step s135) hp298
    have A298 := (A130.no s135).far (u18.of ⟨rfl, rfl, rfl, rfl⟩) s298 hL129
    have z124 := s124.size
    have z130 := s130.size
    have z135 := s135.size
    have z298 := s298.size
    have h148 : w18.heap.size ≤ p148 := by
      rcases (hp298 p148 (by simp)).1 with h | h
      · exact hL129 _ h
      · omega
    refine ⟨A298.wd.can (i := 14) rfl (by omega), fun p hp e => ?_, thenW_in fun w149 e149 => ?_⟩
    · rw [show Addr.block ((blk q).add 14) = q from rfl] at e; subst e
      simp at hp; omega
    have r298 := r135.step s298
    refine ⟨(A298.wd.setS s298.ok (s := ⟨X.sm.ml, X.sm.ep + 1⟩) r298 e149 rfl).1, thenW_in fun w150 e150 => ?_⟩
    obtain ⟨_, s150, W150⟩ := A298.wd.setS s298.ok (s := ⟨X.sm.ml, X.sm.ep + 1⟩) r298 e149 e150
    have A150 := A298.toWd s150 (X' := { X with last := (beginK S X.sm X.last).2.1, sm := ⟨X.sm.ml, X.sm.ep + 1⟩ }) rfl rfl rfl rfl W150
    have k150 := ((k124.step s130 id).step s135 id).step s298 (fun h => by have := hL129 _ h; omega) |>.step s150 hoff.q
    have M2 : Mine [p119, p148] w150 _ := fun p hp => by
      rcases List.mem_cons.1 hp with rfl | hp
      · exact ((((M124.step s130).step s135).step s298).step s150) _ (by simp)
      · exact (M298.step s150) _ hp
    have z150 := s150.size
    refine shMid_ok (N := w18.heap.size) (i15 := (t : Int)) (I0 := ShL w5 b q w12.heap.size l.length) (m17 := m17) (Φ := fun v w' => v = .bool true ∧ Ext no w5 w') P18 hul h20 A150 s150.ok (((C130.step s135).step s298).step s150) (r298.step s150) k150 hoff (by omega) M2 u18 h119 h148 (by omega) (by omega) (by omega) fun w' o' R' s' A' hR' k' => ?_
    exact ⟨m17 - 1, by omega, t + 1, ka2, kc2, o', _, _, T, nn, R', M, _, _, rfl, by omega, ((sTo.trans (sTop s298)).trans (sTop s150)).trans s', A', P18.next hul C130.ol h20 hR', k', hoff.of ⟨rfl, rfl, rfl, rfl⟩, hun.of ⟨rfl, rfl, rfl, rfl⟩, by have := s'.size; omega, hbN, by have := B.len; omega⟩
end
end Go.Proofs.Ytaifegpikhjiiaa
