/- Sealing: predicates of the laws. -/
import Derived.Test.YtgeakpldocfccaaGreatZF
import Derived.Test.YtgeakpldocfccaaGreatZA
set_option linter.unusedVariables false
set_option linter.unusedSimpArgs false
set_option maxRecDepth 100000
set_option maxHeartbeats 4000000
namespace Go.Proofs.YtgeakpldocfccaaGreat
open Go Go.Mx Go.Proofs
abbrev Q08.J1 (bn : Option Addr) (bm : Addr) (R : RW) (bw : World) : Prop :=
 thenW (bw.drew) fun b8 =>
 bn.elim False fun c8 =>
 ∃ (c2 : Option Addr), b8.cell? (c8.add 0) = some (.pointer c2) ∧
 bn.elim False fun ca =>
 ∃ (bs : Option Addr), b8.cell? (ca.add 2) = some (.pointer bs) ∧
 ∃ (a9 ak b7 bb b9 aw : Int) (an : Option Addr) (aj ax : Nat) (ba : Int), cellsAt b8 bm [.int .i64 a9, .int .i64 ak, .int .u64 b7, .int .i64 bb, .int .i64 b9, .int .i64 aw, .slice an aj ax, .int .u64 ba] 0 ∧
 Calls Tryz.prog 9 #[.pointer c2, .pointer bs, .agg #[.int .i64 a9, .int .i64 ak, .int .u64 b7, .int .i64 bb, .int .i64 b9, .int .i64 aw, .slice an aj ax, .int .u64 ba]] b8 fun br c6 => ∃ (aa : Option Addr) (ag ad : Nat) (b6 : Int), br = .returned (.tuple #[.slice aa ag ad, .int .i64 b6]) ∧
 thenW (c6.drew) fun bk =>
 bn.elim False fun c9 =>
 ∃ (c0 : Option Addr), bk.cell? (c9.add 1) = some (.pointer c0) ∧
 bn.elim False fun cb =>
 ∃ (bx : Option Addr), bk.cell? (cb.add 4) = some (.pointer bx) ∧
 ∃ (a8 aq b4 bj bh al : Int) (av : Option Addr) (ah ay : Nat) (bi : Int), cellsAt bk bm [.int .i64 a8, .int .i64 aq, .int .u64 b4, .int .i64 bj, .int .i64 bh, .int .i64 al, .slice av ah ay, .int .u64 bi] 0 ∧
 Calls Tryz.prog 10 #[.pointer c0, .pointer bx, .agg #[.int .i64 a8, .int .i64 aq, .int .u64 b4, .int .i64 bj, .int .i64 bh, .int .i64 al, .slice av ah ay, .int .u64 bi]] bk fun c5 bz => ∃ (ai : Option Addr) (am ao : Nat) (b3 : Int), c5 = .returned (.tuple #[.slice ai am ao, .int .i64 b3]) ∧
 thenW (bz.drew) fun c3 =>
 Calls Tryz.prog 8 #[.slice aa ag ad, .slice ai am ao] c3 fun c4 b5 => ∃ (bl : Bool), c4 = .returned (.bool bl) ∧
 bif bl then (
 bif b6 == b3 then (
 ∃ (a6 au b2 bf bg ae : Int) (ap : Option Addr) (af ar : Nat) (be : Int), cellsAt b5 bm [.int .i64 a6, .int .i64 au, .int .u64 b2, .int .i64 bf, .int .i64 bg, .int .i64 ae, .slice ap af ar, .int .u64 be] 0 ∧
 ∃ (a0 a4 a7 b0 b1 a1 : Int) (a3 : Option Addr) (a5 a2 : Nat) (az : Int), cellsAt b5 bm [.int .i64 a0, .int .i64 a4, .int .u64 a7, .int .i64 b0, .int .i64 b1, .int .i64 a1, .slice a3 a5 a2, .int .u64 az] 0 ∧
 Calls Tryz.prog 11 #[.agg #[.int .i64 a6, .int .i64 au, .int .u64 b2, .int .i64 bf, .int .i64 bg, .int .i64 ae, .slice ap af ar, .int .u64 be]] b5 fun bu bo => ∃ (ac : Int), bu = .returned (.int .i64 ac) ∧
 cellsAt bo bm [.int .i64 a0, .int .i64 a4, .int .u64 a7, .int .i64 b0, .int .i64 b1, .int .i64 a1, .slice a3 a5 a2, .int .u64 az] 0 ∧
 Calls Tryz.prog 12 #[.agg #[.int .i64 a0, .int .i64 a4, .int .u64 a7, .int .i64 b0, .int .i64 b1, .int .i64 a1, .slice a3 a5 a2, .int .u64 az]] bo fun bv bp => ∃ (ab : Int), bv = .returned (.int .i64 ab) ∧
 bif ac == ab then (
 Calls Tryz.prog 13 #[] bp fun bt c1 => ∃ (bc : Int), bt = .returned (.int .i64 bc) ∧
 Calls Tryz.prog 14 #[.int .i64 6] c1 fun bq c7 => ∃ (bd : Int), bq = .returned (.int .i64 bd) ∧
 R (.bool (bc == bd)) c7) else (
 R (.bool false) bp)) else (
 R (.bool false) b5)) else (
 R (.bool false) b5)

abbrev Q08.J2 (a4 : Option Addr) (a7 a5 : Nat) (a2 : Option Addr) (a1 : Addr) (a6 : Bool) (R : RW) (a0 : World) : Prop :=
 bif a6 then (
 Q0e a0 ((a1.add 6).add 0) ∧
 thenW (a0.setCell ((a1.add 6).add 0) (.slice a4 a7 a5)) fun a3 =>
 Q08.J1 a2 a1 R a3) else (
 Q08.J1 a2 a1 R a0)

abbrev Q08.J3 (al : Option Addr) (b1 af : Addr) (av : Option Addr) (ai ax : Nat) (b2 : Bool) (R : RW) (aw : World) : Prop :=
 thenW (aw.drew) fun a3 =>
 al.elim False fun b3 =>
 ∃ (ay : Option Addr), a3.cell? (b3.add 0) = some (.pointer ay) ∧
 al.elim False fun b4 =>
 ∃ (an : Option Addr), a3.cell? (b4.add 2) = some (.pointer an) ∧
 ∃ (am : Int), a3.cell? (af.add 0) = some (.int .i64 am) ∧
 ∃ (ad : Int), a3.cell? (af.add 1) = some (.int .i64 ad) ∧
 ∃ (a9 : Int), a3.cell? (af.add 2) = some (.int .i64 a9) ∧
 Calls Tryz.prog 6 #[.pointer ay, .pointer an, .int .i64 am, .int .i64 ad, .int .i64 a9, .slice av ai ax] a3 fun aj aq => ∃ (a2 : Option Addr) (a1 a0 : Nat) (a8 : Int), aj = .returned (.tuple #[.slice a2 a1 a0, .int .i64 a8]) ∧
 thenW (aq.drew) fun a5 =>
 al.elim False fun az =>
 ∃ (ah : Option Addr), a5.cell? (az.add 1) = some (.pointer ah) ∧
 al.elim False fun b0 =>
 ∃ (ao : Option Addr), a5.cell? (b0.add 4) = some (.pointer ao) ∧
 ∃ (ap : Int), a5.cell? (af.add 0) = some (.int .i64 ap) ∧
 ∃ (ab : Int), a5.cell? (af.add 1) = some (.int .i64 ab) ∧
 ∃ (ac : Int), a5.cell? (af.add 2) = some (.int .i64 ac) ∧
 Calls Tryz.prog 7 #[.pointer ah, .pointer ao, .int .i64 ap, .int .i64 ab, .int .i64 ac, .slice av ai ax] a5 fun ak ar => ∃ (a7 : Option Addr) (a6 a4 : Nat) (aa : Int), ak = .returned (.tuple #[.slice a7 a6 a4, .int .i64 aa]) ∧
 Calls Tryz.prog 8 #[.slice a2 a1 a0, .slice a7 a6 a4] ar fun au ag => ∃ (ae : Bool), au = .returned (.bool ae) ∧
 bif !ae then (
 R (.bool false) ag) else (
 bif a8 != aa then (
 R (.bool false) ag) else (
 Q08.J2 a2 a1 a0 al b1 b2 R ag))

abbrev Q08.J4 (ag a9 : Addr) (ab : Option Addr) (a8 aa : Nat) (a7 : Int) (af : Option Addr) (ac ae : Nat) (ad : Bool) (R : RW) (a6 : World) : Prop :=
 Calls Tryz.prog 5 #[.slice ab a8 aa, .int .i64 a7] a6 fun a4 a3 => ∃ (a0 : Option Addr), a4 = .returned (.pointer a0) ∧
 bif Option.isNone a0 then (
 R (.bool false) a3) else (
 Calls Tryz.prog 4 #[] a3 fun a5 a2 => ∃ (a1 : Bool), a5 = .returned (.bool a1) ∧
 bif !a1 then (
 R (.bool false) a2) else (
 Q08.J3 a0 ag a9 af ac ae ad R a2))

def Q08.M (aj : Option Addr) (a7 af : Nat) (a8 b6 ai ak : Int) (am : Option Addr) (ad an : Nat) (ae ah ap ar ao aa : Int) (ab : Option Addr) (a9 ac : Nat) (aq : Int) (av : Bool) (R : RW) (w : World) : Prop :=
 thenW (w.alloc (.cells #[.int .i64 b6, .int .i64 ai, .int .i64 ak] 24)) fun au =>
 thenW (au.alloc (.cells #[.int .i64 ae, .int .i64 ah, .int .u64 ap, .int .i64 ar, .int .i64 ao, .int .i64 aa, .slice ab a9 ac, .int .u64 aq] 30)) fun a0 =>
 bif decide ((a7 : Int) > 50) then (
 Calls Tryz.prog 4 #[] a0 fun b0 ax => ∃ (a1 : Bool), b0 = .returned (.bool a1) ∧
 R (.bool a1) ax) else (
 bif decide (a8 < 0) then (
 Calls Tryz.prog 4 #[] a0 fun b5 b2 => ∃ (a3 : Bool), b5 = .returned (.bool a3) ∧
 R (.bool a3) b2) else (
 bif decide (a8 > 4) then (
 Calls Tryz.prog 4 #[] a0 fun b1 b4 => ∃ (a6 : Bool), b1 = .returned (.bool a6) ∧
 R (.bool a6) b4) else (
 bif decide ((ad : Int) > 1500) then (
 Calls Tryz.prog 4 #[] a0 fun az aw => ∃ (a4 : Bool), az = .returned (.bool a4) ∧
 R (.bool a4) aw) else (
 ∃ (ag : Option Addr) (a5 al : Nat), a0.cell? ((blk au.heap.size).add 6) = some (.slice ag a5 al) ∧
 bif decide ((a5 : Int) > 1500) then (
 Calls Tryz.prog 4 #[] a0 fun ay b3 => ∃ (a2 : Bool), ay = .returned (.bool a2) ∧
 R (.bool a2) b3) else (
 Q08.J4 (blk au.heap.size) (blk w.heap.size) aj a7 af a8 am ad an av R a0)))))

theorem Q08.ok (a8 : Option Addr) (a9 a5 : Nat) (ai ak a7 aa : Int) (ab : Option Addr) (ah ac : Nat) (a4 a6 ae ag ad a1 : Int) (a2 : Option Addr) (a0 a3 : Nat) (af : Int) (aj : Bool) {R : RW} {w : World} (h : Q08.M a8 a9 a5 ai ak a7 aa ab ah ac a4 a6 ae ag ad a1 a2 a0 a3 af aj R w) : Calls Tryz.prog 3 #[.slice a8 a9 a5, .int .i64 ai, .agg #[.int .i64 ak, .int .i64 a7, .int .i64 aa], .slice ab ah ac, .agg #[.int .i64 a4, .int .i64 a6, .int .u64 ae, .int .i64 ag, .int .i64 ad, .int .i64 a1, .slice a2 a0 a3, .int .u64 af], .bool aj] w fun e w' => ∃ v, e = .returned v ∧ R v w' :=
  Q0i follows (H := []) (args := [.slice a8 a9 a5, .int .i64 ai, .agg #[.int .i64 ak, .int .i64 a7, .int .i64 aa], .slice ab ah ac, .agg #[.int .i64 a4, .int .i64 a6, .int .u64 ae, .int .i64 ag, .int .i64 ad, .int .i64 a1, .slice a2 a0 a3, .int .u64 af], .bool aj]) (cast (by kernel_rfl) h)

def Q08.N (c7 : Option Addr) (ay c4 : Nat) (b4 dt bn bj : Int) (c0 : Option Addr) (b1 bz : Nat) (a0 a2 a9 ab a8 a1 : Int) (ae : Option Addr) (a5 ad : Nat) (aa : Int) (cc : Bool) (R : RW) (w : World) : Prop :=
 ((ay : Int) > 50 →
 ∀ (a7 : World), Ext no w a7 →
 Calls Tryz.prog 4 #[] a7 fun db dk => ∃ (bi : Bool), db = .returned (.bool bi) ∧
 R (.bool bi) dk) ∧
 ((ay : Int) ≤ 50 →
 (b4 < 0 →
 ∀ (a7 : World), Ext no w a7 →
 Calls Tryz.prog 4 #[] a7 fun di d9 => ∃ (bp : Bool), di = .returned (.bool bp) ∧
 R (.bool bp) d9) ∧
 ((0 : Int) ≤ b4 →
 (b4 > 4 →
 ∀ (a7 : World), Ext no w a7 →
 Calls Tryz.prog 4 #[] a7 fun dh de => ∃ (bq : Bool), dh = .returned (.bool bq) ∧
 R (.bool bq) de) ∧
 (b4 ≤ 4 →
 ((b1 : Int) > 1500 →
 ∀ (a7 : World), Ext no w a7 →
 Calls Tryz.prog 4 #[] a7 fun dc dd => ∃ (bk : Bool), dc = .returned (.bool bk) ∧
 R (.bool bk) dd) ∧
 ((b1 : Int) ≤ 1500 →
 ((a5 : Int) > 1500 →
 ∀ (a7 : World), Ext no w a7 →
 Calls Tryz.prog 4 #[] a7 fun d6 dj => ∃ (bl : Bool), d6 = .returned (.bool bl) ∧
 R (.bool bl) dj) ∧
 ((a5 : Int) ≤ 1500 →
 ∀ (a7 : World) (d4 be : Nat), Ext no w a7 → Priv w a7 [d4, be] →
 Calls Tryz.prog 5 #[.slice c7 ay c4, .int .i64 b4] a7 fun da c6 => ∃ (ac : Option Addr), da = .returned (.pointer ac) ∧
 Keep [d4, be] a7 c6 ∧
 (ac = none →
 R (.bool false) c6) ∧
 (ac ≠ none →
 Calls Tryz.prog 4 #[] c6 fun dg c2 => ∃ (aw : Bool), dg = .returned (.bool aw) ∧
 Keep [d4, be] c6 c2 ∧
 (aw = false →
 R (.bool false) c2) ∧
 (aw = true →
 ∃ bt : Addr, ac = some bt ∧
 ∃ (dq : Option Addr), c2.cell? (bt.add 0) = some (.pointer dq) ∧
 ∃ (ds : Option Addr), c2.cell? (bt.add 2) = some (.pointer ds) ∧
 ∀ (ci : World), Ext no c2 ci →
 Calls Tryz.prog 6 #[.pointer dq, .pointer ds, .int .i64 dt, .int .i64 bn, .int .i64 bj, .slice c0 b1 bz] ci fun d7 c5 => ∃ (a3 : Option Addr) (a4 a6 : Nat) (av : Int), d7 = .returned (.tuple #[.slice a3 a4 a6, .int .i64 av]) ∧
 Keep [d4, be] ci c5 ∧
 ∃ (dm : Option Addr), c5.cell? (bt.add 1) = some (.pointer dm) ∧
 ∃ (dn : Option Addr), c5.cell? (bt.add 4) = some (.pointer dn) ∧
 ∀ (ch : World), Ext no c5 ch →
 Calls Tryz.prog 7 #[.pointer dm, .pointer dn, .int .i64 dt, .int .i64 bn, .int .i64 bj, .slice c0 b1 bz] ch fun df cf => ∃ (bc : Option Addr) (b5 ba : Nat) (au : Int), df = .returned (.tuple #[.slice bc b5 ba, .int .i64 au]) ∧
 Keep [be] ch cf ∧
 Calls Tryz.prog 8 #[.slice a3 a4 a6, .slice bc b5 ba] cf fun d8 bg => ∃ (bf : Bool), d8 = .returned (.bool bf) ∧
 Keep [be] cf bg ∧
 (bf = false →
 R (.bool false) bg) ∧
 (bf = true →
 (av ≠ au →
 R (.bool false) bg) ∧
 (av = au →
 (cc = true →
 ∀ (c1 : World), Ext (fun b => b = be) bg c1 →
 ∃ (dr : Option Addr), c1.cell? (bt.add 0) = some (.pointer dr) ∧
 ∃ (dl : Option Addr), c1.cell? (bt.add 2) = some (.pointer dl) ∧
 Calls Tryz.prog 9 #[.pointer dr, .pointer dl, .agg #[.int .i64 a0, .int .i64 a2, .int .u64 a9, .int .i64 ab, .int .i64 a8, .int .i64 a1, .slice a3 a4 a6, .int .u64 aa]] c1 fun d5 c3 => ∃ (b7 : Option Addr) (b8 b6 : Nat) (az : Int), d5 = .returned (.tuple #[.slice b7 b8 b6, .int .i64 az]) ∧
 Keep [be] c1 c3 ∧
 ∃ (dp : Option Addr), c3.cell? (bt.add 1) = some (.pointer dp) ∧
 ∃ (du : Option Addr), c3.cell? (bt.add 4) = some (.pointer du) ∧
 ∀ (cg : World), Ext no c3 cg →
 Calls Tryz.prog 10 #[.pointer dp, .pointer du, .agg #[.int .i64 a0, .int .i64 a2, .int .u64 a9, .int .i64 ab, .int .i64 a8, .int .i64 a1, .slice a3 a4 a6, .int .u64 aa]] cg fun d0 ce => ∃ (b2 : Option Addr) (bd bb : Nat) (b0 : Int), d0 = .returned (.tuple #[.slice b2 bd bb, .int .i64 b0]) ∧
 Keep [be] cg ce ∧
 ∀ (bx : World), Ext no ce bx →
 Calls Tryz.prog 8 #[.slice b7 b8 b6, .slice b2 bd bb] bx fun cx b9 => ∃ (ax : Bool), cx = .returned (.bool ax) ∧
 Keep [be] bx b9 ∧
 (ax = true →
 (az = b0 →
 Calls Tryz.prog 11 #[.agg #[.int .i64 a0, .int .i64 a2, .int .u64 a9, .int .i64 ab, .int .i64 a8, .int .i64 a1, .slice a3 a4 a6, .int .u64 aa]] b9 fun ct ca => ∃ (ah : Int), ct = .returned (.int .i64 ah) ∧
 Keep [be] b9 ca ∧
 Calls Tryz.prog 12 #[.agg #[.int .i64 a0, .int .i64 a2, .int .u64 a9, .int .i64 ab, .int .i64 a8, .int .i64 a1, .slice a3 a4 a6, .int .u64 aa]] ca fun co c9 => ∃ (ai : Int), co = .returned (.int .i64 ai) ∧
 (ah = ai →
 Calls Tryz.prog 13 #[] c9 fun cr cj => ∃ (bh : Int), cr = .returned (.int .i64 bh) ∧
 Calls Tryz.prog 14 #[.int .i64 6] cj fun ck d1 => ∃ (bs : Int), ck = .returned (.int .i64 bs) ∧
 R (.bool (bh == bs)) d1) ∧
 (ah ≠ ai →
 R (.bool false) c9)) ∧
 (az ≠ b0 →
 R (.bool false) b9)) ∧
 (ax = false →
 R (.bool false) b9)) ∧
 (cc = false →
 ∃ (cm : Option Addr), bg.cell? (bt.add 0) = some (.pointer cm) ∧
 ∃ (cl : Option Addr), bg.cell? (bt.add 2) = some (.pointer cl) ∧
 ∀ (bv : World), Ext no bg bv →
 Calls Tryz.prog 9 #[.pointer cm, .pointer cl, .agg #[.int .i64 a0, .int .i64 a2, .int .u64 a9, .int .i64 ab, .int .i64 a8, .int .i64 a1, .slice ae a5 ad, .int .u64 aa]] bv fun cn bm => ∃ (ao : Option Addr) (an ap : Nat) (ak : Int), cn = .returned (.tuple #[.slice ao an ap, .int .i64 ak]) ∧
 Keep [be] bv bm ∧
 ∃ (cz : Option Addr), bm.cell? (bt.add 1) = some (.pointer cz) ∧
 ∃ (cy : Option Addr), bm.cell? (bt.add 4) = some (.pointer cy) ∧
 ∀ (bw : World), Ext no bm bw →
 Calls Tryz.prog 10 #[.pointer cz, .pointer cy, .agg #[.int .i64 a0, .int .i64 a2, .int .u64 a9, .int .i64 ab, .int .i64 a8, .int .i64 a1, .slice ae a5 ad, .int .u64 aa]] bw fun cw c8 => ∃ (am : Option Addr) (aq al : Nat) (aj : Int), cw = .returned (.tuple #[.slice am aq al, .int .i64 aj]) ∧
 Keep [be] bw c8 ∧
 ∀ (bu : World), Ext no c8 bu →
 Calls Tryz.prog 8 #[.slice ao an ap, .slice am aq al] bu fun cp b3 => ∃ (ar : Bool), cp = .returned (.bool ar) ∧
 Keep [be] bu b3 ∧
 (ar = true →
 (ak = aj →
 Calls Tryz.prog 11 #[.agg #[.int .i64 a0, .int .i64 a2, .int .u64 a9, .int .i64 ab, .int .i64 a8, .int .i64 a1, .slice ae a5 ad, .int .u64 aa]] b3 fun d2 cb => ∃ (ag : Int), d2 = .returned (.int .i64 ag) ∧
 Keep [be] b3 cb ∧
 Calls Tryz.prog 12 #[.agg #[.int .i64 a0, .int .i64 a2, .int .u64 a9, .int .i64 ab, .int .i64 a8, .int .i64 a1, .slice ae a5 ad, .int .u64 aa]] cb fun cu cd => ∃ (af : Int), cu = .returned (.int .i64 af) ∧
 (ag = af →
 Calls Tryz.prog 13 #[] cd fun cv d3 => ∃ (br : Int), cv = .returned (.int .i64 br) ∧
 Calls Tryz.prog 14 #[.int .i64 6] d3 fun cs cq => ∃ (bo : Int), cs = .returned (.int .i64 bo) ∧
 R (.bool (br == bo)) cq) ∧
 (ag ≠ af →
 R (.bool false) cd)) ∧
 (ak ≠ aj →
 R (.bool false) b3)) ∧
 (ar = false →
 R (.bool false) b3)))))))))))

theorem Q08.up (ak : Option Addr) (ai aj : Nat) (bz ct ag af : Int) (bb : Option Addr) (b9 b6 : Nat) (a1 a3 a5 aa a4 a2 : Int) (a8 : Option Addr) (a7 a6 : Nat) (a9 : Int) (c0 : Bool) {R : RW} {w : World} (h : Q08.N ak ai aj bz ct ag af bb b9 b6 a1 a3 a5 aa a4 a2 a8 a7 a6 a9 c0 R w) : Q08.M ak ai aj bz ct ag af bb b9 b6 a1 a3 a5 aa a4 a2 a8 a7 a6 a9 c0 R w := by
  unfold Q08.M
  unfold Q08.N at h
  refine Q01 fun bq e4 => ?_
  have ah := Blk.of_new e4
  have f9 := ((Ext.refl no w)).size
  have cm := (Ext.refl no w).x_alloc e4
  refine Q01 fun al dm => ?_
  have a0 := Blk.of_new dm
  have eq := (cm).size
  have dz := Nat.ne_of_lt ah.lt
  have ah := ah.x_alloc dm
  have ay := cm.x_alloc dm
  refine bif_of (fun dl => ?_) (fun dl => ?_)
  ·have h := h.1 (of_decide_eq_true dl)
   have h := h al ay
   refine h.mono fun ez fc h => ?_
   obtain ⟨bi, he, h⟩ := h
   refine ⟨bi, he, ?_⟩
   exact h
  have h := h.2 (Int.not_lt.1 (of_decide_eq_false dl))
  refine bif_of (fun d6 => ?_) (fun d6 => ?_)
  ·have h := h.1 (of_decide_eq_true d6)
   have h := h al ay
   refine h.mono fun f8 ew h => ?_
   obtain ⟨bu, he, h⟩ := h
   refine ⟨bu, he, ?_⟩
   exact h
  have h := h.2 (Int.not_lt.1 (of_decide_eq_false d6))
  refine bif_of (fun d3 => ?_) (fun d3 => ?_)
  ·have h := h.1 (of_decide_eq_true d3)
   have h := h al ay
   refine h.mono fun f7 f3 h => ?_
   obtain ⟨bv, he, h⟩ := h
   refine ⟨bv, he, ?_⟩
   exact h
  have h := h.2 (Int.not_lt.1 (of_decide_eq_false d3))
  refine bif_of (fun d4 => ?_) (fun d4 => ?_)
  ·have h := h.1 (of_decide_eq_true d4)
   have h := h al ay
   refine h.mono fun f0 f1 h => ?_
   obtain ⟨bl, he, h⟩ := h
   refine ⟨bl, he, ?_⟩
   exact h
  have h := h.2 (Int.not_lt.1 (of_decide_eq_false d4))
  refine ⟨a8, a7, a6, a0.celli 6 rfl rfl, ?_⟩
  refine bif_of (fun dd => ?_) (fun dd => ?_)
  ·have h := h.1 (of_decide_eq_true dd)
   have h := h al ay
   refine h.mono fun eo fb h => ?_
   obtain ⟨bo, he, h⟩ := h
   refine ⟨bo, he, ?_⟩
   exact h
  have h := h.2 (Int.not_lt.1 (of_decide_eq_false dd))
  unfold Q08.J4
  have h := h al (w.heap.size) (bq.heap.size) ay (Priv.cons f9 ah.lt (Priv.cons eq a0.lt Priv.nil))
  refine h.mono fun ex fd h => ?_
  obtain ⟨ax, he, hk, h⟩ := h
  refine ⟨ax, he, ?_⟩
  have ah := hk.blk ah (by simp)
  have a0 := hk.blk a0 (by simp)
  refine bif_of (fun de => ?_) (fun de => ?_)
  ·have h := h.1 (Q1T de)
   exact h
  have h := h.2 (Q1O de)
  refine h.mono fun f5 ds h => ?_
  obtain ⟨bm, he, hk, h⟩ := h
  refine ⟨bm, he, ?_⟩
  have ah := hk.blk ah (by simp)
  have a0 := hk.blk a0 (by simp)
  refine bif_of (fun d5 => ?_) (fun d5 => ?_)
  ·have h := h.1 (not_t d5)
   exact h
  have h := h.2 (not_f d5)
  unfold Q08.J3
  refine Q01 fun dq d8 => ?_
  have c5 := (Ext.refl no ds).x_drew d8
  have ah := ah.x_drew d8
  have a0 := a0.x_drew d8
  obtain ⟨ff, ae, h⟩ := h
  refine Q05 ae ?_
  obtain ⟨f2, cw, h⟩ := h
  refine ⟨f2, (c5).cell cw id, ?_⟩
  refine Q05 ae ?_
  obtain ⟨fa, dk, h⟩ := h
  refine ⟨fa, (c5).cell dk id, ?_⟩
  refine ⟨ct, ah.celli 0 rfl rfl, ?_⟩
  refine ⟨ag, ah.celli 1 rfl rfl, ?_⟩
  refine ⟨af, ah.celli 2 rfl rfl, ?_⟩
  have h := h dq c5
  refine h.mono fun ep dn h => ?_
  obtain ⟨ab, ac, ad, bk, he, hk, h⟩ := h
  refine ⟨ab, ac, ad, bk, he, ?_⟩
  have ah := hk.blk ah (by simp)
  have a0 := hk.blk a0 (by simp)
  refine Q01 fun da dc => ?_
  have c3 := (Ext.refl no dn).x_drew dc
  have ah := ah.x_drew dc
  have a0 := a0.x_drew dc
  refine Q05 ae ?_
  obtain ⟨eu, dt, h⟩ := h
  refine ⟨eu, (c3).cell dt id, ?_⟩
  refine Q05 ae ?_
  obtain ⟨ev, du, h⟩ := h
  refine ⟨ev, (c3).cell du id, ?_⟩
  refine ⟨ct, ah.celli 0 rfl rfl, ?_⟩
  refine ⟨ag, ah.celli 1 rfl rfl, ?_⟩
  refine ⟨af, ah.celli 2 rfl rfl, ?_⟩
  have h := h da c3
  refine h.mono fun f4 es h => ?_
  obtain ⟨be, b2, bc, bj, he, hk, h⟩ := h
  refine ⟨be, b2, bc, bj, he, ?_⟩
  have a0 := hk.blk a0 (by simp)
  refine h.mono fun et bt h => ?_
  obtain ⟨c8, he, hk, h⟩ := h
  refine ⟨c8, he, ?_⟩
  have a0 := hk.blk a0 (by simp)
  refine bif_of (fun d2 => ?_) (fun d2 => ?_)
  ·have h := h.1 (not_t d2)
   exact h
  have h := h.2 (not_f d2)
  refine bif_of (fun cy => ?_) (fun cy => ?_)
  ·have h := h.1 (bne_t cy)
   exact h
  have h := h.2 (bne_f cy)
  unfold Q08.J2
  refine bif_fo (fun dj => ?_) (fun dj => ?_)
  ·have h := h.2 dj
   unfold Q08.J1
   refine Q01 fun ci ch => ?_
   have b7 := (Ext.refl no bt).x_drew ch
   have a0 := a0.x_drew ch
   refine Q05 ae ?_
   obtain ⟨cv, cb, h⟩ := h
   refine ⟨cv, (b7).cell cb id, ?_⟩
   refine Q05 ae ?_
   obtain ⟨cu, cr, h⟩ := h
   refine ⟨cu, (b7).cell cr id, ?_⟩
   refine ⟨a1, a3, a5, aa, a4, a2, a8, a7, a6, a9, ⟨a0.celli 0 rfl rfl, a0.celli 1 rfl rfl, a0.celli 2 rfl rfl, a0.celli 3 rfl rfl, a0.celli 4 rfl rfl, a0.celli 5 rfl rfl, a0.celli 6 rfl rfl, a0.celli 7 rfl rfl, trivial⟩, ?_⟩
   have h := h ci b7
   refine h.mono fun dx co h => ?_
   obtain ⟨au, aq, aw, b8, he, hk, h⟩ := h
   refine ⟨au, aq, aw, b8, he, ?_⟩
   have a0 := hk.blk a0 (by simp)
   refine Q01 fun cj cg => ?_
   have ba := (Ext.refl no co).x_drew cg
   have a0 := a0.x_drew cg
   refine Q05 ae ?_
   obtain ⟨di, cq, h⟩ := h
   refine ⟨di, (ba).cell cq id, ?_⟩
   refine Q05 ae ?_
   obtain ⟨dh, ce, h⟩ := h
   refine ⟨dh, (ba).cell ce id, ?_⟩
   refine ⟨a1, a3, a5, aa, a4, a2, a8, a7, a6, a9, ⟨a0.celli 0 rfl rfl, a0.celli 1 rfl rfl, a0.celli 2 rfl rfl, a0.celli 3 rfl rfl, a0.celli 4 rfl rfl, a0.celli 5 rfl rfl, a0.celli 6 rfl rfl, a0.celli 7 rfl rfl, trivial⟩, ?_⟩
   have h := h cj ba
   refine h.mono fun ee cf h => ?_
   obtain ⟨ao, az, an, b1, he, hk, h⟩ := h
   refine ⟨ao, az, an, b1, he, ?_⟩
   have a0 := hk.blk a0 (by simp)
   refine Q01 fun cd cc => ?_
   have ck := (Ext.refl no cf).x_drew cc
   have a0 := a0.x_drew cc
   have h := h cd ck
   refine h.mono fun e0 e1 h => ?_
   obtain ⟨bg, he, hk, h⟩ := h
   refine ⟨bg, he, ?_⟩
   have a0 := hk.blk a0 (by simp)
   refine bif_fo (fun c2 => ?_) (fun c2 => ?_)
   ·have h := h.2 c2
    exact h
   have h := h.1 c2
   refine bif_fo (fun c1 => ?_) (fun c1 => ?_)
   ·have h := h.2 (beq_f c1)
    exact h
   have h := h.1 (beq_t c1)
   refine ⟨a1, a3, a5, aa, a4, a2, a8, a7, a6, a9, ⟨a0.celli 0 rfl rfl, a0.celli 1 rfl rfl, a0.celli 2 rfl rfl, a0.celli 3 rfl rfl, a0.celli 4 rfl rfl, a0.celli 5 rfl rfl, a0.celli 6 rfl rfl, a0.celli 7 rfl rfl, trivial⟩, ?_⟩
   refine ⟨a1, a3, a5, aa, a4, a2, a8, a7, a6, a9, ⟨a0.celli 0 rfl rfl, a0.celli 1 rfl rfl, a0.celli 2 rfl rfl, a0.celli 3 rfl rfl, a0.celli 4 rfl rfl, a0.celli 5 rfl rfl, a0.celli 6 rfl rfl, a0.celli 7 rfl rfl, trivial⟩, ?_⟩
   refine h.mono fun ej ed h => ?_
   obtain ⟨ap, he, hk, h⟩ := h
   refine ⟨ap, he, ?_⟩
   have a0 := hk.blk a0 (by simp)
   refine ⟨⟨a0.celli 0 rfl rfl, a0.celli 1 rfl rfl, a0.celli 2 rfl rfl, a0.celli 3 rfl rfl, a0.celli 4 rfl rfl, a0.celli 5 rfl rfl, a0.celli 6 rfl rfl, a0.celli 7 rfl rfl, trivial⟩, ?_⟩
   refine h.mono fun e9 el h => ?_
   obtain ⟨am, he, h⟩ := h
   refine ⟨am, he, ?_⟩
   refine bif_fo (fun c9 => ?_) (fun c9 => ?_)
   ·have h := h.2 (beq_f c9)
    exact h
   have h := h.1 (beq_t c9)
   refine h.mono fun eb em h => ?_
   obtain ⟨bw, he, h⟩ := h
   refine ⟨bw, he, ?_⟩
   refine h.mono fun e6 e3 h => ?_
   obtain ⟨bs, he, h⟩ := h
   refine ⟨bs, he, ?_⟩
   exact h
  have h := h.1 dj
  have d0 : Ext (fun b => b = bq.heap.size) bt bt := ((Ext.refl no bt)).none
  refine ⟨a0.cani 6 rfl rfl, Q01 fun cz eg => ?_⟩
  have dg := d0.x_set (q := bq.heap.size) (i := 6) rfl (.inl rfl) eg
  have a0 : Blk cz bq.heap.size 30 [.int .i64 a1, .int .i64 a3, .int .u64 a5, .int .i64 aa, .int .i64 a4, .int .i64 a2, .slice ab ac ad, .int .u64 a9] := a0.seti 6 rfl eg
  unfold Q08.J1
  refine Q01 fun dr e2 => ?_
  have d7 := dg.x_drew e2
  have a0 := a0.x_drew e2
  refine Q05 ae ?_
  have h := h dr d7
  obtain ⟨f6, d9, h⟩ := h
  refine ⟨f6, d9, ?_⟩
  refine Q05 ae ?_
  obtain ⟨er, db, h⟩ := h
  refine ⟨er, db, ?_⟩
  refine ⟨a1, a3, a5, aa, a4, a2, ab, ac, ad, a9, ⟨a0.celli 0 rfl rfl, a0.celli 1 rfl rfl, a0.celli 2 rfl rfl, a0.celli 3 rfl rfl, a0.celli 4 rfl rfl, a0.celli 5 rfl rfl, a0.celli 6 rfl rfl, a0.celli 7 rfl rfl, trivial⟩, ?_⟩
  refine h.mono fun en d1 h => ?_
  obtain ⟨b4, b5, b3, bp, he, hk, h⟩ := h
  refine ⟨b4, b5, b3, bp, he, ?_⟩
  have a0 := hk.blk a0 (by simp)
  refine Q01 fun cx e7 => ?_
  have c7 := (Ext.refl no d1).x_drew e7
  have a0 := a0.x_drew e7
  refine Q05 ae ?_
  obtain ⟨ey, dp, h⟩ := h
  refine ⟨ey, (c7).cell dp id, ?_⟩
  refine Q05 ae ?_
  obtain ⟨fe, df, h⟩ := h
  refine ⟨fe, (c7).cell df id, ?_⟩
  refine ⟨a1, a3, a5, aa, a4, a2, ab, ac, ad, a9, ⟨a0.celli 0 rfl rfl, a0.celli 1 rfl rfl, a0.celli 2 rfl rfl, a0.celli 3 rfl rfl, a0.celli 4 rfl rfl, a0.celli 5 rfl rfl, a0.celli 6 rfl rfl, a0.celli 7 rfl rfl, trivial⟩, ?_⟩
  have h := h cx c7
  refine h.mono fun eh cs h => ?_
  obtain ⟨b0, bf, bd, br, he, hk, h⟩ := h
  refine ⟨b0, bf, bd, br, he, ?_⟩
  have a0 := hk.blk a0 (by simp)
  refine Q01 fun cn cl => ?_
  have cp := (Ext.refl no cs).x_drew cl
  have a0 := a0.x_drew cl
  have h := h cn cp
  refine h.mono fun ef ek h => ?_
  obtain ⟨bn, he, hk, h⟩ := h
  refine ⟨bn, he, ?_⟩
  have a0 := hk.blk a0 (by simp)
  refine bif_fo (fun ca => ?_) (fun ca => ?_)
  ·have h := h.2 ca
   exact h
  have h := h.1 ca
  refine bif_fo (fun c4 => ?_) (fun c4 => ?_)
  ·have h := h.2 (beq_f c4)
   exact h
  have h := h.1 (beq_t c4)
  refine ⟨a1, a3, a5, aa, a4, a2, ab, ac, ad, a9, ⟨a0.celli 0 rfl rfl, a0.celli 1 rfl rfl, a0.celli 2 rfl rfl, a0.celli 3 rfl rfl, a0.celli 4 rfl rfl, a0.celli 5 rfl rfl, a0.celli 6 rfl rfl, a0.celli 7 rfl rfl, trivial⟩, ?_⟩
  refine ⟨a1, a3, a5, aa, a4, a2, ab, ac, ad, a9, ⟨a0.celli 0 rfl rfl, a0.celli 1 rfl rfl, a0.celli 2 rfl rfl, a0.celli 3 rfl rfl, a0.celli 4 rfl rfl, a0.celli 5 rfl rfl, a0.celli 6 rfl rfl, a0.celli 7 rfl rfl, trivial⟩, ?_⟩
  refine h.mono fun e8 ec h => ?_
  obtain ⟨ar, he, hk, h⟩ := h
  refine ⟨ar, he, ?_⟩
  have a0 := hk.blk a0 (by simp)
  refine ⟨⟨a0.celli 0 rfl rfl, a0.celli 1 rfl rfl, a0.celli 2 rfl rfl, a0.celli 3 rfl rfl, a0.celli 4 rfl rfl, a0.celli 5 rfl rfl, a0.celli 6 rfl rfl, a0.celli 7 rfl rfl, trivial⟩, ?_⟩
  refine h.mono fun dy ea h => ?_
  obtain ⟨av, he, h⟩ := h
  refine ⟨av, he, ?_⟩
  refine bif_fo (fun c6 => ?_) (fun c6 => ?_)
  ·have h := h.2 (beq_f c6)
   exact h
  have h := h.1 (beq_t c6)
  refine h.mono fun e5 dv h => ?_
  obtain ⟨bh, he, h⟩ := h
  refine ⟨bh, he, ?_⟩
  refine h.mono fun dw ei h => ?_
  obtain ⟨bx, he, h⟩ := h
  refine ⟨bx, he, ?_⟩
  exact h

theorem Q08.go (a8 : Option Addr) (a9 a5 : Nat) (ai ak a7 aa : Int) (ab : Option Addr) (ah ac : Nat) (a4 a6 ae ag ad a1 : Int) (a2 : Option Addr) (a0 a3 : Nat) (af : Int) (aj : Bool) {R : RW} {w : World} (h : Q08.N a8 a9 a5 ai ak a7 aa ab ah ac a4 a6 ae ag ad a1 a2 a0 a3 af aj R w) : Calls Tryz.prog 3 #[.slice a8 a9 a5, .int .i64 ai, .agg #[.int .i64 ak, .int .i64 a7, .int .i64 aa], .slice ab ah ac, .agg #[.int .i64 a4, .int .i64 a6, .int .u64 ae, .int .i64 ag, .int .i64 ad, .int .i64 a1, .slice a2 a0 a3, .int .u64 af], .bool aj] w fun e w' => ∃ v, e = .returned v ∧ R v w' := Q08.ok a8 a9 a5 ai ak a7 aa ab ah ac a4 a6 ae ag ad a1 a2 a0 a3 af aj (Q08.up a8 a9 a5 ai ak a7 aa ab ah ac a4 a6 ae ag ad a1 a2 a0 a3 af aj h)
set_option maxRecDepth 20000
structure Ent.wide (e : Ent) : Prop where
  w : -9223372036854775808 ≤ e.w ∧ e.w < 9223372036854775808
  i : -9223372036854775808 ≤ e.i ∧ e.i < 9223372036854775808
  t : -9223372036854775808 ≤ e.t ∧ e.t < 9223372036854775808
  tw : -9223372036854775808 ≤ e.tw ∧ e.tw < 9223372036854775808
  ep : -9223372036854775808 ≤ e.ep ∧ e.ep < 9223372036854775808
def EntQ (W : World) (cs : List Value) : Prop := ∃ (e : Ent) (a : Option Addr) (c : Nat), cs = entC e a c ∧ e.fit ∧ e.wide ∧ e.body.length ≤ c ∧ c ≤ maxLen ∧ RowAt W a (bytesV e.body)
theorem list8 {α : Type} : ∀ {l : List α}, l.length = 8 → ∃ a b c d e f g h, l = [a, b, c, d, e, f, g, h]
  | [a, b, c, d, e, f, g, h], _ => ⟨a, b, c, d, e, f, g, h, rfl⟩
theorem Q4u : Tryz.prog.cellsOf 30 = 8 := by kernel_rfl
theorem Q28 : Tryz.prog.cellsOf 28 = 2 := by kernel_rfl
theorem opens_entry : Opens Tryz.prog 30 EntQ := (Q2j Tryz.underlying30 Q4u).mono fun W cs ⟨hl, hf⟩ => by
  obtain ⟨c0, c1, c2, c3, c4, c5, c6, c7, rfl⟩ := list8 hl
  have e0 : ∃ n, (([c0, c1, c2, c3, c4, c5, c6, c7] : List Value).drop 0).take (Tryz.prog.cellsOf 3) = [.int .i64 n] ∧ _ := hf 0 _ rfl _ (Q1x Tryz.underlying3)
  have e1 : ∃ n, (([c0, c1, c2, c3, c4, c5, c6, c7] : List Value).drop 1).take (Tryz.prog.cellsOf 3) = [.int .i64 n] ∧ _ := hf 1 _ rfl _ (Q1x Tryz.underlying3)
  have e2 : ∃ n, (([c0, c1, c2, c3, c4, c5, c6, c7] : List Value).drop 2).take (Tryz.prog.cellsOf 26) = [.int .u64 n] ∧ _ := hf 2 _ rfl _ (Q1x Tryz.underlying26)
  have e3 := hf 3 _ rfl _ (Q2j Tryz.underlying28 Q28)
  change (((([c0, c1, c2, c3, c4, c5, c6, c7] : List Value).drop 3).take (Tryz.prog.cellsOf 28)).length = 2 ∧ _) at e3
  have e4 : ∃ n, (([c0, c1, c2, c3, c4, c5, c6, c7] : List Value).drop 5).take (Tryz.prog.cellsOf 3) = [.int .i64 n] ∧ _ := hf 4 _ rfl _ (Q1x Tryz.underlying3)
  have e5 : BytesQ W ((([c0, c1, c2, c3, c4, c5, c6, c7] : List Value).drop 6).take (Tryz.prog.cellsOf 25)) := hf 5 _ rfl _ (Q5h Tryz.underlying25 (by kernel_rfl) Tryz.underlying5)
  have e6 : ∃ n, (([c0, c1, c2, c3, c4, c5, c6, c7] : List Value).drop 7).take (Tryz.prog.cellsOf 26) = [.int .u64 n] ∧ _ := hf 6 _ rfl _ (Q1x Tryz.underlying26)
  have o1 : Tryz.prog.cellsOf 3 = 1 := by kernel_rfl
  have o2 : Tryz.prog.cellsOf 26 = 1 := by kernel_rfl
  have o3 : Tryz.prog.cellsOf 25 = 1 := by kernel_rfl
  have o4 : Tryz.prog.cellsOf 2 = 1 := by kernel_rfl
  simp only [o1, o2, o3, Q28, List.drop_zero, List.drop_succ_cons, List.take_succ_cons, List.take_zero] at e0 e1 e2 e4 e5 e6
  obtain ⟨_, hs⟩ := e3
  have s0 : ∃ n, ((((([c0, c1, c2, c3, c4, c5, c6, c7] : List Value).drop 3).take (Tryz.prog.cellsOf 28)).drop 0).take (Tryz.prog.cellsOf 2)) = [.int .i64 n] ∧ _ := hs 0 _ rfl _ (Q1x Tryz.underlying2)
  have s1 : ∃ n, ((((([c0, c1, c2, c3, c4, c5, c6, c7] : List Value).drop 3).take (Tryz.prog.cellsOf 28)).drop 1).take (Tryz.prog.cellsOf 3)) = [.int .i64 n] ∧ _ := hs 1 _ rfl _ (Q1x Tryz.underlying3)
  simp only [o1, o4, Q28, List.drop_zero, List.drop_succ_cons, List.take_succ_cons, List.take_zero] at s0 s1
  obtain ⟨n0, q0, w0⟩ := e0
  obtain ⟨n1, q1, w1⟩ := e1
  obtain ⟨n2, q2, w2⟩ := e2
  obtain ⟨n3, q3, w3⟩ := s0
  obtain ⟨n4, q4, w4⟩ := s1
  obtain ⟨n5, q5, w5⟩ := e4
  obtain ⟨a, c, bs, q6, l1, l2, r⟩ := e5
  obtain ⟨n7, q7, w7⟩ := e6
  simp only [List.cons.injEq, and_true] at q0 q1 q2 q3 q4 q5 q6 q7
  subst q0; subst q1; subst q2; subst q3; subst q4; subst q5; subst q6; subst q7
  exact ⟨⟨n0, n1, n2, n3, n4, n5, bs, n7⟩, a, c, rfl, ⟨(wf_u64 w2).1, (wf_u64 w2).2, (wf_u64 w7).1, (wf_u64 w7).2⟩, ⟨wf_i64 w0, wf_i64 w1, wf_i64 w3, wf_i64 w4, wf_i64 w5⟩, l1, l2, r⟩
open W (OwnB sameB_spec)
def PlaQ (W : World) (cs : List Value) : Prop := ∃ w i e : Int, cs = [.int .i64 w, .int .i64 i, .int .i64 e]
theorem opens_placeP : Opens Tryz.prog 24 PlaQ :=
  (Q6o (qs := [(1, _), (1, _), (1, _)]) (size := 3) Tryz.underlying24 (by kernel_rfl)
    ⟨⟨rfl, by kernel_rfl, Q1x Tryz.underlying3⟩, ⟨rfl, by kernel_rfl, Q1x Tryz.underlying3⟩, ⟨rfl, by kernel_rfl, Q1x Tryz.underlying3⟩, rfl⟩).mono
    fun W cs ⟨_, _, e0, _, ⟨a, q0, _⟩, _, _, e1, _, ⟨b, q1, _⟩, _, _, e2, _, ⟨c, q2, _⟩, q3⟩ => by
      subst q0; subst q1; subst q2; subst q3; subst e2; subst e1; subst e0
      exact ⟨a, b, c, rfl⟩
theorem endP {W w : World} {o : Own} (s : Step no W (fun _ => none) w o) : Ext no W w := s.ext.mono fun b ⟨_, h, _⟩ _ => by cases h
theorem liveP {W w2 : World} {o2 : Own} (s : Step no W (fun _ => none) w2 o2) : Calls Tryz.prog 4 #[] w2 fun ee ww => ∃ (al : Bool), ee = .returned (.bool al) ∧ (Value.bool al = .bool true ∧ Ext no W ww) :=
  (Q30 s.ok).mono fun x ww ⟨o2, he, s2⟩ => ⟨true, he, rfl, endP (s.trans s2)⟩
section
variable {w w' : World} {o o' : Own} {q k j n : Nat} {S : OS} {R : Rng} {pa : Option Addr} {pc : Nat} {p : List UInt8} {wv iv ev : Int}
theorem Q3y (h : MG w o q R) (e : Int) : Calls Tryz.prog 30 #[.pointer (some (blk q)), .int .i64 e] w (Ret (.tuple #[.int .u64 (keyK R e).1, .int .i64 (keyK R e).2]) fun w' => w' = w) := by
  refine Q0z.run _ _ ?_
  unfold Q0z.N
  refine ⟨fun h0 => ?_, fun h0 => ?_⟩
  · unfold keyK; rw [if_pos (.inl h0)]; exact ⟨rfl, rfl⟩
  obtain ⟨ka, kc, hc⟩ := h.keysC
  refine ⟨_, rfl, _, _, _, hc, fun h1 => ?_, fun h1 => ?_⟩
  · unfold keyK; rw [if_pos (.inr h1)]; exact ⟨rfl, rfl⟩
  obtain ⟨i, rfl⟩ := Int.eq_ofNat_of_zero_le h0
  obtain ⟨ka2, kc2, ad, hc2, ha, hv⟩ := h.key (i := i) (by omega)
  have hk : keyK R (i : Int) = if R.keys[i]?.getD 0 = 0 then (0, 11) else (R.keys[i]?.getD 0, 0) := by unfold keyK; rw [if_neg (by omega)]; rfl
  refine ⟨_, _, _, hc2, ad, ha, by omega, by omega, _, by rw [Int.toNat_natCast]; exact hv, fun hz => ?_, fun hz => ?_⟩
  · rw [hk, if_pos hz]; exact ⟨rfl, rfl⟩
  · rw [hk, if_neg hz]
    exact ⟨_, _, _, hc2, ad, ha, by omega, by omega, _, by rw [Int.toNat_natCast]; exact hv, rfl, rfl⟩
theorem Q4S (h : MG w o q R) (hP : Rof w o j S n) (hn : n + 1 < 1000000) (wv iv ev : Int) (hp : Row w o pa (bytesV p)) (hpl : p.length < 1000000) (hpc : p.length ≤ pc) :
    Calls Tryz.prog 7 #[.pointer (some (blk j)), .pointer (some (blk q)), .int .i64 wv, .int .i64 iv, .int .i64 ev, .slice pa p.length pc] w (Gb (fun i => i = j) w o (sealP S R wv iv ev p).1 fun w' o' => ∃ n', n' ≤ n + 1 ∧ Rof w' o' j (sealP S R wv iv ev p).2 n') := by
  refine (Q0G.go _ _ _ _ _ _ _ _ (R := fun v w' => ∃ o' a' c', v = .tuple #[.slice a' (sealP S R wv iv ev p).1.1.length c', .int .i64 (sealP S R wv iv ev p).1.2] ∧ Step (fun i => i = j) w o w' o' ∧ Row w' o' a' (bytesV (sealP S R wv iv ev p).1.1) ∧ (sealP S R wv iv ev p).1.1.length ≤ c' ∧ ∃ n', n' ≤ n + 1 ∧ Rof w' o' j (sealP S R wv iv ev p).2 n') ?_).mono fun e w' ⟨v, he, o', a', c', hv, hw⟩ => ⟨o', a', c', by rw [he, hv], hw⟩
  unfold Q0G.N
  have bad : placeOK wv iv ev = false → ∃ o' a' c', Value.tuple #[.slice none 0 0, .int .i64 1] = .tuple #[.slice a' (sealP S R wv iv ev p).1.1.length c', .int .i64 (sealP S R wv iv ev p).1.2] ∧ Step (fun i => i = j) w o w o' ∧ Row w o' a' (bytesV (sealP S R wv iv ev p).1.1) ∧ (sealP S R wv iv ev p).1.1.length ≤ c' ∧ ∃ n', n' ≤ n + 1 ∧ Rof w o' j (sealP S R wv iv ev p).2 n' := fun hf => by
    have e1 : sealP S R wv iv ev p = (([], 1), S) := by unfold sealP; rw [hf]; rfl
    rw [e1]
    exact ⟨o, none, 0, rfl, Step.refl _ hP.ok, Row.nil _ _ _, Nat.le_refl _, n, by omega, hP⟩
  refine ⟨fun h => bad (decide_eq_false (by omega)), fun h1 => ⟨fun h => bad (decide_eq_false (by omega)), fun h2 => ⟨fun h => bad (decide_eq_false (by omega)), fun h3 => ⟨fun h => bad (decide_eq_false (by omega)), fun h4 => ⟨fun h => bad (decide_eq_false (by omega)), fun h5 => ⟨fun h => bad (decide_eq_false (by omega)), fun h6 => ?_⟩⟩⟩⟩⟩⟩
  have hr : placeOK wv iv ev = true := decide_eq_true (by omega)
  refine (Q3y h ev).mono fun x w16 ⟨he, hw⟩ => ⟨_, _, he, fun hk => ?_, fun hk => ?_⟩
  · subst hw
    have e1 : sealP S R wv iv ev p = (([], (keyK R ev).2), S) := by unfold sealP; rw [if_pos hr, if_pos hk]
    rw [e1]
    exact ⟨o, none, 0, rfl, Step.refl _ hP.ok, Row.nil _ _ _, Nat.le_refl _, n, by omega, hP⟩
  · subst hw
    have e1 : sealP S R wv iv ev p = sealOf S (keyK R ev).1 (boundL wv iv ev) p := by unfold sealP; rw [if_pos hr, if_neg (fun h => h hk)]
    rw [e1]
    refine (Q3k (x := wv) (y := iv) (z := ev) (by omega) (by omega) (by omega) (by omega)).mono fun x w20 ⟨ba, bc, he, hO, X20⟩ => ⟨_, _, _, he, ?_⟩
    have s20 := Step.of_no X20 hP.ok
    have rb : Row w20 (grow w16 o) ba (bytesV (boundL wv iv ev)) := Q1D hO X20
    have hbl := Q3P wv iv ev
    refine ((hP.step s20 id).sealK hn (keyK R ev).1 (bc := bc) (pc := pc) rb hO.le (hp.step s20) hpc (by omega) hpl).mono fun e w24 ⟨o24, a', c', he, s24, hrow, hc, hP'⟩ => ⟨_, _, _, _, he, o24, a', c', rfl, s20.none.trans s24, hrow, hc, n + 1, Nat.le_refl _, hP'⟩
theorem Q4L {e : Ent} (h : MG w o q R) (hP : Rof w o j S n) (hn : n < 1000000) {ea : Option Addr} {ec : Nat} (he : Row w o ea (bytesV e.body)) (hel : e.body.length < 1000000) :
    Calls Tryz.prog 10 #[.pointer (some (blk j)), .pointer (some (blk q)), entV e ea ec] w (Gb no w o (openP S R e) fun _ _ => True) := by
  refine (Q0v.go _ _ _ _ _ _ _ _ _ _ _ _ (R := fun v w' => ∃ o' a' c', v = .tuple #[.slice a' (openP S R e).1.length c', .int .i64 (openP S R e).2] ∧ Step no w o w' o' ∧ Row w' o' a' (bytesV (openP S R e).1) ∧ (openP S R e).1.length ≤ c' ∧ True) ?_).mono fun x w' ⟨v, he, o', a', c', hv, hw⟩ => ⟨o', a', c', by rw [he, hv], hw⟩
  have ok := hP.ok
  unfold Q0v.N
  rw [Q5O]
  refine ⟨fun hf w9 X9 => ?_, fun hr => ⟨fun hneg w9 X9 => ?_, fun hpos w12 p17 X12 hp17 => ?_⟩⟩
  · have e1 : openP S R e = ([], 1) := by unfold openP; rw [hf]; rfl
    rw [e1]
    exact ⟨_, none, 0, rfl, Step.of_no X9 ok, Row.nil _ _ _, Nat.le_refl _, trivial⟩
  · have e1 : openP S R e = ([], 10) := by unfold openP; rw [if_pos hr, if_pos (by omega)]
    rw [e1]
    exact ⟨_, none, 0, rfl, Step.of_no X9 ok, Row.nil _ _ _, Nat.le_refl _, trivial⟩
  · have hr2 := (Q2Z e).1 hr
    have e1 : openP S R e = (if (keyK R e.ep).2 ≠ 0 then ([], (keyK R e.ep).2) else openOf S (keyK R e.ep).1 (boundL e.w e.i e.ep) e.body) := by unfold openP; rw [if_pos hr, if_neg (by omega)]
    obtain ⟨s12, M12⟩ := Step.priv X12 hp17 ok
    rw [e1]
    refine (Q3y (h.step s12 id) e.ep).mono fun x w21 ⟨hx, hw⟩ => ⟨_, _, hx, (by rw [hw]; exact Keep.refl _ _), fun hk => ?_, fun hk w23 X23 => ?_⟩
    · subst hw
      rw [if_pos hk]
      exact ⟨_, none, 0, rfl, s12, Row.nil _ _ _, Nat.le_refl _, trivial⟩
    · subst hw
      rw [if_neg (fun h => h hk)]
      have s23 := Step.of_no X23 s12.ok
      refine (Q3k (x := e.w) (y := e.i) (z := e.ep) (by omega) (by omega) (by omega) (by omega)).mono fun x w26 ⟨ba, bc, hx, hO, X26⟩ => ⟨_, _, _, hx, X26.kept, ?_⟩
      have s26 := Step.of_no X26 s23.ok
      generalize tags w o [p17] = o21 at *
      have rb : Row w26 (grow w23 (grow w21 o21)) ba (bytesV (boundL e.w e.i e.ep)) := Q1D hO X26
      have hop := (((hP.step s12 id).step s23 id).step s26 id).open hn (keyK R e.ep).1 (bc := bc) (xc := ec) rb (((he.step s12).step s23).step s26) hel
      exact hop.mono fun x w30 ⟨o30, a', c', hx, s30, hrow, hc, _⟩ => ⟨_, _, _, _, hx, o30, a', c', rfl, ((s12.trans s23).trans s26).trans s30, hrow, hc, trivial⟩
theorem Q2G (e : Ent) (ea : Option Addr) (ec : Nat) (w : World) : Calls Tryz.prog 12 #[entV e ea ec] w (Ret (.int .i64 (classS e.body.length)) fun w' => Ext no w w') := by
  refine (Q12.go _ _ _ _ _ _ _ _ _ _ (R := fun v w' => v = .int .i64 (classS e.body.length) ∧ Ext no w w') ?_).mono fun x w' ⟨v, he, hv, hw⟩ => ⟨by rw [he, hv], hw⟩
  unfold Q12.N
  intro w10 p11 X10 hp
  refine ⟨fun m vs w1 => ∃ t : Nat, vs = [.int .i64 t] ∧ m + t = 7 ∧ classS e.body.length = classG e.body.length m t ∧ Ext no w w1, 7, ⟨0, rfl, rfl, rfl, X10⟩, ?_⟩
  rintro m w15 i ⟨t, hv, hm, hcl, X15⟩
  cases hv
  refine ⟨fun ht w17 X17 => ?_, fun ht => ?_⟩
  · obtain ⟨m, rfl⟩ : ∃ k, m = k + 1 := ⟨m - 1, by omega⟩
    have hs := Q1B (t : Int)
    refine (Q2o (t : Int) w17).mono fun x w20 ⟨he, X20⟩ => ⟨_, he, X20.kept, by omega, by omega, fun heq => ?_, fun hne => ⟨by omega, by omega, m, by omega, t + 1, rfl, by omega, ?_, (X15.trans X17).trans X20⟩⟩
    · have : e.body.length = 8 + sizeN (t : Int) := by omega
      refine ⟨?_, (X15.trans X17).trans X20⟩
      rw [hcl]; unfold classG; rw [if_pos this]
    · rw [hcl]; show (if _ then _ else _) = _; rw [if_neg (by omega)]
  · have : m = 0 := by omega
    subst this
    exact ⟨by rw [hcl]; rfl, X15⟩
theorem Q4C (n : Nat) : 0 ≤ classOf n ↔ n ≤ 1022 := by
  have r0 : roomN 0 = 15 := by decide
  have r1 : roomN 1 = 31 := by decide
  have r2 : roomN 2 = 63 := by decide
  have r3 : roomN 3 = 127 - 1 ∨ roomN 3 = 127 := by decide
  have r4 : roomN 4 = 254 := by decide
  have r5 : roomN 5 = 510 := by decide
  have r6 : roomN 6 = 1022 := by decide
  unfold classOf
  simp only [classF, Nat.zero_add, Nat.reduceAdd]
  constructor
  · intro h
    repeat' split at h
    all_goals first | omega | (exfalso; revert h; decide)
  · intro h
    repeat' split
    all_goals omega
theorem Q4f (w : World) : Calls Tryz.prog 14 #[.int .i64 6] w (Ret (.int .i64 1022) fun w' => Ext no w w') := by
  refine (Q0V.go 6 (R := fun v w' => v = .int .i64 1022 ∧ Ext no w w') ?_).mono fun x w' ⟨v, he, hv, hw⟩ => ⟨by rw [he, hv], hw⟩
  unfold Q0V.N
  refine ⟨fun h => absurd h (by decide), fun _ => ⟨fun h => absurd h (by decide), fun _ => ?_⟩⟩
  refine ⟨fun m vs w1 => ∃ t : Nat, vs = [.int .i64 t] ∧ m + t = 1022 ∧ Ext no w w1, 1022, ⟨0, rfl, rfl, Ext.refl _ _⟩, ?_⟩
  rintro m w7 i ⟨t, hv, hm, X7⟩
  cases hv
  have hc := Q4C (t + 1)
  have hr := Q2J (t + 1)
  refine ⟨by omega, by omega, (Q2a (t + 1) w7).mono fun x w10 ⟨he, X10⟩ => ⟨_, he, fun h1 => ⟨by omega, by omega, (Q2a (t + 1) w10).mono fun x w14 ⟨he, X14⟩ => ⟨_, he, fun h2 => ⟨by omega, by omega, m - 1, by omega, t + 1, rfl, by omega, (X7.trans X10).trans X14⟩, fun h2 => absurd h2 (by omega)⟩⟩, fun h1 => ⟨?_, X7.trans X10⟩⟩⟩
  have : t = 1022 := by omega
  rw [this]; rfl
end
theorem Rof.less {w : World} {o : Own} {j n : Nat} {S : OS} (h : Rof w o j S n) : ∀ y s, alook S.sealed y = some s → s.plain.length < 1000000 := fun y s hs => by
  obtain ⟨d, R, h1, h2, h3⟩ := h.ex
  obtain ⟨r, hr, hk, hh, e⟩ := (h2.se y s).1 hs
  have := (h3.bytes r hr).2
  rw [e]; exact this
theorem SealingPlays_walk (W : World) (a0 : Option Addr) (len0 cap0 : Nat) (n1 : Int) (cs2 : Array Value) (a3 : Option Addr) (len3 cap3 : Nat) (cs4 : Array Value) (b5 : Bool) (o0 : IntsQ .u64 W [.slice a0 len0 cap0]) (w1 : (Lit.int .i64 n1).wf = true) (o2 : PlaQ W cs2.toList) (o3 : BytesQ W [.slice a3 len3 cap3]) (o4 : EntQ W cs4.toList) :
    Calls Tryz.prog 3 #[.slice a0 len0 cap0, .int .i64 n1, .agg cs2, .slice a3 len3 cap3, .agg cs4, .bool b5] W (Gives (.bool true) fun w' => Ext no W w') := by
  obtain ⟨_, _, d, e, hdc, _, hd, hdw⟩ := o0
  cases e
  obtain ⟨_, _, p, e, hpc, _, hp⟩ := o3
  cases e
  obtain ⟨cs2⟩ := cs2
  obtain ⟨cs4⟩ := cs4
  obtain ⟨pw, pi, pe, e2⟩ := o2
  obtain ⟨e, ea, ec, e4, hef, hew, hec, _, hee⟩ := o4
  have e2 : cs2 = _ := e2
  have e4 : cs4 = _ := e4
  subst e2 e4
  have tg0 : Tags W fun _ => none := fun b j _ h => by cases h
  have hd0 : Row W (fun _ => none) a0 (d.map u64V) := ⟨hd, fun _ _ _ => rfl⟩
  have hp0 : Row W (fun _ => none) a3 (bytesV p) := ⟨hp, fun _ _ _ => rfl⟩
  have he0 : Row W (fun _ => none) ea (bytesV e.body) := ⟨hee, fun _ _ _ => rfl⟩
  refine (Q08.go a0 d.length cap0 n1 pw pi pe a3 p.length cap3 e.w e.i e.pv e.t e.tw e.ep ea e.body.length ec e.sg b5 (R := fun v w' => v = .bool true ∧ Ext no W w') ?_).mono fun x w' ⟨v, he, hv, X⟩ => ⟨by rw [he, hv], X⟩
  unfold Q08.N
  refine ⟨fun _ w17 X => liveP (Step.of_no X tg0), fun hd50 => ⟨fun _ w17 X => liveP (Step.of_no X tg0), fun hm0 => ⟨fun _ w17 X => liveP (Step.of_no X tg0), fun hm4 => ⟨fun _ w17 X => liveP (Step.of_no X tg0), fun hp15 => ⟨fun _ w17 X => liveP (Step.of_no X tg0), fun he15 w17 p1 p2 X17 hp17 => ?_⟩⟩⟩⟩⟩
  obtain ⟨many, rfl⟩ := Int.eq_ofNat_of_zero_le hm0
  obtain ⟨s17, M17⟩ := Step.priv X17 hp17 tg0
  refine (Q38 (d := d) (many := many) s17.ok (hd0.step s17) hdc (fun x hx => wf_u64 (hdw x hx)) (by omega) (by omega)).mono fun x w52 ⟨q, o52, he, B, X, S, R, K, O, hq, s52, A52, I, hov⟩ => ⟨_, he, M17.keep s52 (fun _ _ => id), fun h => (by cases h), fun _ => ?_⟩
  subst hq
  have hus := I.used (by omega)
  have M52 := M17.step s52
  refine (Q30 s52.ok).mono fun x w56 ⟨o56, he, s56⟩ => ⟨true, he, M52.keep s56 (fun _ _ => id), fun h => (by cases h), fun _ => ⟨_, rfl, ?_⟩⟩
  have A56 := A52.no s56
  have M56 := M52.step s56
  have t56 := (s17.trans s52).trans s56
  refine ⟨_, A56.bk.celli 0 rfl rfl, _, A56.bk.celli 2 rfl rfl, fun w58 X58 => ?_⟩
  have s58 := Step.of_no X58 s56.ok
  have A58 := A56.no s58
  have M58 := M56.step s58
  have z17 := s17.size
  have far : ∀ {y j : Nat}, y ∈ [p1, p2] → w17.heap.size ≤ j → ¬ y = j := fun {y j} hy hj e => by have := (hp17 y hy).2; omega
  refine (Q42 A58.a A58.orc s58.ok I.pi.ki.inv.ok (by omega) pw pi pe ((hp0.step t56).step s58) (by omega)).mono fun x w67 ⟨o67, ba, bc, he, s67, r67, hbc, P67⟩ => ⟨_, _, _, _, he, M58.keep s67 (fun y hy => far hy hov.k), ?_⟩
  have A67 := A58.toOrc s67 P67
  have M67 := (M58.step s67)
  have t67 : Step no W (fun _ => none) w67 o67 := ((t56.trans s58).trans' s67 fun a ha => .inr (by rw [ha]; have := hov.k; omega))
  refine ⟨_, A67.bk.celli 1 rfl rfl, _, A67.bk.celli 4 rfl rfl, fun w68 X68 => ?_⟩
  have s68 := Step.of_no X68 s67.ok
  have A68 := A67.no s68
  have M68 := (M67.step s68).sub (M := [p2]) (by simp)
  have t68 := t67.trans s68
  refine (Q4S A68.b A68.rof (by omega) pw pi pe (hp0.step t68) (by omega) hpc).mono fun x w76 ⟨o76, ba2, bc2, he, s76, r76, hbc2, n', hn', Q76⟩ => ⟨_, _, _, _, he, M68.keep s76 (fun y hy => far (by simp at hy; simp [hy]) hov.j), ?_⟩
  have A76 := A68.toRof s76 Q76
  have M76 := M68.step s76
  have t76 : Step no W (fun _ => none) w76 o76 := t68.trans' s76 fun a ha => .inr (by rw [ha]; have := hov.j; omega)
  have hle : (sealP S (R 0) pw pi pe p).1.1.length ≤ 1032 := Q6W fun _ => trivial
  have hsh := Q3B (R := R 0) (w := pw) (i := pi) (e := pe) (p := p) I.pi.ki (by omega)
  have r67' := (r67.step s68).step s76
  refine (sameB_spec r67'.1 r76.1 (by omega)).mono fun x w79 ⟨he, X79⟩ => ⟨_, he, X79.kept, fun h => (by simp at h), fun _ => ⟨fun h => absurd rfl h, fun _ => ?_⟩⟩
  have s79 := Step.of_no X79 t76.ok
  have A79 := A76.no s79
  have M79 := M76.step s79
  have t79 := t76.trans s79
  have r79 := r67'.step s79
  generalize (sealP S (R 0) pw pi pe p).1 = bk at *
  generalize (sealP S (R 0) pw pi pe p).2 = S2 at *
  have fin : ∀ {w84 : World} {o84 : Own} (b : List UInt8) (xa : Option Addr) (xc : Nat), Step no W (fun _ => none) w84 o84 → RmG w84 o84 B S2 S2 n' (R 0) (R 1) (R 0) → Mine [p2] w84 o84 → Row w84 o84 xa (bytesV b) → b.length ≤ xc → b.length ≤ 1500 →
      Calls Tryz.prog 9 #[.pointer (some (blk B.k)), .pointer (some (blk B.a)), .agg #[.int .i64 e.w, .int .i64 e.i, .int .u64 e.pv, .int .i64 e.t, .int .i64 e.tw, .int .i64 e.ep, .slice xa b.length xc, .int .u64 e.sg]] w84 (Gb no w84 o84 (openP S2 (R 0) { e with body := b }) fun _ _ => True) ∧
      Calls Tryz.prog 10 #[.pointer (some (blk B.j)), .pointer (some (blk B.b)), .agg #[.int .i64 e.w, .int .i64 e.i, .int .u64 e.pv, .int .i64 e.t, .int .i64 e.tw, .int .i64 e.ep, .slice xa b.length xc, .int .u64 e.sg]] w84 (Gb no w84 o84 (openP S2 (R 0) { e with body := b }) fun _ _ => True) := fun {w84 o84} b xa xc t A M r hc hl =>
    ⟨Q2U (e := { e with body := b }) A.a A.orc t.ok hsh r (by show b.length < 1000000; omega) hc, Q4L (e := { e with body := b }) A.b A.rof (by omega) r (by show b.length < 1000000; omega)⟩
  have hopl : ∀ b : List UInt8, (openP S2 (R 0) { e with body := b }).1.length < 1000000 := fun b => by
    unfold openP
    split
    · split
      · simp
      · split
        · simp
        · unfold openOf
          split
          · simp
          · rename_i s hs
            repeat' split
            all_goals first | exact A79.rof.less _ _ hs | simp
    · simp
  have same6 : ∀ (n m : Int), n = m → n = m := fun _ _ h => h
  refine ⟨fun _ w84 X84 => ?_, fun _ => ?_⟩
  · have s84 : Step (fun j => j ∈ [p2]) w79 _ w84 _ := Step.stores X84 s79.ok M79 (fun b hb => by simp [hb])
    have A84 : RmG w84 _ B S2 S2 n' (R 0) (R 1) (R 0) := A79.step s84 (fun h => by simp at h; exact far (y := p2) (by simp) hov.q h.symm) (fun h => by simp at h; exact far (y := p2) (by simp) hov.k h.symm) (fun h => by simp at h; exact far (y := p2) (by simp) hov.j h.symm) (fun h => by simp at h; exact far (y := p2) (by simp) hov.a h.symm) (fun h => by simp at h; exact far (y := p2) (by simp) hov.x h.symm) (fun h => by simp at h; exact far (y := p2) (by simp) hov.b h.symm)
    have M84 := M79.step s84
    have t84 : Step no W (fun _ => none) w84 _ := t79.trans' s84 fun a ha => .inr (by simp at ha; rw [ha]; exact (hp17 p2 (by simp)).1)
    have r84 := r79.step s84
    refine ⟨_, A84.bk.celli 0 rfl rfl, _, A84.bk.celli 2 rfl rfl, (fin bk.1 ba bc t84 A84 M84 r84 hbc (by omega)).1.mono fun x w92 ⟨o92, ta, tc, he, s92, r92, htc, _⟩ => ⟨_, _, _, _, he, M84.keep s92 (fun _ _ => id), ?_⟩⟩
    have A92 := A84.no s92
    have M92 := M84.step s92
    refine ⟨_, A92.bk.celli 1 rfl rfl, _, A92.bk.celli 4 rfl rfl, fun w93 X93 => ?_⟩
    have s93 := Step.of_no X93 s92.ok
    have M93 := M92.step s93
    have t93 := (t84.trans s92).trans s93
    refine (fin bk.1 ba bc t93 (A92.no s93) M93 ((r84.step s92).step s93) hbc (by omega)).2.mono fun x w101 ⟨o101, ta2, tc2, he, s101, r101, htc2, _⟩ => ⟨_, _, _, _, he, M93.keep s101 (fun _ _ => id), fun w102 X102 => ?_⟩
    have s102 := Step.of_no X102 s101.ok
    have M102 := (M93.step s101).step s102
    have hl := hopl bk.1
    refine (sameB_spec (((r92.step s93).step s101).step s102).1 (r101.step s102).1 (by omega)).mono fun x w105 ⟨he, X105⟩ => ⟨_, he, X105.kept, fun _ => ⟨fun _ => ?_, fun h => absurd rfl h⟩, fun h => (by simp at h)⟩
    have s105 := Step.of_no X105 s102.ok
    have t105 := ((t93.trans s101).trans s102).trans s105
    refine (Q2z { e with body := bk.1 } ba bc w105).mono fun x w110 ⟨he, X110⟩ => ⟨_, he, X110.kept, ?_⟩
    refine (Q2G { e with body := bk.1 } ba bc w110).mono fun x w113 ⟨he, X113⟩ => ⟨_, he, fun _ => ?_, fun h => absurd rfl h⟩
    exact (Q3X w113).mono fun x w117 ⟨he, X117⟩ => ⟨_, he, (Q4f w117).mono fun x w120 ⟨he, X120⟩ => ⟨_, he, rfl, endP (t105.trans (Step.of_no (((X110.trans X113).trans X117).trans X120) t105.ok))⟩⟩
  · refine ⟨_, A79.bk.celli 0 rfl rfl, _, A79.bk.celli 2 rfl rfl, fun w84 X84 => ?_⟩
    have s84 := Step.of_no X84 s79.ok
    have A84 := A79.no s84
    have M84 := M79.step s84
    have t84 := t79.trans s84
    have r84 := he0.step t84
    refine ((fin e.body ea ec t84 A84 M84 r84 hec (by omega)).1.mono fun x w92 ⟨o92, ta, tc, he, s92, r92, htc, _⟩ => ⟨_, _, _, _, he, M84.keep s92 (fun _ _ => id), ?_⟩)
    have A92 := A84.no s92
    have M92 := M84.step s92
    refine ⟨_, A92.bk.celli 1 rfl rfl, _, A92.bk.celli 4 rfl rfl, fun w93 X93 => ?_⟩
    have s93 := Step.of_no X93 s92.ok
    have M93 := M92.step s93
    have t93 := (t84.trans s92).trans s93
    refine (fin e.body ea ec t93 (A92.no s93) M93 ((r84.step s92).step s93) hec (by omega)).2.mono fun x w101 ⟨o101, ta2, tc2, he, s101, r101, htc2, _⟩ => ⟨_, _, _, _, he, M93.keep s101 (fun _ _ => id), fun w102 X102 => ?_⟩
    have s102 := Step.of_no X102 s101.ok
    have M102 := (M93.step s101).step s102
    have hl := hopl e.body
    refine (sameB_spec (((r92.step s93).step s101).step s102).1 (r101.step s102).1 (by omega)).mono fun x w105 ⟨he, X105⟩ => ⟨_, he, X105.kept, fun _ => ⟨fun _ => ?_, fun h => absurd rfl h⟩, fun h => (by simp at h)⟩
    have s105 := Step.of_no X105 s102.ok
    have t105 := ((t93.trans s101).trans s102).trans s105
    refine (Q2z { e with body := e.body } ea ec w105).mono fun x w110 ⟨he, X110⟩ => ⟨_, he, X110.kept, ?_⟩
    refine (Q2G { e with body := e.body } ea ec w110).mono fun x w113 ⟨he, X113⟩ => ⟨_, he, fun _ => ?_, fun h => absurd rfl h⟩
    exact (Q3X w113).mono fun x w117 ⟨he, X117⟩ => ⟨_, he, (Q4f w117).mono fun x w120 ⟨he, X120⟩ => ⟨_, he, rfl, endP (t105.trans (Step.of_no (((X110.trans X113).trans X117).trans X120) t105.ok))⟩⟩
end Go.Proofs.YtgeakpldocfccaaGreat