/- Frames: predicates of cachetteref21.Bytes. -/
import Derived.Test.YtoempemllkebkaaZD
import Derived.Test.YtoempemllkebkaaZE
import Derived.Test.YtoempemllkebkaaZB
import Derived.Test.YtoempemllkebkaaZA
import Derived.Test.YtoempemllkebkaaZG
set_option linter.unusedVariables false
set_option linter.unusedSimpArgs false
set_option maxRecDepth 100000
set_option maxHeartbeats 4000000
namespace Go.Proofs.Ytoempemllkebkaa
open Go Go.Mx Go.Proofs
abbrev Q0c.J1 (c7 : Bool) (c9 : Int) (c8 : Option Addr) (c6 c5 : Nat) (bu : Option Addr) (bg bt : Nat) (au : Addr) (R : RW) (ar : World) : Prop :=
 bif c7 then (
 ∃ (ba : Int), ar.cell? (au.add 17) = some (.int .i64 ba) ∧
 Calls Try.prog 39 #[.int .u64 (IntKind.u64.wrap ba)] ar fun bv c0 => ∃ (b2 : Option Addr) (b4 az : Nat), bv = .returned (.slice b2 b4 az) ∧
 ∃ (bo : Option Addr) (bk bq : Nat) (bl : World), (Builtin.append_ #[25, 25] 25 #[.slice bu bg bt, .slice b2 b4 az]).run Try.prog c0 = .ok (.slice bo bk bq) bl ∧
 Calls Try.prog 42 #[.slice c8 c6 c5] bl fun c1 bx => ∃ (ak : Option Addr) (ap al : Nat), c1 = .returned (.slice ak ap al) ∧
 ∃ (b7 : Option Addr) (aw bc : Nat) (ag : World), (Builtin.append_ #[25, 25] 25 #[.slice bo bk bq, .slice ak ap al]).run Try.prog bx = .ok (.slice b7 aw bc) ag ∧
 ∃ (ax : Int), ag.cell? (au.add 0) = some (.int .i64 ax) ∧
 bif ax == 3 then (
 ∃ (bb : Int), ag.cell? (au.add 19) = some (.int .u64 bb) ∧
 Calls Try.prog 39 #[.int .u64 bb] ag fun c4 c3 => ∃ (b1 : Option Addr) (av ay : Nat), c4 = .returned (.slice b1 av ay) ∧
 ∃ (bp : Option Addr) (bd bj : Nat) (be : World), (Builtin.append_ #[25, 25] 25 #[.slice b7 aw bc, .slice b1 av ay]).run Try.prog c3 = .ok (.slice bp bd bj) be ∧
 bif decide ((bd : Int) > 4000) then (
 R (.tuple #[.slice none 0 0, .int .i64 3]) be) else (
 R (.tuple #[.slice bp bd bj, .int .i64 0]) be)) else (
 bif decide ((aw : Int) > 4000) then (
 R (.tuple #[.slice none 0 0, .int .i64 3]) ag) else (
 R (.tuple #[.slice b7 aw bc, .int .i64 0]) ag))) else (
 bif c9 == 4 then (
 thenW (ar.drew) fun b8 =>
 ∃ (aa ac aq b0 b5 ao : Int) (ae : Option Addr) (aj ab : Nat) (b3 : Int), cellsAt b8 (au.add 1) [.int .i64 aa, .int .i64 ac, .int .u64 aq, .int .i64 b0, .int .i64 b5, .int .i64 ao, .slice ae aj ab, .int .u64 b3] 0 ∧
 ∃ (a0 a4 a6 a8 a7 a2 : Int) (a3 : Option Addr) (a5 a1 : Nat) (a9 : Int), cellsAt b8 (au.add 9) [.int .i64 a0, .int .i64 a4, .int .u64 a6, .int .i64 a8, .int .i64 a7, .int .i64 a2, .slice a3 a5 a1, .int .u64 a9] 0 ∧
 Calls Try.prog 41 #[.agg #[.int .i64 aa, .int .i64 ac, .int .u64 aq, .int .i64 b0, .int .i64 b5, .int .i64 ao, .slice ae aj ab, .int .u64 b3]] b8 fun bw br => ∃ (ad : Option Addr) (af an : Nat), bw = .returned (.slice ad af an) ∧
 cellsAt br (au.add 9) [.int .i64 a0, .int .i64 a4, .int .u64 a6, .int .i64 a8, .int .i64 a7, .int .i64 a2, .slice a3 a5 a1, .int .u64 a9] 0 ∧
 ∃ (bs : Option Addr) (bm bn : Nat) (b9 : World), (Builtin.append_ #[25, 25] 25 #[.slice bu bg bt, .slice ad af an]).run Try.prog br = .ok (.slice bs bm bn) b9 ∧
 cellsAt b9 (au.add 9) [.int .i64 a0, .int .i64 a4, .int .u64 a6, .int .i64 a8, .int .i64 a7, .int .i64 a2, .slice a3 a5 a1, .int .u64 a9] 0 ∧
 Calls Try.prog 41 #[.agg #[.int .i64 a0, .int .i64 a4, .int .u64 a6, .int .i64 a8, .int .i64 a7, .int .i64 a2, .slice a3 a5 a1, .int .u64 a9]] b9 fun bz c2 => ∃ (ai : Option Addr) (am ah : Nat), bz = .returned (.slice ai am ah) ∧
 ∃ (bi : Option Addr) (b6 bh : Nat) (bf : World), (Builtin.append_ #[25, 25] 25 #[.slice bs bm bn, .slice ai am ah]).run Try.prog c2 = .ok (.slice bi b6 bh) bf ∧
 bif decide ((b6 : Int) > 4000) then (
 R (.tuple #[.slice none 0 0, .int .i64 3]) bf) else (
 R (.tuple #[.slice bi b6 bh, .int .i64 0]) bf)) else (
 bif decide ((bg : Int) > 4000) then (
 R (.tuple #[.slice none 0 0, .int .i64 3]) ar) else (
 R (.tuple #[.slice bu bg bt, .int .i64 0]) ar)))

abbrev Q0c.J2 (ay : Addr) (R : RW) (aw : World) : Prop :=
 ∃ (aj : Int), aw.cell? (ay.add 0) = some (.int .i64 aj) ∧
 Calls Try.prog 39 #[.int .u64 (IntKind.u64.wrap aj)] aw fun b2 av => ∃ (a4 : Option Addr) (a6 a5 : Nat), b2 = .returned (.slice a4 a6 a5) ∧
 ∃ (ax : Option Addr) (ap aq : Nat), av.cell? (ay.add 18) = some (.slice ax ap aq) ∧
 Calls Try.prog 40 #[.slice ax ap aq] av fun b0 ag => ∃ (a2 : Option Addr) (a3 a1 : Nat) (ao : Int), b0 = .returned (.tuple #[.slice a2 a3 a1, .int .i64 ao]) ∧
 ∃ (a0 : Int), ag.cell? (ay.add 0) = some (.int .i64 a0) ∧
 bif a0 == 1 then (
 ∃ (a7 a9 ah ak ai ad : Int) (af : Option Addr) (aa a8 : Nat) (al : Int), cellsAt ag (ay.add 1) [.int .i64 a7, .int .i64 a9, .int .u64 ah, .int .i64 ak, .int .i64 ai, .int .i64 ad, .slice af aa a8, .int .u64 al] 0 ∧
 Calls Try.prog 41 #[.agg #[.int .i64 a7, .int .i64 a9, .int .u64 ah, .int .i64 ak, .int .i64 ai, .int .i64 ad, .slice af aa a8, .int .u64 al]] ag fun az b1 => ∃ (ac : Option Addr) (ae ab : Nat), az = .returned (.slice ac ae ab) ∧
 ∃ (au : Option Addr) (an ar : Nat) (am : World), (Builtin.append_ #[25, 25] 25 #[.slice a4 a6 a5, .slice ac ae ab]).run Try.prog b1 = .ok (.slice au an ar) am ∧
 bif decide ((an : Int) > 4000) then (
 R (.tuple #[.slice none 0 0, .int .i64 3]) am) else (
 R (.tuple #[.slice au an ar, .int .i64 0]) am)) else (
 bif a0 == 2 then (
 Q0c.J1 (a0 == 2) a0 a2 a3 a1 a4 a6 a5 ay R ag) else (
 Q0c.J1 (a0 == 3) a0 a2 a3 a1 a4 a6 a5 ay R ag))

def Q0c.M (bc aq ay b4 bf bd b1 : Int) (az : Option Addr) (b0 av : Nat) (ba ae au aw b6 b5 ao : Int) (ar : Option Addr) (an ap : Nat) (b3 be : Int) (bj : Option Addr) (bk bi : Nat) (bb : Int) (R : RW) (w : World) : Prop :=
 thenW (w.alloc (.cells #[.int .i64 bc, .int .i64 aq, .int .i64 ay, .int .u64 b4, .int .i64 bf, .int .i64 bd, .int .i64 b1, .slice az b0 av, .int .u64 ba, .int .i64 ae, .int .i64 au, .int .u64 aw, .int .i64 b6, .int .i64 b5, .int .i64 ao, .slice ar an ap, .int .u64 b3, .int .i64 be, .slice bj bk bi, .int .u64 bb] 30)) fun bh =>
 ∃ (aj a1 a2 ad af al aa : Int) (a5 : Option Addr) (ab a4 : Nat) (am a0 a3 ac ag ah a8 : Int) (a6 : Option Addr) (a9 a7 : Nat) (ai b2 : Int) (b7 : Option Addr) (b8 b9 : Nat) (ax : Int), cellsAt bh (blk w.heap.size) [.int .i64 aj, .int .i64 a1, .int .i64 a2, .int .u64 ad, .int .i64 af, .int .i64 al, .int .i64 aa, .slice a5 ab a4, .int .u64 am, .int .i64 a0, .int .i64 a3, .int .u64 ac, .int .i64 ag, .int .i64 ah, .int .i64 a8, .slice a6 a9 a7, .int .u64 ai, .int .i64 b2, .slice b7 b8 b9, .int .u64 ax] 0 ∧
 Calls Try.prog 19 #[.agg #[.int .i64 aj, .int .i64 a1, .int .i64 a2, .int .u64 ad, .int .i64 af, .int .i64 al, .int .i64 aa, .slice a5 ab a4, .int .u64 am, .int .i64 a0, .int .i64 a3, .int .u64 ac, .int .i64 ag, .int .i64 ah, .int .i64 a8, .slice a6 a9 a7, .int .u64 ai, .int .i64 b2, .slice b7 b8 b9, .int .u64 ax]] bh fun bl bg => ∃ (ak : Bool), bl = .returned (.bool ak) ∧
 bif !ak then (
 R (.tuple #[.slice none 0 0, .int .i64 1]) bg) else (
 Q0c.J2 (blk w.heap.size) R bg)

theorem Q0c.ok (aj a6 a9 ae am ak ac : Int) (aa : Option Addr) (ab a7 : Nat) (ah a0 a5 a8 ag af a2 : Int) (a4 : Option Addr) (a1 a3 : Nat) (ad al : Int) (ao : Option Addr) (ap an : Nat) (ai : Int) {R : RW} {w : World} (h : Q0c.M aj a6 a9 ae am ak ac aa ab a7 ah a0 a5 a8 ag af a2 a4 a1 a3 ad al ao ap an ai R w) : Calls Try.prog 17 #[.agg #[.int .i64 aj, .int .i64 a6, .int .i64 a9, .int .u64 ae, .int .i64 am, .int .i64 ak, .int .i64 ac, .slice aa ab a7, .int .u64 ah, .int .i64 a0, .int .i64 a5, .int .u64 a8, .int .i64 ag, .int .i64 af, .int .i64 a2, .slice a4 a1 a3, .int .u64 ad, .int .i64 al, .slice ao ap an, .int .u64 ai]] w fun e w' => ∃ v, e = .returned v ∧ R v w' :=
  Q08 follows (H := []) (args := [.agg #[.int .i64 aj, .int .i64 a6, .int .i64 a9, .int .u64 ae, .int .i64 am, .int .i64 ak, .int .i64 ac, .slice aa ab a7, .int .u64 ah, .int .i64 a0, .int .i64 a5, .int .u64 a8, .int .i64 ag, .int .i64 af, .int .i64 a2, .slice a4 a1 a3, .int .u64 ad, .int .i64 al, .slice ao ap an, .int .u64 ai]]) (cast (by kernel_rfl) h)

def Q0c.N (a0 a3 ac ak b5 b7 ad : Int) (aa : Option Addr) (a6 a9 : Nat) (b4 ab ag b0 ba b8 ah : Int) (ai : Option Addr) (ae af : Nat) (b9 b6 : Int) (bw : Option Addr) (bz bx : Nat) (bi : Int) (R : RW) (w : World) : Prop :=
 ∀ (bs : World) (bb : Nat), Ext no w bs → Priv w bs [bb] →
 Calls Try.prog 19 #[.agg #[.int .i64 a0, .int .i64 a3, .int .i64 ac, .int .u64 ak, .int .i64 b5, .int .i64 b7, .int .i64 ad, .slice aa a6 a9, .int .u64 b4, .int .i64 ab, .int .i64 ag, .int .u64 b0, .int .i64 ba, .int .i64 b8, .int .i64 ah, .slice ai ae af, .int .u64 b9, .int .i64 b6, .slice bw bz bx, .int .u64 bi]] bs fun d7 bu => ∃ (al : Bool), d7 = .returned (.bool al) ∧
 Keep [bb] bs bu ∧
 (al = false →
 R (.tuple #[.slice none 0 0, .int .i64 1]) bu) ∧
 (al = true →
 Calls Try.prog 39 #[.int .u64 (IntKind.u64.wrap a0)] bu fun d4 c7 => ∃ (a2 : Option Addr) (a1 a4 : Nat), d4 = .returned (.slice a2 a1 a4) ∧
 Keep [bb] bu c7 ∧
 Calls Try.prog 40 #[.slice bw bz bx] c7 fun d9 aj => ∃ (a8 : Option Addr) (a5 a7 : Nat) (bn : Int), d9 = .returned (.tuple #[.slice a8 a5 a7, .int .i64 bn]) ∧
 Keep [bb] c7 aj ∧
 (a0 = 1 →
 Calls Try.prog 41 #[.agg #[.int .i64 a3, .int .i64 ac, .int .u64 ak, .int .i64 b5, .int .i64 b7, .int .i64 ad, .slice aa a6 a9, .int .u64 b4]] aj fun d0 d6 => ∃ (ax : Option Addr) (b3 an : Nat), d0 = .returned (.slice ax b3 an) ∧
 ∃ (ck : Option Addr) (bm cd : Nat) (c5 : World), (Builtin.append_ #[25, 25] 25 #[.slice a2 a1 a4, .slice ax b3 an]).run Try.prog d6 = .ok (.slice ck bm cd) c5 ∧
 ((bm : Int) > 4000 →
 R (.tuple #[.slice none 0 0, .int .i64 3]) c5) ∧
 ((bm : Int) ≤ 4000 →
 R (.tuple #[.slice ck bm cd, .int .i64 0]) c5)) ∧
 (a0 ≠ 1 →
 (a0 = 2 →
 Calls Try.prog 39 #[.int .u64 (IntKind.u64.wrap b6)] aj fun cy c0 => ∃ (bl : Option Addr) (bd bf : Nat), cy = .returned (.slice bl bd bf) ∧
 Keep [bb] aj c0 ∧
 ∃ (cc : Option Addr) (cp cf : Nat) (br : World), (Builtin.append_ #[25, 25] 25 #[.slice a2 a1 a4, .slice bl bd bf]).run Try.prog c0 = .ok (.slice cc cp cf) br ∧
 Keep [bb] c0 br ∧
 Calls Try.prog 42 #[.slice a8 a5 a7] br fun cx c3 => ∃ (av : Option Addr) (ay az : Nat), cx = .returned (.slice av ay az) ∧
 Keep [bb] br c3 ∧
 ∃ (cg : Option Addr) (bv cu : Nat) (bt : World), (Builtin.append_ #[25, 25] 25 #[.slice cc cp cf, .slice av ay az]).run Try.prog c3 = .ok (.slice cg bv cu) bt ∧
 Keep [bb] c3 bt ∧
 ((bv : Int) > 4000 →
 R (.tuple #[.slice none 0 0, .int .i64 3]) bt) ∧
 ((bv : Int) ≤ 4000 →
 R (.tuple #[.slice cg bv cu, .int .i64 0]) bt)) ∧
 (a0 ≠ 2 →
 (a0 = 3 →
 Calls Try.prog 39 #[.int .u64 (IntKind.u64.wrap b6)] aj fun d8 ca => ∃ (bk : Option Addr) (bj bg : Nat), d8 = .returned (.slice bk bj bg) ∧
 Keep [bb] aj ca ∧
 ∃ (ct : Option Addr) (cv ci : Nat) (bq : World), (Builtin.append_ #[25, 25] 25 #[.slice a2 a1 a4, .slice bk bj bg]).run Try.prog ca = .ok (.slice ct cv ci) bq ∧
 Keep [bb] ca bq ∧
 Calls Try.prog 42 #[.slice a8 a5 a7] bq fun d1 c6 => ∃ (aq : Option Addr) (au b2 : Nat), d1 = .returned (.slice aq au b2) ∧
 Keep [bb] bq c6 ∧
 ∃ (cr : Option Addr) (cj ce : Nat) (cb : World), (Builtin.append_ #[25, 25] 25 #[.slice ct cv ci, .slice aq au b2]).run Try.prog c6 = .ok (.slice cr cj ce) cb ∧
 Keep [bb] c6 cb ∧
 Calls Try.prog 39 #[.int .u64 bi] cb fun cw cz => ∃ (bc : Option Addr) (be bh : Nat), cw = .returned (.slice bc be bh) ∧
 ∃ (cl : Option Addr) (bp cm : Nat) (c8 : World), (Builtin.append_ #[25, 25] 25 #[.slice cr cj ce, .slice bc be bh]).run Try.prog cz = .ok (.slice cl bp cm) c8 ∧
 ((bp : Int) > 4000 →
 R (.tuple #[.slice none 0 0, .int .i64 3]) c8) ∧
 ((bp : Int) ≤ 4000 →
 R (.tuple #[.slice cl bp cm, .int .i64 0]) c8)) ∧
 (a0 ≠ 3 →
 (a0 = 4 →
 ∀ (c2 : World), Ext no aj c2 →
 Calls Try.prog 41 #[.agg #[.int .i64 a3, .int .i64 ac, .int .u64 ak, .int .i64 b5, .int .i64 b7, .int .i64 ad, .slice aa a6 a9, .int .u64 b4]] c2 fun d5 c9 => ∃ (am : Option Addr) (aw b1 : Nat), d5 = .returned (.slice am aw b1) ∧
 Keep [bb] c2 c9 ∧
 ∃ (cs : Option Addr) (ch co : Nat) (c1 : World), (Builtin.append_ #[25, 25] 25 #[.slice a2 a1 a4, .slice am aw b1]).run Try.prog c9 = .ok (.slice cs ch co) c1 ∧
 Keep [bb] c9 c1 ∧
 Calls Try.prog 41 #[.agg #[.int .i64 ab, .int .i64 ag, .int .u64 b0, .int .i64 ba, .int .i64 b8, .int .i64 ah, .slice ai ae af, .int .u64 b9]] c1 fun d3 d2 => ∃ (ap : Option Addr) (ar ao : Nat), d3 = .returned (.slice ap ar ao) ∧
 ∃ (cn : Option Addr) (bo cq : Nat) (c4 : World), (Builtin.append_ #[25, 25] 25 #[.slice cs ch co, .slice ap ar ao]).run Try.prog d2 = .ok (.slice cn bo cq) c4 ∧
 ((bo : Int) > 4000 →
 R (.tuple #[.slice none 0 0, .int .i64 3]) c4) ∧
 ((bo : Int) ≤ 4000 →
 R (.tuple #[.slice cn bo cq, .int .i64 0]) c4)) ∧
 (a0 ≠ 4 →
 ((a1 : Int) > 4000 →
 R (.tuple #[.slice none 0 0, .int .i64 3]) aj) ∧
 ((a1 : Int) ≤ 4000 →
 R (.tuple #[.slice a2 a1 a4, .int .i64 0]) aj))))))

theorem Q0c.up (ad a1 a6 ae ak am a7 : Int) (a5 : Option Addr) (a3 a4 : Nat) (aj a2 aa af ai ag ab : Int) (ac : Option Addr) (a8 a9 : Nat) (ah al : Int) (ao : Option Addr) (aq ap : Nat) (an : Int) {R : RW} {w : World} (h : Q0c.N ad a1 a6 ae ak am a7 a5 a3 a4 aj a2 aa af ai ag ab ac a8 a9 ah al ao aq ap an R w) : Q0c.M ad a1 a6 ae ak am a7 a5 a3 a4 aj a2 aa af ai ag ab ac a8 a9 ah al ao aq ap an R w := by
  unfold Q0c.M
  unfold Q0c.N at h
  refine Q02 fun cl d2 => ?_
  have a0 := Blk.of_new d2
  have d8 := ((Ext.refl no w)).size
  have c3 := (Ext.refl no w).x_alloc d2
  refine ⟨ad, a1, a6, ae, ak, am, a7, a5, a3, a4, aj, a2, aa, af, ai, ag, ab, ac, a8, a9, ah, al, ao, aq, ap, an, ⟨a0.celli 0 rfl rfl, a0.celli 1 rfl rfl, a0.celli 2 rfl rfl, a0.celli 3 rfl rfl, a0.celli 4 rfl rfl, a0.celli 5 rfl rfl, a0.celli 6 rfl rfl, a0.celli 7 rfl rfl, a0.celli 8 rfl rfl, a0.celli 9 rfl rfl, a0.celli 10 rfl rfl, a0.celli 11 rfl rfl, a0.celli 12 rfl rfl, a0.celli 13 rfl rfl, a0.celli 14 rfl rfl, a0.celli 15 rfl rfl, a0.celli 16 rfl rfl, a0.celli 17 rfl rfl, a0.celli 18 rfl rfl, a0.celli 19 rfl rfl, trivial⟩, ?_⟩
  have h := h cl (w.heap.size) c3 (Priv.cons d8 a0.lt Priv.nil)
  refine h.mono fun dm dh h => ?_
  obtain ⟨bc, he, hk, h⟩ := h
  refine ⟨bc, he, ?_⟩
  have a0 := hk.blk a0 (by simp)
  refine bif_of (fun c8 => ?_) (fun c8 => ?_)
  ·have h := h.1 (not_t c8)
   exact h
  have h := h.2 (not_f c8)
  first | unfold Q0c.J2 | skip
  refine ⟨ad, a0.celli 0 rfl rfl, ?_⟩
  refine h.mono fun dg dc h => ?_
  obtain ⟨bd, bf, bm, he, hk, h⟩ := h
  refine ⟨bd, bf, bm, he, ?_⟩
  have a0 := hk.blk a0 (by simp)
  refine ⟨ao, aq, ap, a0.celli 18 rfl rfl, ?_⟩
  refine h.mono fun dp ck h => ?_
  obtain ⟨b2, au, az, bb, he, hk, h⟩ := h
  refine ⟨b2, au, az, bb, he, ?_⟩
  have a0 := hk.blk a0 (by simp)
  refine ⟨ad, a0.celli 0 rfl rfl, ?_⟩
  refine bif_of (fun co => ?_) (fun co => ?_)
  ·have h := h.1 (beq_t co)
   refine ⟨a1, a6, ae, ak, am, a7, a5, a3, a4, aj, ⟨a0.celli 1 rfl rfl, a0.celli 2 rfl rfl, a0.celli 3 rfl rfl, a0.celli 4 rfl rfl, a0.celli 5 rfl rfl, a0.celli 6 rfl rfl, a0.celli 7 rfl rfl, a0.celli 8 rfl rfl, trivial⟩, ?_⟩
   refine h.mono fun da dk h => ?_
   obtain ⟨b5, ba, av, he, h⟩ := h
   refine ⟨b5, ba, av, he, ?_⟩
   obtain ⟨ca, bt, bv, c7, hr, h⟩ := h
   refine ⟨ca, bt, bv, c7, hr, ?_⟩
   refine bif_of (fun cv => ?_) (fun cv => ?_)
   ·have h := h.1 (of_decide_eq_true cv)
    exact h
   have h := h.2 (Int.not_lt.1 (of_decide_eq_false cv))
   exact h
  have h := h.2 (beq_f co)
  refine bif_of (fun bp => ?_) (fun bp => ?_)
  ·have h := h.1 (beq_t bp)
   first | unfold Q0c.J1 | skip
   refine bif_tt bp ?_
   refine ⟨al, a0.celli 17 rfl rfl, ?_⟩
   refine h.mono fun d7 d3 h => ?_
   obtain ⟨bo, bg, bi, he, hk, h⟩ := h
   refine ⟨bo, bg, bi, he, ?_⟩
   have a0 := hk.blk a0 (by simp)
   obtain ⟨bu, cn, bz, cg, hr, hk, h⟩ := h
   refine ⟨bu, cn, bz, cg, hr, ?_⟩
   have a0 := hk.blk a0 (by simp)
   refine h.mono fun d5 d6 h => ?_
   obtain ⟨b3, b6, b7, he, hk, h⟩ := h
   refine ⟨b3, b6, b7, he, ?_⟩
   have a0 := hk.blk a0 (by simp)
   obtain ⟨c0, d0, cw, cr, hr, hk, h⟩ := h
   refine ⟨c0, d0, cw, cr, hr, ?_⟩
   have a0 := hk.blk a0 (by simp)
   refine ⟨ad, a0.celli 0 rfl rfl, ?_⟩
   refine bif_ff (cong1 (r := false) (fun z => z == 3) (beq_t bp) (by decide)) ?_
   refine bif_of (fun ce => ?_) (fun ce => ?_)
   ·have h := h.1 (of_decide_eq_true ce)
    exact h
   have h := h.2 (Int.not_lt.1 (of_decide_eq_false ce))
   exact h
  have h := h.2 (beq_f bp)
  first | unfold Q0c.J1 | skip
  refine bif_of (fun bq => ?_) (fun bq => ?_)
  ·have h := h.1 (beq_t bq)
   refine ⟨al, a0.celli 17 rfl rfl, ?_⟩
   refine h.mono fun dn dl h => ?_
   obtain ⟨bn, bl, bj, he, hk, h⟩ := h
   refine ⟨bn, bl, bj, he, ?_⟩
   have a0 := hk.blk a0 (by simp)
   obtain ⟨cu, cy, c2, cf, hr, hk, h⟩ := h
   refine ⟨cu, cy, c2, cf, hr, ?_⟩
   have a0 := hk.blk a0 (by simp)
   refine h.mono fun dd db h => ?_
   obtain ⟨ay, b1, b9, he, hk, h⟩ := h
   refine ⟨ay, b1, b9, he, ?_⟩
   have a0 := hk.blk a0 (by simp)
   obtain ⟨cs, c9, bx, cx, hr, hk, h⟩ := h
   refine ⟨cs, c9, bx, cx, hr, ?_⟩
   have a0 := hk.blk a0 (by simp)
   refine ⟨ad, a0.celli 0 rfl rfl, ?_⟩
   refine bif_tt bq ?_
   refine ⟨an, a0.celli 19 rfl rfl, ?_⟩
   refine h.mono fun d4 d9 h => ?_
   obtain ⟨be, bh, bk, he, h⟩ := h
   refine ⟨be, bh, bk, he, ?_⟩
   obtain ⟨cb, cc, cd, cj, hr, h⟩ := h
   refine ⟨cb, cc, cd, cj, hr, ?_⟩
   refine bif_of (fun bs => ?_) (fun bs => ?_)
   ·have h := h.1 (of_decide_eq_true bs)
    exact h
   have h := h.2 (Int.not_lt.1 (of_decide_eq_false bs))
   exact h
  have h := h.2 (beq_f bq)
  refine bif_fo (fun cp => ?_) (fun cp => ?_)
  ·have h := h.2 (beq_f cp)
   refine bif_of (fun c4 => ?_) (fun c4 => ?_)
   ·have h := h.1 (of_decide_eq_true c4)
    exact h
   have h := h.2 (Int.not_lt.1 (of_decide_eq_false c4))
   exact h
  have h := h.1 (beq_t cp)
  refine Q02 fun bw d1 => ?_
  have cz := (Ext.refl no ck).x_drew d1
  have a0 := a0.x_drew d1
  refine ⟨a1, a6, ae, ak, am, a7, a5, a3, a4, aj, ⟨a0.celli 1 rfl rfl, a0.celli 2 rfl rfl, a0.celli 3 rfl rfl, a0.celli 4 rfl rfl, a0.celli 5 rfl rfl, a0.celli 6 rfl rfl, a0.celli 7 rfl rfl, a0.celli 8 rfl rfl, trivial⟩, ?_⟩
  refine ⟨a2, aa, af, ai, ag, ab, ac, a8, a9, ah, ⟨a0.celli 9 rfl rfl, a0.celli 10 rfl rfl, a0.celli 11 rfl rfl, a0.celli 12 rfl rfl, a0.celli 13 rfl rfl, a0.celli 14 rfl rfl, a0.celli 15 rfl rfl, a0.celli 16 rfl rfl, trivial⟩, ?_⟩
  have h := h bw cz
  refine h.mono fun di dj h => ?_
  obtain ⟨ar, b4, b8, he, hk, h⟩ := h
  refine ⟨ar, b4, b8, he, ?_⟩
  have a0 := hk.blk a0 (by simp)
  refine ⟨⟨a0.celli 9 rfl rfl, a0.celli 10 rfl rfl, a0.celli 11 rfl rfl, a0.celli 12 rfl rfl, a0.celli 13 rfl rfl, a0.celli 14 rfl rfl, a0.celli 15 rfl rfl, a0.celli 16 rfl rfl, trivial⟩, ?_⟩
  obtain ⟨ct, c1, cm, br, hr, hk, h⟩ := h
  refine ⟨ct, c1, cm, br, hr, ?_⟩
  have a0 := hk.blk a0 (by simp)
  refine ⟨⟨a0.celli 9 rfl rfl, a0.celli 10 rfl rfl, a0.celli 11 rfl rfl, a0.celli 12 rfl rfl, a0.celli 13 rfl rfl, a0.celli 14 rfl rfl, a0.celli 15 rfl rfl, a0.celli 16 rfl rfl, trivial⟩, ?_⟩
  refine h.mono fun df de h => ?_
  obtain ⟨ax, b0, aw, he, h⟩ := h
  refine ⟨ax, b0, aw, he, ?_⟩
  obtain ⟨ci, c6, cq, c5, hr, h⟩ := h
  refine ⟨ci, c6, cq, c5, hr, ?_⟩
  refine bif_of (fun ch => ?_) (fun ch => ?_)
  ·have h := h.1 (of_decide_eq_true ch)
   exact h
  have h := h.2 (Int.not_lt.1 (of_decide_eq_false ch))
  exact h

theorem Q0c.go (aj a6 a9 ae am ak ac : Int) (aa : Option Addr) (ab a7 : Nat) (ah a0 a5 a8 ag af a2 : Int) (a4 : Option Addr) (a1 a3 : Nat) (ad al : Int) (ao : Option Addr) (ap an : Nat) (ai : Int) {R : RW} {w : World} (h : Q0c.N aj a6 a9 ae am ak ac aa ab a7 ah a0 a5 a8 ag af a2 a4 a1 a3 ad al ao ap an ai R w) : Calls Try.prog 17 #[.agg #[.int .i64 aj, .int .i64 a6, .int .i64 a9, .int .u64 ae, .int .i64 am, .int .i64 ak, .int .i64 ac, .slice aa ab a7, .int .u64 ah, .int .i64 a0, .int .i64 a5, .int .u64 a8, .int .i64 ag, .int .i64 af, .int .i64 a2, .slice a4 a1 a3, .int .u64 ad, .int .i64 al, .slice ao ap an, .int .u64 ai]] w fun e w' => ∃ v, e = .returned v ∧ R v w' := Q0c.ok aj a6 a9 ae am ak ac aa ab a7 ah a0 a5 a8 ag af a2 a4 a1 a3 ad al ao ap an ai (Q0c.up aj a6 a9 ae am ak ac aa ab a7 ah a0 a5 a8 ag af a2 a4 a1 a3 ad al ao ap an ai h)
set_option maxRecDepth 20000
set_option maxHeartbeats 8000000
open W (OwnB)
section
variable {w w' : World} {x y : FP} {e f : Ent} {a ba : Option Addr} {c bc : Nat} {bs : List UInt8}
theorem app1 {N : Nat} {l xs : List UInt8} {xa : Option Addr} {xc : Nat} (h : OwnB N w a c l) (hx : RowAt w xa (bytesV xs)) (hl : l.length + xs.length ≤ 100000000) (hN : N ≤ w.heap.size) :
    ∃ a' c' w', (Builtin.append_ #[25, 25] 25 #[.slice a l.length c, .slice xa xs.length xc]).run Try.prog w = .ok (.slice a' (l ++ xs).length c') w' ∧ OwnB N w' a' c' (l ++ xs) ∧ Ext (fun b => ∃ ad, a = some ad ∧ b = ad.block) w w' := by
  obtain ⟨i, hi, hz, hs, hb⟩ := info_of W.infU8
  obtain ⟨a', c', w', hr, ho, hg, hbk⟩ := Q1r (ty := 25) Try.underlying25 hi hz hs hb rfl (by decide) h.own (xa := xa) (m := xs.length) (c := xc) (by rw [Q13]; omega) hx (Q2y xs) (by omega) (by omega)
  have hrow : ∀ q, (Value.slice a l.length c).ownBlock = some q → ∃ ad, a = some ad ∧ q = ad.block := fun q hq => by
    cases a with
    | none => simp [Value.ownBlock] at hq
    | some ad => simp only [Value.ownBlock, Option.some.injEq] at hq; exact ⟨ad, rfl, hq.symm⟩
  refine ⟨a', c', w', by rw [List.length_append]; exact hr, ⟨by rw [List.length_append, show bytesV (l ++ xs) = bytesV l ++ bytesV xs by simp [bytesV]]; exact ho, fun ad ha => ⟨?_, (Q1l ho).2 ad ha⟩⟩, Ext.of_grown hg fun q hq => .inl (hrow q hq)⟩
  subst ha
  rcases hbk with hq | hq
  · obtain ⟨ad', ha', e⟩ := hrow _ hq.symm
    rw [e]; exact (h.fr ad' ha').1
  · simp only [Value.ownBlock, Option.some.injEq] at hq; omega
theorem Q1K (hr : Q0u e = true) (hf : e.fit) (hb : RowAt w ba (bytesV e.body)) :
    Calls Try.prog 41 #[entV e ba bc] w (fun x w' => ∃ a' c', x = .returned (.slice a' (encE e).length c') ∧ OwnB w.heap.size w' a' c' (encE e) ∧ Ext no w w') := by
  refine (Q0A.go e.w e.i e.pv e.t e.tw e.ep ba e.body.length bc e.sg (R := fun v w' => ∃ a' c', v = (.slice a' (encE e).length c') ∧ OwnB w.heap.size w' a' c' (encE e) ∧ Ext no w w') ?_).mono fun x w' ⟨v, he, a, c, hv, hw⟩ => ⟨a, c, by rw [he, hv], hw⟩
  unfold Q0A.N
  intro w10 X10
  refine (Q3N (fun _ => hf) (hb.no X10)).mono fun x w15 ⟨X15, hor⟩ => ?_
  rcases hor with ⟨hn, _⟩ | ⟨_, a1, c1, he, hO⟩
  · rw [hr] at hn; cases hn
  refine ⟨a1, _, c1, _, he, ?_⟩
  have X := X10.trans X15
  have hel := ent_len hr
  exact (Q1J hO.row (by omega)).mono fun x w18 ⟨a2, c2, he, hO2, X18⟩ => ⟨a2, _, c2, he, a2, c2, rfl, OwnB.up hO2 X.size, X.trans X18⟩
theorem Q4N {z : Fr} (hz : x.r = z) (h : x.at w) (hf : x.r.fit) (hl : x.r.v.length ≤ 1000) (hle : x.r.e.body.length < 1000000) (hlf : x.r.f.body.length < 1000000) :
    Calls Try.prog 17 #[x.V] w (fun u w' => ∃ a c, u = .returned (.tuple #[.slice a (frK z).1.length c, .int .i64 (frK z).2]) ∧ OwnB w.heap.size w' a c (frK z).1 ∧ Ext no w w') := by
  obtain ⟨⟨kd, e, f, who, v, sg⟩, ea, ec, fa, fc, va, vc⟩ := x
  have hx : Fr.mk kd e f who v sg = z := hz
  obtain ⟨he, hf1, hv⟩ := id h
  obtain ⟨fe, ff, fv, fs⟩ := hf
  have he : RowAt w ea (bytesV e.body) := he
  have hf1 : RowAt w fa (bytesV f.body) := hf1
  have hv : RowAt w va (hsC v) := hv
  have fe : e.fit := fe
  have ff : f.fit := ff
  have fv : ∀ h ∈ v, 0 ≤ h.2.2 ∧ h.2.2 < 18446744073709551616 := fv
  have fs : 0 ≤ sg ∧ sg < 18446744073709551616 := fs
  have hl : v.length ≤ 1000 := hl
  have hR : ∀ {l : List UInt8} {a : Option Addr} {c : Nat} {w2 : World}, frOK z = true → l = frL z → OwnB w.heap.size w2 a c l → Ext no w w2 →
      (((l.length : Int) > 4000 → (∃ a c, (.tuple #[.slice none 0 0, .int .i64 3] : Value) = (.tuple #[.slice a (frK z).1.length c, .int .i64 (frK z).2]) ∧ OwnB w.heap.size w2 a c (frK z).1 ∧ Ext no w w2)) ∧
       ((l.length : Int) ≤ 4000 → (∃ a' c', (.tuple #[.slice a l.length c, .int .i64 0] : Value) = (.tuple #[.slice a' (frK z).1.length c', .int .i64 (frK z).2]) ∧ OwnB w.heap.size w2 a' c' (frK z).1 ∧ Ext no w w2))) := fun {l a c w2} hk hl hO X => by
    subst hl
    refine ⟨fun hg => ?_, fun hg => ?_⟩
    · have e : frK z = ([], 3) := by unfold frK; rw [hk, if_neg (by decide), if_pos (by omega)]
      rw [e]; exact ⟨none, 0, rfl, OwnB.nil _ _, X⟩
    · have e : frK z = (frL z, 0) := by unfold frK; rw [hk, if_neg (by decide), if_neg (by omega)]
      rw [e]; exact ⟨a, c, rfl, hO, X⟩
  refine (Q0c.go kd e.w e.i e.pv e.t e.tw e.ep ea e.body.length ec e.sg f.w f.i f.pv f.t f.tw f.ep fa f.body.length fc f.sg who va v.length vc sg (R := fun u w' => ∃ a c, u = (.tuple #[.slice a (frK z).1.length c, .int .i64 (frK z).2]) ∧ OwnB w.heap.size w' a c (frK z).1 ∧ Ext no w w') ?_).mono fun u w' ⟨v, he, a, c, hv, hw⟩ => ⟨a, c, by rw [he, hv], hw⟩
  unfold Q0c.N
  intro w21 p22 X21 hp
  have hp := hp.one
  have at21 := h.no X21
  refine (Q1c at21 (by show v.length < 1000000; omega) hle hlf).mono fun u w25 ⟨hu, X25⟩ => ⟨_, hu, X25.kept, fun hk => ?_, fun hk => ?_⟩
  · have hk : frOK ⟨kd, e, f, who, v, sg⟩ = false := hk
    rw [hx] at hk
    have ek : frK z = ([], 1) := by unfold frK; rw [if_pos hk]
    rw [ek]; exact ⟨none, 0, rfl, OwnB.nil _ _, X21.trans X25⟩
  have hk : frOK ⟨kd, e, f, who, v, sg⟩ = true := hk
  have hkd := frOK_kd hk
  simp only at hkd
  have hle1 := fun h => frOK_e hk h
  have hlf1 := fun h => frOK_f hk h
  have hlv := fun h => frOK_v hk h
  simp only at hle1 hlf1 hlv
  have Y25 := X21.trans X25
  rw [wu64 (n := kd) (by omega) (by omega)]
  have num : ∀ {K : Int} {w1 : World}, 0 ≤ K → K < 18446744073709551616 → Calls Try.prog 39 #[.int .u64 K] w1 (fun e w' => ∃ a' c', e = .returned (.slice a' (numL K.toNat).length c') ∧ OwnB w1.heap.size w' a' c' (numL K.toNat) ∧ Ext no w1 w') := fun {K w1} h0 h1 => by
    obtain ⟨n, rfl⟩ : ∃ n : Nat, K = n := ⟨K.toNat, by omega⟩
    rw [Int.toNat_natCast]
    exact W.rNum_spec n w1 (by omega)
  have hz0 : w.heap.size ≤ w25.heap.size := Y25.size
  have hz1 := X25.size
  have n1 := W.numL_le kd.toNat
  refine (num (by omega) (by omega)).mono fun u w29 ⟨a1, c1, hu, hB, X29⟩ => ⟨a1, _, c1, hu, X29.kept, ?_⟩
  have Y29 := Y25.trans X29
  refine (Q3Q (hv.no Y29) hl (vnat fv)).mono fun u w33 ⟨X33, hor⟩ => ?_
  have hvr : ∃ (a : Option Addr) (n c : Nat) (k : Int), u = .returned (.tuple #[.slice a n c, .int .i64 k]) ∧ (rightV v = true → n = (vecL v).length ∧ RowAt w33 a (bytesV (vecL v)) ∧ ∀ ad, a = some ad → w29.heap.size ≤ ad.block) := by
    rcases hor with ⟨hn, hu⟩ | ⟨_, a2, c2, hu, hO2⟩
    · exact ⟨_, _, _, _, hu, fun h => by rw [hn] at h; cases h⟩
    · exact ⟨_, _, _, _, hu, fun _ => ⟨rfl, hO2.row, fun ad ha => (hO2.fr ad ha).1⟩⟩
  obtain ⟨va2, vn, vc2, vk, hu, hvr⟩ := hvr
  have Y33 := Y29.trans X33
  refine ⟨va2, vn, vc2, vk, hu, X33.kept, fun k1 => ?_, fun k1 => ⟨fun k2 => ?_, fun k2 => ⟨fun k3 => ?_, fun k3 => ⟨fun k4 w71 X71 => ?_, fun k4 => by omega⟩⟩⟩⟩
  · have hre := hle1 (.inl k1)
    have l1 := Q2H hre
    refine (Q1K (e := e) hre fe (he.no Y33)).mono fun u w37 ⟨a2, c2, hu, hO2, X37⟩ => ⟨a2, _, c2, hu, ?_⟩
    obtain ⟨a3, c3, w39, hr, hB, Y, XA, hN⟩ := app hB Y29 hz0 X29.size (X33.trans X37) (xc := c2) hO2.row (by omega)
    exact ⟨a3, _, c3, w39, hr, hR (hx ▸ hk) (by rw [← hx]; unfold frL frP; rw [if_pos k1]) (OwnB.up hB hz0) Y⟩
  · obtain ⟨w0, w8, hrv⟩ := hlv (.inl k2)
    obtain ⟨hvn, hvrow, hvfr⟩ := hvr hrv
    subst hvn
    have n3 := vec_len hrv
    have n2 := W.numL_le who.toNat
    have n4 := Q4o hrv
    rw [wu64 (n := who) (by omega) (by omega)]
    refine (num (by omega) (by omega)).mono fun u w44 ⟨a2, c2, hu, hO2, X44⟩ => ⟨a2, _, c2, hu, X44.kept, ?_⟩
    have hB44 := (hB.no X33).no X44
    have g29 := X29.size; have g33 := X33.size; have g44 := X44.size
    obtain ⟨a3, c3, w46, hr, hB3, XA⟩ := app1 hB44 (xc := c2) hO2.row (by omega) (by omega)
    have gA := XA.size
    have Y46 : Ext no w w46 := ((Y29.trans X33).trans X44).then XA fun b ⟨ad, ha, e⟩ => .inr (by rw [e]; have := (hB.fr ad ha).1; omega)
    refine ⟨a3, _, c3, w46, hr, keep1 XA (fun ⟨ad, ha, e⟩ => by have := (hB.fr ad ha).1; omega), ?_⟩
    have hvrow46 : RowAt w46 va2 (bytesV (vecL v)) := (hvrow.no X44).ext' XA fun _ ad ha => fun ⟨ad2, ha2, e⟩ => by have := hvfr ad ha; have := (hB.fr ad2 ha2).2; omega
    refine (Q1J hvrow46 (by omega)).mono fun u w49 ⟨a4, c4, hu, hO4, X49⟩ => ⟨a4, _, c4, hu, X49.kept, ?_⟩
    obtain ⟨a5, c5, w51, hr, hB, Y, XA, hN⟩ := app hB3 Y46 hz0 (by omega) X49 (xc := c4) hO4.row (by unfold encV at n4; simp only [List.length_append] at n4 ⊢; omega)
    exact ⟨a5, _, c5, w51, hr, keep1 XA (by omega), hR (hx ▸ hk) (by rw [← hx]; unfold frL frP encV; rw [if_neg k1, if_neg (show ¬ kd = 4 by omega), if_neg (show ¬ kd = 3 by omega)]; simp only [List.append_assoc]) (OwnB.up hB hz0) Y⟩
  · obtain ⟨w0, w8, hrv⟩ := hlv (.inr k3)
    obtain ⟨hvn, hvrow, hvfr⟩ := hvr hrv
    subst hvn
    have n3 := vec_len hrv
    have n2 := W.numL_le who.toNat
    have n4 := Q4o hrv
    rw [wu64 (n := who) (by omega) (by omega)]
    refine (num (by omega) (by omega)).mono fun u w44 ⟨a2, c2, hu, hO2, X44⟩ => ⟨a2, _, c2, hu, X44.kept, ?_⟩
    have hB44 := (hB.no X33).no X44
    have g29 := X29.size; have g33 := X33.size; have g44 := X44.size
    obtain ⟨a3, c3, w46, hr, hB3, XA⟩ := app1 hB44 (xc := c2) hO2.row (by omega) (by omega)
    have gA := XA.size
    have Y46 : Ext no w w46 := ((Y29.trans X33).trans X44).then XA fun b ⟨ad, ha, e⟩ => .inr (by rw [e]; have := (hB.fr ad ha).1; omega)
    refine ⟨a3, _, c3, w46, hr, keep1 XA (fun ⟨ad, ha, e⟩ => by have := (hB.fr ad ha).1; omega), ?_⟩
    have hvrow46 : RowAt w46 va2 (bytesV (vecL v)) := (hvrow.no X44).ext' XA fun _ ad ha => fun ⟨ad2, ha2, e⟩ => by have := hvfr ad ha; have := (hB.fr ad2 ha2).2; omega
    refine (Q1J hvrow46 (by omega)).mono fun u w49 ⟨a4, c4, hu, hO4, X49⟩ => ⟨a4, _, c4, hu, X49.kept, ?_⟩
    obtain ⟨a5, c5, w51, hr, hB, Y, XA, hN⟩ := app hB3 Y46 hz0 (by omega) X49 (xc := c4) hO4.row (by unfold encV at n4; simp only [List.length_append] at n4 ⊢; omega)
    refine ⟨a5, _, c5, w51, hr, keep1 XA (by omega), ?_⟩
    refine (num (by omega) (by omega)).mono fun u w66 ⟨a6, c6, hu, hO6, X66⟩ => ⟨a6, _, c6, hu, ?_⟩
    have n6 := W.numL_le sg.toNat
    obtain ⟨a7, c7, w68, hr, hB, Y, XA, hN⟩ := app hB Y hz0 hN X66 (xc := c6) hO6.row (by unfold encV at n4; simp only [List.length_append] at n4 ⊢; omega)
    exact ⟨a7, _, c7, w68, hr, hR (hx ▸ hk) (by rw [← hx]; unfold frL frP encV; rw [if_neg k1, if_neg (show ¬ kd = 4 by omega), if_pos k3]; simp only [List.append_assoc]) (OwnB.up hB hz0) Y⟩
  · have hre := hle1 (.inr k4)
    have hrf := hlf1 k4
    have l1 := Q2H hre
    have l2 := Q2H hrf
    have Y71 := Y33.trans X71
    refine (Q1K (e := e) hre fe (he.no Y71)).mono fun u w74 ⟨a2, c2, hu, hO2, X74⟩ => ⟨a2, _, c2, hu, X74.kept, ?_⟩
    obtain ⟨a3, c3, w76, hr, hB, Y, XA, hN⟩ := app hB Y29 hz0 X29.size ((X33.trans X71).trans X74) (xc := c2) hO2.row (by omega)
    refine ⟨a3, _, c3, w76, hr, keep1 XA (by omega), ?_⟩
    refine (Q1K (e := f) hrf ff (hf1.no Y)).mono fun u w79 ⟨a4, c4, hu, hO4, X79⟩ => ⟨a4, _, c4, hu, ?_⟩
    obtain ⟨a5, c5, w81, hr, hB, Y, XA, hN⟩ := app hB Y hz0 hN X79 (xc := c4) hO4.row (by simp only [List.length_append]; omega)
    exact ⟨a5, _, c5, w81, hr, hR (hx ▸ hk) (by rw [← hx]; unfold frL frP; rw [if_neg k1, if_pos k4]; simp only [List.append_assoc]) (OwnB.up hB hz0) Y⟩
theorem Q3T (h : x.at w) (hf : x.r.fit) (hl : x.r.v.length ≤ 1000) (hle : x.r.e.body.length < 1000000) (hlf : x.r.f.body.length < 1000000) :
    Calls Try.prog 17 #[x.V] w (fun u w' => ∃ a c, u = .returned (.tuple #[.slice a (frK x.r).1.length c, .int .i64 (frK x.r).2]) ∧ OwnB w.heap.size w' a c (frK x.r).1 ∧ Ext no w w') := Q4N rfl h hf hl hle hlf
end
structure Ent.wide (e : Ent) : Prop where
  w : -9223372036854775808 ≤ e.w ∧ e.w < 9223372036854775808
  i : -9223372036854775808 ≤ e.i ∧ e.i < 9223372036854775808
  t : -9223372036854775808 ≤ e.t ∧ e.t < 9223372036854775808
  tw : -9223372036854775808 ≤ e.tw ∧ e.tw < 9223372036854775808
  ep : -9223372036854775808 ≤ e.ep ∧ e.ep < 9223372036854775808
def EntQ (W : World) (cs : List Value) : Prop := ∃ (e : Ent) (a : Option Addr) (c : Nat), cs = entC e a c ∧ e.fit ∧ e.wide ∧ e.body.length ≤ c ∧ c ≤ maxLen ∧ RowAt W a (bytesV e.body)
theorem list8 {α : Type} : ∀ {l : List α}, l.length = 8 → ∃ a b c d e f g h, l = [a, b, c, d, e, f, g, h]
  | [a, b, c, d, e, f, g, h], _ => ⟨a, b, c, d, e, f, g, h, rfl⟩
theorem Q3D : Try.prog.cellsOf 27 = 8 := by kernel_rfl
theorem Q1H : Try.prog.cellsOf 24 = 2 := by kernel_rfl
theorem Q2X : Opens Try.prog 27 EntQ := (Q1v Try.underlying27 Q3D).mono fun W cs ⟨hl, hf⟩ => by
  obtain ⟨c0, c1, c2, c3, c4, c5, c6, c7, rfl⟩ := list8 hl
  have e0 : ∃ n, (([c0, c1, c2, c3, c4, c5, c6, c7] : List Value).drop 0).take (Try.prog.cellsOf 3) = [.int .i64 n] ∧ _ := hf 0 _ rfl _ (Q15 Try.underlying3)
  have e1 : ∃ n, (([c0, c1, c2, c3, c4, c5, c6, c7] : List Value).drop 1).take (Try.prog.cellsOf 3) = [.int .i64 n] ∧ _ := hf 1 _ rfl _ (Q15 Try.underlying3)
  have e2 : ∃ n, (([c0, c1, c2, c3, c4, c5, c6, c7] : List Value).drop 2).take (Try.prog.cellsOf 22) = [.int .u64 n] ∧ _ := hf 2 _ rfl _ (Q15 Try.underlying22)
  have e3 := hf 3 _ rfl _ (Q1v Try.underlying24 Q1H)
  change (((([c0, c1, c2, c3, c4, c5, c6, c7] : List Value).drop 3).take (Try.prog.cellsOf 24)).length = 2 ∧ _) at e3
  have e4 : ∃ n, (([c0, c1, c2, c3, c4, c5, c6, c7] : List Value).drop 5).take (Try.prog.cellsOf 3) = [.int .i64 n] ∧ _ := hf 4 _ rfl _ (Q15 Try.underlying3)
  have e5 : BytesQ W ((([c0, c1, c2, c3, c4, c5, c6, c7] : List Value).drop 6).take (Try.prog.cellsOf 25)) := hf 5 _ rfl _ (Q4a Try.underlying25 (by kernel_rfl) Try.underlying5)
  have e6 : ∃ n, (([c0, c1, c2, c3, c4, c5, c6, c7] : List Value).drop 7).take (Try.prog.cellsOf 22) = [.int .u64 n] ∧ _ := hf 6 _ rfl _ (Q15 Try.underlying22)
  have o1 : Try.prog.cellsOf 3 = 1 := by kernel_rfl
  have o2 : Try.prog.cellsOf 22 = 1 := by kernel_rfl
  have o3 : Try.prog.cellsOf 25 = 1 := by kernel_rfl
  have o4 : Try.prog.cellsOf 2 = 1 := by kernel_rfl
  simp only [o1, o2, o3, Q1H, List.drop_zero, List.drop_succ_cons, List.take_succ_cons, List.take_zero] at e0 e1 e2 e4 e5 e6
  obtain ⟨_, hs⟩ := e3
  have s0 : ∃ n, ((((([c0, c1, c2, c3, c4, c5, c6, c7] : List Value).drop 3).take (Try.prog.cellsOf 24)).drop 0).take (Try.prog.cellsOf 2)) = [.int .i64 n] ∧ _ := hs 0 _ rfl _ (Q15 Try.underlying2)
  have s1 : ∃ n, ((((([c0, c1, c2, c3, c4, c5, c6, c7] : List Value).drop 3).take (Try.prog.cellsOf 24)).drop 1).take (Try.prog.cellsOf 3)) = [.int .i64 n] ∧ _ := hs 1 _ rfl _ (Q15 Try.underlying3)
  simp only [o1, o4, Q1H, List.drop_zero, List.drop_succ_cons, List.take_succ_cons, List.take_zero] at s0 s1
  obtain ⟨n0, q0, w0⟩ := e0
  obtain ⟨n1, q1, w1⟩ := e1
  obtain ⟨n2, q2, w2⟩ := e2
  obtain ⟨n3, q3, w3⟩ := s0
  obtain ⟨n4, q4, w4⟩ := s1
  obtain ⟨n5, q5, w5⟩ := e4
  obtain ⟨a, c, bs, q6, l1, l2, r⟩ := e5
  obtain ⟨n7, q7, w7⟩ := e6
  simp only [List.cons.injEq, and_true] at q0 q1 q2 q3 q4 q5 q6 q7
  subst q0; subst q1; subst q2; subst q3; subst q4; subst q5; subst q6; subst q7
  exact ⟨⟨n0, n1, n2, n3, n4, n5, bs, n7⟩, a, c, rfl, ⟨(wf_u64 w2).1, (wf_u64 w2).2, (wf_u64 w7).1, (wf_u64 w7).2⟩, ⟨wf_i64 w0, wf_i64 w1, wf_i64 w3, wf_i64 w4, wf_i64 w5⟩, l1, l2, r⟩
set_option maxHeartbeats 4000000
open W (OwnB Rd numR countR doneR)
structure FP.inn (W : World) (x : FP) : Prop where
  at_ : x.at W
  el : x.r.e.body.length ≤ x.ec
  fl : x.r.f.body.length ≤ x.fc
  vl : x.r.v.length ≤ x.vc
  fv : ∀ h ∈ x.r.v, fitH h
  fe : x.r.e.fit ∧ x.r.e.wide
  ff : x.r.f.fit ∧ x.r.f.wide
  kd : -9223372036854775808 ≤ x.r.kd ∧ x.r.kd < 9223372036854775808
  who : -9223372036854775808 ≤ x.r.who ∧ x.r.who < 9223372036854775808
  sg : 0 ≤ x.r.sg ∧ x.r.sg < 18446744073709551616
def FrQ (W : World) (cs : List Value) : Prop := ∃ x : FP, cs = x.C ∧ x.inn W
theorem opens_frame : Opens Try.prog 30 FrQ :=
  (Q5f (qs := [(1, _), (8, _), (8, _), (1, _), (1, _), (1, _)]) (size := 20) Try.underlying30 (by kernel_rfl)
    ⟨⟨rfl, by kernel_rfl, Q15 Try.underlying3⟩, ⟨rfl, by kernel_rfl, Q2X⟩, ⟨rfl, by kernel_rfl, Q2X⟩, ⟨rfl, by kernel_rfl, Q15 Try.underlying3⟩, ⟨rfl, by kernel_rfl, Q4b⟩, ⟨rfl, by kernel_rfl, Q15 Try.underlying22⟩, rfl⟩).mono
    fun W cs ⟨_, _, e0, _, ⟨kd, q0, fk⟩, _, _, e1, _, ⟨e, ea, ec, q1, f1, g1, l1, _, r1⟩, _, _, e2, _, ⟨f, fa, fc, q2, f2, g2, l2, _, r2⟩, _, _, e3, _, ⟨who, q3, fw⟩, _, _, e4, _, ⟨va, vc, hs, q4, l4, _, r4, f4⟩, _, _, e5, _, ⟨sg, q5, fs⟩, q6⟩ => by
      subst q0; subst q1; subst q2; subst q3; subst q4; subst q5; subst q6; subst e5; subst e4; subst e3; subst e2; subst e1; subst e0
      exact ⟨⟨⟨kd, e, f, who, hs, sg⟩, ea, ec, fa, fc, va, vc⟩, rfl, ⟨r1, r2, r4⟩, l1, l2, l4, f4, ⟨f1, g1⟩, ⟨f2, g2⟩, wf_i64 fk, wf_i64 fw, wf_u64 fs⟩
theorem FP.inn.fit {W : World} {x : FP} (h : x.inn W) : x.r.fit := ⟨h.fe.1, h.ff.1, fun q hq => wf_u64 (h.fv q hq).2.2, h.sg⟩
theorem frK_ok {x : Fr} (h : (frK x).2 = 0) : frOK x = true ∧ (frL x).length ≤ 4000 ∧ frK x = (frL x, 0) := by
  unfold frK at h ⊢
  cases hk : frOK x with
  | false => rw [hk, if_pos rfl] at h; exact absurd (show (1 : Int) = 0 from h) (by decide)
  | true =>
    rw [hk, if_neg (by decide)] at h
    by_cases hl : (frL x).length > 4000
    · rw [if_pos hl] at h; exact absurd (show (3 : Int) = 0 from h) (by decide)
    · exact ⟨rfl, by omega, by rw [if_neg (by decide), if_neg hl]⟩
theorem frK_len (x : Fr) : (frK x).1.length ≤ 4000 := by
  unfold frK
  split
  · exact Nat.zero_le _
  · split
    · exact Nat.zero_le _
    · show (frL x).length ≤ 4000; omega
theorem light_v {r : Fr} (h : frLight r = true) : r.e.body.length ≤ 1500 ∧ r.f.body.length ≤ 1500 ∧ r.v.length ≤ 30 := of_decide_eq_true h
set_option maxRecDepth 100000
set_option maxHeartbeats 40000000
abbrev Q09.J1 (om cb : Addr) (s8 : Option Addr) (qx qv : Nat) (R : RW) (q5 : World) : Prop :=
 ∃ (kk d2 ft gv li lb di : Int) (dx : Option Addr) (en dd : Nat) (kv cz f3 ih ly lr f9 : Int) (dn : Option Addr) (du dw : Nat) (lh o6 : Int) (pk : Option Addr) (os oz : Nat) (n3 : Int), cellsAt q5 cb [.int .i64 kk, .int .i64 d2, .int .i64 ft, .int .u64 gv, .int .i64 li, .int .i64 lb, .int .i64 di, .slice dx en dd, .int .u64 kv, .int .i64 cz, .int .i64 f3, .int .u64 ih, .int .i64 ly, .int .i64 lr, .int .i64 f9, .slice dn du dw, .int .u64 lh, .int .i64 o6, .slice pk os oz, .int .u64 n3] 0 ∧
 Calls Try.prog 10 #[.agg #[.int .i64 kk, .int .i64 d2, .int .i64 ft, .int .u64 gv, .int .i64 li, .int .i64 lb, .int .i64 di, .slice dx en dd, .int .u64 kv, .int .i64 cz, .int .i64 f3, .int .u64 ih, .int .i64 ly, .int .i64 lr, .int .i64 f9, .slice dn du dw, .int .u64 lh, .int .i64 o6, .slice pk os oz, .int .u64 n3]] q5 fun si sd => ∃ (mu fj ip l5 m6 nb ja : Int) (gc : Option Addr) (fy jb : Nat) (mk fp k2 km ny n8 jt : Int) (k3 : Option Addr) (jh g6 : Nat) (m7 p5 : Int) (q9 : Option Addr) (q8 qo : Nat) (op : Int), si = .returned (.agg #[.int .i64 mu, .int .i64 fj, .int .i64 ip, .int .u64 l5, .int .i64 m6, .int .i64 nb, .int .i64 ja, .slice gc fy jb, .int .u64 mk, .int .i64 fp, .int .i64 k2, .int .u64 km, .int .i64 ny, .int .i64 n8, .int .i64 jt, .slice k3 jh g6, .int .u64 m7, .int .i64 p5, .slice q9 q8 qo, .int .u64 op]) ∧
 Calls Try.prog 9 #[.agg #[.int .i64 mu, .int .i64 fj, .int .i64 ip, .int .u64 l5, .int .i64 m6, .int .i64 nb, .int .i64 ja, .slice gc fy jb, .int .u64 mk, .int .i64 fp, .int .i64 k2, .int .u64 km, .int .i64 ny, .int .i64 n8, .int .i64 jt, .slice k3 jh g6, .int .u64 m7, .int .i64 p5, .slice q9 q8 qo, .int .u64 op]] sd fun s6 qa => ∃ (g8 : Option Addr) (im ig : Nat) (ll : Int), s6 = .returned (.tuple #[.slice g8 im ig, .int .i64 ll]) ∧
 ∃ (l9 d3 ea ib l6 ld e4 : Int) (dr : Option Addr) (eb fr : Nat) (lp d1 df jn lf kd eq : Int) (ff : Option Addr) (eg e9 : Nat) (lz oa : Int) (pb : Option Addr) (p8 p6 : Nat) (nd : Int), cellsAt qa cb [.int .i64 l9, .int .i64 d3, .int .i64 ea, .int .u64 ib, .int .i64 l6, .int .i64 ld, .int .i64 e4, .slice dr eb fr, .int .u64 lp, .int .i64 d1, .int .i64 df, .int .u64 jn, .int .i64 lf, .int .i64 kd, .int .i64 eq, .slice ff eg e9, .int .u64 lz, .int .i64 oa, .slice pb p8 p6, .int .u64 nd] 0 ∧
 Calls Try.prog 17 #[.agg #[.int .i64 l9, .int .i64 d3, .int .i64 ea, .int .u64 ib, .int .i64 l6, .int .i64 ld, .int .i64 e4, .slice dr eb fr, .int .u64 lp, .int .i64 d1, .int .i64 df, .int .u64 jn, .int .i64 lf, .int .i64 kd, .int .i64 eq, .slice ff eg e9, .int .u64 lz, .int .i64 oa, .slice pb p8 p6, .int .u64 nd]] qa fun s4 qr => ∃ (g9 : Option Addr) (iu gt : Nat) (l7 : Int), s4 = .returned (.tuple #[.slice g9 iu gt, .int .i64 l7]) ∧
 Calls Try.prog 13 #[.slice s8 qx qv] qr fun sh ov => ∃ (nx ew ik kl nm o7 ga : Int) (gr : Option Addr) (ic jd : Nat) (nq dv jo kp nk me i8 : Int) (iw : Option Addr) (gl jf : Nat) (mn po : Int) (pu : Option Addr) (q7 qp : Nat) (p0 mq : Int), sh = .returned (.tuple #[.agg #[.int .i64 nx, .int .i64 ew, .int .i64 ik, .int .u64 kl, .int .i64 nm, .int .i64 o7, .int .i64 ga, .slice gr ic jd, .int .u64 nq, .int .i64 dv, .int .i64 jo, .int .u64 kp, .int .i64 nk, .int .i64 me, .int .i64 i8, .slice iw gl jf, .int .u64 mn, .int .i64 po, .slice pu q7 qp, .int .u64 p0], .int .i64 mq]) ∧
 thenW (ov.alloc (.cells #[.int .i64 0, .int .i64 0, .int .i64 0, .int .u64 0, .int .i64 0, .int .i64 0, .int .i64 0, .slice none 0 0, .int .u64 0, .int .i64 0, .int .i64 0, .int .u64 0, .int .i64 0, .int .i64 0, .int .i64 0, .slice none 0 0, .int .u64 0, .int .i64 0, .slice none 0 0, .int .u64 0] 38)) fun sb =>
 putsK sb (blk ov.heap.size) [.int .i64 nx, .int .i64 ew, .int .i64 ik, .int .u64 kl, .int .i64 nm, .int .i64 o7, .int .i64 ga, .slice gr ic jd, .int .u64 nq, .int .i64 dv, .int .i64 jo, .int .u64 kp, .int .i64 nk, .int .i64 me, .int .i64 i8, .slice iw gl jf, .int .u64 mn, .int .i64 po, .slice pu q7 qp, .int .u64 p0] 0 fun qy =>
 Calls Try.prog 18 #[.slice s8 qx qv] qy fun sc mx => ∃ (ok es k1 kh mg n6 gq : Int) (k0 : Option Addr) (gp io : Nat) (ns f2 fx lu mt mf jp : Int) (gb : Option Addr) (k4 gd : Nat) (nh pj : Int) (qc : Option Addr) (pv qk : Nat) (p7 ml : Int), sc = .returned (.tuple #[.agg #[.int .i64 ok, .int .i64 es, .int .i64 k1, .int .u64 kh, .int .i64 mg, .int .i64 n6, .int .i64 gq, .slice k0 gp io, .int .u64 ns, .int .i64 f2, .int .i64 fx, .int .u64 lu, .int .i64 mt, .int .i64 mf, .int .i64 jp, .slice gb k4 gd, .int .u64 nh, .int .i64 pj, .slice qc pv qk, .int .u64 p7], .int .i64 ml]) ∧
 thenW (mx.alloc (.cells #[.int .i64 0, .int .i64 0, .int .i64 0, .int .u64 0, .int .i64 0, .int .i64 0, .int .i64 0, .slice none 0 0, .int .u64 0, .int .i64 0, .int .i64 0, .int .u64 0, .int .i64 0, .int .i64 0, .int .i64 0, .slice none 0 0, .int .u64 0, .int .i64 0, .slice none 0 0, .int .u64 0] 30)) fun qz =>
 putsK qz (blk mx.heap.size) [.int .i64 ok, .int .i64 es, .int .i64 k1, .int .u64 kh, .int .i64 mg, .int .i64 n6, .int .i64 gq, .slice k0 gp io, .int .u64 ns, .int .i64 f2, .int .i64 fx, .int .u64 lu, .int .i64 mt, .int .i64 mf, .int .i64 jp, .slice gb k4 gd, .int .u64 nh, .int .i64 pj, .slice qc pv qk, .int .u64 p7] 0 fun s3 =>
 thenW (s3.drew) fun ph =>
 ∃ (kx d7 fw j8 kn ku e3 : Int) (ee : Option Addr) (dz fg : Nat) (l4 cy ek gk lc lv fv : Int) (f5 : Option Addr) (ex e0 : Nat) (kq ms : Int) (oq : Option Addr) (p3 pa : Nat) (mv : Int), cellsAt ph cb [.int .i64 kx, .int .i64 d7, .int .i64 fw, .int .u64 j8, .int .i64 kn, .int .i64 ku, .int .i64 e3, .slice ee dz fg, .int .u64 l4, .int .i64 cy, .int .i64 ek, .int .u64 gk, .int .i64 lc, .int .i64 lv, .int .i64 fv, .slice f5 ex e0, .int .u64 kq, .int .i64 ms, .slice oq p3 pa, .int .u64 mv] 0 ∧
 ∃ (cq ap ay bq cj ct b2 : Int) (ax : Option Addr) (az b3 : Nat) (cl ao b6 br cs cr aw : Int) (b1 : Option Addr) (b5 b0 : Nat) (ci d9 : Int) (k5 : Option Addr) (k9 kb : Nat) (dc : Int), cellsAt ph cb [.int .i64 cq, .int .i64 ap, .int .i64 ay, .int .u64 bq, .int .i64 cj, .int .i64 ct, .int .i64 b2, .slice ax az b3, .int .u64 cl, .int .i64 ao, .int .i64 b6, .int .u64 br, .int .i64 cs, .int .i64 cr, .int .i64 aw, .slice b1 b5 b0, .int .u64 ci, .int .i64 d9, .slice k5 k9 kb, .int .u64 dc] 0 ∧
 Calls Try.prog 10 #[.agg #[.int .i64 kx, .int .i64 d7, .int .i64 fw, .int .u64 j8, .int .i64 kn, .int .i64 ku, .int .i64 e3, .slice ee dz fg, .int .u64 l4, .int .i64 cy, .int .i64 ek, .int .u64 gk, .int .i64 lc, .int .i64 lv, .int .i64 fv, .slice f5 ex e0, .int .u64 kq, .int .i64 ms, .slice oq p3 pa, .int .u64 mv]] ph fun qw qj => ∃ (mo e7 ie lg nn mi i0 : Int) (g4 : Option Addr) (ju j0 : Nat) (o3 f0 jj ln m9 ma j5 : Int) (jq : Option Addr) (jg iq : Nat) (mp pl : Int) (pz : Option Addr) (qb pq : Nat) (p1 : Int), qw = .returned (.agg #[.int .i64 mo, .int .i64 e7, .int .i64 ie, .int .u64 lg, .int .i64 nn, .int .i64 mi, .int .i64 i0, .slice g4 ju j0, .int .u64 o3, .int .i64 f0, .int .i64 jj, .int .u64 ln, .int .i64 m9, .int .i64 ma, .int .i64 j5, .slice jq jg iq, .int .u64 mp, .int .i64 pl, .slice pz qb pq, .int .u64 p1]) ∧
 cellsAt qj cb [.int .i64 cq, .int .i64 ap, .int .i64 ay, .int .u64 bq, .int .i64 cj, .int .i64 ct, .int .i64 b2, .slice ax az b3, .int .u64 cl, .int .i64 ao, .int .i64 b6, .int .u64 br, .int .i64 cs, .int .i64 cr, .int .i64 aw, .slice b1 b5 b0, .int .u64 ci, .int .i64 d9, .slice k5 k9 kb, .int .u64 dc] 0 ∧
 Calls Try.prog 16 #[.agg #[.int .i64 mo, .int .i64 e7, .int .i64 ie, .int .u64 lg, .int .i64 nn, .int .i64 mi, .int .i64 i0, .slice g4 ju j0, .int .u64 o3, .int .i64 f0, .int .i64 jj, .int .u64 ln, .int .i64 m9, .int .i64 ma, .int .i64 j5, .slice jq jg iq, .int .u64 mp, .int .i64 pl, .slice pz qb pq, .int .u64 p1]] qj fun qu qe => ∃ (l8 : Bool), qu = .returned (.bool l8) ∧
 cellsAt qe cb [.int .i64 cq, .int .i64 ap, .int .i64 ay, .int .u64 bq, .int .i64 cj, .int .i64 ct, .int .i64 b2, .slice ax az b3, .int .u64 cl, .int .i64 ao, .int .i64 b6, .int .u64 br, .int .i64 cs, .int .i64 cr, .int .i64 aw, .slice b1 b5 b0, .int .u64 ci, .int .i64 d9, .slice k5 k9 kb, .int .u64 dc] 0 ∧
 Calls Try.prog 19 #[.agg #[.int .i64 cq, .int .i64 ap, .int .i64 ay, .int .u64 bq, .int .i64 cj, .int .i64 ct, .int .i64 b2, .slice ax az b3, .int .u64 cl, .int .i64 ao, .int .i64 b6, .int .u64 br, .int .i64 cs, .int .i64 cr, .int .i64 aw, .slice b1 b5 b0, .int .u64 ci, .int .i64 d9, .slice k5 k9 kb, .int .u64 dc]] qe fun s0 qi => ∃ (lw : Bool), s0 = .returned (.bool lw) ∧
 bif l8 == lw then (
 Calls Try.prog 11 #[.slice g8 im ig, .slice g9 iu gt] qi fun sf l2 => ∃ (oh : Bool), sf = .returned (.bool oh) ∧
 bif oh then (
 bif ll == l7 then (
 ∃ (ky d0 dt i2 lj kc eh : Int) (fm : Option Addr) (fe f4 : Nat) (la d6 dl jc l0 l1 ep : Int) (ed : Option Addr) (dm e5 : Nat) (kj n2 : Int) (p4 : Option Addr) (pf pp : Nat) (nu : Int), cellsAt l2 (blk ov.heap.size) [.int .i64 ky, .int .i64 d0, .int .i64 dt, .int .u64 i2, .int .i64 lj, .int .i64 kc, .int .i64 eh, .slice fm fe f4, .int .u64 la, .int .i64 d6, .int .i64 dl, .int .u64 jc, .int .i64 l0, .int .i64 l1, .int .i64 ep, .slice ed dm e5, .int .u64 kj, .int .i64 n2, .slice p4 pf pp, .int .u64 nu] 0 ∧
 ∃ (e1 be bz cu dy fd bx : Int) (c2 : Option Addr) (c3 ch : Nat) (fu bl ce cx el de ca : Int) (cg : Option Addr) (c4 c5 : Nat) (ds k6 : Int) (m0 : Option Addr) (m2 m1 : Nat) (k7 : Int), cellsAt l2 (blk mx.heap.size) [.int .i64 e1, .int .i64 be, .int .i64 bz, .int .u64 cu, .int .i64 dy, .int .i64 fd, .int .i64 bx, .slice c2 c3 ch, .int .u64 fu, .int .i64 bl, .int .i64 ce, .int .u64 cx, .int .i64 el, .int .i64 de, .int .i64 ca, .slice cg c4 c5, .int .u64 ds, .int .i64 k6, .slice m0 m2 m1, .int .u64 k7] 0 ∧
 Calls Try.prog 15 #[.agg #[.int .i64 ky, .int .i64 d0, .int .i64 dt, .int .u64 i2, .int .i64 lj, .int .i64 kc, .int .i64 eh, .slice fm fe f4, .int .u64 la, .int .i64 d6, .int .i64 dl, .int .u64 jc, .int .i64 l0, .int .i64 l1, .int .i64 ep, .slice ed dm e5, .int .u64 kj, .int .i64 n2, .slice p4 pf pp, .int .u64 nu]] l2 fun s7 py => ∃ (o4 fk gs kr mr ob i5 : Int) (g1 : Option Addr) (j3 jm : Nat) (n1 fi ia lq n7 oj g3 : Int) (g0 : Option Addr) (jk j2 : Nat) (n4 oo : Int) (q6 : Option Addr) (q2 pt : Nat) (pm : Int), s7 = .returned (.agg #[.int .i64 o4, .int .i64 fk, .int .i64 gs, .int .u64 kr, .int .i64 mr, .int .i64 ob, .int .i64 i5, .slice g1 j3 jm, .int .u64 n1, .int .i64 fi, .int .i64 ia, .int .u64 lq, .int .i64 n7, .int .i64 oj, .int .i64 g3, .slice g0 jk j2, .int .u64 n4, .int .i64 oo, .slice q6 q2 pt, .int .u64 pm]) ∧
 cellsAt py (blk mx.heap.size) [.int .i64 e1, .int .i64 be, .int .i64 bz, .int .u64 cu, .int .i64 dy, .int .i64 fd, .int .i64 bx, .slice c2 c3 ch, .int .u64 fu, .int .i64 bl, .int .i64 ce, .int .u64 cx, .int .i64 el, .int .i64 de, .int .i64 ca, .slice cg c4 c5, .int .u64 ds, .int .i64 k6, .slice m0 m2 m1, .int .u64 k7] 0 ∧
 Calls Try.prog 14 #[.agg #[.int .i64 o4, .int .i64 fk, .int .i64 gs, .int .u64 kr, .int .i64 mr, .int .i64 ob, .int .i64 i5, .slice g1 j3 jm, .int .u64 n1, .int .i64 fi, .int .i64 ia, .int .u64 lq, .int .i64 n7, .int .i64 oj, .int .i64 g3, .slice g0 jk j2, .int .u64 n4, .int .i64 oo, .slice q6 q2 pt, .int .u64 pm], .agg #[.int .i64 e1, .int .i64 be, .int .i64 bz, .int .u64 cu, .int .i64 dy, .int .i64 fd, .int .i64 bx, .slice c2 c3 ch, .int .u64 fu, .int .i64 bl, .int .i64 ce, .int .u64 cx, .int .i64 el, .int .i64 de, .int .i64 ca, .slice cg c4 c5, .int .u64 ds, .int .i64 k6, .slice m0 m2 m1, .int .u64 k7]] py fun qt fo => ∃ (nv : Bool), qt = .returned (.bool nv) ∧
 bif nv then (
 bif mq == ml then (
 ∃ (le d4 fs gy ki l3 dj : Int) (et : Option Addr) (f6 f7 : Nat) (ke d5 ev js kg lt eu : Int) (ey : Option Addr) (er fa : Nat) (kz mc : Int) (pe : Option Addr) (ox oy : Nat) (nf : Int), cellsAt fo cb [.int .i64 le, .int .i64 d4, .int .i64 fs, .int .u64 gy, .int .i64 ki, .int .i64 l3, .int .i64 dj, .slice et f6 f7, .int .u64 ke, .int .i64 d5, .int .i64 ev, .int .u64 js, .int .i64 kg, .int .i64 lt, .int .i64 eu, .slice ey er fa, .int .u64 kz, .int .i64 mc, .slice pe ox oy, .int .u64 nf] 0 ∧
 ∃ (e6 bb bw cw f1 ei c9 : Int) (c8 : Option Addr) (c0 cc : Nat) (e8 bm c6 cv f8 dq cf : Int) (c7 : Option Addr) (cd c1 : Nat) (ec k8 : Int) (m5 : Option Addr) (m4 m3 : Nat) (ka : Int), cellsAt fo om [.int .i64 e6, .int .i64 bb, .int .i64 bw, .int .u64 cw, .int .i64 f1, .int .i64 ei, .int .i64 c9, .slice c8 c0 cc, .int .u64 e8, .int .i64 bm, .int .i64 c6, .int .u64 cv, .int .i64 f8, .int .i64 dq, .int .i64 cf, .slice c7 cd c1, .int .u64 ec, .int .i64 k8, .slice m5 m4 m3, .int .u64 ka] 0 ∧
 ∃ (b8 a0 a8 ar bh bn ai : Int) (ab : Option Addr) (a7 ak : Nat) (bg a1 aa aq bf bj al : Int) (a6 : Option Addr) (a9 ad : Nat) (bc cn : Int) (em : Option Addr) (fl dh : Nat) (co : Int), cellsAt fo cb [.int .i64 b8, .int .i64 a0, .int .i64 a8, .int .u64 ar, .int .i64 bh, .int .i64 bn, .int .i64 ai, .slice ab a7 ak, .int .u64 bg, .int .i64 a1, .int .i64 aa, .int .u64 aq, .int .i64 bf, .int .i64 bj, .int .i64 al, .slice a6 a9 ad, .int .u64 bc, .int .i64 cn, .slice em fl dh, .int .u64 co] 0 ∧
 ∃ (bd a2 a4 av bo bk am : Int) (an : Option Addr) (aj a5 : Nat) (b7 a3 ae au ba bi ah : Int) (ac : Option Addr) (ag af : Nat) (b9 cp : Int) (fb : Option Addr) (ez dg : Nat) (cm : Int), cellsAt fo om [.int .i64 bd, .int .i64 a2, .int .i64 a4, .int .u64 av, .int .i64 bo, .int .i64 bk, .int .i64 am, .slice an aj a5, .int .u64 b7, .int .i64 a3, .int .i64 ae, .int .u64 au, .int .i64 ba, .int .i64 bi, .int .i64 ah, .slice ac ag af, .int .u64 b9, .int .i64 cp, .slice fb ez dg, .int .u64 cm] 0 ∧
 Calls Try.prog 10 #[.agg #[.int .i64 le, .int .i64 d4, .int .i64 fs, .int .u64 gy, .int .i64 ki, .int .i64 l3, .int .i64 dj, .slice et f6 f7, .int .u64 ke, .int .i64 d5, .int .i64 ev, .int .u64 js, .int .i64 kg, .int .i64 lt, .int .i64 eu, .slice ey er fa, .int .u64 kz, .int .i64 mc, .slice pe ox oy, .int .u64 nf]] fo fun s9 ol => ∃ (ni ej g5 kf oe oi j1 : Int) (gg : Option Addr) (i1 jv : Nat) (mh fh jw kw np m8 gx : Int) (g2 : Option Addr) (jz je : Nat) (n5 pd : Int) (q0 : Option Addr) (qf qg : Nat) (pi : Int), s9 = .returned (.agg #[.int .i64 ni, .int .i64 ej, .int .i64 g5, .int .u64 kf, .int .i64 oe, .int .i64 oi, .int .i64 j1, .slice gg i1 jv, .int .u64 mh, .int .i64 fh, .int .i64 jw, .int .u64 kw, .int .i64 np, .int .i64 m8, .int .i64 gx, .slice g2 jz je, .int .u64 n5, .int .i64 pd, .slice q0 qf qg, .int .u64 pi]) ∧
 cellsAt ol om [.int .i64 bd, .int .i64 a2, .int .i64 a4, .int .u64 av, .int .i64 bo, .int .i64 bk, .int .i64 am, .slice an aj a5, .int .u64 b7, .int .i64 a3, .int .i64 ae, .int .u64 au, .int .i64 ba, .int .i64 bi, .int .i64 ah, .slice ac ag af, .int .u64 b9, .int .i64 cp, .slice fb ez dg, .int .u64 cm] 0 ∧
 cellsAt ol cb [.int .i64 b8, .int .i64 a0, .int .i64 a8, .int .u64 ar, .int .i64 bh, .int .i64 bn, .int .i64 ai, .slice ab a7 ak, .int .u64 bg, .int .i64 a1, .int .i64 aa, .int .u64 aq, .int .i64 bf, .int .i64 bj, .int .i64 al, .slice a6 a9 ad, .int .u64 bc, .int .i64 cn, .slice em fl dh, .int .u64 co] 0 ∧
 cellsAt ol om [.int .i64 e6, .int .i64 bb, .int .i64 bw, .int .u64 cw, .int .i64 f1, .int .i64 ei, .int .i64 c9, .slice c8 c0 cc, .int .u64 e8, .int .i64 bm, .int .i64 c6, .int .u64 cv, .int .i64 f8, .int .i64 dq, .int .i64 cf, .slice c7 cd c1, .int .u64 ec, .int .i64 k8, .slice m5 m4 m3, .int .u64 ka] 0 ∧
 Calls Try.prog 10 #[.agg #[.int .i64 e6, .int .i64 bb, .int .i64 bw, .int .u64 cw, .int .i64 f1, .int .i64 ei, .int .i64 c9, .slice c8 c0 cc, .int .u64 e8, .int .i64 bm, .int .i64 c6, .int .u64 cv, .int .i64 f8, .int .i64 dq, .int .i64 cf, .slice c7 cd c1, .int .u64 ec, .int .i64 k8, .slice m5 m4 m3, .int .u64 ka]] ol fun qq pg => ∃ (ne ef jx ls nw nr ix : Int) (ii : Option Addr) (gm jr : Nat) (o5 e2 gh kt o1 mz gj : Int) (gi : Option Addr) (il gn : Nat) (n0 p9 : Int) (qn : Option Addr) (pr pw : Nat) (p2 : Int), qq = .returned (.agg #[.int .i64 ne, .int .i64 ef, .int .i64 jx, .int .u64 ls, .int .i64 nw, .int .i64 nr, .int .i64 ix, .slice ii gm jr, .int .u64 o5, .int .i64 e2, .int .i64 gh, .int .u64 kt, .int .i64 o1, .int .i64 mz, .int .i64 gj, .slice gi il gn, .int .u64 n0, .int .i64 p9, .slice qn pr pw, .int .u64 p2]) ∧
 cellsAt pg om [.int .i64 bd, .int .i64 a2, .int .i64 a4, .int .u64 av, .int .i64 bo, .int .i64 bk, .int .i64 am, .slice an aj a5, .int .u64 b7, .int .i64 a3, .int .i64 ae, .int .u64 au, .int .i64 ba, .int .i64 bi, .int .i64 ah, .slice ac ag af, .int .u64 b9, .int .i64 cp, .slice fb ez dg, .int .u64 cm] 0 ∧
 cellsAt pg cb [.int .i64 b8, .int .i64 a0, .int .i64 a8, .int .u64 ar, .int .i64 bh, .int .i64 bn, .int .i64 ai, .slice ab a7 ak, .int .u64 bg, .int .i64 a1, .int .i64 aa, .int .u64 aq, .int .i64 bf, .int .i64 bj, .int .i64 al, .slice a6 a9 ad, .int .u64 bc, .int .i64 cn, .slice em fl dh, .int .u64 co] 0 ∧
 Calls Try.prog 12 #[.agg #[.int .i64 ni, .int .i64 ej, .int .i64 g5, .int .u64 kf, .int .i64 oe, .int .i64 oi, .int .i64 j1, .slice gg i1 jv, .int .u64 mh, .int .i64 fh, .int .i64 jw, .int .u64 kw, .int .i64 np, .int .i64 m8, .int .i64 gx, .slice g2 jz je, .int .u64 n5, .int .i64 pd, .slice q0 qf qg, .int .u64 pi], .agg #[.int .i64 ne, .int .i64 ef, .int .i64 jx, .int .u64 ls, .int .i64 nw, .int .i64 nr, .int .i64 ix, .slice ii gm jr, .int .u64 o5, .int .i64 e2, .int .i64 gh, .int .u64 kt, .int .i64 o1, .int .i64 mz, .int .i64 gj, .slice gi il gn, .int .u64 n0, .int .i64 p9, .slice qn pr pw, .int .u64 p2]] pg fun se ow => ∃ (nl : Bool), se = .returned (.bool nl) ∧
 cellsAt ow om [.int .i64 bd, .int .i64 a2, .int .i64 a4, .int .u64 av, .int .i64 bo, .int .i64 bk, .int .i64 am, .slice an aj a5, .int .u64 b7, .int .i64 a3, .int .i64 ae, .int .u64 au, .int .i64 ba, .int .i64 bi, .int .i64 ah, .slice ac ag af, .int .u64 b9, .int .i64 cp, .slice fb ez dg, .int .u64 cm] 0 ∧
 cellsAt ow cb [.int .i64 b8, .int .i64 a0, .int .i64 a8, .int .u64 ar, .int .i64 bh, .int .i64 bn, .int .i64 ai, .slice ab a7 ak, .int .u64 bg, .int .i64 a1, .int .i64 aa, .int .u64 aq, .int .i64 bf, .int .i64 bj, .int .i64 al, .slice a6 a9 ad, .int .u64 bc, .int .i64 cn, .slice em fl dh, .int .u64 co] 0 ∧
 Calls Try.prog 14 #[.agg #[.int .i64 b8, .int .i64 a0, .int .i64 a8, .int .u64 ar, .int .i64 bh, .int .i64 bn, .int .i64 ai, .slice ab a7 ak, .int .u64 bg, .int .i64 a1, .int .i64 aa, .int .u64 aq, .int .i64 bf, .int .i64 bj, .int .i64 al, .slice a6 a9 ad, .int .u64 bc, .int .i64 cn, .slice em fl dh, .int .u64 co], .agg #[.int .i64 bd, .int .i64 a2, .int .i64 a4, .int .u64 av, .int .i64 bo, .int .i64 bk, .int .i64 am, .slice an aj a5, .int .u64 b7, .int .i64 a3, .int .i64 ae, .int .u64 au, .int .i64 ba, .int .i64 bi, .int .i64 ah, .slice ac ag af, .int .u64 b9, .int .i64 cp, .slice fb ez dg, .int .u64 cm]] ow fun s1 mb => ∃ (nz : Bool), s1 = .returned (.bool nz) ∧
 bif nl == nz then (
 ∃ (fc g7 ko oc na ir : Int) (gw : Option Addr) (ji i6 : Nat) (od : Int), cellsAt mb (cb.add 1) [.int .i64 fc, .int .i64 g7, .int .u64 ko, .int .i64 oc, .int .i64 na, .int .i64 ir, .slice gw ji i6, .int .u64 od] 0 ∧
 ∃ (b4 bv ck d8 db bp : Int) (bu : Option Addr) (bs bt : Nat) (da : Int), cellsAt mb (cb.add 1) [.int .i64 b4, .int .i64 bv, .int .u64 ck, .int .i64 d8, .int .i64 db, .int .i64 bp, .slice bu bs bt, .int .u64 da] 0 ∧
 Calls Try.prog 20 #[.agg #[.int .i64 fc, .int .i64 g7, .int .u64 ko, .int .i64 oc, .int .i64 na, .int .i64 ir, .slice gw ji i6, .int .u64 od]] mb fun s5 ql => ∃ (o9 dk j4 lx nc mj gz : Int) (fz : Option Addr) (jy i3 : Nat) (o8 dp ij lm og n9 ge : Int) (j9 : Option Addr) (i9 iy : Nat) (nt pn : Int) (qm : Option Addr) (q3 qd : Nat) (ot : Int), s5 = .returned (.agg #[.int .i64 o9, .int .i64 dk, .int .i64 j4, .int .u64 lx, .int .i64 nc, .int .i64 mj, .int .i64 gz, .slice fz jy i3, .int .u64 o8, .int .i64 dp, .int .i64 ij, .int .u64 lm, .int .i64 og, .int .i64 n9, .int .i64 ge, .slice j9 i9 iy, .int .u64 nt, .int .i64 pn, .slice qm q3 qd, .int .u64 ot]) ∧
 cellsAt ql (cb.add 1) [.int .i64 b4, .int .i64 bv, .int .u64 ck, .int .i64 d8, .int .i64 db, .int .i64 bp, .slice bu bs bt, .int .u64 da] 0 ∧
 Calls Try.prog 15 #[.agg #[.int .i64 o9, .int .i64 dk, .int .i64 j4, .int .u64 lx, .int .i64 nc, .int .i64 mj, .int .i64 gz, .slice fz jy i3, .int .u64 o8, .int .i64 dp, .int .i64 ij, .int .u64 lm, .int .i64 og, .int .i64 n9, .int .i64 ge, .slice j9 i9 iy, .int .u64 nt, .int .i64 pn, .slice qm q3 qd, .int .u64 ot]] ql fun sa qh => ∃ (o2 eo j6 lk ng my it : Int) (i7 : Option Addr) (iz iv : Nat) (mm fq gf ks mw o0 gu : Int) (j7 : Option Addr) (i4 jl : Nat) (nj ou : Int) (q1 : Option Addr) (px ps : Nat) (pc : Int), sa = .returned (.agg #[.int .i64 o2, .int .i64 eo, .int .i64 j6, .int .u64 lk, .int .i64 ng, .int .i64 my, .int .i64 it, .slice i7 iz iv, .int .u64 mm, .int .i64 fq, .int .i64 gf, .int .u64 ks, .int .i64 mw, .int .i64 o0, .int .i64 gu, .slice j7 i4 jl, .int .u64 nj, .int .i64 ou, .slice q1 px ps, .int .u64 pc]) ∧
 cellsAt qh (cb.add 1) [.int .i64 b4, .int .i64 bv, .int .u64 ck, .int .i64 d8, .int .i64 db, .int .i64 bp, .slice bu bs bt, .int .u64 da] 0 ∧
 Calls Try.prog 14 #[.agg #[.int .i64 o2, .int .i64 eo, .int .i64 j6, .int .u64 lk, .int .i64 ng, .int .i64 my, .int .i64 it, .slice i7 iz iv, .int .u64 mm, .int .i64 fq, .int .i64 gf, .int .u64 ks, .int .i64 mw, .int .i64 o0, .int .i64 gu, .slice j7 i4 jl, .int .u64 nj, .int .i64 ou, .slice q1 px ps, .int .u64 pc], .agg #[.int .i64 1, .int .i64 b4, .int .i64 bv, .int .u64 ck, .int .i64 d8, .int .i64 db, .int .i64 bp, .slice bu bs bt, .int .u64 da, .int .i64 0, .int .i64 0, .int .u64 0, .int .i64 0, .int .i64 0, .int .i64 0, .slice none 0 0, .int .u64 0, .int .i64 0, .slice none 0 0, .int .u64 0]] qh fun qs q4 => ∃ (md : Bool), qs = .returned (.bool md) ∧
 bif md then (
 Calls Try.prog 8 #[] q4 fun s2 sg => ∃ (lo : Bool), s2 = .returned (.bool lo) ∧
 R (.bool lo) sg) else (
 R (.bool false) q4)) else (
 R (.bool false) mb)) else (
 R (.bool false) fo)) else (
 R (.bool false) fo)) else (
 R (.bool false) l2)) else (
 R (.bool false) l2)) else (
 R (.bool false) qi)

def Q09.M (cz bp c5 ch ct d0 c6 : Int) (c1 : Option Addr) (bx c0 : Nat) (cq au bm c4 ci c9 bs : Int) (bt : Option Addr) (bg bi : Nat) (ca cw : Int) (d1 : Option Addr) (d6 d5 : Nat) (cx cb av bn bw cf ce bk : Int) (bv : Option Addr) (bu bj : Nat) (cd aw bo bz cc cj bq : Int) (bh : Option Addr) (br bl : Nat) (cg cy : Int) (d4 : Option Addr) (d2 d7 : Nat) (cu : Int) (dd : Option Addr) (d8 de : Nat) (R : RW) (w : World) : Prop :=
 thenW (w.alloc (.cells #[.int .i64 cz, .int .i64 bp, .int .i64 c5, .int .u64 ch, .int .i64 ct, .int .i64 d0, .int .i64 c6, .slice c1 bx c0, .int .u64 cq, .int .i64 au, .int .i64 bm, .int .u64 c4, .int .i64 ci, .int .i64 c9, .int .i64 bs, .slice bt bg bi, .int .u64 ca, .int .i64 cw, .slice d1 d6 d5, .int .u64 cx] 30)) fun cr =>
 thenW (cr.alloc (.cells #[.int .i64 cb, .int .i64 av, .int .i64 bn, .int .u64 bw, .int .i64 cf, .int .i64 ce, .int .i64 bk, .slice bv bu bj, .int .u64 cd, .int .i64 aw, .int .i64 bo, .int .u64 bz, .int .i64 cc, .int .i64 cj, .int .i64 bq, .slice bh br bl, .int .u64 cg, .int .i64 cy, .slice d4 d2 d7, .int .u64 cu] 30)) fun d3 =>
 ∃ (b8 a3 a5 ar b5 b6 a8 : Int) (ai : Option Addr) (aa ac : Nat) (az a0 a4 ap ay b3 af : Int) (a6 : Option Addr) (ah al : Nat) (bf c7 : Int) (cl : Option Addr) (ck co : Nat) (c8 : Int), cellsAt d3 (blk w.heap.size) [.int .i64 b8, .int .i64 a3, .int .i64 a5, .int .u64 ar, .int .i64 b5, .int .i64 b6, .int .i64 a8, .slice ai aa ac, .int .u64 az, .int .i64 a0, .int .i64 a4, .int .u64 ap, .int .i64 ay, .int .i64 b3, .int .i64 af, .slice a6 ah al, .int .u64 bf, .int .i64 c7, .slice cl ck co, .int .u64 c8] 0 ∧
 Calls Try.prog 7 #[.agg #[.int .i64 b8, .int .i64 a3, .int .i64 a5, .int .u64 ar, .int .i64 b5, .int .i64 b6, .int .i64 a8, .slice ai aa ac, .int .u64 az, .int .i64 a0, .int .i64 a4, .int .u64 ap, .int .i64 ay, .int .i64 b3, .int .i64 af, .slice a6 ah al, .int .u64 bf, .int .i64 c7, .slice cl ck co, .int .u64 c8]] d3 fun da cv => ∃ (b1 : Bool), da = .returned (.bool b1) ∧
 bif !b1 then (
 Calls Try.prog 8 #[] cv fun dc df => ∃ (bb : Bool), dc = .returned (.bool bb) ∧
 R (.bool bb) df) else (
 ∃ (bc a1 a9 aq b7 be ak : Int) (aj : Option Addr) (an a7 : Nat) (bd a2 ae ao ax b2 ad : Int) (ab : Option Addr) (ag am : Nat) (b4 c3 : Int) (cn : Option Addr) (cp cm : Nat) (c2 : Int), cellsAt cv (blk cr.heap.size) [.int .i64 bc, .int .i64 a1, .int .i64 a9, .int .u64 aq, .int .i64 b7, .int .i64 be, .int .i64 ak, .slice aj an a7, .int .u64 bd, .int .i64 a2, .int .i64 ae, .int .u64 ao, .int .i64 ax, .int .i64 b2, .int .i64 ad, .slice ab ag am, .int .u64 b4, .int .i64 c3, .slice cn cp cm, .int .u64 c2] 0 ∧
 Calls Try.prog 7 #[.agg #[.int .i64 bc, .int .i64 a1, .int .i64 a9, .int .u64 aq, .int .i64 b7, .int .i64 be, .int .i64 ak, .slice aj an a7, .int .u64 bd, .int .i64 a2, .int .i64 ae, .int .u64 ao, .int .i64 ax, .int .i64 b2, .int .i64 ad, .slice ab ag am, .int .u64 b4, .int .i64 c3, .slice cn cp cm, .int .u64 c2]] cv fun d9 cs => ∃ (b9 : Bool), d9 = .returned (.bool b9) ∧
 bif !b9 then (
 Calls Try.prog 8 #[] cs fun db di => ∃ (ba : Bool), db = .returned (.bool ba) ∧
 R (.bool ba) di) else (
 bif decide ((d8 : Int) > 4100) then (
 Calls Try.prog 8 #[] cs fun dh dg => ∃ (b0 : Bool), dh = .returned (.bool b0) ∧
 R (.bool b0) dg) else (
 Q09.J1 (blk cr.heap.size) (blk w.heap.size) dd d8 de R cs)))

theorem Q09.ok (b7 ai an b0 bb b8 aq : Int) (ao : Option Addr) (ap al : Nat) (b4 a1 af am b3 b2 a4 : Int) (aa : Option Addr) (a3 a5 : Nat) (au ba : Int) (bg : Option Addr) (bh bf : Nat) (b6 b1 a0 ag ak ay aw a7 : Int) (ae : Option Addr) (ad a6 : Nat) (av a2 ah aj ar ax a9 : Int) (a8 : Option Addr) (ac ab : Nat) (az b9 : Int) (bc : Option Addr) (bd be : Nat) (b5 : Int) (bi : Option Addr) (bk bj : Nat) {R : RW} {w : World} (h : Q09.M b7 ai an b0 bb b8 aq ao ap al b4 a1 af am b3 b2 a4 aa a3 a5 au ba bg bh bf b6 b1 a0 ag ak ay aw a7 ae ad a6 av a2 ah aj ar ax a9 a8 ac ab az b9 bc bd be b5 bi bk bj R w) : Calls Try.prog 5 #[.agg #[.int .i64 b7, .int .i64 ai, .int .i64 an, .int .u64 b0, .int .i64 bb, .int .i64 b8, .int .i64 aq, .slice ao ap al, .int .u64 b4, .int .i64 a1, .int .i64 af, .int .u64 am, .int .i64 b3, .int .i64 b2, .int .i64 a4, .slice aa a3 a5, .int .u64 au, .int .i64 ba, .slice bg bh bf, .int .u64 b6], .agg #[.int .i64 b1, .int .i64 a0, .int .i64 ag, .int .u64 ak, .int .i64 ay, .int .i64 aw, .int .i64 a7, .slice ae ad a6, .int .u64 av, .int .i64 a2, .int .i64 ah, .int .u64 aj, .int .i64 ar, .int .i64 ax, .int .i64 a9, .slice a8 ac ab, .int .u64 az, .int .i64 b9, .slice bc bd be, .int .u64 b5], .slice bi bk bj] w fun e w' => ∃ v, e = .returned v ∧ R v w' :=
  Q08 follows (H := []) (args := [.agg #[.int .i64 b7, .int .i64 ai, .int .i64 an, .int .u64 b0, .int .i64 bb, .int .i64 b8, .int .i64 aq, .slice ao ap al, .int .u64 b4, .int .i64 a1, .int .i64 af, .int .u64 am, .int .i64 b3, .int .i64 b2, .int .i64 a4, .slice aa a3 a5, .int .u64 au, .int .i64 ba, .slice bg bh bf, .int .u64 b6], .agg #[.int .i64 b1, .int .i64 a0, .int .i64 ag, .int .u64 ak, .int .i64 ay, .int .i64 aw, .int .i64 a7, .slice ae ad a6, .int .u64 av, .int .i64 a2, .int .i64 ah, .int .u64 aj, .int .i64 ar, .int .i64 ax, .int .i64 a9, .slice a8 ac ab, .int .u64 az, .int .i64 b9, .slice bc bd be, .int .u64 b5], .slice bi bk bj]) (cast (by kernel_rfl) h)

def Q09.N (ao a0 a6 ac ah af a5 : Int) (a3 : Option Addr) (a4 a2 : Nat) (ae a1 a7 ad ag aj a9 : Int) (a8 : Option Addr) (aa ab : Nat) (ai an : Int) (b1 : Option Addr) (be bd : Nat) (ak ed al b0 ba e5 eg az : Int) (au : Option Addr) (ar ax : Nat) (ef am ap b4 e4 e7 aq : Int) (aw : Option Addr) (ay av : Nat) (eh fj : Int) (io : Option Addr) (ik j9 : Nat) (fi : Int) (kr : Option Addr) (jo l3 : Nat) (R : RW) (w : World) : Prop :=
 ∀ (jm : World) (bq f6 : Nat), Ext no w jm → Priv w jm [bq, f6] →
 Calls Try.prog 7 #[.agg #[.int .i64 ao, .int .i64 a0, .int .i64 a6, .int .u64 ac, .int .i64 ah, .int .i64 af, .int .i64 a5, .slice a3 a4 a2, .int .u64 ae, .int .i64 a1, .int .i64 a7, .int .u64 ad, .int .i64 ag, .int .i64 aj, .int .i64 a9, .slice a8 aa ab, .int .u64 ai, .int .i64 an, .slice b1 be bd, .int .u64 ak]] jm fun l8 jn => ∃ (ec : Bool), l8 = .returned (.bool ec) ∧
 Keep [bq, f6] jm jn ∧
 (ec = false →
 Calls Try.prog 8 #[] jn fun l6 ld => ∃ (fp : Bool), l6 = .returned (.bool fp) ∧
 R (.bool fp) ld) ∧
 (ec = true →
 Calls Try.prog 7 #[.agg #[.int .i64 ed, .int .i64 al, .int .i64 b0, .int .u64 ba, .int .i64 e5, .int .i64 eg, .int .i64 az, .slice au ar ax, .int .u64 ef, .int .i64 am, .int .i64 ap, .int .u64 b4, .int .i64 e4, .int .i64 e7, .int .i64 aq, .slice aw ay av, .int .u64 eh, .int .i64 fj, .slice io ik j9, .int .u64 fi]] jn fun lc iu => ∃ (e1 : Bool), lc = .returned (.bool e1) ∧
 Keep [bq, f6] jn iu ∧
 (e1 = false →
 Calls Try.prog 8 #[] iu fun lf lb => ∃ (i6 : Bool), lf = .returned (.bool i6) ∧
 R (.bool i6) lb) ∧
 (e1 = true →
 ((jo : Int) > 4100 →
 Calls Try.prog 8 #[] iu fun l9 lg => ∃ (fy : Bool), l9 = .returned (.bool fy) ∧
 R (.bool fy) lg) ∧
 ((jo : Int) ≤ 4100 →
 Calls Try.prog 10 #[.agg #[.int .i64 ao, .int .i64 a0, .int .i64 a6, .int .u64 ac, .int .i64 ah, .int .i64 af, .int .i64 a5, .slice a3 a4 a2, .int .u64 ae, .int .i64 a1, .int .i64 a7, .int .u64 ad, .int .i64 ag, .int .i64 aj, .int .i64 a9, .slice a8 aa ab, .int .u64 ai, .int .i64 an, .slice b1 be bd, .int .u64 ak]] iu fun l7 ki => ∃ (iy bu fc g5 ja j1 fd : Int) (fg : Option Addr) (ej f5 : Nat) (ij dq f8 i3 jg iv f0 : Int) (f3 : Option Addr) (ex el : Nat) (jk kd : Int) (kt : Option Addr) (l2 kk : Nat) (kf : Int), l7 = .returned (.agg #[.int .i64 iy, .int .i64 bu, .int .i64 fc, .int .u64 g5, .int .i64 ja, .int .i64 j1, .int .i64 fd, .slice fg ej f5, .int .u64 ij, .int .i64 dq, .int .i64 f8, .int .u64 i3, .int .i64 jg, .int .i64 iv, .int .i64 f0, .slice f3 ex el, .int .u64 jk, .int .i64 kd, .slice kt l2 kk, .int .u64 kf]) ∧
 Keep [bq, f6] iu ki ∧
 Calls Try.prog 9 #[.agg #[.int .i64 iy, .int .i64 bu, .int .i64 fc, .int .u64 g5, .int .i64 ja, .int .i64 j1, .int .i64 fd, .slice fg ej f5, .int .u64 ij, .int .i64 dq, .int .i64 f8, .int .u64 i3, .int .i64 jg, .int .i64 iv, .int .i64 f0, .slice f3 ex el, .int .u64 jk, .int .i64 kd, .slice kt l2 kk, .int .u64 kf]] ki fun le kh => ∃ (eq : Option Addr) (ff ev : Nat) (e8 : Int), le = .returned (.tuple #[.slice eq ff ev, .int .i64 e8]) ∧
 Keep [bq, f6] ki kh ∧
 Calls Try.prog 17 #[.agg #[.int .i64 ao, .int .i64 a0, .int .i64 a6, .int .u64 ac, .int .i64 ah, .int .i64 af, .int .i64 a5, .slice a3 a4 a2, .int .u64 ae, .int .i64 a1, .int .i64 a7, .int .u64 ad, .int .i64 ag, .int .i64 aj, .int .i64 a9, .slice a8 aa ab, .int .u64 ai, .int .i64 an, .slice b1 be bd, .int .u64 ak]] kh fun la kj => ∃ (ei : Option Addr) (f7 f2 : Nat) (ee : Int), la = .returned (.tuple #[.slice ei f7 f2, .int .i64 ee]) ∧
 Keep [bq, f6] kh kj ∧
 Calls Try.prog 13 #[.slice kr jo l3] kj fun ku im => ∃ (it c7 er g4 jc iw cd : Int) (d3 : Option Addr) (dv bn : Nat) (i2 bk cq et gl fo cz : Int) (ck : Option Addr) (dp dg : Nat) (i5 ji : Int) (k8 : Option Addr) (k6 kb : Nat) (ii e3 : Int), ku = .returned (.tuple #[.agg #[.int .i64 it, .int .i64 c7, .int .i64 er, .int .u64 g4, .int .i64 jc, .int .i64 iw, .int .i64 cd, .slice d3 dv bn, .int .u64 i2, .int .i64 bk, .int .i64 cq, .int .u64 et, .int .i64 gl, .int .i64 fo, .int .i64 cz, .slice ck dp dg, .int .u64 i5, .int .i64 ji, .slice k8 k6 kb, .int .u64 ii], .int .i64 e3]) ∧
 Keep [bq, f6] kj im ∧
 ∀ (fk : World) (ig : Nat), Ext no im fk → Priv im fk [ig] →
 Calls Try.prog 18 #[.slice kr jo l3] fk fun ky j5 => ∃ (fr b7 c8 f9 gi fl co : Int) (dx : Option Addr) (bz dy : Nat) (gn b5 da ep i9 g1 cy : Int) (di : Option Addr) (d6 d2 : Nat) (gj j7 : Int) (ju : Option Addr) (k1 jw : Nat) (il e2 : Int), ky = .returned (.tuple #[.agg #[.int .i64 fr, .int .i64 b7, .int .i64 c8, .int .u64 f9, .int .i64 gi, .int .i64 fl, .int .i64 co, .slice dx bz dy, .int .u64 gn, .int .i64 b5, .int .i64 da, .int .u64 ep, .int .i64 i9, .int .i64 g1, .int .i64 cy, .slice di d6 d2, .int .u64 gj, .int .i64 j7, .slice ju k1 jw, .int .u64 il], .int .i64 e2]) ∧
 Keep [bq, f6, ig] fk j5 ∧
 ∀ (ge : World) (ie : Nat), Ext no j5 ge → Priv j5 ge [ie] →
 Calls Try.prog 10 #[.agg #[.int .i64 ao, .int .i64 a0, .int .i64 a6, .int .u64 ac, .int .i64 ah, .int .i64 af, .int .i64 a5, .slice a3 a4 a2, .int .u64 ae, .int .i64 a1, .int .i64 a7, .int .u64 ad, .int .i64 ag, .int .i64 aj, .int .i64 a9, .slice a8 aa ab, .int .u64 ai, .int .i64 an, .slice b1 be bd, .int .u64 ak]] ge fun l5 ip => ∃ (ib b6 cx ew fs i4 cs : Int) (ce : Option Addr) (bt ca : Nat) (gy bl dt f1 gc gs dn : Int) (d0 : Option Addr) (cw dr : Nat) (gd j3 : Int) (kg : Option Addr) (k4 ka : Nat) (j6 : Int), l5 = .returned (.agg #[.int .i64 ib, .int .i64 b6, .int .i64 cx, .int .u64 ew, .int .i64 fs, .int .i64 i4, .int .i64 cs, .slice ce bt ca, .int .u64 gy, .int .i64 bl, .int .i64 dt, .int .u64 f1, .int .i64 gc, .int .i64 gs, .int .i64 dn, .slice d0 cw dr, .int .u64 gd, .int .i64 j3, .slice kg k4 ka, .int .u64 j6]) ∧
 Keep [bq, f6, ig, ie] ge ip ∧
 Calls Try.prog 16 #[.agg #[.int .i64 ib, .int .i64 b6, .int .i64 cx, .int .u64 ew, .int .i64 fs, .int .i64 i4, .int .i64 cs, .slice ce bt ca, .int .u64 gy, .int .i64 bl, .int .i64 dt, .int .u64 f1, .int .i64 gc, .int .i64 gs, .int .i64 dn, .slice d0 cw dr, .int .u64 gd, .int .i64 j3, .slice kg k4 ka, .int .u64 j6]] ip fun kq ih => ∃ (b2 : Bool), kq = .returned (.bool b2) ∧
 Keep [bq, f6, ig, ie] ip ih ∧
 Calls Try.prog 19 #[.agg #[.int .i64 ao, .int .i64 a0, .int .i64 a6, .int .u64 ac, .int .i64 ah, .int .i64 af, .int .i64 a5, .slice a3 a4 a2, .int .u64 ae, .int .i64 a1, .int .i64 a7, .int .u64 ad, .int .i64 ag, .int .i64 aj, .int .i64 a9, .slice a8 aa ab, .int .u64 ai, .int .i64 an, .slice b1 be bd, .int .u64 ak]] ih fun kz gf => ∃ (bj : Bool), kz = .returned (.bool bj) ∧
 Keep [bq, f6, ig, ie] ih gf ∧
 (b2 = bj →
 Calls Try.prog 11 #[.slice eq ff ev, .slice ei f7 f2] gf fun l1 fe => ∃ (e9 : Bool), l1 = .returned (.bool e9) ∧
 Keep [bq, f6, ig, ie] gf fe ∧
 (e9 = true →
 (e8 = ee →
 Calls Try.prog 15 #[.agg #[.int .i64 it, .int .i64 c7, .int .i64 er, .int .u64 g4, .int .i64 jc, .int .i64 iw, .int .i64 cd, .slice d3 dv bn, .int .u64 i2, .int .i64 bk, .int .i64 cq, .int .u64 et, .int .i64 gl, .int .i64 fo, .int .i64 cz, .slice ck dp dg, .int .u64 i5, .int .i64 ji, .slice k8 k6 kb, .int .u64 ii]] fe fun ko iq => ∃ (ft bf cf fb fw gz dk : Int) (df : Option Addr) (dl cg : Nat) (fv bi d7 ey fz fx cl : Int) (dc : Option Addr) (c5 d8 : Nat) (ia iz : Int) (k5 : Option Addr) (k2 jq : Nat) (je : Int), ko = .returned (.agg #[.int .i64 ft, .int .i64 bf, .int .i64 cf, .int .u64 fb, .int .i64 fw, .int .i64 gz, .int .i64 dk, .slice df dl cg, .int .u64 fv, .int .i64 bi, .int .i64 d7, .int .u64 ey, .int .i64 fz, .int .i64 fx, .int .i64 cl, .slice dc c5 d8, .int .u64 ia, .int .i64 iz, .slice k5 k2 jq, .int .u64 je]) ∧
 Keep [bq, f6, ie] fe iq ∧
 Calls Try.prog 14 #[.agg #[.int .i64 ft, .int .i64 bf, .int .i64 cf, .int .u64 fb, .int .i64 fw, .int .i64 gz, .int .i64 dk, .slice df dl cg, .int .u64 fv, .int .i64 bi, .int .i64 d7, .int .u64 ey, .int .i64 fz, .int .i64 fx, .int .i64 cl, .slice dc c5 d8, .int .u64 ia, .int .i64 iz, .slice k5 k2 jq, .int .u64 je], .agg #[.int .i64 fr, .int .i64 b7, .int .i64 c8, .int .u64 f9, .int .i64 gi, .int .i64 fl, .int .i64 co, .slice dx bz dy, .int .u64 gn, .int .i64 b5, .int .i64 da, .int .u64 ep, .int .i64 i9, .int .i64 g1, .int .i64 cy, .slice di d6 d2, .int .u64 gj, .int .i64 j7, .slice ju k1 jw, .int .u64 il]] iq fun kp ek => ∃ (eb : Bool), kp = .returned (.bool eb) ∧
 Keep [bq, f6] iq ek ∧
 (eb = true →
 (e3 = e2 →
 Calls Try.prog 10 #[.agg #[.int .i64 ao, .int .i64 a0, .int .i64 a6, .int .u64 ac, .int .i64 ah, .int .i64 af, .int .i64 a5, .slice a3 a4 a2, .int .u64 ae, .int .i64 a1, .int .i64 a7, .int .u64 ad, .int .i64 ag, .int .i64 aj, .int .i64 a9, .slice a8 aa ab, .int .u64 ai, .int .i64 an, .slice b1 be bd, .int .u64 ak]] ek fun l4 jd => ∃ (g6 b3 c6 eo gu i7 cb : Int) (bs : Option Addr) (br ch : Nat) (gq b9 dz en i1 gb c1 : Int) (bw : Option Addr) (d5 cu : Nat) (i0 jj : Int) (kc : Option Addr) (jp js : Nat) (jb : Int), l4 = .returned (.agg #[.int .i64 g6, .int .i64 b3, .int .i64 c6, .int .u64 eo, .int .i64 gu, .int .i64 i7, .int .i64 cb, .slice bs br ch, .int .u64 gq, .int .i64 b9, .int .i64 dz, .int .u64 en, .int .i64 i1, .int .i64 gb, .int .i64 c1, .slice bw d5 cu, .int .u64 i0, .int .i64 jj, .slice kc jp js, .int .u64 jb]) ∧
 Keep [bq, f6] ek jd ∧
 Calls Try.prog 10 #[.agg #[.int .i64 ed, .int .i64 al, .int .i64 b0, .int .u64 ba, .int .i64 e5, .int .i64 eg, .int .i64 az, .slice au ar ax, .int .u64 ef, .int .i64 am, .int .i64 ap, .int .u64 b4, .int .i64 e4, .int .i64 e7, .int .i64 aq, .slice aw ay av, .int .u64 eh, .int .i64 fj, .slice io ik j9, .int .u64 fi]] jd fun kw jf => ∃ (gm bh c9 fh g3 gv c2 : Int) (cc : Option Addr) (c4 dj : Nat) (fu bb d1 fa g0 i8 dd : Int) (cv : Option Addr) (bx cn : Nat) (g9 jl : Int) (k9 : Option Addr) (ke jz : Nat) (j2 : Int), kw = .returned (.agg #[.int .i64 gm, .int .i64 bh, .int .i64 c9, .int .u64 fh, .int .i64 g3, .int .i64 gv, .int .i64 c2, .slice cc c4 dj, .int .u64 fu, .int .i64 bb, .int .i64 d1, .int .u64 fa, .int .i64 g0, .int .i64 i8, .int .i64 dd, .slice cv bx cn, .int .u64 g9, .int .i64 jl, .slice k9 ke jz, .int .u64 j2]) ∧
 Keep [bq, f6] jd jf ∧
 Calls Try.prog 12 #[.agg #[.int .i64 g6, .int .i64 b3, .int .i64 c6, .int .u64 eo, .int .i64 gu, .int .i64 i7, .int .i64 cb, .slice bs br ch, .int .u64 gq, .int .i64 b9, .int .i64 dz, .int .u64 en, .int .i64 i1, .int .i64 gb, .int .i64 c1, .slice bw d5 cu, .int .u64 i0, .int .i64 jj, .slice kc jp js, .int .u64 jb], .agg #[.int .i64 gm, .int .i64 bh, .int .i64 c9, .int .u64 fh, .int .i64 g3, .int .i64 gv, .int .i64 c2, .slice cc c4 dj, .int .u64 fu, .int .i64 bb, .int .i64 d1, .int .u64 fa, .int .i64 g0, .int .i64 i8, .int .i64 dd, .slice cv bx cn, .int .u64 g9, .int .i64 jl, .slice k9 ke jz, .int .u64 j2]] jf fun km j0 => ∃ (e0 : Bool), km = .returned (.bool e0) ∧
 Keep [bq, f6] jf j0 ∧
 Calls Try.prog 14 #[.agg #[.int .i64 ao, .int .i64 a0, .int .i64 a6, .int .u64 ac, .int .i64 ah, .int .i64 af, .int .i64 a5, .slice a3 a4 a2, .int .u64 ae, .int .i64 a1, .int .i64 a7, .int .u64 ad, .int .i64 ag, .int .i64 aj, .int .i64 a9, .slice a8 aa ab, .int .u64 ai, .int .i64 an, .slice b1 be bd, .int .u64 ak], .agg #[.int .i64 ed, .int .i64 al, .int .i64 b0, .int .u64 ba, .int .i64 e5, .int .i64 eg, .int .i64 az, .slice au ar ax, .int .u64 ef, .int .i64 am, .int .i64 ap, .int .u64 b4, .int .i64 e4, .int .i64 e7, .int .i64 aq, .slice aw ay av, .int .u64 eh, .int .i64 fj, .slice io ik j9, .int .u64 fi]] j0 fun kv g8 => ∃ (e6 : Bool), kv = .returned (.bool e6) ∧
 Keep [bq] j0 g8 ∧
 (e0 = e6 →
 Calls Try.prog 20 #[.agg #[.int .i64 a0, .int .i64 a6, .int .u64 ac, .int .i64 ah, .int .i64 af, .int .i64 a5, .slice a3 a4 a2, .int .u64 ae]] g8 fun l0 ir => ∃ (fm bm ci f4 gx g7 cp : Int) (c3 : Option Addr) (cr bv : Nat) (gt bc ct es ic gg dh : Int) (d9 : Option Addr) (dw bo : Nat) (gk j8 : Int) (jt : Option Addr) (jy jv : Nat) (j4 : Int), l0 = .returned (.agg #[.int .i64 fm, .int .i64 bm, .int .i64 ci, .int .u64 f4, .int .i64 gx, .int .i64 g7, .int .i64 cp, .slice c3 cr bv, .int .u64 gt, .int .i64 bc, .int .i64 ct, .int .u64 es, .int .i64 ic, .int .i64 gg, .int .i64 dh, .slice d9 dw bo, .int .u64 gk, .int .i64 j8, .slice jt jy jv, .int .u64 j4]) ∧
 Keep [bq] g8 ir ∧
 Calls Try.prog 15 #[.agg #[.int .i64 fm, .int .i64 bm, .int .i64 ci, .int .u64 f4, .int .i64 gx, .int .i64 g7, .int .i64 cp, .slice c3 cr bv, .int .u64 gt, .int .i64 bc, .int .i64 ct, .int .u64 es, .int .i64 ic, .int .i64 gg, .int .i64 dh, .slice d9 dw bo, .int .u64 gk, .int .i64 j8, .slice jt jy jv, .int .u64 j4]] ir fun kx k3 => ∃ (gr b8 c0 ez ga gh dm : Int) (bp : Option Addr) (d4 cm : Nat) (gw bg db em gp fq cj : Int) (ds : Option Addr) (de du : Nat) (g2 jh : Int) (k0 : Option Addr) (k7 jx : Nat) (ix : Int), kx = .returned (.agg #[.int .i64 gr, .int .i64 b8, .int .i64 c0, .int .u64 ez, .int .i64 ga, .int .i64 gh, .int .i64 dm, .slice bp d4 cm, .int .u64 gw, .int .i64 bg, .int .i64 db, .int .u64 em, .int .i64 gp, .int .i64 fq, .int .i64 cj, .slice ds de du, .int .u64 g2, .int .i64 jh, .slice k0 k7 jx, .int .u64 ix]) ∧
 Keep [bq] ir k3 ∧
 Calls Try.prog 14 #[.agg #[.int .i64 gr, .int .i64 b8, .int .i64 c0, .int .u64 ez, .int .i64 ga, .int .i64 gh, .int .i64 dm, .slice bp d4 cm, .int .u64 gw, .int .i64 bg, .int .i64 db, .int .u64 em, .int .i64 gp, .int .i64 fq, .int .i64 cj, .slice ds de du, .int .u64 g2, .int .i64 jh, .slice k0 k7 jx, .int .u64 ix], .agg #[.int .i64 1, .int .i64 a0, .int .i64 a6, .int .u64 ac, .int .i64 ah, .int .i64 af, .int .i64 a5, .slice a3 a4 a2, .int .u64 ae, .int .i64 0, .int .i64 0, .int .u64 0, .int .i64 0, .int .i64 0, .int .i64 0, .slice none 0 0, .int .u64 0, .int .i64 0, .slice none 0 0, .int .u64 0]] k3 fun ks jr => ∃ (ea : Bool), ks = .returned (.bool ea) ∧
 (ea = true →
 Calls Try.prog 8 #[] jr fun kn kl => ∃ (eu : Bool), kn = .returned (.bool eu) ∧
 R (.bool eu) kl) ∧
 (ea = false →
 R (.bool false) jr)) ∧
 (e0 ≠ e6 →
 R (.bool false) g8)) ∧
 (e3 ≠ e2 →
 R (.bool false) ek)) ∧
 (eb = false →
 R (.bool false) ek)) ∧
 (e8 ≠ ee →
 R (.bool false) fe)) ∧
 (e9 = false →
 R (.bool false) fe)) ∧
 (b2 ≠ bj →
 R (.bool false) gf))))

theorem Q09.up (b4 a2 a8 ae ao al a7 : Int) (a5 : Option Addr) (a6 a4 : Nat) (ak a3 a9 af ah aj ab : Int) (aa : Option Addr) (ac ad : Nat) (ai b3 : Int) (b7 : Option Addr) (bc bb : Nat) (b2 bd am b0 b6 b9 bf az : Int) (au : Option Addr) (ar ax : Nat) (be an ap b5 b8 ba aq : Int) (aw : Option Addr) (ay av : Nat) (bg bl : Int) (c8 : Option Addr) (c7 cd : Nat) (bh : Int) (k1 : Option Addr) (k7 kk : Nat) {R : RW} {w : World} (h : Q09.N b4 a2 a8 ae ao al a7 a5 a6 a4 ak a3 a9 af ah aj ab aa ac ad ai b3 b7 bc bb b2 bd am b0 b6 b9 bf az au ar ax be an ap b5 b8 ba aq aw ay av bg bl c8 c7 cd bh k1 k7 kk R w) : Q09.M b4 a2 a8 ae ao al a7 a5 a6 a4 ak a3 a9 af ah aj ab aa ac ad ai b3 b7 bc bb b2 bd am b0 b6 b9 bf az au ar ax be an ap b5 b8 ba aq aw ay av bg bl c8 c7 cd bh k1 k7 kk R w := by
  unfold Q09.M
  unfold Q09.N at h
  refine Q02 fun kq lz => ?_
  have a0 := Blk.of_new lz
  have mk := ((Ext.refl no w)).size
  have ki := (Ext.refl no w).x_alloc lz
  refine Q02 fun kt l1 => ?_
  have a1 := Blk.of_new l1
  have mi := (ki).size
  have ln := Nat.ne_of_lt a0.lt
  have a0 := a0.x_alloc l1
  have ks := ki.x_alloc l1
  refine ⟨b4, a2, a8, ae, ao, al, a7, a5, a6, a4, ak, a3, a9, af, ah, aj, ab, aa, ac, ad, ai, b3, b7, bc, bb, b2, ⟨a0.celli 0 rfl rfl, a0.celli 1 rfl rfl, a0.celli 2 rfl rfl, a0.celli 3 rfl rfl, a0.celli 4 rfl rfl, a0.celli 5 rfl rfl, a0.celli 6 rfl rfl, a0.celli 7 rfl rfl, a0.celli 8 rfl rfl, a0.celli 9 rfl rfl, a0.celli 10 rfl rfl, a0.celli 11 rfl rfl, a0.celli 12 rfl rfl, a0.celli 13 rfl rfl, a0.celli 14 rfl rfl, a0.celli 15 rfl rfl, a0.celli 16 rfl rfl, a0.celli 17 rfl rfl, a0.celli 18 rfl rfl, a0.celli 19 rfl rfl, trivial⟩, ?_⟩
  have h := h kt (w.heap.size) (kq.heap.size) ks (Priv.cons mk a0.lt (Priv.cons mi a1.lt Priv.nil))
  refine h.mono fun m6 m9 h => ?_
  obtain ⟨ib, he, hk, h⟩ := h
  refine ⟨ib, he, ?_⟩
  have a0 := hk.blk a0 (by simp)
  have a1 := hk.blk a1 (by simp)
  refine bif_of (fun kr => ?_) (fun kr => ?_)
  ·have h := h.1 (not_t kr)
   refine h.mono fun m4 mc h => ?_
   obtain ⟨g1, he, h⟩ := h
   refine ⟨g1, he, ?_⟩
   exact h
  have h := h.2 (not_f kr)
  refine ⟨bd, am, b0, b6, b9, bf, az, au, ar, ax, be, an, ap, b5, b8, ba, aq, aw, ay, av, bg, bl, c8, c7, cd, bh, ⟨a1.celli 0 rfl rfl, a1.celli 1 rfl rfl, a1.celli 2 rfl rfl, a1.celli 3 rfl rfl, a1.celli 4 rfl rfl, a1.celli 5 rfl rfl, a1.celli 6 rfl rfl, a1.celli 7 rfl rfl, a1.celli 8 rfl rfl, a1.celli 9 rfl rfl, a1.celli 10 rfl rfl, a1.celli 11 rfl rfl, a1.celli 12 rfl rfl, a1.celli 13 rfl rfl, a1.celli 14 rfl rfl, a1.celli 15 rfl rfl, a1.celli 16 rfl rfl, a1.celli 17 rfl rfl, a1.celli 18 rfl rfl, a1.celli 19 rfl rfl, trivial⟩, ?_⟩
  refine h.mono fun mb mf h => ?_
  obtain ⟨gj, he, hk, h⟩ := h
  refine ⟨gj, he, ?_⟩
  have a0 := hk.blk a0 (by simp)
  have a1 := hk.blk a1 (by simp)
  refine bif_of (fun kv => ?_) (fun kv => ?_)
  ·have h := h.1 (not_t kv)
   refine h.mono fun mg ma h => ?_
   obtain ⟨ik, he, h⟩ := h
   refine ⟨ik, he, ?_⟩
   exact h
  have h := h.2 (not_f kv)
  refine bif_of (fun ky => ?_) (fun ky => ?_)
  ·have h := h.1 (of_decide_eq_true ky)
   refine h.mono fun m7 mj h => ?_
   obtain ⟨ga, he, h⟩ := h
   refine ⟨ga, he, ?_⟩
   exact h
  have h := h.2 (Int.not_lt.1 (of_decide_eq_false ky))
  first | unfold Q09.J1 | skip
  refine ⟨b4, a2, a8, ae, ao, al, a7, a5, a6, a4, ak, a3, a9, af, ah, aj, ab, aa, ac, ad, ai, b3, b7, bc, bb, b2, ⟨a0.celli 0 rfl rfl, a0.celli 1 rfl rfl, a0.celli 2 rfl rfl, a0.celli 3 rfl rfl, a0.celli 4 rfl rfl, a0.celli 5 rfl rfl, a0.celli 6 rfl rfl, a0.celli 7 rfl rfl, a0.celli 8 rfl rfl, a0.celli 9 rfl rfl, a0.celli 10 rfl rfl, a0.celli 11 rfl rfl, a0.celli 12 rfl rfl, a0.celli 13 rfl rfl, a0.celli 14 rfl rfl, a0.celli 15 rfl rfl, a0.celli 16 rfl rfl, a0.celli 17 rfl rfl, a0.celli 18 rfl rfl, a0.celli 19 rfl rfl, trivial⟩, ?_⟩
  refine h.mono fun m5 mh h => ?_
  obtain ⟨j6, d7, fu, gf, jh, j8, fv, fy, ev, fk, j0, em, fo, ih, jl, j4, fb, fg, f8, ex, jo, kh, kx, kz, ku, km, he, hk, h⟩ := h
  refine ⟨j6, d7, fu, gf, jh, j8, fv, fy, ev, fk, j0, em, fo, ih, jl, j4, fb, fg, f8, ex, jo, kh, kx, kz, ku, km, he, ?_⟩
  have a0 := hk.blk a0 (by simp)
  have a1 := hk.blk a1 (by simp)
  refine h.mono fun md me h => ?_
  obtain ⟨f3, fx, f6, gx, he, hk, h⟩ := h
  refine ⟨f3, fx, f6, gx, he, ?_⟩
  have a0 := hk.blk a0 (by simp)
  have a1 := hk.blk a1 (by simp)
  refine ⟨b4, a2, a8, ae, ao, al, a7, a5, a6, a4, ak, a3, a9, af, ah, aj, ab, aa, ac, ad, ai, b3, b7, bc, bb, b2, ⟨a0.celli 0 rfl rfl, a0.celli 1 rfl rfl, a0.celli 2 rfl rfl, a0.celli 3 rfl rfl, a0.celli 4 rfl rfl, a0.celli 5 rfl rfl, a0.celli 6 rfl rfl, a0.celli 7 rfl rfl, a0.celli 8 rfl rfl, a0.celli 9 rfl rfl, a0.celli 10 rfl rfl, a0.celli 11 rfl rfl, a0.celli 12 rfl rfl, a0.celli 13 rfl rfl, a0.celli 14 rfl rfl, a0.celli 15 rfl rfl, a0.celli 16 rfl rfl, a0.celli 17 rfl rfl, a0.celli 18 rfl rfl, a0.celli 19 rfl rfl, trivial⟩, ?_⟩
  refine h.mono fun m8 ml h => ?_
  obtain ⟨et, fl, ff, ij, he, hk, h⟩ := h
  refine ⟨et, fl, ff, ij, he, ?_⟩
  have a0 := hk.blk a0 (by simp)
  have a1 := hk.blk a1 (by simp)
  refine h.mono fun lk f1 h => ?_
  obtain ⟨fe, bo, ca, cu, fr, fj, bq, bx, c4, bm, cz, bk, bt, cb, cx, cr, bv, br, c3, c1, d0, fw, ix, iw, iy, eu, gr, he, hk, h⟩ := h
  refine ⟨fe, bo, ca, cu, fr, fj, bq, bx, c4, bm, cz, bk, bt, cb, cx, cr, bv, br, c3, c1, d0, fw, ix, iw, iy, eu, gr, he, ?_⟩
  have a0 := hk.blk a0 (by simp)
  have a1 := hk.blk a1 (by simp)
  refine Q02 fun ld gp => ?_
  have b1 := Blk.of_new gp
  have l4 := ((Ext.refl no f1)).size
  have kp := Nat.ne_of_lt a0.lt
  have a0 := a0.x_alloc gp
  have k0 := Nat.ne_of_lt a1.lt
  have a1 := a1.x_alloc gp
  have k6 := (Ext.refl no f1).x_alloc gp
  refine Q0a (k := 0) (j := 0) b1 (by exact Nat.le_of_ble_eq_true rfl) fun jr j2 kw => ?_
  have kc := k6.x_puts j2 (.inr l4)
  have a0 := a0.x_puts j2 kp
  have a1 := a1.x_puts j2 k0
  have b1 := Q0e kw rfl
  have h := h jr (f1.heap.size) kc (Priv.cons l4 b1.lt Priv.nil)
  refine h.mono fun lr fm h => ?_
  obtain ⟨cs, bj, bp, cc, cv, cq, bs, c5, bn, c6, cy, bi, c0, c9, d1, ct, bu, c2, bz, bw, cw, fp, it, iv, iu, f0, gq, he, hk, h⟩ := h
  refine ⟨cs, bj, bp, cc, cv, cq, bs, c5, bn, c6, cy, bi, c0, c9, d1, ct, bu, c2, bz, bw, cw, fp, it, iv, iu, f0, gq, he, ?_⟩
  have a0 := hk.blk a0 (by simp)
  have a1 := hk.blk a1 (by simp)
  have b1 := hk.blk b1 (by simp)
  refine Q02 fun ly fc => ?_
  have ag := Blk.of_new fc
  have ls := ((Ext.refl no fm)).size
  have ke := Nat.ne_of_lt a0.lt
  have a0 := a0.x_alloc fc
  have kb := Nat.ne_of_lt a1.lt
  have a1 := a1.x_alloc fc
  have kj := Nat.ne_of_lt b1.lt
  have b1 := b1.x_alloc fc
  have ka := (Ext.refl no fm).x_alloc fc
  refine Q0a (k := 0) (j := 0) ag (by exact Nat.le_of_ble_eq_true rfl) fun la iq l0 => ?_
  have kn := ka.x_puts iq (.inr ls)
  have a0 := a0.x_puts iq ke
  have a1 := a1.x_puts iq kb
  have b1 := b1.x_puts iq kj
  have ag := Q0e l0 rfl
  refine Q02 fun k3 fi => ?_
  have k5 := kn.x_drew fi
  have a0 := a0.x_drew fi
  have a1 := a1.x_drew fi
  have b1 := b1.x_drew fi
  have ag := ag.x_drew fi
  refine ⟨b4, a2, a8, ae, ao, al, a7, a5, a6, a4, ak, a3, a9, af, ah, aj, ab, aa, ac, ad, ai, b3, b7, bc, bb, b2, ⟨a0.celli 0 rfl rfl, a0.celli 1 rfl rfl, a0.celli 2 rfl rfl, a0.celli 3 rfl rfl, a0.celli 4 rfl rfl, a0.celli 5 rfl rfl, a0.celli 6 rfl rfl, a0.celli 7 rfl rfl, a0.celli 8 rfl rfl, a0.celli 9 rfl rfl, a0.celli 10 rfl rfl, a0.celli 11 rfl rfl, a0.celli 12 rfl rfl, a0.celli 13 rfl rfl, a0.celli 14 rfl rfl, a0.celli 15 rfl rfl, a0.celli 16 rfl rfl, a0.celli 17 rfl rfl, a0.celli 18 rfl rfl, a0.celli 19 rfl rfl, trivial⟩, ?_⟩
  refine ⟨b4, a2, a8, ae, ao, al, a7, a5, a6, a4, ak, a3, a9, af, ah, aj, ab, aa, ac, ad, ai, b3, b7, bc, bb, b2, ⟨a0.celli 0 rfl rfl, a0.celli 1 rfl rfl, a0.celli 2 rfl rfl, a0.celli 3 rfl rfl, a0.celli 4 rfl rfl, a0.celli 5 rfl rfl, a0.celli 6 rfl rfl, a0.celli 7 rfl rfl, a0.celli 8 rfl rfl, a0.celli 9 rfl rfl, a0.celli 10 rfl rfl, a0.celli 11 rfl rfl, a0.celli 12 rfl rfl, a0.celli 13 rfl rfl, a0.celli 14 rfl rfl, a0.celli 15 rfl rfl, a0.celli 16 rfl rfl, a0.celli 17 rfl rfl, a0.celli 18 rfl rfl, a0.celli 19 rfl rfl, trivial⟩, ?_⟩
  have h := h k3 (fm.heap.size) k5 (Priv.cons ls ag.lt Priv.nil)
  refine h.mono fun m2 l9 h => ?_
  obtain ⟨ip, cf, e3, f7, g3, ii, dy, dm, d6, dj, ia, co, ep, fd, gm, i2, el, e4, e2, en, gn, jb, ko, k4, kf, jd, he, hk, h⟩ := h
  refine ⟨ip, cf, e3, f7, g3, ii, dy, dm, d6, dj, ia, co, ep, fd, gm, i2, el, e4, e2, en, gn, jb, ko, k4, kf, jd, he, ?_⟩
  have a0 := hk.blk a0 (by simp)
  have a1 := hk.blk a1 (by simp)
  have b1 := hk.blk b1 (by simp)
  have ag := hk.blk ag (by simp)
  refine ⟨⟨a0.celli 0 rfl rfl, a0.celli 1 rfl rfl, a0.celli 2 rfl rfl, a0.celli 3 rfl rfl, a0.celli 4 rfl rfl, a0.celli 5 rfl rfl, a0.celli 6 rfl rfl, a0.celli 7 rfl rfl, a0.celli 8 rfl rfl, a0.celli 9 rfl rfl, a0.celli 10 rfl rfl, a0.celli 11 rfl rfl, a0.celli 12 rfl rfl, a0.celli 13 rfl rfl, a0.celli 14 rfl rfl, a0.celli 15 rfl rfl, a0.celli 16 rfl rfl, a0.celli 17 rfl rfl, a0.celli 18 rfl rfl, a0.celli 19 rfl rfl, trivial⟩, ?_⟩
  refine h.mono fun lg l2 h => ?_
  obtain ⟨ew, he, hk, h⟩ := h
  refine ⟨ew, he, ?_⟩
  have a0 := hk.blk a0 (by simp)
  have a1 := hk.blk a1 (by simp)
  have b1 := hk.blk b1 (by simp)
  have ag := hk.blk ag (by simp)
  refine ⟨⟨a0.celli 0 rfl rfl, a0.celli 1 rfl rfl, a0.celli 2 rfl rfl, a0.celli 3 rfl rfl, a0.celli 4 rfl rfl, a0.celli 5 rfl rfl, a0.celli 6 rfl rfl, a0.celli 7 rfl rfl, a0.celli 8 rfl rfl, a0.celli 9 rfl rfl, a0.celli 10 rfl rfl, a0.celli 11 rfl rfl, a0.celli 12 rfl rfl, a0.celli 13 rfl rfl, a0.celli 14 rfl rfl, a0.celli 15 rfl rfl, a0.celli 16 rfl rfl, a0.celli 17 rfl rfl, a0.celli 18 rfl rfl, a0.celli 19 rfl rfl, trivial⟩, ?_⟩
  refine h.mono fun lu lj h => ?_
  obtain ⟨ft, he, hk, h⟩ := h
  refine ⟨ft, he, ?_⟩
  have a0 := hk.blk a0 (by simp)
  have a1 := hk.blk a1 (by simp)
  have b1 := hk.blk b1 (by simp)
  have ag := hk.blk ag (by simp)
  refine bif_fo (fun jj => ?_) (fun jj => ?_)
  ·have h := h.2 (bbeq_f jj)
   exact h
  have h := h.1 (bbeq_t jj)
  refine h.mono fun lx m3 h => ?_
  obtain ⟨i1, he, hk, h⟩ := h
  refine ⟨i1, he, ?_⟩
  have a0 := hk.blk a0 (by simp)
  have a1 := hk.blk a1 (by simp)
  have b1 := hk.blk b1 (by simp)
  have ag := hk.blk ag (by simp)
  refine bif_fo (fun jg => ?_) (fun jg => ?_)
  ·have h := h.2 jg
   exact h
  have h := h.1 jg
  refine bif_fo (fun ja => ?_) (fun ja => ?_)
  ·have h := h.2 (beq_f ja)
   exact h
  have h := h.1 (beq_t ja)
  refine ⟨fe, bo, ca, cu, fr, fj, bq, bx, c4, bm, cz, bk, bt, cb, cx, cr, bv, br, c3, c1, d0, fw, ix, iw, iy, eu, ⟨b1.celli 0 rfl rfl, b1.celli 1 rfl rfl, b1.celli 2 rfl rfl, b1.celli 3 rfl rfl, b1.celli 4 rfl rfl, b1.celli 5 rfl rfl, b1.celli 6 rfl rfl, b1.celli 7 rfl rfl, b1.celli 8 rfl rfl, b1.celli 9 rfl rfl, b1.celli 10 rfl rfl, b1.celli 11 rfl rfl, b1.celli 12 rfl rfl, b1.celli 13 rfl rfl, b1.celli 14 rfl rfl, b1.celli 15 rfl rfl, b1.celli 16 rfl rfl, b1.celli 17 rfl rfl, b1.celli 18 rfl rfl, b1.celli 19 rfl rfl, trivial⟩, ?_⟩
  refine ⟨cs, bj, bp, cc, cv, cq, bs, c5, bn, c6, cy, bi, c0, c9, d1, ct, bu, c2, bz, bw, cw, fp, it, iv, iu, f0, ⟨ag.celli 0 rfl rfl, ag.celli 1 rfl rfl, ag.celli 2 rfl rfl, ag.celli 3 rfl rfl, ag.celli 4 rfl rfl, ag.celli 5 rfl rfl, ag.celli 6 rfl rfl, ag.celli 7 rfl rfl, ag.celli 8 rfl rfl, ag.celli 9 rfl rfl, ag.celli 10 rfl rfl, ag.celli 11 rfl rfl, ag.celli 12 rfl rfl, ag.celli 13 rfl rfl, ag.celli 14 rfl rfl, ag.celli 15 rfl rfl, ag.celli 16 rfl rfl, ag.celli 17 rfl rfl, ag.celli 18 rfl rfl, ag.celli 19 rfl rfl, trivial⟩, ?_⟩
  refine h.mono fun lc lb h => ?_
  obtain ⟨g4, ck, dn, fs, g7, ic, ei, ef, ej, dp, g6, cn, e8, f9, gb, g9, dt, ec, dg, e9, io, j7, k8, k2, js, jk, he, hk, h⟩ := h
  refine ⟨g4, ck, dn, fs, g7, ic, ei, ef, ej, dp, g6, cn, e8, f9, gb, g9, dt, ec, dg, e9, io, j7, k8, k2, js, jk, he, ?_⟩
  have a0 := hk.blk a0 (by simp)
  have a1 := hk.blk a1 (by simp)
  have ag := hk.blk ag (by simp)
  refine ⟨⟨ag.celli 0 rfl rfl, ag.celli 1 rfl rfl, ag.celli 2 rfl rfl, ag.celli 3 rfl rfl, ag.celli 4 rfl rfl, ag.celli 5 rfl rfl, ag.celli 6 rfl rfl, ag.celli 7 rfl rfl, ag.celli 8 rfl rfl, ag.celli 9 rfl rfl, ag.celli 10 rfl rfl, ag.celli 11 rfl rfl, ag.celli 12 rfl rfl, ag.celli 13 rfl rfl, ag.celli 14 rfl rfl, ag.celli 15 rfl rfl, ag.celli 16 rfl rfl, ag.celli 17 rfl rfl, ag.celli 18 rfl rfl, ag.celli 19 rfl rfl, trivial⟩, ?_⟩
  refine h.mono fun le l5 h => ?_
  obtain ⟨i8, he, hk, h⟩ := h
  refine ⟨i8, he, ?_⟩
  have a0 := hk.blk a0 (by simp)
  have a1 := hk.blk a1 (by simp)
  refine bif_fo (fun iz => ?_) (fun iz => ?_)
  ·have h := h.2 iz
   exact h
  have h := h.1 iz
  refine bif_fo (fun jf => ?_) (fun jf => ?_)
  ·have h := h.2 (beq_f jf)
   exact h
  have h := h.1 (beq_t jf)
  refine ⟨b4, a2, a8, ae, ao, al, a7, a5, a6, a4, ak, a3, a9, af, ah, aj, ab, aa, ac, ad, ai, b3, b7, bc, bb, b2, ⟨a0.celli 0 rfl rfl, a0.celli 1 rfl rfl, a0.celli 2 rfl rfl, a0.celli 3 rfl rfl, a0.celli 4 rfl rfl, a0.celli 5 rfl rfl, a0.celli 6 rfl rfl, a0.celli 7 rfl rfl, a0.celli 8 rfl rfl, a0.celli 9 rfl rfl, a0.celli 10 rfl rfl, a0.celli 11 rfl rfl, a0.celli 12 rfl rfl, a0.celli 13 rfl rfl, a0.celli 14 rfl rfl, a0.celli 15 rfl rfl, a0.celli 16 rfl rfl, a0.celli 17 rfl rfl, a0.celli 18 rfl rfl, a0.celli 19 rfl rfl, trivial⟩, ?_⟩
  refine ⟨bd, am, b0, b6, b9, bf, az, au, ar, ax, be, an, ap, b5, b8, ba, aq, aw, ay, av, bg, bl, c8, c7, cd, bh, ⟨a1.celli 0 rfl rfl, a1.celli 1 rfl rfl, a1.celli 2 rfl rfl, a1.celli 3 rfl rfl, a1.celli 4 rfl rfl, a1.celli 5 rfl rfl, a1.celli 6 rfl rfl, a1.celli 7 rfl rfl, a1.celli 8 rfl rfl, a1.celli 9 rfl rfl, a1.celli 10 rfl rfl, a1.celli 11 rfl rfl, a1.celli 12 rfl rfl, a1.celli 13 rfl rfl, a1.celli 14 rfl rfl, a1.celli 15 rfl rfl, a1.celli 16 rfl rfl, a1.celli 17 rfl rfl, a1.celli 18 rfl rfl, a1.celli 19 rfl rfl, trivial⟩, ?_⟩
  refine ⟨b4, a2, a8, ae, ao, al, a7, a5, a6, a4, ak, a3, a9, af, ah, aj, ab, aa, ac, ad, ai, b3, b7, bc, bb, b2, ⟨a0.celli 0 rfl rfl, a0.celli 1 rfl rfl, a0.celli 2 rfl rfl, a0.celli 3 rfl rfl, a0.celli 4 rfl rfl, a0.celli 5 rfl rfl, a0.celli 6 rfl rfl, a0.celli 7 rfl rfl, a0.celli 8 rfl rfl, a0.celli 9 rfl rfl, a0.celli 10 rfl rfl, a0.celli 11 rfl rfl, a0.celli 12 rfl rfl, a0.celli 13 rfl rfl, a0.celli 14 rfl rfl, a0.celli 15 rfl rfl, a0.celli 16 rfl rfl, a0.celli 17 rfl rfl, a0.celli 18 rfl rfl, a0.celli 19 rfl rfl, trivial⟩, ?_⟩
  refine ⟨bd, am, b0, b6, b9, bf, az, au, ar, ax, be, an, ap, b5, b8, ba, aq, aw, ay, av, bg, bl, c8, c7, cd, bh, ⟨a1.celli 0 rfl rfl, a1.celli 1 rfl rfl, a1.celli 2 rfl rfl, a1.celli 3 rfl rfl, a1.celli 4 rfl rfl, a1.celli 5 rfl rfl, a1.celli 6 rfl rfl, a1.celli 7 rfl rfl, a1.celli 8 rfl rfl, a1.celli 9 rfl rfl, a1.celli 10 rfl rfl, a1.celli 11 rfl rfl, a1.celli 12 rfl rfl, a1.celli 13 rfl rfl, a1.celli 14 rfl rfl, a1.celli 15 rfl rfl, a1.celli 16 rfl rfl, a1.celli 17 rfl rfl, a1.celli 18 rfl rfl, a1.celli 19 rfl rfl, trivial⟩, ?_⟩
  refine h.mono fun m1 lv h => ?_
  obtain ⟨gg, ce, dh, f2, i5, il, dk, d5, d4, dq, gz, ch, es, ez, ig, gl, dc, d9, e7, e0, ie, jn, kg, jq, jt, ji, he, hk, h⟩ := h
  refine ⟨gg, ce, dh, f2, i5, il, dk, d5, d4, dq, gz, ch, es, ez, ig, gl, dc, d9, e7, e0, ie, jn, kg, jq, jt, ji, he, ?_⟩
  have a0 := hk.blk a0 (by simp)
  have a1 := hk.blk a1 (by simp)
  refine ⟨⟨a1.celli 0 rfl rfl, a1.celli 1 rfl rfl, a1.celli 2 rfl rfl, a1.celli 3 rfl rfl, a1.celli 4 rfl rfl, a1.celli 5 rfl rfl, a1.celli 6 rfl rfl, a1.celli 7 rfl rfl, a1.celli 8 rfl rfl, a1.celli 9 rfl rfl, a1.celli 10 rfl rfl, a1.celli 11 rfl rfl, a1.celli 12 rfl rfl, a1.celli 13 rfl rfl, a1.celli 14 rfl rfl, a1.celli 15 rfl rfl, a1.celli 16 rfl rfl, a1.celli 17 rfl rfl, a1.celli 18 rfl rfl, a1.celli 19 rfl rfl, trivial⟩, ⟨a0.celli 0 rfl rfl, a0.celli 1 rfl rfl, a0.celli 2 rfl rfl, a0.celli 3 rfl rfl, a0.celli 4 rfl rfl, a0.celli 5 rfl rfl, a0.celli 6 rfl rfl, a0.celli 7 rfl rfl, a0.celli 8 rfl rfl, a0.celli 9 rfl rfl, a0.celli 10 rfl rfl, a0.celli 11 rfl rfl, a0.celli 12 rfl rfl, a0.celli 13 rfl rfl, a0.celli 14 rfl rfl, a0.celli 15 rfl rfl, a0.celli 16 rfl rfl, a0.celli 17 rfl rfl, a0.celli 18 rfl rfl, a0.celli 19 rfl rfl, trivial⟩, ⟨a1.celli 0 rfl rfl, a1.celli 1 rfl rfl, a1.celli 2 rfl rfl, a1.celli 3 rfl rfl, a1.celli 4 rfl rfl, a1.celli 5 rfl rfl, a1.celli 6 rfl rfl, a1.celli 7 rfl rfl, a1.celli 8 rfl rfl, a1.celli 9 rfl rfl, a1.celli 10 rfl rfl, a1.celli 11 rfl rfl, a1.celli 12 rfl rfl, a1.celli 13 rfl rfl, a1.celli 14 rfl rfl, a1.celli 15 rfl rfl, a1.celli 16 rfl rfl, a1.celli 17 rfl rfl, a1.celli 18 rfl rfl, a1.celli 19 rfl rfl, trivial⟩, ?_⟩
  refine h.mono fun lo m0 h => ?_
  obtain ⟨gw, cm, di, fz, ge, i6, dd, dl, df, eh, g5, ci, e5, fq, gc, im, ed, e1, da, dv, gi, jp, kd, kl, jy, j9, he, hk, h⟩ := h
  refine ⟨gw, cm, di, fz, ge, i6, dd, dl, df, eh, g5, ci, e5, fq, gc, im, ed, e1, da, dv, gi, jp, kd, kl, jy, j9, he, ?_⟩
  have a0 := hk.blk a0 (by simp)
  have a1 := hk.blk a1 (by simp)
  refine ⟨⟨a1.celli 0 rfl rfl, a1.celli 1 rfl rfl, a1.celli 2 rfl rfl, a1.celli 3 rfl rfl, a1.celli 4 rfl rfl, a1.celli 5 rfl rfl, a1.celli 6 rfl rfl, a1.celli 7 rfl rfl, a1.celli 8 rfl rfl, a1.celli 9 rfl rfl, a1.celli 10 rfl rfl, a1.celli 11 rfl rfl, a1.celli 12 rfl rfl, a1.celli 13 rfl rfl, a1.celli 14 rfl rfl, a1.celli 15 rfl rfl, a1.celli 16 rfl rfl, a1.celli 17 rfl rfl, a1.celli 18 rfl rfl, a1.celli 19 rfl rfl, trivial⟩, ⟨a0.celli 0 rfl rfl, a0.celli 1 rfl rfl, a0.celli 2 rfl rfl, a0.celli 3 rfl rfl, a0.celli 4 rfl rfl, a0.celli 5 rfl rfl, a0.celli 6 rfl rfl, a0.celli 7 rfl rfl, a0.celli 8 rfl rfl, a0.celli 9 rfl rfl, a0.celli 10 rfl rfl, a0.celli 11 rfl rfl, a0.celli 12 rfl rfl, a0.celli 13 rfl rfl, a0.celli 14 rfl rfl, a0.celli 15 rfl rfl, a0.celli 16 rfl rfl, a0.celli 17 rfl rfl, a0.celli 18 rfl rfl, a0.celli 19 rfl rfl, trivial⟩, ?_⟩
  refine h.mono fun l7 lp h => ?_
  obtain ⟨g8, he, hk, h⟩ := h
  refine ⟨g8, he, ?_⟩
  have a0 := hk.blk a0 (by simp)
  have a1 := hk.blk a1 (by simp)
  refine ⟨⟨a1.celli 0 rfl rfl, a1.celli 1 rfl rfl, a1.celli 2 rfl rfl, a1.celli 3 rfl rfl, a1.celli 4 rfl rfl, a1.celli 5 rfl rfl, a1.celli 6 rfl rfl, a1.celli 7 rfl rfl, a1.celli 8 rfl rfl, a1.celli 9 rfl rfl, a1.celli 10 rfl rfl, a1.celli 11 rfl rfl, a1.celli 12 rfl rfl, a1.celli 13 rfl rfl, a1.celli 14 rfl rfl, a1.celli 15 rfl rfl, a1.celli 16 rfl rfl, a1.celli 17 rfl rfl, a1.celli 18 rfl rfl, a1.celli 19 rfl rfl, trivial⟩, ⟨a0.celli 0 rfl rfl, a0.celli 1 rfl rfl, a0.celli 2 rfl rfl, a0.celli 3 rfl rfl, a0.celli 4 rfl rfl, a0.celli 5 rfl rfl, a0.celli 6 rfl rfl, a0.celli 7 rfl rfl, a0.celli 8 rfl rfl, a0.celli 9 rfl rfl, a0.celli 10 rfl rfl, a0.celli 11 rfl rfl, a0.celli 12 rfl rfl, a0.celli 13 rfl rfl, a0.celli 14 rfl rfl, a0.celli 15 rfl rfl, a0.celli 16 rfl rfl, a0.celli 17 rfl rfl, a0.celli 18 rfl rfl, a0.celli 19 rfl rfl, trivial⟩, ?_⟩
  refine h.mono fun lm lf h => ?_
  obtain ⟨gt, he, hk, h⟩ := h
  refine ⟨gt, he, ?_⟩
  have a0 := hk.blk a0 (by simp)
  refine bif_fo (fun j3 => ?_) (fun j3 => ?_)
  ·have h := h.2 (bbeq_f j3)
   exact h
  have h := h.1 (bbeq_t j3)
  refine ⟨a2, a8, ae, ao, al, a7, a5, a6, a4, ak, ⟨a0.celli 1 rfl rfl, a0.celli 2 rfl rfl, a0.celli 3 rfl rfl, a0.celli 4 rfl rfl, a0.celli 5 rfl rfl, a0.celli 6 rfl rfl, a0.celli 7 rfl rfl, a0.celli 8 rfl rfl, trivial⟩, ?_⟩
  refine ⟨a2, a8, ae, ao, al, a7, a5, a6, a4, ak, ⟨a0.celli 1 rfl rfl, a0.celli 2 rfl rfl, a0.celli 3 rfl rfl, a0.celli 4 rfl rfl, a0.celli 5 rfl rfl, a0.celli 6 rfl rfl, a0.celli 7 rfl rfl, a0.celli 8 rfl rfl, trivial⟩, ?_⟩
  refine h.mono fun lw ll h => ?_
  obtain ⟨g0, cp, dr, fh, i9, gh, dw, de, dx, d8, i3, cj, dz, f4, ir, gs, eg, ea, er, d2, gv, je, ju, jx, jv, jc, he, hk, h⟩ := h
  refine ⟨g0, cp, dr, fh, i9, gh, dw, de, dx, d8, i3, cj, dz, f4, ir, gs, eg, ea, er, d2, gv, je, ju, jx, jv, jc, he, ?_⟩
  have a0 := hk.blk a0 (by simp)
  refine ⟨⟨a0.celli 1 rfl rfl, a0.celli 2 rfl rfl, a0.celli 3 rfl rfl, a0.celli 4 rfl rfl, a0.celli 5 rfl rfl, a0.celli 6 rfl rfl, a0.celli 7 rfl rfl, a0.celli 8 rfl rfl, trivial⟩, ?_⟩
  refine h.mono fun lq lh h => ?_
  obtain ⟨i0, cg, db, fa, gk, gu, ek, d3, e6, du, i7, cl, eb, ey, gy, g2, ds, eo, ee, eq, gd, jm, jz, k9, jw, j5, he, hk, h⟩ := h
  refine ⟨i0, cg, db, fa, gk, gu, ek, d3, e6, du, i7, cl, eb, ey, gy, g2, ds, eo, ee, eq, gd, jm, jz, k9, jw, j5, he, ?_⟩
  have a0 := hk.blk a0 (by simp)
  refine ⟨⟨a0.celli 1 rfl rfl, a0.celli 2 rfl rfl, a0.celli 3 rfl rfl, a0.celli 4 rfl rfl, a0.celli 5 rfl rfl, a0.celli 6 rfl rfl, a0.celli 7 rfl rfl, a0.celli 8 rfl rfl, trivial⟩, ?_⟩
  refine h.mono fun li l3 h => ?_
  obtain ⟨i4, he, h⟩ := h
  refine ⟨i4, he, ?_⟩
  refine bif_fo (fun j1 => ?_) (fun j1 => ?_)
  ·have h := h.2 j1
   exact h
  have h := h.1 j1
  refine h.mono fun l8 l6 h => ?_
  obtain ⟨f5, he, h⟩ := h
  refine ⟨f5, he, ?_⟩
  exact h

theorem Q09.go (b7 ai an b0 bb b8 aq : Int) (ao : Option Addr) (ap al : Nat) (b4 a1 af am b3 b2 a4 : Int) (aa : Option Addr) (a3 a5 : Nat) (au ba : Int) (bg : Option Addr) (bh bf : Nat) (b6 b1 a0 ag ak ay aw a7 : Int) (ae : Option Addr) (ad a6 : Nat) (av a2 ah aj ar ax a9 : Int) (a8 : Option Addr) (ac ab : Nat) (az b9 : Int) (bc : Option Addr) (bd be : Nat) (b5 : Int) (bi : Option Addr) (bk bj : Nat) {R : RW} {w : World} (h : Q09.N b7 ai an b0 bb b8 aq ao ap al b4 a1 af am b3 b2 a4 aa a3 a5 au ba bg bh bf b6 b1 a0 ag ak ay aw a7 ae ad a6 av a2 ah aj ar ax a9 a8 ac ab az b9 bc bd be b5 bi bk bj R w) : Calls Try.prog 5 #[.agg #[.int .i64 b7, .int .i64 ai, .int .i64 an, .int .u64 b0, .int .i64 bb, .int .i64 b8, .int .i64 aq, .slice ao ap al, .int .u64 b4, .int .i64 a1, .int .i64 af, .int .u64 am, .int .i64 b3, .int .i64 b2, .int .i64 a4, .slice aa a3 a5, .int .u64 au, .int .i64 ba, .slice bg bh bf, .int .u64 b6], .agg #[.int .i64 b1, .int .i64 a0, .int .i64 ag, .int .u64 ak, .int .i64 ay, .int .i64 aw, .int .i64 a7, .slice ae ad a6, .int .u64 av, .int .i64 a2, .int .i64 ah, .int .u64 aj, .int .i64 ar, .int .i64 ax, .int .i64 a9, .slice a8 ac ab, .int .u64 az, .int .i64 b9, .slice bc bd be, .int .u64 b5], .slice bi bk bj] w fun e w' => ∃ v, e = .returned v ∧ R v w' := Q09.ok b7 ai an b0 bb b8 aq ao ap al b4 a1 af am b3 b2 a4 aa a3 a5 au ba bg bh bf b6 b1 a0 ag ak ay aw a7 ae ad a6 av a2 ah aj ar ax a9 a8 ac ab az b9 bc bd be b5 bi bk bj (Q09.up b7 ai an b0 bb b8 aq ao ap al b4 a1 af am b3 b2 a4 aa a3 a5 au ba bg bh bf b6 b1 a0 ag ak ay aw a7 ae ad a6 av a2 ah aj ar ax a9 a8 ac ab az b9 bc bd be b5 bi bk bj h)
theorem Q09.run (b7 ai an b0 bb b8 aq : Int) (ao : Option Addr) (ap al : Nat) (b4 a1 af am b3 b2 a4 : Int) (aa : Option Addr) (a3 a5 : Nat) (au ba : Int) (bg : Option Addr) (bh bf : Nat) (b6 b1 a0 ag ak ay aw a7 : Int) (ae : Option Addr) (ad a6 : Nat) (av a2 ah aj ar ax a9 : Int) (a8 : Option Addr) (ac ab : Nat) (az b9 : Int) (bc : Option Addr) (bd be : Nat) (b5 : Int) (bi : Option Addr) (bk bj : Nat) {V : Value} {Q : World → Prop} {w : World} (h : Q09.N b7 ai an b0 bb b8 aq ao ap al b4 a1 af am b3 b2 a4 aa a3 a5 au ba bg bh bf b6 b1 a0 ag ak ay aw a7 ae ad a6 av a2 ah aj ar ax a9 a8 ac ab az b9 bc bd be b5 bi bk bj (fun v w' => v = V ∧ Q w') w) : Calls Try.prog 5 #[.agg #[.int .i64 b7, .int .i64 ai, .int .i64 an, .int .u64 b0, .int .i64 bb, .int .i64 b8, .int .i64 aq, .slice ao ap al, .int .u64 b4, .int .i64 a1, .int .i64 af, .int .u64 am, .int .i64 b3, .int .i64 b2, .int .i64 a4, .slice aa a3 a5, .int .u64 au, .int .i64 ba, .slice bg bh bf, .int .u64 b6], .agg #[.int .i64 b1, .int .i64 a0, .int .i64 ag, .int .u64 ak, .int .i64 ay, .int .i64 aw, .int .i64 a7, .slice ae ad a6, .int .u64 av, .int .i64 a2, .int .i64 ah, .int .u64 aj, .int .i64 ar, .int .i64 ax, .int .i64 a9, .slice a8 ac ab, .int .u64 az, .int .i64 b9, .slice bc bd be, .int .u64 b5], .slice bi bk bj] w (Ret V Q) := (Q09.go b7 ai an b0 bb b8 aq ao ap al b4 a1 af am b3 b2 a4 aa a3 a5 au ba bg bh bf b6 b1 a0 ag ak ay aw a7 ae ad a6 av a2 ah aj ar ax a9 a8 ac ab az b9 bc bd be b5 bi bk bj h).mono fun e w' ⟨v, he, hv, hq⟩ => ⟨by rw [he, hv], hq⟩
set_option maxRecDepth 20000
set_option maxHeartbeats 8000000
theorem Q3H (b : List UInt8) : (readFr b).1.e.body.length < 1000000 ∧ (readFr b).1.f.body.length < 1000000 ∧ (readFr b).1.v.length < 1000000 := by
  by_cases h : (readFr b).2 = 0
  · obtain ⟨_, hk, _⟩ := Q3Z h
    generalize (readFr b).1 = x at *
    have ent : ∀ e : Ent, Q0u e = true → e.body.length < 1000000 := fun e he => by have := ((Q19 e).1 he).2.2.2.2.2.2.2.2.2.1; omega
    rcases frOK_kd hk with k | k | k | k
    · obtain ⟨h1, h2, h3, h4, h5⟩ := frOK_1 hk k
      exact ⟨ent _ h1, by rw [h2]; decide, by rw [h4]; decide⟩
    · obtain ⟨h1, h2, h3, h4, h5, h6⟩ := frOK_2 hk k
      exact ⟨by rw [h1]; decide, by rw [h2]; decide, by have := Q1P h5; omega⟩
    · obtain ⟨h1, h2, h3, h4, h5⟩ := frOK_3 hk k
      exact ⟨by rw [h1]; decide, by rw [h2]; decide, by have := Q1P h5; omega⟩
    · obtain ⟨h1, h2, h3, h4, h5⟩ := frOK_4 hk k
      exact ⟨ent _ h1, ent _ h2, by rw [h4]; decide⟩
  · rw [Q44 h]; exact ⟨by decide, by decide, by decide⟩
theorem Q33 (W : World) {x y : FP} (hx : x.inn W) (hy : y.inn W) {ba : Option Addr} {bc : Nat} {b : List UInt8} (hb : RowAt W ba (bytesV b)) (hbc : b.length ≤ bc) :
    Calls Try.prog 5 #[x.V, y.V, .slice ba b.length bc] W (Ret (.bool true) fun w' => Ext no W w') := by
  refine Q09.run x.r.kd x.r.e.w x.r.e.i x.r.e.pv x.r.e.t x.r.e.tw x.r.e.ep x.ea x.r.e.body.length x.ec x.r.e.sg x.r.f.w x.r.f.i x.r.f.pv x.r.f.t x.r.f.tw x.r.f.ep x.fa x.r.f.body.length x.fc x.r.f.sg x.r.who x.va x.r.v.length x.vc x.r.sg y.r.kd y.r.e.w y.r.e.i y.r.e.pv y.r.e.t y.r.e.tw y.r.e.ep y.ea y.r.e.body.length y.ec y.r.e.sg y.r.f.w y.r.f.i y.r.f.pv y.r.f.t y.r.f.tw y.r.f.ep y.fa y.r.f.body.length y.fc y.r.f.sg y.r.who y.va y.r.v.length y.vc y.r.sg ba b.length bc ?_
  unfold Q09.N
  have hal : ∀ w1, Ext no W w1 → Calls Try.prog 8 #[] w1 fun ee w2 => ∃ b : Bool, ee = .returned (.bool b) ∧ Value.bool b = Value.bool true ∧ Ext no W w2 := fun w1 X =>
    (Q3U w1).mono fun v w2 ⟨hx, X2⟩ => ⟨_, hx, rfl, X.trans X2⟩
  intro w43 p44 p45 X43 hp
  refine (Q2E (w := w43) x).mono fun u w48 ⟨he, X48⟩ => ⟨_, he, X48.kept, fun _ => hal _ (X43.trans X48), fun hlx => ?_⟩
  have Y48 := X43.trans X48
  refine (Q2E (w := w48) y).mono fun u w55 ⟨he, X55⟩ => ⟨_, he, X55.kept, fun _ => hal _ (Y48.trans X55), fun hly => ⟨fun _ => hal _ (Y48.trans X55), fun hbl => ?_⟩⟩
  have Y55 := Y48.trans X55
  obtain ⟨lx1, lx2, lx3⟩ := light_v hlx
  obtain ⟨ly1, ly2, ly3⟩ := light_v hly
  refine (Q21 (w := w55) x).mono fun u w85 ⟨he, X85⟩ => ⟨_, _, _, _, _, _, _, _, _, _, _, _, _, _, _, _, _, _, _, _, _, _, _, _, _, _, he, X85.kept, ?_⟩
  have Y85 := Y55.trans X85
  refine (Q2D (hx.at_.no Y85) hx.fit (by omega)).mono fun u w89 ⟨a1, c1, he, hO1, X89⟩ => ⟨a1, _, c1, _, he, X89.kept, ?_⟩
  have Y89 := Y85.trans X89
  refine (Q3T (hx.at_.no Y89) hx.fit (by omega) (by omega) (by omega)).mono fun u w93 ⟨a2, c2, he, hO2, X93⟩ => ⟨a2, _, c2, _, he, X93.kept, ?_⟩
  have Y93 := Y89.trans X93
  refine (Q39 (hb.no Y93) hbc).mono fun u w116 ⟨z, he, hz, hza, X116⟩ => ⟨_, _, _, _, _, _, _, _, _, _, _, _, _, _, _, _, _, _, _, _, _, _, _, _, _, _, _, he, X116.kept, fun w137 p138 X137 hp138 => ?_⟩
  have Y137 := (Y93.trans X116).trans X137
  refine (Q40 (hb.no Y137) hbc).mono fun u w161 ⟨z2, he, hz2, hza2, X161⟩ => ⟨_, _, _, _, _, _, _, _, _, _, _, _, _, _, _, _, _, _, _, _, _, _, _, _, _, _, _, he, X161.kept, fun w183 p184 X183 hp184 => ?_⟩
  have Y183 := (Y137.trans X161).trans X183
  refine (Q21 (w := w183) x).mono fun u w206 ⟨he, X206⟩ => ⟨_, _, _, _, _, _, _, _, _, _, _, _, _, _, _, _, _, _, _, _, _, _, _, _, _, _, he, X206.kept, ?_⟩
  have Y206 := Y183.trans X206
  refine (Q2d (hx.at_.no Y206) (by omega)).mono fun u w209 ⟨he, X209⟩ => ⟨_, he, X209.kept, ?_⟩
  have Y209 := Y206.trans X209
  refine (Q1c (hx.at_.no Y209) (by omega) (by omega) (by omega)).mono fun u w212 ⟨he, X212⟩ => ⟨_, he, X212.kept, fun _ => ?_, fun h => absurd rfl h⟩
  have Y212 := Y209.trans X212
  have l1 := frK_len x.r
  have Z := ((((((X116.trans X137).trans X161).trans X183).trans X206).trans X209).trans X212)
  refine (sameB_spec (hO1.row.no (X93.trans Z)) (hO2.row.no Z) (by omega)).mono fun u w216 ⟨he, X216⟩ => ⟨_, he, X216.kept, fun _ => ⟨fun _ => ?_, fun h => absurd rfl h⟩, fun h => absurd h (by simp)⟩
  have Y216 := Y212.trans X216
  refine (Q2Y (w := w216) z).mono fun u w240 ⟨he, X240⟩ => ⟨_, _, _, _, _, _, _, _, _, _, _, _, _, _, _, _, _, _, _, _, _, _, _, _, _, _, he, X240.kept, ?_⟩
  have Y240 := Y216.trans X240
  obtain ⟨s1, s2, s3⟩ := Q3H b
  have Z2 := ((((X183.trans X206).trans X209).trans X212).trans X216).trans X240
  refine (Q2b (x := z) (y := z2) (hza.no ((X137.trans X161).trans Z2)) (hza2.no Z2) (by rw [hz]; exact s1) (by rw [hz]; exact s2) (by rw [hz]; exact s3)).mono fun u w243 ⟨he, X243⟩ => ⟨_, he, X243.kept, fun _ => ⟨fun _ => ?_, fun h => absurd rfl h⟩, fun h => absurd h (by rw [hz, hz2]; simp [frSame])⟩
  have Y243 := Y240.trans X243
  refine (Q21 (w := w243) x).mono fun u w267 ⟨he, X267⟩ => ⟨_, _, _, _, _, _, _, _, _, _, _, _, _, _, _, _, _, _, _, _, _, _, _, _, _, _, he, X267.kept, ?_⟩
  have Y267 := Y243.trans X267
  refine (Q21 (w := w267) y).mono fun u w289 ⟨he, X289⟩ => ⟨_, _, _, _, _, _, _, _, _, _, _, _, _, _, _, _, _, _, _, _, _, _, _, _, _, _, he, X289.kept, ?_⟩
  have Y289 := Y267.trans X289
  refine (Q4w (hx.at_.no Y289) (hy.at_.no Y289) (by omega)).mono fun u w292 ⟨he, X292⟩ => ⟨_, he, X292.kept, ?_⟩
  have Y292 := Y289.trans X292
  refine (Q2b (hx.at_.no Y292) (hy.at_.no Y292) (by omega) (by omega) (by omega)).mono fun u w295 ⟨he, X295⟩ => ⟨_, he, X295.kept, fun _ => ?_, fun h => absurd rfl h⟩
  have Y295 := Y292.trans X295
  refine (Q2T (w := w295) x.r.e x.ea x.ec).mono fun u w318 ⟨he, X318⟩ => ⟨_, _, _, _, _, _, _, _, _, _, _, _, _, _, _, _, _, _, _, _, _, _, _, _, _, _, he, X318.kept, ?_⟩
  have Y318 := Y295.trans X318
  refine (Q2Y (w := w318) (FP.ofE x.r.e x.ea x.ec)).mono fun u w340 ⟨he, X340⟩ => ⟨_, _, _, _, _, _, _, _, _, _, _, _, _, _, _, _, _, _, _, _, _, _, _, _, _, _, he, X340.kept, ?_⟩
  have Y340 := Y318.trans X340
  have hat : (FP.ofE x.r.e x.ea x.ec).at w340 := ⟨hx.at_.e.no Y340, RowAt.nil _ _, RowAt.nil _ _⟩
  exact (Q2b (x := FP.ofE x.r.e x.ea x.ec) (y := FP.ofE x.r.e x.ea x.ec) hat hat (by show x.r.e.body.length < 1000000; omega) (show (0 : Nat) < 1000000 by decide) (show (0 : Nat) < 1000000 by decide)).mono fun u w343 ⟨he, X343⟩ => ⟨_, he, fun _ => hal _ (Y340.trans X343), fun h => absurd h (by simp [frSame])⟩
theorem FrameForms_walk (W : World) (cs0 cs1 : Array Value) (a2 : Option Addr) (len2 cap2 : Nat) (o0 : FrQ W cs0.toList) (o1 : FrQ W cs1.toList) (o2 : BytesQ W [.slice a2 len2 cap2]) :
    Calls Try.prog 5 #[.agg cs0, .agg cs1, .slice a2 len2 cap2] W (Ret (.bool true) fun w' => Ext no W w') := by
  obtain ⟨x, hx, hi⟩ := o0
  obtain ⟨y, hy, hj⟩ := o1
  obtain ⟨_, _, b, e1, l1, _, r1⟩ := o2
  cases e1
  obtain rfl : cs0 = x.C.toArray := Array.ext' hx
  obtain rfl : cs1 = y.C.toArray := Array.ext' hy
  exact Q33 W hi hj r1 l1
end Go.Proofs.Ytoempemllkebkaa