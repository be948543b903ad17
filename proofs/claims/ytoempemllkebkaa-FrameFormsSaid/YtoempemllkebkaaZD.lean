/- Frames: which are right, and which are the same. -/
import Derived.Test.YtoempemllkebkaaZB
import Derived.Test.YtoempemllkebkaaZC
import Derived.Test.YtoempemllkebkaaZA
import Derived.Recover
set_option linter.unusedVariables false
set_option linter.unusedSimpArgs false
set_option maxRecDepth 20000
set_option maxHeartbeats 4000000
namespace Go.Proofs.Ytoempemllkebkaa
open Go Go.Mx Go.Proofs
open W (OwnB Rd RdR GivesW numR countR doneR zig unzig intR)
def Q0Y.M (ag ap av az ay ao : Int) (ar : Option Addr) (an au : Nat) (ax : Int) (aw : Bool) (R : RW) (w : World) : Prop :=
 thenW (w.alloc (.cells #[.int .i64 ag, .int .i64 ap, .int .u64 av, .int .i64 az, .int .i64 ay, .int .i64 ao, .slice ar an au, .int .u64 ax] 27)) fun aq =>
 bif aw then (
 ∃ (a1 a5 ac af ai a6 : Int) (ab : Option Addr) (a2 a3 : Nat) (al : Int), cellsAt aq (blk w.heap.size) [.int .i64 a1, .int .i64 a5, .int .u64 ac, .int .i64 af, .int .i64 ai, .int .i64 a6, .slice ab a2 a3, .int .u64 al] 0 ∧
 Calls Try.prog 62 #[.agg #[.int .i64 a1, .int .i64 a5, .int .u64 ac, .int .i64 af, .int .i64 ai, .int .i64 a6, .slice ab a2 a3, .int .u64 al]] aq fun b0 b1 => ∃ (ad : Bool), b0 = .returned (.bool ad) ∧
 R (.bool ad) b1) else (
 ∃ (a0 a4 ae ak ah aa : Int) (a9 : Option Addr) (a8 a7 : Nat) (aj : Int), cellsAt aq (blk w.heap.size) [.int .i64 a0, .int .i64 a4, .int .u64 ae, .int .i64 ak, .int .i64 ah, .int .i64 aa, .slice a9 a8 a7, .int .u64 aj] 0 ∧
 Calls Try.prog 30 #[.agg #[.int .i64 a0, .int .i64 a4, .int .u64 ae, .int .i64 ak, .int .i64 ah, .int .i64 aa, .slice a9 a8 a7, .int .u64 aj], .agg #[.int .i64 0, .int .i64 0, .int .u64 0, .int .i64 0, .int .i64 0, .int .i64 0, .slice none 0 0, .int .u64 0]] aq fun b3 b2 => ∃ (am : Bool), b3 = .returned (.bool am) ∧
 R (.bool am) b2)

theorem Q0Y.ok (a0 a4 a6 a8 a9 a1 : Int) (a3 : Option Addr) (a2 a5 : Nat) (aa : Int) (a7 : Bool) {R : RW} {w : World} (h : Q0Y.M a0 a4 a6 a8 a9 a1 a3 a2 a5 aa a7 R w) : Calls Try.prog 37 #[.agg #[.int .i64 a0, .int .i64 a4, .int .u64 a6, .int .i64 a8, .int .i64 a9, .int .i64 a1, .slice a3 a2 a5, .int .u64 aa], .bool a7] w fun e w' => ∃ v, e = .returned v ∧ R v w' :=
  Q08 follows (H := []) (args := [.agg #[.int .i64 a0, .int .i64 a4, .int .u64 a6, .int .i64 a8, .int .i64 a9, .int .i64 a1, .slice a3 a2 a5, .int .u64 aa], .bool a7]) (cast (by kernel_rfl) h)

def Q0Y.N (a0 a4 a7 a9 aa a5 : Int) (a3 : Option Addr) (a2 a1 : Nat) (ab : Int) (a8 : Bool) (R : RW) (w : World) : Prop :=
 (a8 = true →
 ∀ (ac : World), Ext no w ac →
 R (.bool (Q0g.F a0 a4 a7 a9 aa a5 a3 a2 a1 ab)) ac) ∧
 (a8 = false →
 ∀ (ad : World), Ext no w ad →
 Calls Try.prog 30 #[.agg #[.int .i64 a0, .int .i64 a4, .int .u64 a7, .int .i64 a9, .int .i64 aa, .int .i64 a5, .slice a3 a2 a1, .int .u64 ab], .agg #[.int .i64 0, .int .i64 0, .int .u64 0, .int .i64 0, .int .i64 0, .int .i64 0, .slice none 0 0, .int .u64 0]] ad fun af ae => ∃ (a6 : Bool), af = .returned (.bool a6) ∧
 R (.bool a6) ae)

theorem Q0Y.up (a0 a3 a6 a9 a8 a2 : Int) (a4 : Option Addr) (a1 a5 : Nat) (a7 : Int) (ab : Bool) {R : RW} {w : World} (h : Q0Y.N a0 a3 a6 a9 a8 a2 a4 a1 a5 a7 ab R w) : Q0Y.M a0 a3 a6 a9 a8 a2 a4 a1 a5 a7 ab R w := by
  unfold Q0Y.M
  unfold Q0Y.N at h
  refine Q02 fun af ah => ?_
  have aa := Blk.of_new ah
  have ak := ((Ext.refl no w)).size
  have ad := (Ext.refl no w).x_alloc ah
  refine bif_of (fun ag => ?_) (fun ag => ?_)
  ·have h := h.1 ag
   refine ⟨a0, a3, a6, a9, a8, a2, a4, a1, a5, a7, ⟨aa.celli 0 rfl rfl, aa.celli 1 rfl rfl, aa.celli 2 rfl rfl, aa.celli 3 rfl rfl, aa.celli 4 rfl rfl, aa.celli 5 rfl rfl, aa.celli 6 rfl rfl, aa.celli 7 rfl rfl, trivial⟩, ?_⟩
   refine (Q0g.pure a0 a3 a6 a9 a8 a2 a4 a1 a5 a7).mono fun ee ww12 ⟨he, hxx⟩ => ⟨(Q0g.F a0 a3 a6 a9 a8 a2 a4 a1 a5 a7), he, ?_⟩
   have ae := ad.trans hxx
   have h := h ww12 ae
   exact h
  have h := h.2 ag
  refine ⟨a0, a3, a6, a9, a8, a2, a4, a1, a5, a7, ⟨aa.celli 0 rfl rfl, aa.celli 1 rfl rfl, aa.celli 2 rfl rfl, aa.celli 3 rfl rfl, aa.celli 4 rfl rfl, aa.celli 5 rfl rfl, aa.celli 6 rfl rfl, aa.celli 7 rfl rfl, trivial⟩, ?_⟩
  have h := h af ad
  refine h.mono fun ai aj h => ?_
  obtain ⟨ac, he, h⟩ := h
  refine ⟨ac, he, ?_⟩
  exact h

theorem Q0Y.go (a0 a4 a6 a8 a9 a1 : Int) (a3 : Option Addr) (a2 a5 : Nat) (aa : Int) (a7 : Bool) {R : RW} {w : World} (h : Q0Y.N a0 a4 a6 a8 a9 a1 a3 a2 a5 aa a7 R w) : Calls Try.prog 37 #[.agg #[.int .i64 a0, .int .i64 a4, .int .u64 a6, .int .i64 a8, .int .i64 a9, .int .i64 a1, .slice a3 a2 a5, .int .u64 aa], .bool a7] w fun e w' => ∃ v, e = .returned v ∧ R v w' := Q0Y.ok a0 a4 a6 a8 a9 a1 a3 a2 a5 aa a7 (Q0Y.up a0 a4 a6 a8 a9 a1 a3 a2 a5 aa a7 h)
theorem Q0Y.run (a0 a4 a6 a8 a9 a1 : Int) (a3 : Option Addr) (a2 a5 : Nat) (aa : Int) (a7 : Bool) {V : Value} {Q : World → Prop} {w : World} (h : Q0Y.N a0 a4 a6 a8 a9 a1 a3 a2 a5 aa a7 (fun v w' => v = V ∧ Q w') w) : Calls Try.prog 37 #[.agg #[.int .i64 a0, .int .i64 a4, .int .u64 a6, .int .i64 a8, .int .i64 a9, .int .i64 a1, .slice a3 a2 a5, .int .u64 aa], .bool a7] w (Ret V Q) := (Q0Y.go a0 a4 a6 a8 a9 a1 a3 a2 a5 aa a7 h).mono fun e w' ⟨v, he, hv, hq⟩ => ⟨by rw [he, hv], hq⟩

def Q0R.M (cw b3 bo c7 ct cx br : Int) (bg : Option Addr) (b8 bc : Nat) (cs aq b2 bn c8 c5 b4 : Int) (b5 : Option Addr) (b0 b1 : Nat) (c6 cu : Int) (d1 : Option Addr) (d8 d6 : Nat) (cv : Int) (R : RW) (w : World) : Prop :=
 thenW (w.alloc (.cells #[.int .i64 cw, .int .i64 b3, .int .i64 bo, .int .u64 c7, .int .i64 ct, .int .i64 cx, .int .i64 br, .slice bg b8 bc, .int .u64 cs, .int .i64 aq, .int .i64 b2, .int .u64 bn, .int .i64 c8, .int .i64 c5, .int .i64 b4, .slice b5 b0 b1, .int .u64 c6, .int .i64 cu, .slice d1 d8 d6, .int .u64 cv] 38)) fun ab =>
 ∃ (bb : Int), ab.cell? ((blk w.heap.size).add 0) = some (.int .i64 bb) ∧
 bif decide (bb < 1) then (
 R (.bool false) ab) else (
 ∃ (bv : Int), ab.cell? ((blk w.heap.size).add 0) = some (.int .i64 bv) ∧
 bif decide (bv > 4) then (
 R (.bool false) ab) else (
 ∃ (a2 a3 aa ap ar a5 : Int) (a6 : Option Addr) (a7 a4 : Nat) (ao : Int), cellsAt ab ((blk w.heap.size).add 1) [.int .i64 a2, .int .i64 a3, .int .u64 aa, .int .i64 ap, .int .i64 ar, .int .i64 a5, .slice a6 a7 a4, .int .u64 ao] 0 ∧
 ∃ (bz : Int), ab.cell? ((blk w.heap.size).add 0) = some (.int .i64 bz) ∧
 bif bz == 1 then (
 Calls Try.prog 37 #[.agg #[.int .i64 a2, .int .i64 a3, .int .u64 aa, .int .i64 ap, .int .i64 ar, .int .i64 a5, .slice a6 a7 a4, .int .u64 ao], .bool true] ab fun dj c4 => ∃ (bl : Bool), dj = .returned (.bool bl) ∧
 bif !bl then (
 R (.bool false) c4) else (
 ∃ (a9 ac ax bh b9 ai : Int) (an : Option Addr) (al af : Nat) (bp : Int), cellsAt c4 ((blk w.heap.size).add 9) [.int .i64 a9, .int .i64 ac, .int .u64 ax, .int .i64 bh, .int .i64 b9, .int .i64 ai, .slice an al af, .int .u64 bp] 0 ∧
 ∃ (bq : Int), c4.cell? ((blk w.heap.size).add 0) = some (.int .i64 bq) ∧
 Calls Try.prog 37 #[.agg #[.int .i64 a9, .int .i64 ac, .int .u64 ax, .int .i64 bh, .int .i64 b9, .int .i64 ai, .slice an al af, .int .u64 bp], .bool (bq == 4)] c4 fun dm a0 => ∃ (c1 : Bool), dm = .returned (.bool c1) ∧
 bif !c1 then (
 R (.bool false) a0) else (
 ∃ (b7 : Int), a0.cell? ((blk w.heap.size).add 0) = some (.int .i64 b7) ∧
 bif b7 != 2 then (
 ∃ (bu : Int), a0.cell? ((blk w.heap.size).add 0) = some (.int .i64 bu) ∧
 bif bu != 3 then (
 ∃ (ci : Int), a0.cell? ((blk w.heap.size).add 17) = some (.int .i64 ci) ∧
 bif ci == 0 then (
 ∃ (dl : Option Addr) (da dd : Nat), a0.cell? ((blk w.heap.size).add 18) = some (.slice dl da dd) ∧
 bif (da : Int) == 0 then (
 ∃ (cj : Int), a0.cell? ((blk w.heap.size).add 19) = some (.int .u64 cj) ∧
 R (.bool (cj == 0)) a0) else (
 R (.bool false) a0)) else (
 R (.bool false) a0)) else (
 ∃ (cq : Int), a0.cell? ((blk w.heap.size).add 17) = some (.int .i64 cq) ∧
 bif decide (cq ≥ 0) then (
 ∃ (cg : Int), a0.cell? ((blk w.heap.size).add 17) = some (.int .i64 cg) ∧
 bif decide (cg < 8) then (
 ∃ (d0 : Option Addr) (d2 db : Nat), a0.cell? ((blk w.heap.size).add 18) = some (.slice d0 d2 db) ∧
 Calls Try.prog 38 #[.slice d0 d2 db] a0 fun dh bj => ∃ (az : Bool), dh = .returned (.bool az) ∧
 bif az then (
 ∃ (bt : Int), bj.cell? ((blk w.heap.size).add 0) = some (.int .i64 bt) ∧
 bif bt == 3 then (
 R (.bool true) bj) else (
 ∃ (cp : Int), bj.cell? ((blk w.heap.size).add 19) = some (.int .u64 cp) ∧
 R (.bool (cp == 0)) bj)) else (
 R (.bool false) bj)) else (
 R (.bool false) a0)) else (
 R (.bool false) a0))) else (
 ∃ (cm : Int), a0.cell? ((blk w.heap.size).add 17) = some (.int .i64 cm) ∧
 bif decide (cm ≥ 0) then (
 ∃ (ck : Int), a0.cell? ((blk w.heap.size).add 17) = some (.int .i64 ck) ∧
 bif decide (ck < 8) then (
 ∃ (cy : Option Addr) (d4 d3 : Nat), a0.cell? ((blk w.heap.size).add 18) = some (.slice cy d4 d3) ∧
 Calls Try.prog 38 #[.slice cy d4 d3] a0 fun de be => ∃ (av : Bool), de = .returned (.bool av) ∧
 bif av then (
 ∃ (b6 : Int), be.cell? ((blk w.heap.size).add 0) = some (.int .i64 b6) ∧
 bif b6 == 3 then (
 R (.bool true) be) else (
 ∃ (cr : Int), be.cell? ((blk w.heap.size).add 19) = some (.int .u64 cr) ∧
 R (.bool (cr == 0)) be)) else (
 R (.bool false) be)) else (
 R (.bool false) a0)) else (
 R (.bool false) a0))))) else (
 ∃ (bi : Int), ab.cell? ((blk w.heap.size).add 0) = some (.int .i64 bi) ∧
 Calls Try.prog 37 #[.agg #[.int .i64 a2, .int .i64 a3, .int .u64 aa, .int .i64 ap, .int .i64 ar, .int .i64 a5, .slice a6 a7 a4, .int .u64 ao], .bool (bi == 4)] ab fun di c9 => ∃ (ba : Bool), di = .returned (.bool ba) ∧
 bif !ba then (
 R (.bool false) c9) else (
 ∃ (a8 aj au bf c0 ah : Int) (am : Option Addr) (ag ae : Nat) (bm : Int), cellsAt c9 ((blk w.heap.size).add 9) [.int .i64 a8, .int .i64 aj, .int .u64 au, .int .i64 bf, .int .i64 c0, .int .i64 ah, .slice am ag ae, .int .u64 bm] 0 ∧
 ∃ (bs : Int), c9.cell? ((blk w.heap.size).add 0) = some (.int .i64 bs) ∧
 Calls Try.prog 37 #[.agg #[.int .i64 a8, .int .i64 aj, .int .u64 au, .int .i64 bf, .int .i64 c0, .int .i64 ah, .slice am ag ae, .int .u64 bm], .bool (bs == 4)] c9 fun dn a1 => ∃ (bx : Bool), dn = .returned (.bool bx) ∧
 bif !bx then (
 R (.bool false) a1) else (
 ∃ (bd : Int), a1.cell? ((blk w.heap.size).add 0) = some (.int .i64 bd) ∧
 bif bd != 2 then (
 ∃ (c2 : Int), a1.cell? ((blk w.heap.size).add 0) = some (.int .i64 c2) ∧
 bif c2 != 3 then (
 ∃ (cb : Int), a1.cell? ((blk w.heap.size).add 17) = some (.int .i64 cb) ∧
 bif cb == 0 then (
 ∃ (dk : Option Addr) (d5 dg : Nat), a1.cell? ((blk w.heap.size).add 18) = some (.slice dk d5 dg) ∧
 bif (d5 : Int) == 0 then (
 ∃ (cf : Int), a1.cell? ((blk w.heap.size).add 19) = some (.int .u64 cf) ∧
 R (.bool (cf == 0)) a1) else (
 R (.bool false) a1)) else (
 R (.bool false) a1)) else (
 ∃ (cl : Int), a1.cell? ((blk w.heap.size).add 17) = some (.int .i64 cl) ∧
 bif decide (cl ≥ 0) then (
 ∃ (ch : Int), a1.cell? ((blk w.heap.size).add 17) = some (.int .i64 ch) ∧
 bif decide (ch < 8) then (
 ∃ (d9 : Option Addr) (dc cz : Nat), a1.cell? ((blk w.heap.size).add 18) = some (.slice d9 dc cz) ∧
 Calls Try.prog 38 #[.slice d9 dc cz] a1 fun df c3 => ∃ (ay : Bool), df = .returned (.bool ay) ∧
 bif ay then (
 ∃ (bw : Int), c3.cell? ((blk w.heap.size).add 0) = some (.int .i64 bw) ∧
 bif bw == 3 then (
 R (.bool true) c3) else (
 ∃ (cn : Int), c3.cell? ((blk w.heap.size).add 19) = some (.int .u64 cn) ∧
 R (.bool (cn == 0)) c3)) else (
 R (.bool false) c3)) else (
 R (.bool false) a1)) else (
 R (.bool false) a1))) else (
 ∃ (ca : Int), a1.cell? ((blk w.heap.size).add 17) = some (.int .i64 ca) ∧
 bif decide (ca ≥ 0) then (
 ∃ (ce : Int), a1.cell? ((blk w.heap.size).add 17) = some (.int .i64 ce) ∧
 bif decide (ce < 8) then (
 ∃ (cc : Option Addr) (co cd : Nat), a1.cell? ((blk w.heap.size).add 18) = some (.slice cc co cd) ∧
 Calls Try.prog 38 #[.slice cc co cd] a1 fun d7 ad => ∃ (ak : Bool), d7 = .returned (.bool ak) ∧
 bif ak then (
 ∃ (aw : Int), ad.cell? ((blk w.heap.size).add 0) = some (.int .i64 aw) ∧
 bif aw == 3 then (
 R (.bool true) ad) else (
 ∃ (bk : Int), ad.cell? ((blk w.heap.size).add 19) = some (.int .u64 bk) ∧
 R (.bool (bk == 0)) ad)) else (
 R (.bool false) ad)) else (
 R (.bool false) a1)) else (
 R (.bool false) a1)))))))

theorem Q0R.ok (aj a6 a9 ae am ak ac : Int) (aa : Option Addr) (ab a7 : Nat) (ah a0 a5 a8 ag af a2 : Int) (a4 : Option Addr) (a1 a3 : Nat) (ad al : Int) (ao : Option Addr) (ap an : Nat) (ai : Int) {R : RW} {w : World} (h : Q0R.M aj a6 a9 ae am ak ac aa ab a7 ah a0 a5 a8 ag af a2 a4 a1 a3 ad al ao ap an ai R w) : Calls Try.prog 16 #[.agg #[.int .i64 aj, .int .i64 a6, .int .i64 a9, .int .u64 ae, .int .i64 am, .int .i64 ak, .int .i64 ac, .slice aa ab a7, .int .u64 ah, .int .i64 a0, .int .i64 a5, .int .u64 a8, .int .i64 ag, .int .i64 af, .int .i64 a2, .slice a4 a1 a3, .int .u64 ad, .int .i64 al, .slice ao ap an, .int .u64 ai]] w fun e w' => ∃ v, e = .returned v ∧ R v w' :=
  Q08 follows (H := []) (args := [.agg #[.int .i64 aj, .int .i64 a6, .int .i64 a9, .int .u64 ae, .int .i64 am, .int .i64 ak, .int .i64 ac, .slice aa ab a7, .int .u64 ah, .int .i64 a0, .int .i64 a5, .int .u64 a8, .int .i64 ag, .int .i64 af, .int .i64 a2, .slice a4 a1 a3, .int .u64 ad, .int .i64 al, .slice ao ap an, .int .u64 ai]]) (cast (by kernel_rfl) h)

def Q0R.N (a0 ab ag aq ay aw aj : Int) (ah : Option Addr) (ai ae : Nat) (av a4 aa af au ar a6 : Int) (a8 : Option Addr) (a5 a7 : Nat) (ap a1 : Int) (b2 : Option Addr) (a9 b1 : Nat) (al : Int) (R : RW) (w : World) : Prop :=
 (a0 < 1 →
 ∀ (a2 : World), Ext no w a2 →
 R (.bool false) a2) ∧
 ((1 : Int) ≤ a0 →
 (a0 > 4 →
 ∀ (a2 : World), Ext no w a2 →
 R (.bool false) a2) ∧
 (a0 ≤ 4 →
 (a0 = 1 →
 ∀ (a2 : World) (bb : Nat), Ext no w a2 → Priv w a2 [bb] →
 Calls Try.prog 37 #[.agg #[.int .i64 ab, .int .i64 ag, .int .u64 aq, .int .i64 ay, .int .i64 aw, .int .i64 aj, .slice ah ai ae, .int .u64 av], .bool true] a2 fun b9 az => ∃ (ak : Bool), b9 = .returned (.bool ak) ∧
 Keep [bb] a2 az ∧
 (ak = false →
 R (.bool false) az) ∧
 (ak = true →
 Calls Try.prog 37 #[.agg #[.int .i64 a4, .int .i64 aa, .int .u64 af, .int .i64 au, .int .i64 ar, .int .i64 a6, .slice a8 a5 a7, .int .u64 ap], .bool (a0 == 4)] az fun b7 ax => ∃ (am : Bool), b7 = .returned (.bool am) ∧
 Keep [bb] az ax ∧
 (am = false →
 R (.bool false) ax) ∧
 (am = true →
 (a1 = 0 →
 ((a9 : Int) = 0 →
 R (.bool (al == 0)) ax) ∧
 ((a9 : Int) ≠ 0 →
 R (.bool false) ax)) ∧
 (a1 ≠ 0 →
 R (.bool false) ax)))) ∧
 (a0 ≠ 1 →
 ∀ (a2 : World) (b5 : Nat), Ext no w a2 → Priv w a2 [b5] →
 Calls Try.prog 37 #[.agg #[.int .i64 ab, .int .i64 ag, .int .u64 aq, .int .i64 ay, .int .i64 aw, .int .i64 aj, .slice ah ai ae, .int .u64 av], .bool (a0 == 4)] a2 fun bc b0 => ∃ (an : Bool), bc = .returned (.bool an) ∧
 Keep [b5] a2 b0 ∧
 (an = false →
 R (.bool false) b0) ∧
 (an = true →
 Calls Try.prog 37 #[.agg #[.int .i64 a4, .int .i64 aa, .int .u64 af, .int .i64 au, .int .i64 ar, .int .i64 a6, .slice a8 a5 a7, .int .u64 ap], .bool (a0 == 4)] b0 fun b8 a3 => ∃ (ao : Bool), b8 = .returned (.bool ao) ∧
 Keep [b5] b0 a3 ∧
 (ao = false →
 R (.bool false) a3) ∧
 (ao = true →
 (a0 ≠ 2 →
 (a0 ≠ 3 →
 (a1 = 0 →
 ((a9 : Int) = 0 →
 R (.bool (al == 0)) a3) ∧
 ((a9 : Int) ≠ 0 →
 R (.bool false) a3)) ∧
 (a1 ≠ 0 →
 R (.bool false) a3)) ∧
 (a0 = 3 →
 (a1 ≥ 0 →
 (a1 < 8 →
 Calls Try.prog 38 #[.slice b2 a9 b1] a3 fun b6 b3 => ∃ (ad : Bool), b6 = .returned (.bool ad) ∧
 Keep [b5] a3 b3 ∧
 (ad = true →
 R (.bool true) b3) ∧
 (ad = false →
 R (.bool false) b3)) ∧
 ((8 : Int) ≤ a1 →
 R (.bool false) a3)) ∧
 (a1 < 0 →
 R (.bool false) a3))) ∧
 (a0 = 2 →
 (a1 ≥ 0 →
 (a1 < 8 →
 Calls Try.prog 38 #[.slice b2 a9 b1] a3 fun ba b4 => ∃ (ac : Bool), ba = .returned (.bool ac) ∧
 Keep [b5] a3 b4 ∧
 (ac = true →
 R (.bool (al == 0)) b4) ∧
 (ac = false →
 R (.bool false) b4)) ∧
 ((8 : Int) ≤ a1 →
 R (.bool false) a3)) ∧
 (a1 < 0 →
 R (.bool false) a3)))))))

theorem Q0R.up (a1 aa ag an aq ap aj : Int) (ah : Option Addr) (ai af : Nat) (ao a2 a8 a9 ad ac a5 : Int) (a7 : Option Addr) (a4 a6 : Nat) (ab a3 : Int) (al : Option Addr) (am ak : Nat) (ae : Int) {R : RW} {w : World} (h : Q0R.N a1 aa ag an aq ap aj ah ai af ao a2 a8 a9 ad ac a5 a7 a4 a6 ab a3 al am ak ae R w) : Q0R.M a1 aa ag an aq ap aj ah ai af ao a2 a8 a9 ad ac a5 a7 a4 a6 ab a3 al am ak ae R w := by
  unfold Q0R.M
  unfold Q0R.N at h
  refine Q02 fun av bl => ?_
  have a0 := Blk.of_new bl
  have bk := ((Ext.refl no w)).size
  have au := (Ext.refl no w).x_alloc bl
  refine ⟨a1, a0.celli 0 rfl rfl, ?_⟩
  refine bif_of (fun bj => ?_) (fun bj => ?_)
  ·have h := h.1 (of_decide_eq_true bj)
   have h := h av au
   exact h
  have h := h.2 (Int.not_lt.1 (of_decide_eq_false bj))
  refine ⟨a1, a0.celli 0 rfl rfl, ?_⟩
  refine bif_of (fun bh => ?_) (fun bh => ?_)
  ·have h := h.1 (of_decide_eq_true bh)
   have h := h av au
   exact h
  have h := h.2 (Int.not_lt.1 (of_decide_eq_false bh))
  refine ⟨aa, ag, an, aq, ap, aj, ah, ai, af, ao, ⟨a0.celli 1 rfl rfl, a0.celli 2 rfl rfl, a0.celli 3 rfl rfl, a0.celli 4 rfl rfl, a0.celli 5 rfl rfl, a0.celli 6 rfl rfl, a0.celli 7 rfl rfl, a0.celli 8 rfl rfl, trivial⟩, ?_⟩
  refine ⟨a1, a0.celli 0 rfl rfl, ?_⟩
  refine bif_of (fun b1 => ?_) (fun b1 => ?_)
  ·have h := h.1 (beq_t b1)
   have h := h av (w.heap.size) au (Priv.cons bk a0.lt Priv.nil)
   refine h.mono fun br bp h => ?_
   obtain ⟨ax, he, hk, h⟩ := h
   refine ⟨ax, he, ?_⟩
   have a0 := hk.blk a0 (by simp)
   refine bif_of (fun bg => ?_) (fun bg => ?_)
   ·have h := h.1 (not_t bg)
    exact h
   have h := h.2 (not_f bg)
   refine ⟨a2, a8, a9, ad, ac, a5, a7, a4, a6, ab, ⟨a0.celli 9 rfl rfl, a0.celli 10 rfl rfl, a0.celli 11 rfl rfl, a0.celli 12 rfl rfl, a0.celli 13 rfl rfl, a0.celli 14 rfl rfl, a0.celli 15 rfl rfl, a0.celli 16 rfl rfl, trivial⟩, ?_⟩
   refine ⟨a1, a0.celli 0 rfl rfl, ?_⟩
   refine h.mono fun bn bs h => ?_
   obtain ⟨ay, he, hk, h⟩ := h
   refine ⟨ay, he, ?_⟩
   have a0 := hk.blk a0 (by simp)
   refine bif_of (fun bb => ?_) (fun bb => ?_)
   ·have h := h.1 (not_t bb)
    exact h
   have h := h.2 (not_f bb)
   refine ⟨a1, a0.celli 0 rfl rfl, ?_⟩
   refine bif_tt (cong1 (r := true) (fun z => z != 2) (beq_t b1) (by decide)) ?_
   refine ⟨a1, a0.celli 0 rfl rfl, ?_⟩
   refine bif_tt (cong1 (r := true) (fun z => z != 3) (beq_t b1) (by decide)) ?_
   refine ⟨a3, a0.celli 17 rfl rfl, ?_⟩
   refine bif_fo (fun b6 => ?_) (fun b6 => ?_)
   ·have h := h.2 (beq_f b6)
    exact h
   have h := h.1 (beq_t b6)
   refine ⟨al, am, ak, a0.celli 18 rfl rfl, ?_⟩
   refine bif_fo (fun ba => ?_) (fun ba => ?_)
   ·have h := h.2 (beq_f ba)
    exact h
   have h := h.1 (beq_t ba)
   refine ⟨ae, a0.celli 19 rfl rfl, ?_⟩
   exact h
  have h := h.2 (beq_f b1)
  refine ⟨a1, a0.celli 0 rfl rfl, ?_⟩
  have h := h av (w.heap.size) au (Priv.cons bk a0.lt Priv.nil)
  refine h.mono fun bw bx h => ?_
  obtain ⟨az, he, hk, h⟩ := h
  refine ⟨az, he, ?_⟩
  have a0 := hk.blk a0 (by simp)
  refine bif_of (fun bf => ?_) (fun bf => ?_)
  ·have h := h.1 (not_t bf)
   exact h
  have h := h.2 (not_f bf)
  refine ⟨a2, a8, a9, ad, ac, a5, a7, a4, a6, ab, ⟨a0.celli 9 rfl rfl, a0.celli 10 rfl rfl, a0.celli 11 rfl rfl, a0.celli 12 rfl rfl, a0.celli 13 rfl rfl, a0.celli 14 rfl rfl, a0.celli 15 rfl rfl, a0.celli 16 rfl rfl, trivial⟩, ?_⟩
  refine ⟨a1, a0.celli 0 rfl rfl, ?_⟩
  refine h.mono fun bq bo h => ?_
  obtain ⟨b0, he, hk, h⟩ := h
  refine ⟨b0, he, ?_⟩
  have a0 := hk.blk a0 (by simp)
  refine bif_of (fun bd => ?_) (fun bd => ?_)
  ·have h := h.1 (not_t bd)
   exact h
  have h := h.2 (not_f bd)
  refine ⟨a1, a0.celli 0 rfl rfl, ?_⟩
  refine bif_fo (fun b3 => ?_) (fun b3 => ?_)
  ·have h := h.2 (bne_f b3)
   refine ⟨a3, a0.celli 17 rfl rfl, ?_⟩
   refine bif_fo (fun b8 => ?_) (fun b8 => ?_)
   ·have h := h.2 (Int.not_le.1 (of_decide_eq_false b8))
    exact h
   have h := h.1 (of_decide_eq_true b8)
   refine ⟨a3, a0.celli 17 rfl rfl, ?_⟩
   refine bif_fo (fun b9 => ?_) (fun b9 => ?_)
   ·have h := h.2 (Int.not_lt.1 (of_decide_eq_false b9))
    exact h
   have h := h.1 (of_decide_eq_true b9)
   refine ⟨al, am, ak, a0.celli 18 rfl rfl, ?_⟩
   refine h.mono fun bv bu h => ?_
   obtain ⟨ar, he, hk, h⟩ := h
   refine ⟨ar, he, ?_⟩
   have a0 := hk.blk a0 (by simp)
   refine bif_fo (fun b7 => ?_) (fun b7 => ?_)
   ·have h := h.2 b7
    exact h
   have h := h.1 b7
   refine ⟨a1, a0.celli 0 rfl rfl, ?_⟩
   refine bif_ff (cong1 (r := false) (fun z => z == 3) (bne_f b3) (by decide)) ?_
   refine ⟨ae, a0.celli 19 rfl rfl, ?_⟩
   exact h
  have h := h.1 (bne_t b3)
  refine ⟨a1, a0.celli 0 rfl rfl, ?_⟩
  refine bif_of (fun b2 => ?_) (fun b2 => ?_)
  ·have h := h.1 (bne_t b2)
   refine ⟨a3, a0.celli 17 rfl rfl, ?_⟩
   refine bif_fo (fun bc => ?_) (fun bc => ?_)
   ·have h := h.2 (beq_f bc)
    exact h
   have h := h.1 (beq_t bc)
   refine ⟨al, am, ak, a0.celli 18 rfl rfl, ?_⟩
   refine bif_fo (fun b5 => ?_) (fun b5 => ?_)
   ·have h := h.2 (beq_f b5)
    exact h
   have h := h.1 (beq_t b5)
   refine ⟨ae, a0.celli 19 rfl rfl, ?_⟩
   exact h
  have h := h.2 (bne_f b2)
  refine ⟨a3, a0.celli 17 rfl rfl, ?_⟩
  refine bif_fo (fun be => ?_) (fun be => ?_)
  ·have h := h.2 (Int.not_le.1 (of_decide_eq_false be))
   exact h
  have h := h.1 (of_decide_eq_true be)
  refine ⟨a3, a0.celli 17 rfl rfl, ?_⟩
  refine bif_fo (fun bi => ?_) (fun bi => ?_)
  ·have h := h.2 (Int.not_lt.1 (of_decide_eq_false bi))
   exact h
  have h := h.1 (of_decide_eq_true bi)
  refine ⟨al, am, ak, a0.celli 18 rfl rfl, ?_⟩
  refine h.mono fun bm bt h => ?_
  obtain ⟨aw, he, hk, h⟩ := h
  refine ⟨aw, he, ?_⟩
  have a0 := hk.blk a0 (by simp)
  refine bif_fo (fun b4 => ?_) (fun b4 => ?_)
  ·have h := h.2 b4
   exact h
  have h := h.1 b4
  refine ⟨a1, a0.celli 0 rfl rfl, ?_⟩
  refine bif_tt (cong1 (r := true) (fun z => z == 3) (bne_f b2) (by decide)) ?_
  exact h

theorem Q0R.go (aj a6 a9 ae am ak ac : Int) (aa : Option Addr) (ab a7 : Nat) (ah a0 a5 a8 ag af a2 : Int) (a4 : Option Addr) (a1 a3 : Nat) (ad al : Int) (ao : Option Addr) (ap an : Nat) (ai : Int) {R : RW} {w : World} (h : Q0R.N aj a6 a9 ae am ak ac aa ab a7 ah a0 a5 a8 ag af a2 a4 a1 a3 ad al ao ap an ai R w) : Calls Try.prog 16 #[.agg #[.int .i64 aj, .int .i64 a6, .int .i64 a9, .int .u64 ae, .int .i64 am, .int .i64 ak, .int .i64 ac, .slice aa ab a7, .int .u64 ah, .int .i64 a0, .int .i64 a5, .int .u64 a8, .int .i64 ag, .int .i64 af, .int .i64 a2, .slice a4 a1 a3, .int .u64 ad, .int .i64 al, .slice ao ap an, .int .u64 ai]] w fun e w' => ∃ v, e = .returned v ∧ R v w' := Q0R.ok aj a6 a9 ae am ak ac aa ab a7 ah a0 a5 a8 ag af a2 a4 a1 a3 ad al ao ap an ai (Q0R.up aj a6 a9 ae am ak ac aa ab a7 ah a0 a5 a8 ag af a2 a4 a1 a3 ad al ao ap an ai h)
theorem Q0R.run (aj a6 a9 ae am ak ac : Int) (aa : Option Addr) (ab a7 : Nat) (ah a0 a5 a8 ag af a2 : Int) (a4 : Option Addr) (a1 a3 : Nat) (ad al : Int) (ao : Option Addr) (ap an : Nat) (ai : Int) {V : Value} {Q : World → Prop} {w : World} (h : Q0R.N aj a6 a9 ae am ak ac aa ab a7 ah a0 a5 a8 ag af a2 a4 a1 a3 ad al ao ap an ai (fun v w' => v = V ∧ Q w') w) : Calls Try.prog 16 #[.agg #[.int .i64 aj, .int .i64 a6, .int .i64 a9, .int .u64 ae, .int .i64 am, .int .i64 ak, .int .i64 ac, .slice aa ab a7, .int .u64 ah, .int .i64 a0, .int .i64 a5, .int .u64 a8, .int .i64 ag, .int .i64 af, .int .i64 a2, .slice a4 a1 a3, .int .u64 ad, .int .i64 al, .slice ao ap an, .int .u64 ai]] w (Ret V Q) := (Q0R.go aj a6 a9 ae am ak ac aa ab a7 ah a0 a5 a8 ag af a2 a4 a1 a3 ad al ao ap an ai h).mono fun e w' ⟨v, he, hv, hq⟩ => ⟨by rw [he, hv], hq⟩

def Q0t.M (a7 ae ah ak aj ad : Int) (af : Option Addr) (ac ag : Nat) (ai : Int) (R : RW) (w : World) : Prop :=
 thenW (w.alloc (.cells #[.int .i64 a7, .int .i64 ae, .int .u64 ah, .int .i64 ak, .int .i64 aj, .int .i64 ad, .slice af ac ag, .int .u64 ai] 27)) fun an =>
 ∃ (a0 a5 a6 a8 a9 a2 : Int) (a4 : Option Addr) (a3 a1 : Nat) (aa : Int), cellsAt an (blk w.heap.size) [.int .i64 a0, .int .i64 a5, .int .u64 a6, .int .i64 a8, .int .i64 a9, .int .i64 a2, .slice a4 a3 a1, .int .u64 aa] 0 ∧
 Calls Try.prog 35 #[.agg #[.int .i64 a0, .int .i64 a5, .int .u64 a6, .int .i64 a8, .int .i64 a9, .int .i64 a2, .slice a4 a3 a1, .int .u64 aa], .agg #[.int .i64 0, .int .i64 0, .int .u64 0, .int .i64 0, .int .i64 0, .int .i64 0, .slice none 0 0, .int .u64 0]] an fun al am => ∃ (ab : Bool), al = .returned (.bool ab) ∧
 R (.bool ab) am

theorem Q0t.ok (a0 a4 a6 a7 a8 a1 : Int) (a3 : Option Addr) (a2 a5 : Nat) (a9 : Int) {R : RW} {w : World} (h : Q0t.M a0 a4 a6 a7 a8 a1 a3 a2 a5 a9 R w) : Calls Try.prog 50 #[.agg #[.int .i64 a0, .int .i64 a4, .int .u64 a6, .int .i64 a7, .int .i64 a8, .int .i64 a1, .slice a3 a2 a5, .int .u64 a9]] w fun e w' => ∃ v, e = .returned v ∧ R v w' :=
  Q08 follows (H := []) (args := [.agg #[.int .i64 a0, .int .i64 a4, .int .u64 a6, .int .i64 a7, .int .i64 a8, .int .i64 a1, .slice a3 a2 a5, .int .u64 a9]]) (cast (by kernel_rfl) h)

def Q0t.N (a1 a5 a7 a8 a9 a6 : Int) (a4 : Option Addr) (a3 a2 : Nat) (aa : Int) (R : RW) (w : World) : Prop :=
 ∀ (ad : World), Ext no w ad →
 Calls Try.prog 35 #[.agg #[.int .i64 a1, .int .i64 a5, .int .u64 a7, .int .i64 a8, .int .i64 a9, .int .i64 a6, .slice a4 a3 a2, .int .u64 aa], .agg #[.int .i64 0, .int .i64 0, .int .u64 0, .int .i64 0, .int .i64 0, .int .i64 0, .slice none 0 0, .int .u64 0]] ad fun ac ab => ∃ (a0 : Bool), ac = .returned (.bool a0) ∧
 R (.bool a0) ab

theorem Q0t.up (a0 a4 a6 a7 a8 a5 : Int) (a3 : Option Addr) (a2 a1 : Nat) (a9 : Int) {R : RW} {w : World} (h : Q0t.N a0 a4 a6 a7 a8 a5 a3 a2 a1 a9 R w) : Q0t.M a0 a4 a6 a7 a8 a5 a3 a2 a1 a9 R w := by
  unfold Q0t.M
  unfold Q0t.N at h
  refine Q02 fun ac e9 => ?_
  have aa := Blk.of_new e9
  have ag := ((Ext.refl no w)).size
  have ae := (Ext.refl no w).x_alloc e9
  refine ⟨a0, a4, a6, a7, a8, a5, a3, a2, a1, a9, ⟨aa.celli 0 rfl rfl, aa.celli 1 rfl rfl, aa.celli 2 rfl rfl, aa.celli 3 rfl rfl, aa.celli 4 rfl rfl, aa.celli 5 rfl rfl, aa.celli 6 rfl rfl, aa.celli 7 rfl rfl, trivial⟩, ?_⟩
  have h := h ac ae
  refine h.mono fun af ad h => ?_
  obtain ⟨ab, he, h⟩ := h
  refine ⟨ab, he, ?_⟩
  exact h

theorem Q0t.go (a0 a4 a6 a7 a8 a1 : Int) (a3 : Option Addr) (a2 a5 : Nat) (a9 : Int) {R : RW} {w : World} (h : Q0t.N a0 a4 a6 a7 a8 a1 a3 a2 a5 a9 R w) : Calls Try.prog 50 #[.agg #[.int .i64 a0, .int .i64 a4, .int .u64 a6, .int .i64 a7, .int .i64 a8, .int .i64 a1, .slice a3 a2 a5, .int .u64 a9]] w fun e w' => ∃ v, e = .returned v ∧ R v w' := Q0t.ok a0 a4 a6 a7 a8 a1 a3 a2 a5 a9 (Q0t.up a0 a4 a6 a7 a8 a1 a3 a2 a5 a9 h)
theorem Q0t.run (a0 a4 a6 a7 a8 a1 : Int) (a3 : Option Addr) (a2 a5 : Nat) (a9 : Int) {V : Value} {Q : World → Prop} {w : World} (h : Q0t.N a0 a4 a6 a7 a8 a1 a3 a2 a5 a9 (fun v w' => v = V ∧ Q w') w) : Calls Try.prog 50 #[.agg #[.int .i64 a0, .int .i64 a4, .int .u64 a6, .int .i64 a7, .int .i64 a8, .int .i64 a1, .slice a3 a2 a5, .int .u64 a9]] w (Ret V Q) := (Q0t.go a0 a4 a6 a7 a8 a1 a3 a2 a5 a9 h).mono fun e w' ⟨v, he, hv, hq⟩ => ⟨by rw [he, hv], hq⟩

abbrev Q04.J1 (cr : Bool) (a2 : Addr) (R : RW) (bs : World) : Prop :=
 ∃ (bx : Int), bs.cell? (a2.add 0) = some (.int .i64 bx) ∧
 bif decide (bx < 1) then (
 R (.bool false) bs) else (
 ∃ (bb : Int), bs.cell? (a2.add 0) = some (.int .i64 bb) ∧
 bif decide (bb > 4) then (
 R (.bool false) bs) else (
 ∃ (a6 ai aw bk bi ap : Int) (al : Option Addr) (ar ah : Nat) (bl : Int), cellsAt bs (a2.add 1) [.int .i64 a6, .int .i64 ai, .int .u64 aw, .int .i64 bk, .int .i64 bi, .int .i64 ap, .slice al ar ah, .int .u64 bl] 0 ∧
 Calls Try.prog 49 #[.agg #[.int .i64 a6, .int .i64 ai, .int .u64 aw, .int .i64 bk, .int .i64 bi, .int .i64 ap, .slice al ar ah, .int .u64 bl]] bs fun ck a0 => ∃ (b9 : Bool), ck = .returned (.bool b9) ∧
 bif !b9 then (
 R (.bool false) a0) else (
 bif cr then (
 ∃ (a7 af az bh bm an : Int) (ak : Option Addr) (ag aj : Nat) (br : Int), cellsAt a0 (a2.add 9) [.int .i64 a7, .int .i64 af, .int .u64 az, .int .i64 bh, .int .i64 bm, .int .i64 an, .slice ak ag aj, .int .u64 br] 0 ∧
 Calls Try.prog 49 #[.agg #[.int .i64 a7, .int .i64 af, .int .u64 az, .int .i64 bh, .int .i64 bm, .int .i64 an, .slice ak ag aj, .int .u64 br]] a0 fun cl a1 => ∃ (ax : Bool), cl = .returned (.bool ax) ∧
 bif !ax then (
 R (.bool false) a1) else (
 bif !cr then (
 ∃ (a5 a9 ba bp bc ae : Int) (aa : Option Addr) (am ao : Nat) (bd : Int), cellsAt a1 (a2.add 9) [.int .i64 a5, .int .i64 a9, .int .u64 ba, .int .i64 bp, .int .i64 bc, .int .i64 ae, .slice aa am ao, .int .u64 bd] 0 ∧
 Calls Try.prog 50 #[.agg #[.int .i64 a5, .int .i64 a9, .int .u64 ba, .int .i64 bp, .int .i64 bc, .int .i64 ae, .slice aa am ao, .int .u64 bd]] a1 fun cm a3 => ∃ (b0 : Bool), cm = .returned (.bool b0) ∧
 bif !b0 then (
 R (.bool false) a3) else (
 ∃ (c2 : Int), a3.cell? (a2.add 17) = some (.int .i64 c2) ∧
 bif decide (c2 < 0) then (
 R (.bool false) a3) else (
 ∃ (c5 : Int), a3.cell? (a2.add 17) = some (.int .i64 c5) ∧
 bif decide (c5 ≥ 8) then (
 R (.bool false) a3) else (
 ∃ (cb : Option Addr) (c9 cg : Nat), a3.cell? (a2.add 18) = some (.slice cb c9 cg) ∧
 Calls Try.prog 51 #[.slice cb c9 cg] a3 fun cq b1 => ∃ (b2 : Bool), cq = .returned (.bool b2) ∧
 bif !b2 then (
 R (.bool false) b1) else (
 ∃ (be : Int), b1.cell? (a2.add 0) = some (.int .i64 be) ∧
 bif be == 3 then (
 R (.bool true) b1) else (
 ∃ (c6 : Int), b1.cell? (a2.add 19) = some (.int .u64 c6) ∧
 R (.bool (c6 == 0)) b1)))))) else (
 ∃ (c1 : Int), a1.cell? (a2.add 17) = some (.int .i64 c1) ∧
 bif decide (c1 < 0) then (
 R (.bool false) a1) else (
 ∃ (c3 : Int), a1.cell? (a2.add 17) = some (.int .i64 c3) ∧
 bif decide (c3 ≥ 8) then (
 R (.bool false) a1) else (
 ∃ (ch : Option Addr) (ce cf : Nat), a1.cell? (a2.add 18) = some (.slice ch ce cf) ∧
 Calls Try.prog 51 #[.slice ch ce cf] a1 fun cp ay => ∃ (b6 : Bool), cp = .returned (.bool b6) ∧
 bif !b6 then (
 R (.bool false) ay) else (
 ∃ (bn : Int), ay.cell? (a2.add 0) = some (.int .i64 bn) ∧
 bif bn == 3 then (
 R (.bool true) ay) else (
 ∃ (c4 : Int), ay.cell? (a2.add 19) = some (.int .u64 c4) ∧
 R (.bool (c4 == 0)) ay))))))) else (
 bif !cr then (
 ∃ (a4 aq b5 bf bo ab : Int) (au : Option Addr) (ad ac : Nat) (bj : Int), cellsAt a0 (a2.add 9) [.int .i64 a4, .int .i64 aq, .int .u64 b5, .int .i64 bf, .int .i64 bo, .int .i64 ab, .slice au ad ac, .int .u64 bj] 0 ∧
 Calls Try.prog 50 #[.agg #[.int .i64 a4, .int .i64 aq, .int .u64 b5, .int .i64 bf, .int .i64 bo, .int .i64 ab, .slice au ad ac, .int .u64 bj]] a0 fun co a8 => ∃ (av : Bool), co = .returned (.bool av) ∧
 bif !av then (
 R (.bool false) a8) else (
 ∃ (c0 : Int), a8.cell? (a2.add 17) = some (.int .i64 c0) ∧
 bif decide (c0 < 0) then (
 R (.bool false) a8) else (
 ∃ (bt : Int), a8.cell? (a2.add 17) = some (.int .i64 bt) ∧
 bif decide (bt ≥ 8) then (
 R (.bool false) a8) else (
 ∃ (c7 : Option Addr) (cd ca : Nat), a8.cell? (a2.add 18) = some (.slice c7 cd ca) ∧
 Calls Try.prog 51 #[.slice c7 cd ca] a8 fun cn b8 => ∃ (b4 : Bool), cn = .returned (.bool b4) ∧
 bif !b4 then (
 R (.bool false) b8) else (
 ∃ (bg : Int), b8.cell? (a2.add 0) = some (.int .i64 bg) ∧
 bif bg == 3 then (
 R (.bool true) b8) else (
 ∃ (bu : Int), b8.cell? (a2.add 19) = some (.int .u64 bu) ∧
 R (.bool (bu == 0)) b8)))))) else (
 ∃ (bv : Int), a0.cell? (a2.add 17) = some (.int .i64 bv) ∧
 bif decide (bv < 0) then (
 R (.bool false) a0) else (
 ∃ (bw : Int), a0.cell? (a2.add 17) = some (.int .i64 bw) ∧
 bif decide (bw ≥ 8) then (
 R (.bool false) a0) else (
 ∃ (c8 : Option Addr) (cc ci : Nat), a0.cell? (a2.add 18) = some (.slice c8 cc ci) ∧
 Calls Try.prog 51 #[.slice c8 cc ci] a0 fun cj b7 => ∃ (b3 : Bool), cj = .returned (.bool b3) ∧
 bif !b3 then (
 R (.bool false) b7) else (
 ∃ (bq : Int), b7.cell? (a2.add 0) = some (.int .i64 bq) ∧
 bif bq == 3 then (
 R (.bool true) b7) else (
 ∃ (bz : Int), b7.cell? (a2.add 19) = some (.int .u64 bz) ∧
 R (.bool (bz == 0)) b7)))))))))

abbrev Q04.J2 (a9 dp : Bool) (a0 : Addr) (R : RW) (ax : World) : Prop :=
 ∃ (bl : Int), ax.cell? (a0.add 0) = some (.int .i64 bl) ∧
 bif decide (bl < 1) then (
 R (.bool false) ax) else (
 ∃ (bt : Int), ax.cell? (a0.add 0) = some (.int .i64 bt) ∧
 bif decide (bt > 4) then (
 R (.bool false) ax) else (
 ∃ (aa au b9 bq bd al : Int) (av : Option Addr) (aj aq : Nat) (be : Int), cellsAt ax (a0.add 1) [.int .i64 aa, .int .i64 au, .int .u64 b9, .int .i64 bq, .int .i64 bd, .int .i64 al, .slice av aj aq, .int .u64 be] 0 ∧
 Calls Try.prog 49 #[.agg #[.int .i64 aa, .int .i64 au, .int .u64 b9, .int .i64 bq, .int .i64 bd, .int .i64 al, .slice av aj aq, .int .u64 be]] ax fun e3 a1 => ∃ (b2 : Bool), e3 = .returned (.bool b2) ∧
 bif !b2 then (
 R (.bool false) a1) else (
 bif dp then (
 ∃ (ad ak b8 c2 bp an : Int) (az : Option Addr) (ah b0 : Nat) (c1 : Int), cellsAt a1 (a0.add 9) [.int .i64 ad, .int .i64 ak, .int .u64 b8, .int .i64 c2, .int .i64 bp, .int .i64 an, .slice az ah b0, .int .u64 c1] 0 ∧
 Calls Try.prog 49 #[.agg #[.int .i64 ad, .int .i64 ak, .int .u64 b8, .int .i64 c2, .int .i64 bp, .int .i64 an, .slice az ah b0, .int .u64 c1]] a1 fun e1 a2 => ∃ (b4 : Bool), e1 = .returned (.bool b4) ∧
 bif !b4 then (
 R (.bool false) a2) else (
 bif !dp then (
 ∃ (ac ay b3 bw c3 ao : Int) (af : Option Addr) (aw ai : Nat) (c4 : Int), cellsAt a2 (a0.add 9) [.int .i64 ac, .int .i64 ay, .int .u64 b3, .int .i64 bw, .int .i64 c3, .int .i64 ao, .slice af aw ai, .int .u64 c4] 0 ∧
 Calls Try.prog 50 #[.agg #[.int .i64 ac, .int .i64 ay, .int .u64 b3, .int .i64 bw, .int .i64 c3, .int .i64 ao, .slice af aw ai, .int .u64 c4]] a2 fun dw a3 => ∃ (b1 : Bool), dw = .returned (.bool b1) ∧
 bif !b1 then (
 R (.bool false) a3) else (
 bif a9 then (
 ∃ (cb : Int), a3.cell? (a0.add 17) = some (.int .i64 cb) ∧
 bif decide (cb < 0) then (
 R (.bool false) a3) else (
 ∃ (cr : Int), a3.cell? (a0.add 17) = some (.int .i64 cr) ∧
 bif decide (cr ≥ 8) then (
 R (.bool false) a3) else (
 ∃ (df : Option Addr) (dd di : Nat), a3.cell? (a0.add 18) = some (.slice df dd di) ∧
 Calls Try.prog 51 #[.slice df dd di] a3 fun dv a8 => ∃ (ba : Bool), dv = .returned (.bool ba) ∧
 bif !ba then (
 R (.bool false) a8) else (
 bif !a9 then (
 ∃ (cu : Int), a8.cell? (a0.add 17) = some (.int .i64 cu) ∧
 bif cu != 0 then (
 R (.bool false) a8) else (
 ∃ (ds : Option Addr) (d7 dq : Nat), a8.cell? (a0.add 18) = some (.slice ds d7 dq) ∧
 bif decide ((d7 : Int) > 0) then (
 R (.bool false) a8) else (
 ∃ (bz : Int), a8.cell? (a0.add 0) = some (.int .i64 bz) ∧
 bif bz == 3 then (
 R (.bool true) a8) else (
 ∃ (d1 : Int), a8.cell? (a0.add 19) = some (.int .u64 d1) ∧
 R (.bool (d1 == 0)) a8)))) else (
 ∃ (bn : Int), a8.cell? (a0.add 0) = some (.int .i64 bn) ∧
 bif bn == 3 then (
 R (.bool true) a8) else (
 ∃ (cg : Int), a8.cell? (a0.add 19) = some (.int .u64 cg) ∧
 R (.bool (cg == 0)) a8)))))) else (
 bif !a9 then (
 ∃ (cm : Int), a3.cell? (a0.add 17) = some (.int .i64 cm) ∧
 bif cm != 0 then (
 R (.bool false) a3) else (
 ∃ (e8 : Option Addr) (dk e7 : Nat), a3.cell? (a0.add 18) = some (.slice e8 dk e7) ∧
 bif decide ((dk : Int) > 0) then (
 R (.bool false) a3) else (
 ∃ (bi : Int), a3.cell? (a0.add 0) = some (.int .i64 bi) ∧
 bif bi == 3 then (
 R (.bool true) a3) else (
 ∃ (ct : Int), a3.cell? (a0.add 19) = some (.int .u64 ct) ∧
 R (.bool (ct == 0)) a3)))) else (
 ∃ (bg : Int), a3.cell? (a0.add 0) = some (.int .i64 bg) ∧
 bif bg == 3 then (
 R (.bool true) a3) else (
 ∃ (cn : Int), a3.cell? (a0.add 19) = some (.int .u64 cn) ∧
 R (.bool (cn == 0)) a3))))) else (
 bif a9 then (
 ∃ (ck : Int), a2.cell? (a0.add 17) = some (.int .i64 ck) ∧
 bif decide (ck < 0) then (
 R (.bool false) a2) else (
 ∃ (d2 : Int), a2.cell? (a0.add 17) = some (.int .i64 d2) ∧
 bif decide (d2 ≥ 8) then (
 R (.bool false) a2) else (
 ∃ (dg : Option Addr) (d8 dj : Nat), a2.cell? (a0.add 18) = some (.slice dg d8 dj) ∧
 Calls Try.prog 51 #[.slice dg d8 dj] a2 fun ea a6 => ∃ (bc : Bool), ea = .returned (.bool bc) ∧
 bif !bc then (
 R (.bool false) a6) else (
 bif !a9 then (
 ∃ (d3 : Int), a6.cell? (a0.add 17) = some (.int .i64 d3) ∧
 bif d3 != 0 then (
 R (.bool false) a6) else (
 ∃ (dr : Option Addr) (db e9 : Nat), a6.cell? (a0.add 18) = some (.slice dr db e9) ∧
 bif decide ((db : Int) > 0) then (
 R (.bool false) a6) else (
 ∃ (c6 : Int), a6.cell? (a0.add 0) = some (.int .i64 c6) ∧
 bif c6 == 3 then (
 R (.bool true) a6) else (
 ∃ (c9 : Int), a6.cell? (a0.add 19) = some (.int .u64 c9) ∧
 R (.bool (c9 == 0)) a6)))) else (
 ∃ (bs : Int), a6.cell? (a0.add 0) = some (.int .i64 bs) ∧
 bif bs == 3 then (
 R (.bool true) a6) else (
 ∃ (cs : Int), a6.cell? (a0.add 19) = some (.int .u64 cs) ∧
 R (.bool (cs == 0)) a6)))))) else (
 bif !a9 then (
 ∃ (cv : Int), a2.cell? (a0.add 17) = some (.int .i64 cv) ∧
 bif cv != 0 then (
 R (.bool false) a2) else (
 ∃ (dt : Option Addr) (da ed : Nat), a2.cell? (a0.add 18) = some (.slice dt da ed) ∧
 bif decide ((da : Int) > 0) then (
 R (.bool false) a2) else (
 ∃ (bf : Int), a2.cell? (a0.add 0) = some (.int .i64 bf) ∧
 bif bf == 3 then (
 R (.bool true) a2) else (
 ∃ (cq : Int), a2.cell? (a0.add 19) = some (.int .u64 cq) ∧
 R (.bool (cq == 0)) a2)))) else (
 ∃ (c7 : Int), a2.cell? (a0.add 0) = some (.int .i64 c7) ∧
 bif c7 == 3 then (
 R (.bool true) a2) else (
 ∃ (cd : Int), a2.cell? (a0.add 19) = some (.int .u64 cd) ∧
 R (.bool (cd == 0)) a2)))))) else (
 bif !dp then (
 ∃ (ab ag b6 c0 br ar : Int) (ap : Option Addr) (am ae : Nat) (c5 : Int), cellsAt a1 (a0.add 9) [.int .i64 ab, .int .i64 ag, .int .u64 b6, .int .i64 c0, .int .i64 br, .int .i64 ar, .slice ap am ae, .int .u64 c5] 0 ∧
 Calls Try.prog 50 #[.agg #[.int .i64 ab, .int .i64 ag, .int .u64 b6, .int .i64 c0, .int .i64 br, .int .i64 ar, .slice ap am ae, .int .u64 c5]] a1 fun dz a4 => ∃ (b7 : Bool), dz = .returned (.bool b7) ∧
 bif !b7 then (
 R (.bool false) a4) else (
 bif a9 then (
 ∃ (d0 : Int), a4.cell? (a0.add 17) = some (.int .i64 d0) ∧
 bif decide (d0 < 0) then (
 R (.bool false) a4) else (
 ∃ (ci : Int), a4.cell? (a0.add 17) = some (.int .i64 ci) ∧
 bif decide (ci ≥ 8) then (
 R (.bool false) a4) else (
 ∃ (dc : Option Addr) (dn d6 : Nat), a4.cell? (a0.add 18) = some (.slice dc dn d6) ∧
 Calls Try.prog 51 #[.slice dc dn d6] a4 fun dy a5 => ∃ (bb : Bool), dy = .returned (.bool bb) ∧
 bif !bb then (
 R (.bool false) a5) else (
 bif !a9 then (
 ∃ (cl : Int), a5.cell? (a0.add 17) = some (.int .i64 cl) ∧
 bif cl != 0 then (
 R (.bool false) a5) else (
 ∃ (eb : Option Addr) (dl e2 : Nat), a5.cell? (a0.add 18) = some (.slice eb dl e2) ∧
 bif decide ((dl : Int) > 0) then (
 R (.bool false) a5) else (
 ∃ (bo : Int), a5.cell? (a0.add 0) = some (.int .i64 bo) ∧
 bif bo == 3 then (
 R (.bool true) a5) else (
 ∃ (cz : Int), a5.cell? (a0.add 19) = some (.int .u64 cz) ∧
 R (.bool (cz == 0)) a5)))) else (
 ∃ (bj : Int), a5.cell? (a0.add 0) = some (.int .i64 bj) ∧
 bif bj == 3 then (
 R (.bool true) a5) else (
 ∃ (co : Int), a5.cell? (a0.add 19) = some (.int .u64 co) ∧
 R (.bool (co == 0)) a5)))))) else (
 bif !a9 then (
 ∃ (c8 : Int), a4.cell? (a0.add 17) = some (.int .i64 c8) ∧
 bif c8 != 0 then (
 R (.bool false) a4) else (
 ∃ (e6 : Option Addr) (d9 ec : Nat), a4.cell? (a0.add 18) = some (.slice e6 d9 ec) ∧
 bif decide ((d9 : Int) > 0) then (
 R (.bool false) a4) else (
 ∃ (bu : Int), a4.cell? (a0.add 0) = some (.int .i64 bu) ∧
 bif bu == 3 then (
 R (.bool true) a4) else (
 ∃ (ce : Int), a4.cell? (a0.add 19) = some (.int .u64 ce) ∧
 R (.bool (ce == 0)) a4)))) else (
 ∃ (bm : Int), a4.cell? (a0.add 0) = some (.int .i64 bm) ∧
 bif bm == 3 then (
 R (.bool true) a4) else (
 ∃ (ch : Int), a4.cell? (a0.add 19) = some (.int .u64 ch) ∧
 R (.bool (ch == 0)) a4))))) else (
 bif a9 then (
 ∃ (cp : Int), a1.cell? (a0.add 17) = some (.int .i64 cp) ∧
 bif decide (cp < 0) then (
 R (.bool false) a1) else (
 ∃ (cj : Int), a1.cell? (a0.add 17) = some (.int .i64 cj) ∧
 bif decide (cj ≥ 8) then (
 R (.bool false) a1) else (
 ∃ (dm : Option Addr) (dh d4 : Nat), a1.cell? (a0.add 18) = some (.slice dm dh d4) ∧
 Calls Try.prog 51 #[.slice dm dh d4] a1 fun e4 a7 => ∃ (b5 : Bool), e4 = .returned (.bool b5) ∧
 bif !b5 then (
 R (.bool false) a7) else (
 bif !a9 then (
 ∃ (cy : Int), a7.cell? (a0.add 17) = some (.int .i64 cy) ∧
 bif cy != 0 then (
 R (.bool false) a7) else (
 ∃ (dx : Option Addr) (d5 e0 : Nat), a7.cell? (a0.add 18) = some (.slice dx d5 e0) ∧
 bif decide ((d5 : Int) > 0) then (
 R (.bool false) a7) else (
 ∃ (bv : Int), a7.cell? (a0.add 0) = some (.int .i64 bv) ∧
 bif bv == 3 then (
 R (.bool true) a7) else (
 ∃ (cc : Int), a7.cell? (a0.add 19) = some (.int .u64 cc) ∧
 R (.bool (cc == 0)) a7)))) else (
 ∃ (bk : Int), a7.cell? (a0.add 0) = some (.int .i64 bk) ∧
 bif bk == 3 then (
 R (.bool true) a7) else (
 ∃ (cx : Int), a7.cell? (a0.add 19) = some (.int .u64 cx) ∧
 R (.bool (cx == 0)) a7)))))) else (
 bif !a9 then (
 ∃ (cw : Int), a1.cell? (a0.add 17) = some (.int .i64 cw) ∧
 bif cw != 0 then (
 R (.bool false) a1) else (
 ∃ (du : Option Addr) (de e5 : Nat), a1.cell? (a0.add 18) = some (.slice du de e5) ∧
 bif decide ((de : Int) > 0) then (
 R (.bool false) a1) else (
 ∃ (bh : Int), a1.cell? (a0.add 0) = some (.int .i64 bh) ∧
 bif bh == 3 then (
 R (.bool true) a1) else (
 ∃ (ca : Int), a1.cell? (a0.add 19) = some (.int .u64 ca) ∧
 R (.bool (ca == 0)) a1)))) else (
 ∃ (bx : Int), a1.cell? (a0.add 0) = some (.int .i64 bx) ∧
 bif bx == 3 then (
 R (.bool true) a1) else (
 ∃ (cf : Int), a1.cell? (a0.add 19) = some (.int .u64 cf) ∧
 R (.bool (cf == 0)) a1))))))))

abbrev Q04.J3 (a4 : Bool) (a3 : Addr) (R : RW) (a2 : World) : Prop :=
 ∃ (a1 : Int), a2.cell? (a3.add 0) = some (.int .i64 a1) ∧
 bif a1 == 2 then (
 Q04.J1 a4 a3 R a2) else (
 ∃ (a0 : Int), a2.cell? (a3.add 0) = some (.int .i64 a0) ∧
 Q04.J2 (a0 == 3) a4 a3 R a2)

abbrev Q04.J4 (a9 kf : Bool) (a0 : Addr) (R : RW) (a1 : World) : Prop :=
 ∃ (f0 : Int), a1.cell? (a0.add 0) = some (.int .i64 f0) ∧
 bif decide (f0 < 1) then (
 R (.bool false) a1) else (
 ∃ (gj : Int), a1.cell? (a0.add 0) = some (.int .i64 gj) ∧
 bif decide (gj > 4) then (
 R (.bool false) a1) else (
 bif kf then (
 ∃ (ah c9 e9 fe fm d1 : Int) (cc : Option Addr) (cm bq : Nat) (f2 : Int), cellsAt a1 (a0.add 1) [.int .i64 ah, .int .i64 c9, .int .u64 e9, .int .i64 fe, .int .i64 fm, .int .i64 d1, .slice cc cm bq, .int .u64 f2] 0 ∧
 Calls Try.prog 49 #[.agg #[.int .i64 ah, .int .i64 c9, .int .u64 e9, .int .i64 fe, .int .i64 fm, .int .i64 d1, .slice cc cm bq, .int .u64 f2]] a1 fun kl a2 => ∃ (dh : Bool), kl = .returned (.bool dh) ∧
 bif !dh then (
 R (.bool false) a2) else (
 bif !kf then (
 ∃ (al b7 d9 fr ff cx : Int) (c0 : Option Addr) (c4 bz : Nat) (g5 : Int), cellsAt a2 (a0.add 1) [.int .i64 al, .int .i64 b7, .int .u64 d9, .int .i64 fr, .int .i64 ff, .int .i64 cx, .slice c0 c4 bz, .int .u64 g5] 0 ∧
 Calls Try.prog 50 #[.agg #[.int .i64 al, .int .i64 b7, .int .u64 d9, .int .i64 fr, .int .i64 ff, .int .i64 cx, .slice c0 c4 bz, .int .u64 g5]] a2 fun kp a4 => ∃ (dp : Bool), kp = .returned (.bool dp) ∧
 bif !dp then (
 R (.bool false) a4) else (
 bif a9 then (
 ∃ (ab bs e2 g8 fq cs : Int) (b6 : Option Addr) (b3 d2 : Nat) (fb : Int), cellsAt a4 (a0.add 9) [.int .i64 ab, .int .i64 bs, .int .u64 e2, .int .i64 g8, .int .i64 fq, .int .i64 cs, .slice b6 b3 d2, .int .u64 fb] 0 ∧
 Calls Try.prog 49 #[.agg #[.int .i64 ab, .int .i64 bs, .int .u64 e2, .int .i64 g8, .int .i64 fq, .int .i64 cs, .slice b6 b3 d2, .int .u64 fb]] a4 fun kr a7 => ∃ (dd : Bool), kr = .returned (.bool dd) ∧
 bif !dd then (
 R (.bool false) a7) else (
 bif !a9 then (
 ∃ (am ba du gg gd bx : Int) (bo : Option Addr) (cj az : Nat) (gl : Int), cellsAt a7 (a0.add 9) [.int .i64 am, .int .i64 ba, .int .u64 du, .int .i64 gg, .int .i64 gd, .int .i64 bx, .slice bo cj az, .int .u64 gl] 0 ∧
 Calls Try.prog 50 #[.agg #[.int .i64 am, .int .i64 ba, .int .u64 du, .int .i64 gg, .int .i64 gd, .int .i64 bx, .slice bo cj az, .int .u64 gl]] a7 fun l5 ay => ∃ (d8 : Bool), l5 = .returned (.bool d8) ∧
 bif !d8 then (
 R (.bool false) ay) else (
 ∃ (gn : Int), ay.cell? (a0.add 17) = some (.int .i64 gn) ∧
 bif decide (gn < 0) then (
 R (.bool false) ay) else (
 ∃ (gu : Int), ay.cell? (a0.add 17) = some (.int .i64 gu) ∧
 bif decide (gu ≥ 8) then (
 R (.bool false) ay) else (
 ∃ (j7 : Option Addr) (jp jt : Nat), ay.cell? (a0.add 18) = some (.slice j7 jp jt) ∧
 Calls Try.prog 51 #[.slice j7 jp jt] ay fun kh eo => ∃ (dw : Bool), kh = .returned (.bool dw) ∧
 bif !dw then (
 R (.bool false) eo) else (
 ∃ (fa : Int), eo.cell? (a0.add 0) = some (.int .i64 fa) ∧
 bif fa == 3 then (
 R (.bool true) eo) else (
 ∃ (i2 : Int), eo.cell? (a0.add 19) = some (.int .u64 i2) ∧
 R (.bool (i2 == 0)) eo)))))) else (
 ∃ (iz : Int), a7.cell? (a0.add 17) = some (.int .i64 iz) ∧
 bif decide (iz < 0) then (
 R (.bool false) a7) else (
 ∃ (i0 : Int), a7.cell? (a0.add 17) = some (.int .i64 i0) ∧
 bif decide (i0 ≥ 8) then (
 R (.bool false) a7) else (
 ∃ (kb : Option Addr) (k9 jg : Nat), a7.cell? (a0.add 18) = some (.slice kb k9 jg) ∧
 Calls Try.prog 51 #[.slice kb k9 jg] a7 fun km dz => ∃ (eg : Bool), km = .returned (.bool eg) ∧
 bif !eg then (
 R (.bool false) dz) else (
 ∃ (gb : Int), dz.cell? (a0.add 0) = some (.int .i64 gb) ∧
 bif gb == 3 then (
 R (.bool true) dz) else (
 ∃ (gs : Int), dz.cell? (a0.add 19) = some (.int .u64 gs) ∧
 R (.bool (gs == 0)) dz))))))) else (
 bif !a9 then (
 ∃ (aa cp d5 gk fu bn : Int) (b4 : Option Addr) (cw bc : Nat) (fv : Int), cellsAt a4 (a0.add 9) [.int .i64 aa, .int .i64 cp, .int .u64 d5, .int .i64 gk, .int .i64 fu, .int .i64 bn, .slice b4 cw bc, .int .u64 fv] 0 ∧
 Calls Try.prog 50 #[.agg #[.int .i64 aa, .int .i64 cp, .int .u64 d5, .int .i64 gk, .int .i64 fu, .int .i64 bn, .slice b4 cw bc, .int .u64 fv]] a4 fun l9 ax => ∃ (dk : Bool), l9 = .returned (.bool dk) ∧
 bif !dk then (
 R (.bool false) ax) else (
 ∃ (ik : Int), ax.cell? (a0.add 17) = some (.int .i64 ik) ∧
 bif decide (ik < 0) then (
 R (.bool false) ax) else (
 ∃ (iu : Int), ax.cell? (a0.add 17) = some (.int .i64 iu) ∧
 bif decide (iu ≥ 8) then (
 R (.bool false) ax) else (
 ∃ (k7 : Option Addr) (j9 jk : Nat), ax.cell? (a0.add 18) = some (.slice k7 j9 jk) ∧
 Calls Try.prog 51 #[.slice k7 j9 jk] ax fun l8 ds => ∃ (ed : Bool), l8 = .returned (.bool ed) ∧
 bif !ed then (
 R (.bool false) ds) else (
 ∃ (ex : Int), ds.cell? (a0.add 0) = some (.int .i64 ex) ∧
 bif ex == 3 then (
 R (.bool true) ds) else (
 ∃ (gx : Int), ds.cell? (a0.add 19) = some (.int .u64 gx) ∧
 R (.bool (gx == 0)) ds)))))) else (
 ∃ (gq : Int), a4.cell? (a0.add 17) = some (.int .i64 gq) ∧
 bif decide (gq < 0) then (
 R (.bool false) a4) else (
 ∃ (gt : Int), a4.cell? (a0.add 17) = some (.int .i64 gt) ∧
 bif decide (gt ≥ 8) then (
 R (.bool false) a4) else (
 ∃ (j6 : Option Addr) (kc jq : Nat), a4.cell? (a0.add 18) = some (.slice j6 kc jq) ∧
 Calls Try.prog 51 #[.slice j6 kc jq] a4 fun l6 dc => ∃ (ec : Bool), l6 = .returned (.bool ec) ∧
 bif !ec then (
 R (.bool false) dc) else (
 ∃ (fh : Int), dc.cell? (a0.add 0) = some (.int .i64 fh) ∧
 bif fh == 3 then (
 R (.bool true) dc) else (
 ∃ (gp : Int), dc.cell? (a0.add 19) = some (.int .u64 gp) ∧
 R (.bool (gp == 0)) dc)))))))) else (
 bif a9 then (
 ∃ (aw b0 e0 ey g1 cb : Int) (b9 : Option Addr) (be b2 : Nat) (fx : Int), cellsAt a2 (a0.add 9) [.int .i64 aw, .int .i64 b0, .int .u64 e0, .int .i64 ey, .int .i64 g1, .int .i64 cb, .slice b9 be b2, .int .u64 fx] 0 ∧
 Calls Try.prog 49 #[.agg #[.int .i64 aw, .int .i64 b0, .int .u64 e0, .int .i64 ey, .int .i64 g1, .int .i64 cb, .slice b9 be b2, .int .u64 fx]] a2 fun ku a5 => ∃ (dq : Bool), ku = .returned (.bool dq) ∧
 bif !dq then (
 R (.bool false) a5) else (
 bif !a9 then (
 ∃ (ar c1 d7 f1 f5 cl : Int) (bk : Option Addr) (bu c5 : Nat) (ge : Int), cellsAt a5 (a0.add 9) [.int .i64 ar, .int .i64 c1, .int .u64 d7, .int .i64 f1, .int .i64 f5, .int .i64 cl, .slice bk bu c5, .int .u64 ge] 0 ∧
 Calls Try.prog 50 #[.agg #[.int .i64 ar, .int .i64 c1, .int .u64 d7, .int .i64 f1, .int .i64 f5, .int .i64 cl, .slice bk bu c5, .int .u64 ge]] a5 fun kx ao => ∃ (dv : Bool), kx = .returned (.bool dv) ∧
 bif !dv then (
 R (.bool false) ao) else (
 ∃ (j1 : Int), ao.cell? (a0.add 17) = some (.int .i64 j1) ∧
 bif decide (j1 < 0) then (
 R (.bool false) ao) else (
 ∃ (i4 : Int), ao.cell? (a0.add 17) = some (.int .i64 i4) ∧
 bif decide (i4 ≥ 8) then (
 R (.bool false) ao) else (
 ∃ (jm : Option Addr) (k6 js : Nat), ao.cell? (a0.add 18) = some (.slice jm k6 js) ∧
 Calls Try.prog 51 #[.slice jm k6 js] ao fun kk ef => ∃ (e6 : Bool), kk = .returned (.bool e6) ∧
 bif !e6 then (
 R (.bool false) ef) else (
 ∃ (ew : Int), ef.cell? (a0.add 0) = some (.int .i64 ew) ∧
 bif ew == 3 then (
 R (.bool true) ef) else (
 ∃ (iv : Int), ef.cell? (a0.add 19) = some (.int .u64 iv) ∧
 R (.bool (iv == 0)) ef)))))) else (
 ∃ (i5 : Int), a5.cell? (a0.add 17) = some (.int .i64 i5) ∧
 bif decide (i5 < 0) then (
 R (.bool false) a5) else (
 ∃ (ia : Int), a5.cell? (a0.add 17) = some (.int .i64 ia) ∧
 bif decide (ia ≥ 8) then (
 R (.bool false) a5) else (
 ∃ (jh : Option Addr) (je k0 : Nat), a5.cell? (a0.add 18) = some (.slice jh je k0) ∧
 Calls Try.prog 51 #[.slice jh je k0] a5 fun la e3 => ∃ (ep : Bool), la = .returned (.bool ep) ∧
 bif !ep then (
 R (.bool false) e3) else (
 ∃ (fo : Int), e3.cell? (a0.add 0) = some (.int .i64 fo) ∧
 bif fo == 3 then (
 R (.bool true) e3) else (
 ∃ (ig : Int), e3.cell? (a0.add 19) = some (.int .u64 ig) ∧
 R (.bool (ig == 0)) e3))))))) else (
 bif !a9 then (
 ∃ (aj c3 dm ev fs cv : Int) (c6 : Option Addr) (cf cn : Nat) (f3 : Int), cellsAt a2 (a0.add 9) [.int .i64 aj, .int .i64 c3, .int .u64 dm, .int .i64 ev, .int .i64 fs, .int .i64 cv, .slice c6 cf cn, .int .u64 f3] 0 ∧
 Calls Try.prog 50 #[.agg #[.int .i64 aj, .int .i64 c3, .int .u64 dm, .int .i64 ev, .int .i64 fs, .int .i64 cv, .slice c6 cf cn, .int .u64 f3]] a2 fun kw an => ∃ (d3 : Bool), kw = .returned (.bool d3) ∧
 bif !d3 then (
 R (.bool false) an) else (
 ∃ (j2 : Int), an.cell? (a0.add 17) = some (.int .i64 j2) ∧
 bif decide (j2 < 0) then (
 R (.bool false) an) else (
 ∃ (ie : Int), an.cell? (a0.add 17) = some (.int .i64 ie) ∧
 bif decide (ie ≥ 8) then (
 R (.bool false) an) else (
 ∃ (jj : Option Addr) (jr ji : Nat), an.cell? (a0.add 18) = some (.slice jj jr ji) ∧
 Calls Try.prog 51 #[.slice jj jr ji] an fun kt dl => ∃ (e7 : Bool), kt = .returned (.bool e7) ∧
 bif !e7 then (
 R (.bool false) dl) else (
 ∃ (fc : Int), dl.cell? (a0.add 0) = some (.int .i64 fc) ∧
 bif fc == 3 then (
 R (.bool true) dl) else (
 ∃ (iq : Int), dl.cell? (a0.add 19) = some (.int .u64 iq) ∧
 R (.bool (iq == 0)) dl)))))) else (
 ∃ (j0 : Int), a2.cell? (a0.add 17) = some (.int .i64 j0) ∧
 bif decide (j0 < 0) then (
 R (.bool false) a2) else (
 ∃ (ib : Int), a2.cell? (a0.add 17) = some (.int .i64 ib) ∧
 bif decide (ib ≥ 8) then (
 R (.bool false) a2) else (
 ∃ (jl : Option Addr) (k3 jo : Nat), a2.cell? (a0.add 18) = some (.slice jl k3 jo) ∧
 Calls Try.prog 51 #[.slice jl k3 jo] a2 fun kj dr => ∃ (dy : Bool), kj = .returned (.bool dy) ∧
 bif !dy then (
 R (.bool false) dr) else (
 ∃ (gi : Int), dr.cell? (a0.add 0) = some (.int .i64 gi) ∧
 bif gi == 3 then (
 R (.bool true) dr) else (
 ∃ (i8 : Int), dr.cell? (a0.add 19) = some (.int .u64 i8) ∧
 R (.bool (i8 == 0)) dr))))))))) else (
 bif !kf then (
 ∃ (ac ca e4 gh ft cz : Int) (d0 : Option Addr) (ci cu : Nat) (fp : Int), cellsAt a1 (a0.add 1) [.int .i64 ac, .int .i64 ca, .int .u64 e4, .int .i64 gh, .int .i64 ft, .int .i64 cz, .slice d0 ci cu, .int .u64 fp] 0 ∧
 Calls Try.prog 50 #[.agg #[.int .i64 ac, .int .i64 ca, .int .u64 e4, .int .i64 gh, .int .i64 ft, .int .i64 cz, .slice d0 ci cu, .int .u64 fp]] a1 fun l0 a3 => ∃ (db : Bool), l0 = .returned (.bool db) ∧
 bif !db then (
 R (.bool false) a3) else (
 bif a9 then (
 ∃ (av c2 et f7 f8 c8 : Int) (b1 : Option Addr) (cg ck : Nat) (gf : Int), cellsAt a3 (a0.add 9) [.int .i64 av, .int .i64 c2, .int .u64 et, .int .i64 f7, .int .i64 f8, .int .i64 c8, .slice b1 cg ck, .int .u64 gf] 0 ∧
 Calls Try.prog 49 #[.agg #[.int .i64 av, .int .i64 c2, .int .u64 et, .int .i64 f7, .int .i64 f8, .int .i64 c8, .slice b1 cg ck, .int .u64 gf]] a3 fun kg a6 => ∃ (d6 : Bool), kg = .returned (.bool d6) ∧
 bif !d6 then (
 R (.bool false) a6) else (
 bif !a9 then (
 ∃ (ag b8 dt g2 fw cq : Int) (bf : Option Addr) (co bl : Nat) (g0 : Int), cellsAt a6 (a0.add 9) [.int .i64 ag, .int .i64 b8, .int .u64 dt, .int .i64 g2, .int .i64 fw, .int .i64 cq, .slice bf co bl, .int .u64 g0] 0 ∧
 Calls Try.prog 50 #[.agg #[.int .i64 ag, .int .i64 b8, .int .u64 dt, .int .i64 g2, .int .i64 fw, .int .i64 cq, .slice bf co bl, .int .u64 g0]] a6 fun l2 au => ∃ (es : Bool), l2 = .returned (.bool es) ∧
 bif !es then (
 R (.bool false) au) else (
 ∃ (gy : Int), au.cell? (a0.add 17) = some (.int .i64 gy) ∧
 bif decide (gy < 0) then (
 R (.bool false) au) else (
 ∃ (it : Int), au.cell? (a0.add 17) = some (.int .i64 it) ∧
 bif decide (it ≥ 8) then (
 R (.bool false) au) else (
 ∃ (ja : Option Addr) (jf jv : Nat), au.cell? (a0.add 18) = some (.slice ja jf jv) ∧
 Calls Try.prog 51 #[.slice ja jf jv] au fun kn em => ∃ (e5 : Bool), kn = .returned (.bool e5) ∧
 bif !e5 then (
 R (.bool false) em) else (
 ∃ (g4 : Int), em.cell? (a0.add 0) = some (.int .i64 g4) ∧
 bif g4 == 3 then (
 R (.bool true) em) else (
 ∃ (i3 : Int), em.cell? (a0.add 19) = some (.int .u64 i3) ∧
 R (.bool (i3 == 0)) em)))))) else (
 ∃ (gw : Int), a6.cell? (a0.add 17) = some (.int .i64 gw) ∧
 bif decide (gw < 0) then (
 R (.bool false) a6) else (
 ∃ (gv : Int), a6.cell? (a0.add 17) = some (.int .i64 gv) ∧
 bif decide (gv ≥ 8) then (
 R (.bool false) a6) else (
 ∃ (ka : Option Addr) (jz jd : Nat), a6.cell? (a0.add 18) = some (.slice ka jz jd) ∧
 Calls Try.prog 51 #[.slice ka jz jd] a6 fun ky ea => ∃ (e1 : Bool), ky = .returned (.bool e1) ∧
 bif !e1 then (
 R (.bool false) ea) else (
 ∃ (fi : Int), ea.cell? (a0.add 0) = some (.int .i64 fi) ∧
 bif fi == 3 then (
 R (.bool true) ea) else (
 ∃ (ir : Int), ea.cell? (a0.add 19) = some (.int .u64 ir) ∧
 R (.bool (ir == 0)) ea))))))) else (
 bif !a9 then (
 ∃ (ad cd eb fz f4 ct : Int) (bi : Option Addr) (bb bt : Nat) (fl : Int), cellsAt a3 (a0.add 9) [.int .i64 ad, .int .i64 cd, .int .u64 eb, .int .i64 fz, .int .i64 f4, .int .i64 ct, .slice bi bb bt, .int .u64 fl] 0 ∧
 Calls Try.prog 50 #[.agg #[.int .i64 ad, .int .i64 cd, .int .u64 eb, .int .i64 fz, .int .i64 f4, .int .i64 ct, .slice bi bb bt, .int .u64 fl]] a3 fun ki ai => ∃ (dg : Bool), ki = .returned (.bool dg) ∧
 bif !dg then (
 R (.bool false) ai) else (
 ∃ (iw : Int), ai.cell? (a0.add 17) = some (.int .i64 iw) ∧
 bif decide (iw < 0) then (
 R (.bool false) ai) else (
 ∃ (iy : Int), ai.cell? (a0.add 17) = some (.int .i64 iy) ∧
 bif decide (iy ≥ 8) then (
 R (.bool false) ai) else (
 ∃ (k8 : Option Addr) (jn jy : Nat), ai.cell? (a0.add 18) = some (.slice k8 jn jy) ∧
 Calls Try.prog 51 #[.slice k8 jn jy] ai fun ks en => ∃ (dn : Bool), ks = .returned (.bool dn) ∧
 bif !dn then (
 R (.bool false) en) else (
 ∃ (g3 : Int), en.cell? (a0.add 0) = some (.int .i64 g3) ∧
 bif g3 == 3 then (
 R (.bool true) en) else (
 ∃ (ij : Int), en.cell? (a0.add 19) = some (.int .u64 ij) ∧
 R (.bool (ij == 0)) en)))))) else (
 ∃ (il : Int), a3.cell? (a0.add 17) = some (.int .i64 il) ∧
 bif decide (il < 0) then (
 R (.bool false) a3) else (
 ∃ (ic : Int), a3.cell? (a0.add 17) = some (.int .i64 ic) ∧
 bif decide (ic ≥ 8) then (
 R (.bool false) a3) else (
 ∃ (jb : Option Addr) (j8 kd : Nat), a3.cell? (a0.add 18) = some (.slice jb j8 kd) ∧
 Calls Try.prog 51 #[.slice jb j8 kd] a3 fun l7 d4 => ∃ (eq : Bool), l7 = .returned (.bool eq) ∧
 bif !eq then (
 R (.bool false) d4) else (
 ∃ (fg : Int), d4.cell? (a0.add 0) = some (.int .i64 fg) ∧
 bif fg == 3 then (
 R (.bool true) d4) else (
 ∃ (i9 : Int), d4.cell? (a0.add 19) = some (.int .u64 i9) ∧
 R (.bool (i9 == 0)) d4)))))))) else (
 bif a9 then (
 ∃ (af b5 er fd ez bj : Int) (br : Option Addr) (bw bg : Nat) (g9 : Int), cellsAt a1 (a0.add 9) [.int .i64 af, .int .i64 b5, .int .u64 er, .int .i64 fd, .int .i64 ez, .int .i64 bj, .slice br bw bg, .int .u64 g9] 0 ∧
 Calls Try.prog 49 #[.agg #[.int .i64 af, .int .i64 b5, .int .u64 er, .int .i64 fd, .int .i64 ez, .int .i64 bj, .slice br bw bg, .int .u64 g9]] a1 fun l4 a8 => ∃ (ej : Bool), l4 = .returned (.bool ej) ∧
 bif !ej then (
 R (.bool false) a8) else (
 bif !a9 then (
 ∃ (ae ce el ga fy cr : Int) (cy : Option Addr) (bd bp : Nat) (g7 : Int), cellsAt a8 (a0.add 9) [.int .i64 ae, .int .i64 ce, .int .u64 el, .int .i64 ga, .int .i64 fy, .int .i64 cr, .slice cy bd bp, .int .u64 g7] 0 ∧
 Calls Try.prog 50 #[.agg #[.int .i64 ae, .int .i64 ce, .int .u64 el, .int .i64 ga, .int .i64 fy, .int .i64 cr, .slice cy bd bp, .int .u64 g7]] a8 fun kz aq => ∃ (da : Bool), kz = .returned (.bool da) ∧
 bif !da then (
 R (.bool false) aq) else (
 ∃ (gr : Int), aq.cell? (a0.add 17) = some (.int .i64 gr) ∧
 bif decide (gr < 0) then (
 R (.bool false) aq) else (
 ∃ (i1 : Int), aq.cell? (a0.add 17) = some (.int .i64 i1) ∧
 bif decide (i1 ≥ 8) then (
 R (.bool false) aq) else (
 ∃ (k4 : Option Addr) (k1 j3 : Nat), aq.cell? (a0.add 18) = some (.slice k4 k1 j3) ∧
 Calls Try.prog 51 #[.slice k4 k1 j3] aq fun kv e8 => ∃ (df : Bool), kv = .returned (.bool df) ∧
 bif !df then (
 R (.bool false) e8) else (
 ∃ (f9 : Int), e8.cell? (a0.add 0) = some (.int .i64 f9) ∧
 bif f9 == 3 then (
 R (.bool true) e8) else (
 ∃ (gm : Int), e8.cell? (a0.add 19) = some (.int .u64 gm) ∧
 R (.bool (gm == 0)) e8)))))) else (
 ∃ (i7 : Int), a8.cell? (a0.add 17) = some (.int .i64 i7) ∧
 bif decide (i7 < 0) then (
 R (.bool false) a8) else (
 ∃ (i6 : Int), a8.cell? (a0.add 17) = some (.int .i64 i6) ∧
 bif decide (i6 ≥ 8) then (
 R (.bool false) a8) else (
 ∃ (jw : Option Addr) (ju j5 : Nat), a8.cell? (a0.add 18) = some (.slice jw ju j5) ∧
 Calls Try.prog 51 #[.slice jw ju j5] a8 fun kq dx => ∃ (ek : Bool), kq = .returned (.bool ek) ∧
 bif !ek then (
 R (.bool false) dx) else (
 ∃ (fj : Int), dx.cell? (a0.add 0) = some (.int .i64 fj) ∧
 bif fj == 3 then (
 R (.bool true) dx) else (
 ∃ (ip : Int), dx.cell? (a0.add 19) = some (.int .u64 ip) ∧
 R (.bool (ip == 0)) dx))))))) else (
 bif !a9 then (
 ∃ (ak bh eh g6 eu c7 : Int) (ch : Option Addr) (bv bm : Nat) (f6 : Int), cellsAt a1 (a0.add 9) [.int .i64 ak, .int .i64 bh, .int .u64 eh, .int .i64 g6, .int .i64 eu, .int .i64 c7, .slice ch bv bm, .int .u64 f6] 0 ∧
 Calls Try.prog 50 #[.agg #[.int .i64 ak, .int .i64 bh, .int .u64 eh, .int .i64 g6, .int .i64 eu, .int .i64 c7, .slice ch bv bm, .int .u64 f6]] a1 fun l3 ap => ∃ (ei : Bool), l3 = .returned (.bool ei) ∧
 bif !ei then (
 R (.bool false) ap) else (
 ∃ (ii : Int), ap.cell? (a0.add 17) = some (.int .i64 ii) ∧
 bif decide (ii < 0) then (
 R (.bool false) ap) else (
 ∃ (im : Int), ap.cell? (a0.add 17) = some (.int .i64 im) ∧
 bif decide (im ≥ 8) then (
 R (.bool false) ap) else (
 ∃ (j4 : Option Addr) (k5 jc : Nat), ap.cell? (a0.add 18) = some (.slice j4 k5 jc) ∧
 Calls Try.prog 51 #[.slice j4 k5 jc] ap fun ko dj => ∃ (ee : Bool), ko = .returned (.bool ee) ∧
 bif !ee then (
 R (.bool false) dj) else (
 ∃ (fk : Int), dj.cell? (a0.add 0) = some (.int .i64 fk) ∧
 bif fk == 3 then (
 R (.bool true) dj) else (
 ∃ (ih : Int), dj.cell? (a0.add 19) = some (.int .u64 ih) ∧
 R (.bool (ih == 0)) dj)))))) else (
 ∃ (gz : Int), a1.cell? (a0.add 17) = some (.int .i64 gz) ∧
 bif decide (gz < 0) then (
 R (.bool false) a1) else (
 ∃ (io : Int), a1.cell? (a0.add 17) = some (.int .i64 io) ∧
 bif decide (io ≥ 8) then (
 R (.bool false) a1) else (
 ∃ (ke : Option Addr) (jx k2 : Nat), a1.cell? (a0.add 18) = some (.slice ke jx k2) ∧
 Calls Try.prog 51 #[.slice ke jx k2] a1 fun l1 de => ∃ (di : Bool), l1 = .returned (.bool di) ∧
 bif !di then (
 R (.bool false) de) else (
 ∃ (gc : Int), de.cell? (a0.add 0) = some (.int .i64 gc) ∧
 bif gc == 3 then (
 R (.bool true) de) else (
 ∃ (ix : Int), de.cell? (a0.add 19) = some (.int .u64 ix) ∧
 R (.bool (ix == 0)) de))))))))))

abbrev Q04.J5 (a1 b7 p7 : Bool) (a0 : Addr) (R : RW) (a3 : World) : Prop :=
 ∃ (jz : Int), a3.cell? (a0.add 0) = some (.int .i64 jz) ∧
 bif decide (jz < 1) then (
 R (.bool false) a3) else (
 ∃ (k0 : Int), a3.cell? (a0.add 0) = some (.int .i64 k0) ∧
 bif decide (k0 > 4) then (
 R (.bool false) a3) else (
 bif p7 then (
 ∃ (c4 d4 g6 jo kh dr : Int) (ch : Option Addr) (cq dm : Nat) (js : Int), cellsAt a3 (a0.add 1) [.int .i64 c4, .int .i64 d4, .int .u64 g6, .int .i64 jo, .int .i64 kh, .int .i64 dr, .slice ch cq dm, .int .u64 js] 0 ∧
 Calls Try.prog 49 #[.agg #[.int .i64 c4, .int .i64 d4, .int .u64 g6, .int .i64 jo, .int .i64 kh, .int .i64 dr, .slice ch cq dm, .int .u64 js]] a3 fun sc aa => ∃ (eh : Bool), sc = .returned (.bool eh) ∧
 bif !eh then (
 R (.bool false) aa) else (
 bif !p7 then (
 ∃ (ca di f8 ig ke e6 : Int) (e5 : Option Addr) (d7 df : Nat) (i8 : Int), cellsAt aa (a0.add 1) [.int .i64 ca, .int .i64 di, .int .u64 f8, .int .i64 ig, .int .i64 ke, .int .i64 e6, .slice e5 d7 df, .int .u64 i8] 0 ∧
 Calls Try.prog 50 #[.agg #[.int .i64 ca, .int .i64 di, .int .u64 f8, .int .i64 ig, .int .i64 ke, .int .i64 e6, .slice e5 d7 df, .int .u64 i8]] aa fun qd ab => ∃ (fy : Bool), qd = .returned (.bool fy) ∧
 bif !fy then (
 R (.bool false) ab) else (
 bif b7 then (
 ∃ (bm dt g3 ja gr e4 : Int) (ds : Option Addr) (ck cu : Nat) (j0 : Int), cellsAt ab (a0.add 9) [.int .i64 bm, .int .i64 dt, .int .u64 g3, .int .i64 ja, .int .i64 gr, .int .i64 e4, .slice ds ck cu, .int .u64 j0] 0 ∧
 Calls Try.prog 49 #[.agg #[.int .i64 bm, .int .i64 dt, .int .u64 g3, .int .i64 ja, .int .i64 gr, .int .i64 e4, .slice ds ck cu, .int .u64 j0]] ab fun se ac => ∃ (fr : Bool), se = .returned (.bool fr) ∧
 bif !fr then (
 R (.bool false) ac) else (
 bif !b7 then (
 ∃ (c1 dh en km ih d1 : Int) (d2 : Option Addr) (cl dl : Nat) (gy : Int), cellsAt ac (a0.add 9) [.int .i64 c1, .int .i64 dh, .int .u64 en, .int .i64 km, .int .i64 ih, .int .i64 d1, .slice d2 cl dl, .int .u64 gy] 0 ∧
 Calls Try.prog 50 #[.agg #[.int .i64 c1, .int .i64 dh, .int .u64 en, .int .i64 km, .int .i64 ih, .int .i64 d1, .slice d2 cl dl, .int .u64 gy]] ac fun s0 af => ∃ (eo : Bool), s0 = .returned (.bool eo) ∧
 bif !eo then (
 R (.bool false) af) else (
 bif a1 then (
 ∃ (lj : Int), af.cell? (a0.add 17) = some (.int .i64 lj) ∧
 bif decide (lj < 0) then (
 R (.bool false) af) else (
 ∃ (mp : Int), af.cell? (a0.add 17) = some (.int .i64 mp) ∧
 bif decide (mp ≥ 8) then (
 R (.bool false) af) else (
 ∃ (ok : Option Addr) (nx nu : Nat), af.cell? (a0.add 18) = some (.slice ok nx nu) ∧
 Calls Try.prog 51 #[.slice ok nx nu] af fun qm av => ∃ (et : Bool), qm = .returned (.bool et) ∧
 bif !et then (
 R (.bool false) av) else (
 bif !a1 then (
 ∃ (nl : Int), av.cell? (a0.add 17) = some (.int .i64 nl) ∧
 bif nl != 0 then (
 R (.bool false) av) else (
 ∃ (qc : Option Addr) (o1 sh : Nat), av.cell? (a0.add 18) = some (.slice qc o1 sh) ∧
 bif decide ((o1 : Int) > 0) then (
 R (.bool false) av) else (
 ∃ (jh : Int), av.cell? (a0.add 0) = some (.int .i64 jh) ∧
 bif jh == 3 then (
 R (.bool true) av) else (
 ∃ (l4 : Int), av.cell? (a0.add 19) = some (.int .u64 l4) ∧
 R (.bool (l4 == 0)) av)))) else (
 ∃ (gm : Int), av.cell? (a0.add 0) = some (.int .i64 gm) ∧
 bif gm == 3 then (
 R (.bool true) av) else (
 ∃ (l9 : Int), av.cell? (a0.add 19) = some (.int .u64 l9) ∧
 R (.bool (l9 == 0)) av)))))) else (
 bif !a1 then (
 ∃ (lc : Int), af.cell? (a0.add 17) = some (.int .i64 lc) ∧
 bif lc != 0 then (
 R (.bool false) af) else (
 ∃ (sn : Option Addr) (ov qe : Nat), af.cell? (a0.add 18) = some (.slice sn ov qe) ∧
 bif decide ((ov : Int) > 0) then (
 R (.bool false) af) else (
 ∃ (jf : Int), af.cell? (a0.add 0) = some (.int .i64 jf) ∧
 bif jf == 3 then (
 R (.bool true) af) else (
 ∃ (lh : Int), af.cell? (a0.add 19) = some (.int .u64 lh) ∧
 R (.bool (lh == 0)) af)))) else (
 ∃ (jp : Int), af.cell? (a0.add 0) = some (.int .i64 jp) ∧
 bif jp == 3 then (
 R (.bool true) af) else (
 ∃ (mc : Int), af.cell? (a0.add 19) = some (.int .u64 mc) ∧
 R (.bool (mc == 0)) af))))) else (
 bif a1 then (
 ∃ (mr : Int), ac.cell? (a0.add 17) = some (.int .i64 mr) ∧
 bif decide (mr < 0) then (
 R (.bool false) ac) else (
 ∃ (nj : Int), ac.cell? (a0.add 17) = some (.int .i64 nj) ∧
 bif decide (nj ≥ 8) then (
 R (.bool false) ac) else (
 ∃ (o3 : Option Addr) (o5 ow : Nat), ac.cell? (a0.add 18) = some (.slice o3 o5 ow) ∧
 Calls Try.prog 51 #[.slice o3 o5 ow] ac fun qh ay => ∃ (gd : Bool), qh = .returned (.bool gd) ∧
 bif !gd then (
 R (.bool false) ay) else (
 bif !a1 then (
 ∃ (m7 : Int), ay.cell? (a0.add 17) = some (.int .i64 m7) ∧
 bif m7 != 0 then (
 R (.bool false) ay) else (
 ∃ (qw : Option Addr) (o6 qy : Nat), ay.cell? (a0.add 18) = some (.slice qw o6 qy) ∧
 bif decide ((o6 : Int) > 0) then (
 R (.bool false) ay) else (
 ∃ (j7 : Int), ay.cell? (a0.add 0) = some (.int .i64 j7) ∧
 bif j7 == 3 then (
 R (.bool true) ay) else (
 ∃ (n9 : Int), ay.cell? (a0.add 19) = some (.int .u64 n9) ∧
 R (.bool (n9 == 0)) ay)))) else (
 ∃ (jx : Int), ay.cell? (a0.add 0) = some (.int .i64 jx) ∧
 bif jx == 3 then (
 R (.bool true) ay) else (
 ∃ (ne : Int), ay.cell? (a0.add 19) = some (.int .u64 ne) ∧
 R (.bool (ne == 0)) ay)))))) else (
 bif !a1 then (
 ∃ (nb : Int), ac.cell? (a0.add 17) = some (.int .i64 nb) ∧
 bif nb != 0 then (
 R (.bool false) ac) else (
 ∃ (qn : Option Addr) (om qg : Nat), ac.cell? (a0.add 18) = some (.slice qn om qg) ∧
 bif decide ((om : Int) > 0) then (
 R (.bool false) ac) else (
 ∃ (gj : Int), ac.cell? (a0.add 0) = some (.int .i64 gj) ∧
 bif gj == 3 then (
 R (.bool true) ac) else (
 ∃ (n1 : Int), ac.cell? (a0.add 19) = some (.int .u64 n1) ∧
 R (.bool (n1 == 0)) ac)))) else (
 ∃ (jr : Int), ac.cell? (a0.add 0) = some (.int .i64 jr) ∧
 bif jr == 3 then (
 R (.bool true) ac) else (
 ∃ (mh : Int), ac.cell? (a0.add 19) = some (.int .u64 mh) ∧
 R (.bool (mh == 0)) ac)))))) else (
 bif !b7 then (
 ∃ (c8 dq ez k3 kw dx : Int) (dp : Option Addr) (co d3 : Nat) (iq : Int), cellsAt ab (a0.add 9) [.int .i64 c8, .int .i64 dq, .int .u64 ez, .int .i64 k3, .int .i64 kw, .int .i64 dx, .slice dp co d3, .int .u64 iq] 0 ∧
 Calls Try.prog 50 #[.agg #[.int .i64 c8, .int .i64 dq, .int .u64 ez, .int .i64 k3, .int .i64 kw, .int .i64 dx, .slice dp co d3, .int .u64 iq]] ab fun s1 ag => ∃ (g5 : Bool), s1 = .returned (.bool g5) ∧
 bif !g5 then (
 R (.bool false) ag) else (
 bif a1 then (
 ∃ (mm : Int), ag.cell? (a0.add 17) = some (.int .i64 mm) ∧
 bif decide (mm < 0) then (
 R (.bool false) ag) else (
 ∃ (ms : Int), ag.cell? (a0.add 17) = some (.int .i64 ms) ∧
 bif decide (ms ≥ 8) then (
 R (.bool false) ag) else (
 ∃ (o0 : Option Addr) (o9 ny : Nat), ag.cell? (a0.add 18) = some (.slice o0 o9 ny) ∧
 Calls Try.prog 51 #[.slice o0 o9 ny] ag fun qs aq => ∃ (f6 : Bool), qs = .returned (.bool f6) ∧
 bif !f6 then (
 R (.bool false) aq) else (
 bif !a1 then (
 ∃ (le : Int), aq.cell? (a0.add 17) = some (.int .i64 le) ∧
 bif le != 0 then (
 R (.bool false) aq) else (
 ∃ (qj : Option Addr) (oz s6 : Nat), aq.cell? (a0.add 18) = some (.slice qj oz s6) ∧
 bif decide ((oz : Int) > 0) then (
 R (.bool false) aq) else (
 ∃ (i9 : Int), aq.cell? (a0.add 0) = some (.int .i64 i9) ∧
 bif i9 == 3 then (
 R (.bool true) aq) else (
 ∃ (mt : Int), aq.cell? (a0.add 19) = some (.int .u64 mt) ∧
 R (.bool (mt == 0)) aq)))) else (
 ∃ (gh : Int), aq.cell? (a0.add 0) = some (.int .i64 gh) ∧
 bif gh == 3 then (
 R (.bool true) aq) else (
 ∃ (ly : Int), aq.cell? (a0.add 19) = some (.int .u64 ly) ∧
 R (.bool (ly == 0)) aq)))))) else (
 bif !a1 then (
 ∃ (l0 : Int), ag.cell? (a0.add 17) = some (.int .i64 l0) ∧
 bif l0 != 0 then (
 R (.bool false) ag) else (
 ∃ (qt : Option Addr) (o7 sd : Nat), ag.cell? (a0.add 18) = some (.slice qt o7 sd) ∧
 bif decide ((o7 : Int) > 0) then (
 R (.bool false) ag) else (
 ∃ (gv : Int), ag.cell? (a0.add 0) = some (.int .i64 gv) ∧
 bif gv == 3 then (
 R (.bool true) ag) else (
 ∃ (mu : Int), ag.cell? (a0.add 19) = some (.int .u64 mu) ∧
 R (.bool (mu == 0)) ag)))) else (
 ∃ (kq : Int), ag.cell? (a0.add 0) = some (.int .i64 kq) ∧
 bif kq == 3 then (
 R (.bool true) ag) else (
 ∃ (nh : Int), ag.cell? (a0.add 19) = some (.int .u64 nh) ∧
 R (.bool (nh == 0)) ag))))) else (
 bif a1 then (
 ∃ (mv : Int), ab.cell? (a0.add 17) = some (.int .i64 mv) ∧
 bif decide (mv < 0) then (
 R (.bool false) ab) else (
 ∃ (ml : Int), ab.cell? (a0.add 17) = some (.int .i64 ml) ∧
 bif decide (ml ≥ 8) then (
 R (.bool false) ab) else (
 ∃ (ox : Option Addr) (ot oa : Nat), ab.cell? (a0.add 18) = some (.slice ox ot oa) ∧
 Calls Try.prog 51 #[.slice ox ot oa] ab fun si az => ∃ (el : Bool), si = .returned (.bool el) ∧
 bif !el then (
 R (.bool false) az) else (
 bif !a1 then (
 ∃ (mi : Int), az.cell? (a0.add 17) = some (.int .i64 mi) ∧
 bif mi != 0 then (
 R (.bool false) az) else (
 ∃ (qk : Option Addr) (oq sa : Nat), az.cell? (a0.add 18) = some (.slice qk oq sa) ∧
 bif decide ((oq : Int) > 0) then (
 R (.bool false) az) else (
 ∃ (i2 : Int), az.cell? (a0.add 0) = some (.int .i64 i2) ∧
 bif i2 == 3 then (
 R (.bool true) az) else (
 ∃ (lt : Int), az.cell? (a0.add 19) = some (.int .u64 lt) ∧
 R (.bool (lt == 0)) az)))) else (
 ∃ (ir : Int), az.cell? (a0.add 0) = some (.int .i64 ir) ∧
 bif ir == 3 then (
 R (.bool true) az) else (
 ∃ (mo : Int), az.cell? (a0.add 19) = some (.int .u64 mo) ∧
 R (.bool (mo == 0)) az)))))) else (
 bif !a1 then (
 ∃ (nc : Int), ab.cell? (a0.add 17) = some (.int .i64 nc) ∧
 bif nc != 0 then (
 R (.bool false) ab) else (
 ∃ (s8 : Option Addr) (oi qi : Nat), ab.cell? (a0.add 18) = some (.slice s8 oi qi) ∧
 bif decide ((oi : Int) > 0) then (
 R (.bool false) ab) else (
 ∃ (ic : Int), ab.cell? (a0.add 0) = some (.int .i64 ic) ∧
 bif ic == 3 then (
 R (.bool true) ab) else (
 ∃ (n2 : Int), ab.cell? (a0.add 19) = some (.int .u64 n2) ∧
 R (.bool (n2 == 0)) ab)))) else (
 ∃ (j8 : Int), ab.cell? (a0.add 0) = some (.int .i64 j8) ∧
 bif j8 == 3 then (
 R (.bool true) ab) else (
 ∃ (mf : Int), ab.cell? (a0.add 19) = some (.int .u64 mf) ∧
 R (.bool (mf == 0)) ab))))))) else (
 bif b7 then (
 ∃ (c3 d9 fg il kd e3 : Int) (ci : Option Addr) (e0 cz : Nat) (i1 : Int), cellsAt aa (a0.add 9) [.int .i64 c3, .int .i64 d9, .int .u64 fg, .int .i64 il, .int .i64 kd, .int .i64 e3, .slice ci e0 cz, .int .u64 i1] 0 ∧
 Calls Try.prog 49 #[.agg #[.int .i64 c3, .int .i64 d9, .int .u64 fg, .int .i64 il, .int .i64 kd, .int .i64 e3, .slice ci e0 cz, .int .u64 i1]] aa fun qx ad => ∃ (e7 : Bool), qx = .returned (.bool e7) ∧
 bif !e7 then (
 R (.bool false) ad) else (
 bif !b7 then (
 ∃ (bh cj eq gk kj cn : Int) (dg : Option Addr) (dj cx : Nat) (i7 : Int), cellsAt ad (a0.add 9) [.int .i64 bh, .int .i64 cj, .int .u64 eq, .int .i64 gk, .int .i64 kj, .int .i64 cn, .slice dg dj cx, .int .u64 i7] 0 ∧
 Calls Try.prog 50 #[.agg #[.int .i64 bh, .int .i64 cj, .int .u64 eq, .int .i64 gk, .int .i64 kj, .int .i64 cn, .slice dg dj cx, .int .u64 i7]] ad fun qu ae => ∃ (fa : Bool), qu = .returned (.bool fa) ∧
 bif !fa then (
 R (.bool false) ae) else (
 bif a1 then (
 ∃ (lo : Int), ae.cell? (a0.add 17) = some (.int .i64 lo) ∧
 bif decide (lo < 0) then (
 R (.bool false) ae) else (
 ∃ (ns : Int), ae.cell? (a0.add 17) = some (.int .i64 ns) ∧
 bif decide (ns ≥ 8) then (
 R (.bool false) ae) else (
 ∃ (oo : Option Addr) (nz o8 : Nat), ae.cell? (a0.add 18) = some (.slice oo nz o8) ∧
 Calls Try.prog 51 #[.slice oo nz o8] ae fun qo ax => ∃ (f2 : Bool), qo = .returned (.bool f2) ∧
 bif !f2 then (
 R (.bool false) ax) else (
 bif !a1 then (
 ∃ (ll : Int), ax.cell? (a0.add 17) = some (.int .i64 ll) ∧
 bif ll != 0 then (
 R (.bool false) ax) else (
 ∃ (s4 : Option Addr) (oj ql : Nat), ax.cell? (a0.add 18) = some (.slice s4 oj ql) ∧
 bif decide ((oj : Int) > 0) then (
 R (.bool false) ax) else (
 ∃ (i5 : Int), ax.cell? (a0.add 0) = some (.int .i64 i5) ∧
 bif i5 == 3 then (
 R (.bool true) ax) else (
 ∃ (lq : Int), ax.cell? (a0.add 19) = some (.int .u64 lq) ∧
 R (.bool (lq == 0)) ax)))) else (
 ∃ (gf : Int), ax.cell? (a0.add 0) = some (.int .i64 gf) ∧
 bif gf == 3 then (
 R (.bool true) ax) else (
 ∃ (md : Int), ax.cell? (a0.add 19) = some (.int .u64 md) ∧
 R (.bool (md == 0)) ax)))))) else (
 bif !a1 then (
 ∃ (nd : Int), ae.cell? (a0.add 17) = some (.int .i64 nd) ∧
 bif nd != 0 then (
 R (.bool false) ae) else (
 ∃ (sl : Option Addr) (oc qf : Nat), ae.cell? (a0.add 18) = some (.slice sl oc qf) ∧
 bif decide ((oc : Int) > 0) then (
 R (.bool false) ae) else (
 ∃ (jm : Int), ae.cell? (a0.add 0) = some (.int .i64 jm) ∧
 bif jm == 3 then (
 R (.bool true) ae) else (
 ∃ (m4 : Int), ae.cell? (a0.add 19) = some (.int .u64 m4) ∧
 R (.bool (m4 == 0)) ae)))) else (
 ∃ (ka : Int), ae.cell? (a0.add 0) = some (.int .i64 ka) ∧
 bif ka == 3 then (
 R (.bool true) ae) else (
 ∃ (nq : Int), ae.cell? (a0.add 19) = some (.int .u64 nq) ∧
 R (.bool (nq == 0)) ae))))) else (
 bif a1 then (
 ∃ (l7 : Int), ad.cell? (a0.add 17) = some (.int .i64 l7) ∧
 bif decide (l7 < 0) then (
 R (.bool false) ad) else (
 ∃ (me : Int), ad.cell? (a0.add 17) = some (.int .i64 me) ∧
 bif decide (me ≥ 8) then (
 R (.bool false) ad) else (
 ∃ (oh : Option Addr) (od o4 : Nat), ad.cell? (a0.add 18) = some (.slice oh od o4) ∧
 Calls Try.prog 51 #[.slice oh od o4] ad fun qz au => ∃ (f5 : Bool), qz = .returned (.bool f5) ∧
 bif !f5 then (
 R (.bool false) au) else (
 bif !a1 then (
 ∃ (mw : Int), au.cell? (a0.add 17) = some (.int .i64 mw) ∧
 bif mw != 0 then (
 R (.bool false) au) else (
 ∃ (sm : Option Addr) (og s7 : Nat), au.cell? (a0.add 18) = some (.slice sm og s7) ∧
 bif decide ((og : Int) > 0) then (
 R (.bool false) au) else (
 ∃ (kl : Int), au.cell? (a0.add 0) = some (.int .i64 kl) ∧
 bif kl == 3 then (
 R (.bool true) au) else (
 ∃ (l2 : Int), au.cell? (a0.add 19) = some (.int .u64 l2) ∧
 R (.bool (l2 == 0)) au)))) else (
 ∃ (ks : Int), au.cell? (a0.add 0) = some (.int .i64 ks) ∧
 bif ks == 3 then (
 R (.bool true) au) else (
 ∃ (m2 : Int), au.cell? (a0.add 19) = some (.int .u64 m2) ∧
 R (.bool (m2 == 0)) au)))))) else (
 bif !a1 then (
 ∃ (m9 : Int), ad.cell? (a0.add 17) = some (.int .i64 m9) ∧
 bif m9 != 0 then (
 R (.bool false) ad) else (
 ∃ (s5 : Option Addr) (nw sf : Nat), ad.cell? (a0.add 18) = some (.slice s5 nw sf) ∧
 bif decide ((nw : Int) > 0) then (
 R (.bool false) ad) else (
 ∃ (ge : Int), ad.cell? (a0.add 0) = some (.int .i64 ge) ∧
 bif ge == 3 then (
 R (.bool true) ad) else (
 ∃ (ln : Int), ad.cell? (a0.add 19) = some (.int .u64 ln) ∧
 R (.bool (ln == 0)) ad)))) else (
 ∃ (k8 : Int), ad.cell? (a0.add 0) = some (.int .i64 k8) ∧
 bif k8 == 3 then (
 R (.bool true) ad) else (
 ∃ (mb : Int), ad.cell? (a0.add 19) = some (.int .u64 mb) ∧
 R (.bool (mb == 0)) ad)))))) else (
 bif !b7 then (
 ∃ (cb dd f9 jq iy dk : Int) (e2 : Option Addr) (dv cw : Nat) (i0 : Int), cellsAt aa (a0.add 9) [.int .i64 cb, .int .i64 dd, .int .u64 f9, .int .i64 jq, .int .i64 iy, .int .i64 dk, .slice e2 dv cw, .int .u64 i0] 0 ∧
 Calls Try.prog 50 #[.agg #[.int .i64 cb, .int .i64 dd, .int .u64 f9, .int .i64 jq, .int .i64 iy, .int .i64 dk, .slice e2 dv cw, .int .u64 i0]] aa fun s2 ah => ∃ (ej : Bool), s2 = .returned (.bool ej) ∧
 bif !ej then (
 R (.bool false) ah) else (
 bif a1 then (
 ∃ (l5 : Int), ah.cell? (a0.add 17) = some (.int .i64 l5) ∧
 bif decide (l5 < 0) then (
 R (.bool false) ah) else (
 ∃ (n3 : Int), ah.cell? (a0.add 17) = some (.int .i64 n3) ∧
 bif decide (n3 ≥ 8) then (
 R (.bool false) ah) else (
 ∃ (op : Option Addr) (nt ob : Nat), ah.cell? (a0.add 18) = some (.slice op nt ob) ∧
 Calls Try.prog 51 #[.slice op nt ob] ah fun qv aw => ∃ (f4 : Bool), qv = .returned (.bool f4) ∧
 bif !f4 then (
 R (.bool false) aw) else (
 bif !a1 then (
 ∃ (lg : Int), aw.cell? (a0.add 17) = some (.int .i64 lg) ∧
 bif lg != 0 then (
 R (.bool false) aw) else (
 ∃ (qq : Option Addr) (oy s9 : Nat), aw.cell? (a0.add 18) = some (.slice qq oy s9) ∧
 bif decide ((oy : Int) > 0) then (
 R (.bool false) aw) else (
 ∃ (j4 : Int), aw.cell? (a0.add 0) = some (.int .i64 j4) ∧
 bif j4 == 3 then (
 R (.bool true) aw) else (
 ∃ (lb : Int), aw.cell? (a0.add 19) = some (.int .u64 lb) ∧
 R (.bool (lb == 0)) aw)))) else (
 ∃ (k6 : Int), aw.cell? (a0.add 0) = some (.int .i64 k6) ∧
 bif k6 == 3 then (
 R (.bool true) aw) else (
 ∃ (l6 : Int), aw.cell? (a0.add 19) = some (.int .u64 l6) ∧
 R (.bool (l6 == 0)) aw)))))) else (
 bif !a1 then (
 ∃ (n4 : Int), ah.cell? (a0.add 17) = some (.int .i64 n4) ∧
 bif n4 != 0 then (
 R (.bool false) ah) else (
 ∃ (s3 : Option Addr) (os sg : Nat), ah.cell? (a0.add 18) = some (.slice s3 os sg) ∧
 bif decide ((os : Int) > 0) then (
 R (.bool false) ah) else (
 ∃ (k4 : Int), ah.cell? (a0.add 0) = some (.int .i64 k4) ∧
 bif k4 == 3 then (
 R (.bool true) ah) else (
 ∃ (m0 : Int), ah.cell? (a0.add 19) = some (.int .u64 m0) ∧
 R (.bool (m0 == 0)) ah)))) else (
 ∃ (ku : Int), ah.cell? (a0.add 0) = some (.int .i64 ku) ∧
 bif ku == 3 then (
 R (.bool true) ah) else (
 ∃ (mx : Int), ah.cell? (a0.add 19) = some (.int .u64 mx) ∧
 R (.bool (mx == 0)) ah))))) else (
 bif a1 then (
 ∃ (nk : Int), aa.cell? (a0.add 17) = some (.int .i64 nk) ∧
 bif decide (nk < 0) then (
 R (.bool false) aa) else (
 ∃ (l3 : Int), aa.cell? (a0.add 17) = some (.int .i64 l3) ∧
 bif decide (l3 ≥ 8) then (
 R (.bool false) aa) else (
 ∃ (ou : Option Addr) (oe o2 : Nat), aa.cell? (a0.add 18) = some (.slice ou oe o2) ∧
 Calls Try.prog 51 #[.slice ou oe o2] aa fun sj ar => ∃ (ew : Bool), sj = .returned (.bool ew) ∧
 bif !ew then (
 R (.bool false) ar) else (
 bif !a1 then (
 ∃ (lm : Int), ar.cell? (a0.add 17) = some (.int .i64 lm) ∧
 bif lm != 0 then (
 R (.bool false) ar) else (
 ∃ (qp : Option Addr) (nv sk : Nat), ar.cell? (a0.add 18) = some (.slice qp nv sk) ∧
 bif decide ((nv : Int) > 0) then (
 R (.bool false) ar) else (
 ∃ (k7 : Int), ar.cell? (a0.add 0) = some (.int .i64 k7) ∧
 bif k7 == 3 then (
 R (.bool true) ar) else (
 ∃ (mg : Int), ar.cell? (a0.add 19) = some (.int .u64 mg) ∧
 R (.bool (mg == 0)) ar)))) else (
 ∃ (gs : Int), ar.cell? (a0.add 0) = some (.int .i64 gs) ∧
 bif gs == 3 then (
 R (.bool true) ar) else (
 ∃ (lw : Int), ar.cell? (a0.add 19) = some (.int .u64 lw) ∧
 R (.bool (lw == 0)) ar)))))) else (
 bif !a1 then (
 ∃ (m5 : Int), aa.cell? (a0.add 17) = some (.int .i64 m5) ∧
 bif m5 != 0 then (
 R (.bool false) aa) else (
 ∃ (sb : Option Addr) (ol qr : Nat), aa.cell? (a0.add 18) = some (.slice sb ol qr) ∧
 bif decide ((ol : Int) > 0) then (
 R (.bool false) aa) else (
 ∃ (jd : Int), aa.cell? (a0.add 0) = some (.int .i64 jd) ∧
 bif jd == 3 then (
 R (.bool true) aa) else (
 ∃ (kc : Int), aa.cell? (a0.add 19) = some (.int .u64 kc) ∧
 R (.bool (kc == 0)) aa)))) else (
 ∃ (fw : Int), aa.cell? (a0.add 0) = some (.int .i64 fw) ∧
 bif fw == 3 then (
 R (.bool true) aa) else (
 ∃ (i6 : Int), aa.cell? (a0.add 19) = some (.int .u64 i6) ∧
 R (.bool (i6 == 0)) aa)))))))) else (
 bif !p7 then (
 ∃ (b2 b9 cp e8 ep bd : Int) (bu : Option Addr) (bq bc : Nat) (ed : Int), cellsAt a3 (a0.add 1) [.int .i64 b2, .int .i64 b9, .int .u64 cp, .int .i64 e8, .int .i64 ep, .int .i64 bd, .slice bu bq bc, .int .u64 ed] 0 ∧
 Calls Try.prog 50 #[.agg #[.int .i64 b2, .int .i64 b9, .int .u64 cp, .int .i64 e8, .int .i64 ep, .int .i64 bd, .slice bu bq bc, .int .u64 ed]] a3 fun pq a2 => ∃ (cm : Bool), pq = .returned (.bool cm) ∧
 bif !cm then (
 R (.bool false) a2) else (
 bif b7 then (
 ∃ (b1 c5 cg f0 fu bi : Int) (c0 : Option Addr) (cf bt : Nat) (es : Int), cellsAt a2 (a0.add 9) [.int .i64 b1, .int .i64 c5, .int .u64 cg, .int .i64 f0, .int .i64 fu, .int .i64 bi, .slice c0 cf bt, .int .u64 es] 0 ∧
 Calls Try.prog 49 #[.agg #[.int .i64 b1, .int .i64 c5, .int .u64 cg, .int .i64 f0, .int .i64 fu, .int .i64 bi, .slice c0 cf bt, .int .u64 es]] a2 fun pv a4 => ∃ (ct : Bool), pv = .returned (.bool ct) ∧
 bif !ct then (
 R (.bool false) a4) else (
 bif !b7 then (
 ∃ (b4 ba db g4 g7 bs : Int) (cd : Option Addr) (bv bb : Nat) (fv : Int), cellsAt a4 (a0.add 9) [.int .i64 b4, .int .i64 ba, .int .u64 db, .int .i64 g4, .int .i64 g7, .int .i64 bs, .slice cd bv bb, .int .u64 fv] 0 ∧
 Calls Try.prog 50 #[.agg #[.int .i64 b4, .int .i64 ba, .int .u64 db, .int .i64 g4, .int .i64 g7, .int .i64 bs, .slice cd bv bb, .int .u64 fv]] a4 fun pj a7 => ∃ (da : Bool), pj = .returned (.bool da) ∧
 bif !da then (
 R (.bool false) a7) else (
 bif a1 then (
 ∃ (gg : Int), a7.cell? (a0.add 17) = some (.int .i64 gg) ∧
 bif decide (gg < 0) then (
 R (.bool false) a7) else (
 ∃ (kg : Int), a7.cell? (a0.add 17) = some (.int .i64 kg) ∧
 bif decide (kg ≥ 8) then (
 R (.bool false) a7) else (
 ∃ (mk : Option Addr) (nm na : Nat), a7.cell? (a0.add 18) = some (.slice mk nm na) ∧
 Calls Try.prog 51 #[.slice mk nm na] a7 fun ph al => ∃ (d8 : Bool), ph = .returned (.bool d8) ∧
 bif !d8 then (
 R (.bool false) al) else (
 bif !a1 then (
 ∃ (ip : Int), al.cell? (a0.add 17) = some (.int .i64 ip) ∧
 bif ip != 0 then (
 R (.bool false) al) else (
 ∃ (pt : Option Addr) (lr pf : Nat), al.cell? (a0.add 18) = some (.slice pt lr pf) ∧
 bif decide ((lr : Int) > 0) then (
 R (.bool false) al) else (
 ∃ (g8 : Int), al.cell? (a0.add 0) = some (.int .i64 g8) ∧
 bif g8 == 3 then (
 R (.bool true) al) else (
 ∃ (iw : Int), al.cell? (a0.add 19) = some (.int .u64 iw) ∧
 R (.bool (iw == 0)) al)))) else (
 ∃ (fl : Int), al.cell? (a0.add 0) = some (.int .i64 fl) ∧
 bif fl == 3 then (
 R (.bool true) al) else (
 ∃ (j2 : Int), al.cell? (a0.add 19) = some (.int .u64 j2) ∧
 R (.bool (j2 == 0)) al)))))) else (
 bif !a1 then (
 ∃ (kf : Int), a7.cell? (a0.add 17) = some (.int .i64 kf) ∧
 bif kf != 0 then (
 R (.bool false) a7) else (
 ∃ (pz : Option Addr) (lf pb : Nat), a7.cell? (a0.add 18) = some (.slice pz lf pb) ∧
 bif decide ((lf : Int) > 0) then (
 R (.bool false) a7) else (
 ∃ (er : Int), a7.cell? (a0.add 0) = some (.int .i64 er) ∧
 bif er == 3 then (
 R (.bool true) a7) else (
 ∃ (ki : Int), a7.cell? (a0.add 19) = some (.int .u64 ki) ∧
 R (.bool (ki == 0)) a7)))) else (
 ∃ (ec : Int), a7.cell? (a0.add 0) = some (.int .i64 ec) ∧
 bif ec == 3 then (
 R (.bool true) a7) else (
 ∃ (jv : Int), a7.cell? (a0.add 19) = some (.int .u64 jv) ∧
 R (.bool (jv == 0)) a7))))) else (
 bif a1 then (
 ∃ (ia : Int), a4.cell? (a0.add 17) = some (.int .i64 ia) ∧
 bif decide (ia < 0) then (
 R (.bool false) a4) else (
 ∃ (jl : Int), a4.cell? (a0.add 17) = some (.int .i64 jl) ∧
 bif decide (jl ≥ 8) then (
 R (.bool false) a4) else (
 ∃ (lk : Option Addr) (lu kz : Nat), a4.cell? (a0.add 18) = some (.slice lk lu kz) ∧
 Calls Try.prog 51 #[.slice lk lu kz] a4 fun pp aj => ∃ (cy : Bool), pp = .returned (.bool cy) ∧
 bif !cy then (
 R (.bool false) aj) else (
 bif !a1 then (
 ∃ (kk : Int), aj.cell? (a0.add 17) = some (.int .i64 kk) ∧
 bif kk != 0 then (
 R (.bool false) aj) else (
 ∃ (p9 : Option Addr) (nr pc : Nat), aj.cell? (a0.add 18) = some (.slice p9 nr pc) ∧
 bif decide ((nr : Int) > 0) then (
 R (.bool false) aj) else (
 ∃ (fj : Int), aj.cell? (a0.add 0) = some (.int .i64 fj) ∧
 bif fj == 3 then (
 R (.bool true) aj) else (
 ∃ (jn : Int), aj.cell? (a0.add 19) = some (.int .u64 jn) ∧
 R (.bool (jn == 0)) aj)))) else (
 ∃ (gb : Int), aj.cell? (a0.add 0) = some (.int .i64 gb) ∧
 bif gb == 3 then (
 R (.bool true) aj) else (
 ∃ (j1 : Int), aj.cell? (a0.add 19) = some (.int .u64 j1) ∧
 R (.bool (j1 == 0)) aj)))))) else (
 bif !a1 then (
 ∃ (i3 : Int), a4.cell? (a0.add 17) = some (.int .i64 i3) ∧
 bif i3 != 0 then (
 R (.bool false) a4) else (
 ∃ (pu : Option Addr) (m8 pd : Nat), a4.cell? (a0.add 18) = some (.slice pu m8 pd) ∧
 bif decide ((m8 : Int) > 0) then (
 R (.bool false) a4) else (
 ∃ (f1 : Int), a4.cell? (a0.add 0) = some (.int .i64 f1) ∧
 bif f1 == 3 then (
 R (.bool true) a4) else (
 ∃ (je : Int), a4.cell? (a0.add 19) = some (.int .u64 je) ∧
 R (.bool (je == 0)) a4)))) else (
 ∃ (ei : Int), a4.cell? (a0.add 0) = some (.int .i64 ei) ∧
 bif ei == 3 then (
 R (.bool true) a4) else (
 ∃ (jc : Int), a4.cell? (a0.add 19) = some (.int .u64 jc) ∧
 R (.bool (jc == 0)) a4)))))) else (
 bif !b7 then (
 ∃ (b5 ce dz eg f3 c9 : Int) (c6 : Option Addr) (bk be : Nat) (ek : Int), cellsAt a2 (a0.add 9) [.int .i64 b5, .int .i64 ce, .int .u64 dz, .int .i64 eg, .int .i64 f3, .int .i64 c9, .slice c6 bk be, .int .u64 ek] 0 ∧
 Calls Try.prog 50 #[.agg #[.int .i64 b5, .int .i64 ce, .int .u64 dz, .int .i64 eg, .int .i64 f3, .int .i64 c9, .slice c6 bk be, .int .u64 ek]] a2 fun q6 a6 => ∃ (d6 : Bool), q6 = .returned (.bool d6) ∧
 bif !d6 then (
 R (.bool false) a6) else (
 bif a1 then (
 ∃ (it : Int), a6.cell? (a0.add 17) = some (.int .i64 it) ∧
 bif decide (it < 0) then (
 R (.bool false) a6) else (
 ∃ (kr : Int), a6.cell? (a0.add 17) = some (.int .i64 kr) ∧
 bif decide (kr ≥ 8) then (
 R (.bool false) a6) else (
 ∃ (ma : Option Addr) (m6 lz : Nat), a6.cell? (a0.add 18) = some (.slice ma m6 lz) ∧
 Calls Try.prog 51 #[.slice ma m6 lz] a6 fun p4 ap => ∃ (dy : Bool), p4 = .returned (.bool dy) ∧
 bif !dy then (
 R (.bool false) ap) else (
 bif !a1 then (
 ∃ (k1 : Int), ap.cell? (a0.add 17) = some (.int .i64 k1) ∧
 bif k1 != 0 then (
 R (.bool false) ap) else (
 ∃ (p5 : Option Addr) (my p0 : Nat), ap.cell? (a0.add 18) = some (.slice p5 my p0) ∧
 bif decide ((my : Int) > 0) then (
 R (.bool false) ap) else (
 ∃ (ey : Int), ap.cell? (a0.add 0) = some (.int .i64 ey) ∧
 bif ey == 3 then (
 R (.bool true) ap) else (
 ∃ (im : Int), ap.cell? (a0.add 19) = some (.int .u64 im) ∧
 R (.bool (im == 0)) ap)))) else (
 ∃ (ft : Int), ap.cell? (a0.add 0) = some (.int .i64 ft) ∧
 bif ft == 3 then (
 R (.bool true) ap) else (
 ∃ (ii : Int), ap.cell? (a0.add 19) = some (.int .u64 ii) ∧
 R (.bool (ii == 0)) ap)))))) else (
 bif !a1 then (
 ∃ (ko : Int), a6.cell? (a0.add 17) = some (.int .i64 ko) ∧
 bif ko != 0 then (
 R (.bool false) a6) else (
 ∃ (q3 : Option Addr) (nn q4 : Nat), a6.cell? (a0.add 18) = some (.slice q3 nn q4) ∧
 bif decide ((nn : Int) > 0) then (
 R (.bool false) a6) else (
 ∃ (fc : Int), a6.cell? (a0.add 0) = some (.int .i64 fc) ∧
 bif fc == 3 then (
 R (.bool true) a6) else (
 ∃ (jy : Int), a6.cell? (a0.add 19) = some (.int .u64 jy) ∧
 R (.bool (jy == 0)) a6)))) else (
 ∃ (ff : Int), a6.cell? (a0.add 0) = some (.int .i64 ff) ∧
 bif ff == 3 then (
 R (.bool true) a6) else (
 ∃ (k2 : Int), a6.cell? (a0.add 19) = some (.int .u64 k2) ∧
 R (.bool (k2 == 0)) a6))))) else (
 bif a1 then (
 ∃ (kb : Int), a2.cell? (a0.add 17) = some (.int .i64 kb) ∧
 bif decide (kb < 0) then (
 R (.bool false) a2) else (
 ∃ (i4 : Int), a2.cell? (a0.add 17) = some (.int .i64 i4) ∧
 bif decide (i4 ≥ 8) then (
 R (.bool false) a2) else (
 ∃ (ni : Option Addr) (mq n7 : Nat), a2.cell? (a0.add 18) = some (.slice ni mq n7) ∧
 Calls Try.prog 51 #[.slice ni mq n7] a2 fun ps ak => ∃ (cs : Bool), ps = .returned (.bool cs) ∧
 bif !cs then (
 R (.bool false) ak) else (
 bif !a1 then (
 ∃ (iz : Int), ak.cell? (a0.add 17) = some (.int .i64 iz) ∧
 bif iz != 0 then (
 R (.bool false) ak) else (
 ∃ (pe : Option Addr) (nf po : Nat), ak.cell? (a0.add 18) = some (.slice pe nf po) ∧
 bif decide ((nf : Int) > 0) then (
 R (.bool false) ak) else (
 ∃ (eu : Int), ak.cell? (a0.add 0) = some (.int .i64 eu) ∧
 bif eu == 3 then (
 R (.bool true) ak) else (
 ∃ (jb : Int), ak.cell? (a0.add 19) = some (.int .u64 jb) ∧
 R (.bool (jb == 0)) ak)))) else (
 ∃ (e9 : Int), ak.cell? (a0.add 0) = some (.int .i64 e9) ∧
 bif e9 == 3 then (
 R (.bool true) ak) else (
 ∃ (k5 : Int), ak.cell? (a0.add 19) = some (.int .u64 k5) ∧
 R (.bool (k5 == 0)) ak)))))) else (
 bif !a1 then (
 ∃ (gp : Int), a2.cell? (a0.add 17) = some (.int .i64 gp) ∧
 bif gp != 0 then (
 R (.bool false) a2) else (
 ∃ (pk : Option Addr) (np pa : Nat), a2.cell? (a0.add 18) = some (.slice pk np pa) ∧
 bif decide ((np : Int) > 0) then (
 R (.bool false) a2) else (
 ∃ (f7 : Int), a2.cell? (a0.add 0) = some (.int .i64 f7) ∧
 bif f7 == 3 then (
 R (.bool true) a2) else (
 ∃ (gx : Int), a2.cell? (a0.add 19) = some (.int .u64 gx) ∧
 R (.bool (gx == 0)) a2)))) else (
 ∃ (ef : Int), a2.cell? (a0.add 0) = some (.int .i64 ef) ∧
 bif ef == 3 then (
 R (.bool true) a2) else (
 ∃ (j3 : Int), a2.cell? (a0.add 19) = some (.int .u64 j3) ∧
 R (.bool (j3 == 0)) a2))))))) else (
 bif b7 then (
 ∃ (b0 bz d5 fi fx bx : Int) (bl : Option Addr) (bo cc : Nat) (fh : Int), cellsAt a3 (a0.add 9) [.int .i64 b0, .int .i64 bz, .int .u64 d5, .int .i64 fi, .int .i64 fx, .int .i64 bx, .slice bl bo cc, .int .u64 fh] 0 ∧
 Calls Try.prog 49 #[.agg #[.int .i64 b0, .int .i64 bz, .int .u64 d5, .int .i64 fi, .int .i64 fx, .int .i64 bx, .slice bl bo cc, .int .u64 fh]] a3 fun p6 a5 => ∃ (e1 : Bool), p6 = .returned (.bool e1) ∧
 bif !e1 then (
 R (.bool false) a5) else (
 bif !b7 then (
 ∃ (b6 bp cr ev fq bg : Int) (b8 : Option Addr) (br bf : Nat) (fe : Int), cellsAt a5 (a0.add 9) [.int .i64 b6, .int .i64 bp, .int .u64 cr, .int .i64 ev, .int .i64 fq, .int .i64 bg, .slice b8 br bf, .int .u64 fe] 0 ∧
 Calls Try.prog 50 #[.agg #[.int .i64 b6, .int .i64 bp, .int .u64 cr, .int .i64 ev, .int .i64 fq, .int .i64 bg, .slice b8 br bf, .int .u64 fe]] a5 fun q1 a9 => ∃ (dc : Bool), q1 = .returned (.bool dc) ∧
 bif !dc then (
 R (.bool false) a9) else (
 bif a1 then (
 ∃ (gz : Int), a9.cell? (a0.add 17) = some (.int .i64 gz) ∧
 bif decide (gz < 0) then (
 R (.bool false) a9) else (
 ∃ (kp : Int), a9.cell? (a0.add 17) = some (.int .i64 kp) ∧
 bif decide (kp ≥ 8) then (
 R (.bool false) a9) else (
 ∃ (ld : Option Addr) (l8 n5 : Nat), a9.cell? (a0.add 18) = some (.slice ld l8 n5) ∧
 Calls Try.prog 51 #[.slice ld l8 n5] a9 fun qa am => ∃ (d0 : Bool), qa = .returned (.bool d0) ∧
 bif !d0 then (
 R (.bool false) am) else (
 bif !a1 then (
 ∃ (jw : Int), am.cell? (a0.add 17) = some (.int .i64 jw) ∧
 bif jw != 0 then (
 R (.bool false) am) else (
 ∃ (qb : Option Addr) (lv pg : Nat), am.cell? (a0.add 18) = some (.slice qb lv pg) ∧
 bif decide ((lv : Int) > 0) then (
 R (.bool false) am) else (
 ∃ (fs : Int), am.cell? (a0.add 0) = some (.int .i64 fs) ∧
 bif fs == 3 then (
 R (.bool true) am) else (
 ∃ (gi : Int), am.cell? (a0.add 19) = some (.int .u64 gi) ∧
 R (.bool (gi == 0)) am)))) else (
 ∃ (gc : Int), am.cell? (a0.add 0) = some (.int .i64 gc) ∧
 bif gc == 3 then (
 R (.bool true) am) else (
 ∃ (gu : Int), am.cell? (a0.add 19) = some (.int .u64 gu) ∧
 R (.bool (gu == 0)) am)))))) else (
 bif !a1 then (
 ∃ (gq : Int), a9.cell? (a0.add 17) = some (.int .i64 gq) ∧
 bif gq != 0 then (
 R (.bool false) a9) else (
 ∃ (px : Option Addr) (n6 q8 : Nat), a9.cell? (a0.add 18) = some (.slice px n6 q8) ∧
 bif decide ((n6 : Int) > 0) then (
 R (.bool false) a9) else (
 ∃ (fb : Int), a9.cell? (a0.add 0) = some (.int .i64 fb) ∧
 bif fb == 3 then (
 R (.bool true) a9) else (
 ∃ (j5 : Int), a9.cell? (a0.add 19) = some (.int .u64 j5) ∧
 R (.bool (j5 == 0)) a9)))) else (
 ∃ (g0 : Int), a9.cell? (a0.add 0) = some (.int .i64 g0) ∧
 bif g0 == 3 then (
 R (.bool true) a9) else (
 ∃ (jg : Int), a9.cell? (a0.add 19) = some (.int .u64 jg) ∧
 R (.bool (jg == 0)) a9))))) else (
 bif a1 then (
 ∃ (gl : Int), a5.cell? (a0.add 17) = some (.int .i64 gl) ∧
 bif decide (gl < 0) then (
 R (.bool false) a5) else (
 ∃ (ij : Int), a5.cell? (a0.add 17) = some (.int .i64 ij) ∧
 bif decide (ij ≥ 8) then (
 R (.bool false) a5) else (
 ∃ (n8 : Option Addr) (ky mj : Nat), a5.cell? (a0.add 18) = some (.slice n8 ky mj) ∧
 Calls Try.prog 51 #[.slice n8 ky mj] a5 fun pl an => ∃ (cv : Bool), pl = .returned (.bool cv) ∧
 bif !cv then (
 R (.bool false) an) else (
 bif !a1 then (
 ∃ (kv : Int), an.cell? (a0.add 17) = some (.int .i64 kv) ∧
 bif kv != 0 then (
 R (.bool false) an) else (
 ∃ (pn : Option Addr) (mz py : Nat), an.cell? (a0.add 18) = some (.slice pn mz py) ∧
 bif decide ((mz : Int) > 0) then (
 R (.bool false) an) else (
 ∃ (fp : Int), an.cell? (a0.add 0) = some (.int .i64 fp) ∧
 bif fp == 3 then (
 R (.bool true) an) else (
 ∃ (iu : Int), an.cell? (a0.add 19) = some (.int .u64 iu) ∧
 R (.bool (iu == 0)) an)))) else (
 ∃ (fm : Int), an.cell? (a0.add 0) = some (.int .i64 fm) ∧
 bif fm == 3 then (
 R (.bool true) an) else (
 ∃ (ik : Int), an.cell? (a0.add 19) = some (.int .u64 ik) ∧
 R (.bool (ik == 0)) an)))))) else (
 bif !a1 then (
 ∃ (ie : Int), a5.cell? (a0.add 17) = some (.int .i64 ie) ∧
 bif ie != 0 then (
 R (.bool false) a5) else (
 ∃ (p1 : Option Addr) (m3 pr : Nat), a5.cell? (a0.add 18) = some (.slice p1 m3 pr) ∧
 bif decide ((m3 : Int) > 0) then (
 R (.bool false) a5) else (
 ∃ (fd : Int), a5.cell? (a0.add 0) = some (.int .i64 fd) ∧
 bif fd == 3 then (
 R (.bool true) a5) else (
 ∃ (ji : Int), a5.cell? (a0.add 19) = some (.int .u64 ji) ∧
 R (.bool (ji == 0)) a5)))) else (
 ∃ (ea : Int), a5.cell? (a0.add 0) = some (.int .i64 ea) ∧
 bif ea == 3 then (
 R (.bool true) a5) else (
 ∃ (j6 : Int), a5.cell? (a0.add 19) = some (.int .u64 j6) ∧
 R (.bool (j6 == 0)) a5)))))) else (
 bif !b7 then (
 ∃ (b3 bj dw eb fk bn : Int) (bw : Option Addr) (c2 c7 : Nat) (fz : Int), cellsAt a3 (a0.add 9) [.int .i64 b3, .int .i64 bj, .int .u64 dw, .int .i64 eb, .int .i64 fk, .int .i64 bn, .slice bw c2 c7, .int .u64 fz] 0 ∧
 Calls Try.prog 50 #[.agg #[.int .i64 b3, .int .i64 bj, .int .u64 dw, .int .i64 eb, .int .i64 fk, .int .i64 bn, .slice bw c2 c7, .int .u64 fz]] a3 fun q7 a8 => ∃ (de : Bool), q7 = .returned (.bool de) ∧
 bif !de then (
 R (.bool false) a8) else (
 bif a1 then (
 ∃ (ix : Int), a8.cell? (a0.add 17) = some (.int .i64 ix) ∧
 bif decide (ix < 0) then (
 R (.bool false) a8) else (
 ∃ (kn : Int), a8.cell? (a0.add 17) = some (.int .i64 kn) ∧
 bif decide (kn ≥ 8) then (
 R (.bool false) a8) else (
 ∃ (l1 : Option Addr) (ls ng : Nat), a8.cell? (a0.add 18) = some (.slice l1 ls ng) ∧
 Calls Try.prog 51 #[.slice l1 ls ng] a8 fun p3 ao => ∃ (dn : Bool), p3 = .returned (.bool dn) ∧
 bif !dn then (
 R (.bool false) ao) else (
 bif !a1 then (
 ∃ (ju : Int), ao.cell? (a0.add 17) = some (.int .i64 ju) ∧
 bif ju != 0 then (
 R (.bool false) ao) else (
 ∃ (q0 : Option Addr) (lx q9 : Nat), ao.cell? (a0.add 18) = some (.slice q0 lx q9) ∧
 bif decide ((lx : Int) > 0) then (
 R (.bool false) ao) else (
 ∃ (ee : Int), ao.cell? (a0.add 0) = some (.int .i64 ee) ∧
 bif ee == 3 then (
 R (.bool true) ao) else (
 ∃ (k9 : Int), ao.cell? (a0.add 19) = some (.int .u64 k9) ∧
 R (.bool (k9 == 0)) ao)))) else (
 ∃ (g9 : Int), ao.cell? (a0.add 0) = some (.int .i64 g9) ∧
 bif g9 == 3 then (
 R (.bool true) ao) else (
 ∃ (iv : Int), ao.cell? (a0.add 19) = some (.int .u64 iv) ∧
 R (.bool (iv == 0)) ao)))))) else (
 bif !a1 then (
 ∃ (jk : Int), a8.cell? (a0.add 17) = some (.int .i64 jk) ∧
 bif jk != 0 then (
 R (.bool false) a8) else (
 ∃ (p2 : Option Addr) (li q2 : Nat), a8.cell? (a0.add 18) = some (.slice p2 li q2) ∧
 bif decide ((li : Int) > 0) then (
 R (.bool false) a8) else (
 ∃ (g2 : Int), a8.cell? (a0.add 0) = some (.int .i64 g2) ∧
 bif g2 == 3 then (
 R (.bool true) a8) else (
 ∃ (j9 : Int), a8.cell? (a0.add 19) = some (.int .u64 j9) ∧
 R (.bool (j9 == 0)) a8)))) else (
 ∃ (g1 : Int), a8.cell? (a0.add 0) = some (.int .i64 g1) ∧
 bif g1 == 3 then (
 R (.bool true) a8) else (
 ∃ (gn : Int), a8.cell? (a0.add 19) = some (.int .u64 gn) ∧
 R (.bool (gn == 0)) a8))))) else (
 bif a1 then (
 ∃ (kt : Int), a3.cell? (a0.add 17) = some (.int .i64 kt) ∧
 bif decide (kt < 0) then (
 R (.bool false) a3) else (
 ∃ (kx : Int), a3.cell? (a0.add 17) = some (.int .i64 kx) ∧
 bif decide (kx ≥ 8) then (
 R (.bool false) a3) else (
 ∃ (n0 : Option Addr) (lp m1 : Nat), a3.cell? (a0.add 18) = some (.slice n0 lp m1) ∧
 Calls Try.prog 51 #[.slice n0 lp m1] a3 fun pm ai => ∃ (du : Bool), pm = .returned (.bool du) ∧
 bif !du then (
 R (.bool false) ai) else (
 bif !a1 then (
 ∃ (jj : Int), ai.cell? (a0.add 17) = some (.int .i64 jj) ∧
 bif jj != 0 then (
 R (.bool false) ai) else (
 ∃ (q5 : Option Addr) (la p8 : Nat), ai.cell? (a0.add 18) = some (.slice q5 la p8) ∧
 bif decide ((la : Int) > 0) then (
 R (.bool false) ai) else (
 ∃ (ga : Int), ai.cell? (a0.add 0) = some (.int .i64 ga) ∧
 bif ga == 3 then (
 R (.bool true) ai) else (
 ∃ (gt : Int), ai.cell? (a0.add 19) = some (.int .u64 gt) ∧
 R (.bool (gt == 0)) ai)))) else (
 ∃ (ex : Int), ai.cell? (a0.add 0) = some (.int .i64 ex) ∧
 bif ex == 3 then (
 R (.bool true) ai) else (
 ∃ (io : Int), ai.cell? (a0.add 19) = some (.int .u64 io) ∧
 R (.bool (io == 0)) ai)))))) else (
 bif !a1 then (
 ∃ (ib : Int), a3.cell? (a0.add 17) = some (.int .i64 ib) ∧
 bif ib != 0 then (
 R (.bool false) a3) else (
 ∃ (pw : Option Addr) (mn pi : Nat), a3.cell? (a0.add 18) = some (.slice pw mn pi) ∧
 bif decide ((mn : Int) > 0) then (
 R (.bool false) a3) else (
 ∃ (em : Int), a3.cell? (a0.add 0) = some (.int .i64 em) ∧
 bif em == 3 then (
 R (.bool true) a3) else (
 ∃ (gw : Int), a3.cell? (a0.add 19) = some (.int .u64 gw) ∧
 R (.bool (gw == 0)) a3)))) else (
 ∃ (fo : Int), a3.cell? (a0.add 0) = some (.int .i64 fo) ∧
 bif fo == 3 then (
 R (.bool true) a3) else (
 ∃ (jt : Int), a3.cell? (a0.add 19) = some (.int .u64 jt) ∧
 R (.bool (jt == 0)) a3)))))))))

abbrev Q04.J6 (a4 a5 : Bool) (a3 : Addr) (R : RW) (a2 : World) : Prop :=
 ∃ (a0 : Int), a2.cell? (a3.add 0) = some (.int .i64 a0) ∧
 bif a0 == 2 then (
 Q04.J4 a4 a5 a3 R a2) else (
 ∃ (a1 : Int), a2.cell? (a3.add 0) = some (.int .i64 a1) ∧
 Q04.J5 (a1 == 3) a4 a5 a3 R a2)

def Q04.M (ao a9 ad aj ar ap ah : Int) (af : Option Addr) (ag ab : Nat) (am a0 a8 ac al ak a4 : Int) (a6 : Option Addr) (a3 a5 : Nat) (ai aq : Int) (av : Option Addr) (aw au : Nat) (an : Int) (R : RW) (w : World) : Prop :=
 thenW (w.alloc (.cells #[.int .i64 ao, .int .i64 a9, .int .i64 ad, .int .u64 aj, .int .i64 ar, .int .i64 ap, .int .i64 ah, .slice af ag ab, .int .u64 am, .int .i64 a0, .int .i64 a8, .int .u64 ac, .int .i64 al, .int .i64 ak, .int .i64 a4, .slice a6 a3 a5, .int .u64 ai, .int .i64 aq, .slice av aw au, .int .u64 an] 30)) fun ax =>
 thenW (ax.drew) fun a7 =>
 ∃ (aa : Int), a7.cell? ((blk w.heap.size).add 0) = some (.int .i64 aa) ∧
 bif aa == 1 then (
 ∃ (ae : Int), a7.cell? ((blk w.heap.size).add 0) = some (.int .i64 ae) ∧
 Q04.J3 (ae == 4) (blk w.heap.size) R a7) else (
 ∃ (a2 : Int), a7.cell? ((blk w.heap.size).add 0) = some (.int .i64 a2) ∧
 ∃ (a1 : Int), a7.cell? ((blk w.heap.size).add 0) = some (.int .i64 a1) ∧
 Q04.J6 (a1 == 4) (a2 == 4) (blk w.heap.size) R a7)

theorem Q04.ok (aj a6 a9 ae am ak ac : Int) (aa : Option Addr) (ab a7 : Nat) (ah a0 a5 a8 ag af a2 : Int) (a4 : Option Addr) (a1 a3 : Nat) (ad al : Int) (ao : Option Addr) (ap an : Nat) (ai : Int) {R : RW} {w : World} (h : Q04.M aj a6 a9 ae am ak ac aa ab a7 ah a0 a5 a8 ag af a2 a4 a1 a3 ad al ao ap an ai R w) : Calls Try.prog 19 #[.agg #[.int .i64 aj, .int .i64 a6, .int .i64 a9, .int .u64 ae, .int .i64 am, .int .i64 ak, .int .i64 ac, .slice aa ab a7, .int .u64 ah, .int .i64 a0, .int .i64 a5, .int .u64 a8, .int .i64 ag, .int .i64 af, .int .i64 a2, .slice a4 a1 a3, .int .u64 ad, .int .i64 al, .slice ao ap an, .int .u64 ai]] w fun e w' => ∃ v, e = .returned v ∧ R v w' :=
  Q08 follows (H := []) (args := [.agg #[.int .i64 aj, .int .i64 a6, .int .i64 a9, .int .u64 ae, .int .i64 am, .int .i64 ak, .int .i64 ac, .slice aa ab a7, .int .u64 ah, .int .i64 a0, .int .i64 a5, .int .u64 a8, .int .i64 ag, .int .i64 af, .int .i64 a2, .slice a4 a1 a3, .int .u64 ad, .int .i64 al, .slice ao ap an, .int .u64 ai]]) (cast (by kernel_rfl) h)

def Q04.N (a1 a2 a9 af am al ac : Int) (aa : Option Addr) (ab a7 : Nat) (ak a3 ad ae aj ai a5 : Int) (a8 : Option Addr) (a4 a6 : Nat) (ah a0 : Int) (b6 : Option Addr) (an b5 : Nat) (au : Int) (R : RW) (w : World) : Prop :=
 (a1 = 1 →
 ((Q03.F a2 a9 af am al ac aa ab a7 ak) = false →
 ∀ (b0 : World), Ext no w b0 →
 R (.bool false) b0) ∧
 ((Q03.F a2 a9 af am al ac aa ab a7 ak) = true →
 ∀ (b0 : World) (bj : Nat), Ext no w b0 → Priv w b0 [bj] →
 Calls Try.prog 50 #[.agg #[.int .i64 a3, .int .i64 ad, .int .u64 ae, .int .i64 aj, .int .i64 ai, .int .i64 a5, .slice a8 a4 a6, .int .u64 ah]] b0 fun bh b2 => ∃ (ay : Bool), bh = .returned (.bool ay) ∧
 Keep [bj] b0 b2 ∧
 (ay = false →
 R (.bool false) b2) ∧
 (ay = true →
 (a0 ≠ 0 →
 R (.bool false) b2) ∧
 (a0 = 0 →
 ((an : Int) > 0 →
 R (.bool false) b2) ∧
 ((an : Int) ≤ 0 →
 R (.bool (au == 0)) b2))))) ∧
 (a1 ≠ 1 →
 (a1 = 2 →
 ∀ (ag : World) (ba : Nat), Ext no w ag → Priv w ag [ba] →
 Calls Try.prog 50 #[.agg #[.int .i64 a2, .int .i64 a9, .int .u64 af, .int .i64 am, .int .i64 al, .int .i64 ac, .slice aa ab a7, .int .u64 ak]] ag fun bi b4 => ∃ (aq : Bool), bi = .returned (.bool aq) ∧
 Keep [ba] ag b4 ∧
 (aq = false →
 R (.bool false) b4) ∧
 (aq = true →
 Calls Try.prog 50 #[.agg #[.int .i64 a3, .int .i64 ad, .int .u64 ae, .int .i64 aj, .int .i64 ai, .int .i64 a5, .slice a8 a4 a6, .int .u64 ah]] b4 fun bd b1 => ∃ (aw : Bool), bd = .returned (.bool aw) ∧
 Keep [ba] b4 b1 ∧
 (aw = false →
 R (.bool false) b1) ∧
 (aw = true →
 (a0 < 0 →
 R (.bool false) b1) ∧
 ((0 : Int) ≤ a0 →
 (a0 ≥ 8 →
 R (.bool false) b1) ∧
 (a0 < 8 →
 Calls Try.prog 51 #[.slice b6 an b5] b1 fun bc b8 => ∃ (az : Bool), bc = .returned (.bool az) ∧
 Keep [ba] b1 b8 ∧
 (az = false →
 R (.bool false) b8) ∧
 (az = true →
 R (.bool (au == 0)) b8)))))) ∧
 (a1 ≠ 2 →
 (a1 < 1 →
 ∀ (ag : World), Ext no w ag →
 R (.bool false) ag) ∧
 ((1 : Int) ≤ a1 →
 (a1 > 4 →
 ∀ (ag : World), Ext no w ag →
 R (.bool false) ag) ∧
 (a1 ≤ 4 →
 (a1 = 4 →
 ((Q03.F a2 a9 af am al ac aa ab a7 ak) = false →
 ∀ (b9 : World), Ext no w b9 →
 R (.bool false) b9) ∧
 ((Q03.F a2 a9 af am al ac aa ab a7 ak) = true →
 ((Q03.F a3 ad ae aj ai a5 a8 a4 a6 ah) = false →
 ∀ (ao : World), Ext no w ao →
 R (.bool false) ao) ∧
 ((Q03.F a3 ad ae aj ai a5 a8 a4 a6 ah) = true →
 (a0 ≠ 0 →
 ∀ (ao : World), Ext no w ao →
 R (.bool false) ao) ∧
 (a0 = 0 →
 ((an : Int) > 0 →
 ∀ (ao : World), Ext no w ao →
 R (.bool false) ao) ∧
 ((an : Int) ≤ 0 →
 ∀ (ao : World), Ext no w ao →
 R (.bool (au == 0)) ao))))) ∧
 (a1 ≠ 4 →
 ∀ (ag : World) (bb : Nat), Ext no w ag → Priv w ag [bb] →
 Calls Try.prog 50 #[.agg #[.int .i64 a2, .int .i64 a9, .int .u64 af, .int .i64 am, .int .i64 al, .int .i64 ac, .slice aa ab a7, .int .u64 ak]] ag fun bg b3 => ∃ (ax : Bool), bg = .returned (.bool ax) ∧
 Keep [bb] ag b3 ∧
 (ax = false →
 R (.bool false) b3) ∧
 (ax = true →
 Calls Try.prog 50 #[.agg #[.int .i64 a3, .int .i64 ad, .int .u64 ae, .int .i64 aj, .int .i64 ai, .int .i64 a5, .slice a8 a4 a6, .int .u64 ah]] b3 fun be av => ∃ (ar : Bool), be = .returned (.bool ar) ∧
 Keep [bb] b3 av ∧
 (ar = false →
 R (.bool false) av) ∧
 (ar = true →
 (a1 = 3 →
 (a0 < 0 →
 R (.bool false) av) ∧
 ((0 : Int) ≤ a0 →
 (a0 ≥ 8 →
 R (.bool false) av) ∧
 (a0 < 8 →
 Calls Try.prog 51 #[.slice b6 an b5] av fun bf b7 => ∃ (ap : Bool), bf = .returned (.bool ap) ∧
 Keep [bb] av b7 ∧
 (ap = false →
 R (.bool false) b7) ∧
 (ap = true →
 R (.bool true) b7)))) ∧
 (a1 ≠ 3 →
 (a0 ≠ 0 →
 R (.bool false) av) ∧
 (a0 = 0 →
 ((an : Int) > 0 →
 R (.bool false) av) ∧
 ((an : Int) ≤ 0 →
 R (.bool (au == 0)) av))))))))))

theorem Q04.up (a1 a2 a7 ae ak al a8 : Int) (a6 : Option Addr) (a4 a5 : Nat) (aj a3 ab af ai ag ac : Int) (ad : Option Addr) (a9 aa : Nat) (ah am : Int) (ao : Option Addr) (aq ap : Nat) (an : Int) {R : RW} {w : World} (h : Q04.N a1 a2 a7 ae ak al a8 a6 a4 a5 aj a3 ab af ai ag ac ad a9 aa ah am ao aq ap an R w) : Q04.M a1 a2 a7 ae ak al a8 a6 a4 a5 aj a3 ab af ai ag ac ad a9 aa ah am ao aq ap an R w := by
  unfold Q04.M
  unfold Q04.N at h
  refine Q02 fun cb bz => ?_
  have a0 := Blk.of_new bz
  have bi := ((Ext.refl no w)).size
  have bk := (Ext.refl no w).x_alloc bz
  refine Q02 fun az bx => ?_
  have ar := bk.x_drew bx
  have a0 := a0.x_drew bx
  refine ⟨a1, a0.celli 0 rfl rfl, ?_⟩
  refine bif_of (fun av => ?_) (fun av => ?_)
  ·have h := h.1 (beq_t av)
   refine ⟨a1, a0.celli 0 rfl rfl, ?_⟩
   first | unfold Q04.J3 | unfold Q04.J6
   refine ⟨a1, a0.celli 0 rfl rfl, ?_⟩
   refine bif_ff (cong1 (r := false) (fun z => z == 2) (beq_t av) (by decide)) ?_
   refine ⟨a1, a0.celli 0 rfl rfl, ?_⟩
   first | unfold Q04.J1 | unfold Q04.J2 | unfold Q04.J4 | unfold Q04.J5
   refine ⟨a1, a0.celli 0 rfl rfl, ?_⟩
   refine bif_ff (cong1 (r := false) (fun z => decide (z < 1)) (beq_t av) (by decide)) ?_
   refine ⟨a1, a0.celli 0 rfl rfl, ?_⟩
   refine bif_ff (cong1 (r := false) (fun z => decide (z > 4)) (beq_t av) (by decide)) ?_
   refine ⟨a2, a7, ae, ak, al, a8, a6, a4, a5, aj, ⟨a0.celli 1 rfl rfl, a0.celli 2 rfl rfl, a0.celli 3 rfl rfl, a0.celli 4 rfl rfl, a0.celli 5 rfl rfl, a0.celli 6 rfl rfl, a0.celli 7 rfl rfl, a0.celli 8 rfl rfl, trivial⟩, ?_⟩
   refine (Q03.pure a2 a7 ae ak al a8 a6 a4 a5 aj).mono fun ee ww24 ⟨he, hxx⟩ => ⟨(Q03.F a2 a7 ae ak al a8 a6 a4 a5 aj), he, ?_⟩
   have b7 := ar.trans hxx
   have a0 := a0.ext hxx id
   refine bif_of (fun bb => ?_) (fun bb => ?_)
   ·have h := h.1 (not_t bb)
    have h := h ww24 b7
    exact h
   have h := h.2 (not_f bb)
   refine bif_ff (cong1 (r := false) (fun z => z == 4) (beq_t av) (by decide)) ?_
   refine bif_tt (by rw [(cong1 (r := false) (fun z => z == 4) (beq_t av) (by decide))]; rfl) ?_
   refine ⟨a3, ab, af, ai, ag, ac, ad, a9, aa, ah, ⟨a0.celli 9 rfl rfl, a0.celli 10 rfl rfl, a0.celli 11 rfl rfl, a0.celli 12 rfl rfl, a0.celli 13 rfl rfl, a0.celli 14 rfl rfl, a0.celli 15 rfl rfl, a0.celli 16 rfl rfl, trivial⟩, ?_⟩
   have h := h ww24 (w.heap.size) b7 (Priv.cons bi a0.lt Priv.nil)
   refine h.mono fun c2 ce h => ?_
   obtain ⟨b4, he, hk, h⟩ := h
   refine ⟨b4, he, ?_⟩
   have a0 := hk.blk a0 (by simp)
   refine bif_of (fun bm => ?_) (fun bm => ?_)
   ·have h := h.1 (not_t bm)
    exact h
   have h := h.2 (not_f bm)
   refine bif_ff (cong1 (r := false) (fun z => z == 3) (beq_t av) (by decide)) ?_
   refine bif_tt (by rw [(cong1 (r := false) (fun z => z == 3) (beq_t av) (by decide))]; rfl) ?_
   refine ⟨am, a0.celli 17 rfl rfl, ?_⟩
   refine bif_of (fun bq => ?_) (fun bq => ?_)
   ·have h := h.1 (bne_t bq)
    exact h
   have h := h.2 (bne_f bq)
   refine ⟨ao, aq, ap, a0.celli 18 rfl rfl, ?_⟩
   refine bif_of (fun bw => ?_) (fun bw => ?_)
   ·have h := h.1 (of_decide_eq_true bw)
    exact h
   have h := h.2 (Int.not_lt.1 (of_decide_eq_false bw))
   refine ⟨a1, a0.celli 0 rfl rfl, ?_⟩
   refine bif_ff (cong1 (r := false) (fun z => z == 3) (beq_t av) (by decide)) ?_
   refine ⟨an, a0.celli 19 rfl rfl, ?_⟩
   exact h
  have h := h.2 (beq_f av)
  refine ⟨a1, a0.celli 0 rfl rfl, ?_⟩
  refine ⟨a1, a0.celli 0 rfl rfl, ?_⟩
  first | unfold Q04.J3 | unfold Q04.J6
  refine ⟨a1, a0.celli 0 rfl rfl, ?_⟩
  refine bif_of (fun aw => ?_) (fun aw => ?_)
  ·have h := h.1 (beq_t aw)
   first | unfold Q04.J1 | unfold Q04.J2 | unfold Q04.J4 | unfold Q04.J5
   refine ⟨a1, a0.celli 0 rfl rfl, ?_⟩
   refine bif_ff (cong1 (r := false) (fun z => decide (z < 1)) (beq_t aw) (by decide)) ?_
   refine ⟨a1, a0.celli 0 rfl rfl, ?_⟩
   refine bif_ff (cong1 (r := false) (fun z => decide (z > 4)) (beq_t aw) (by decide)) ?_
   refine bif_ff (cong1 (r := false) (fun z => z == 4) (beq_t aw) (by decide)) ?_
   refine bif_tt (by rw [(cong1 (r := false) (fun z => z == 4) (beq_t aw) (by decide))]; rfl) ?_
   refine ⟨a2, a7, ae, ak, al, a8, a6, a4, a5, aj, ⟨a0.celli 1 rfl rfl, a0.celli 2 rfl rfl, a0.celli 3 rfl rfl, a0.celli 4 rfl rfl, a0.celli 5 rfl rfl, a0.celli 6 rfl rfl, a0.celli 7 rfl rfl, a0.celli 8 rfl rfl, trivial⟩, ?_⟩
   have h := h az (w.heap.size) ar (Priv.cons bi a0.lt Priv.nil)
   refine h.mono fun c8 cd h => ?_
   obtain ⟨ay, he, hk, h⟩ := h
   refine ⟨ay, he, ?_⟩
   have a0 := hk.blk a0 (by simp)
   refine bif_of (fun bf => ?_) (fun bf => ?_)
   ·have h := h.1 (not_t bf)
    exact h
   have h := h.2 (not_f bf)
   refine bif_ff (cong1 (r := false) (fun z => z == 4) (beq_t aw) (by decide)) ?_
   refine bif_tt (by rw [(cong1 (r := false) (fun z => z == 4) (beq_t aw) (by decide))]; rfl) ?_
   refine ⟨a3, ab, af, ai, ag, ac, ad, a9, aa, ah, ⟨a0.celli 9 rfl rfl, a0.celli 10 rfl rfl, a0.celli 11 rfl rfl, a0.celli 12 rfl rfl, a0.celli 13 rfl rfl, a0.celli 14 rfl rfl, a0.celli 15 rfl rfl, a0.celli 16 rfl rfl, trivial⟩, ?_⟩
   refine h.mono fun c3 c1 h => ?_
   obtain ⟨b2, he, hk, h⟩ := h
   refine ⟨b2, he, ?_⟩
   have a0 := hk.blk a0 (by simp)
   refine bif_of (fun bd => ?_) (fun bd => ?_)
   ·have h := h.1 (not_t bd)
    exact h
   have h := h.2 (not_f bd)
   refine ⟨am, a0.celli 17 rfl rfl, ?_⟩
   refine bif_of (fun br => ?_) (fun br => ?_)
   ·have h := h.1 (of_decide_eq_true br)
    exact h
   have h := h.2 (Int.not_lt.1 (of_decide_eq_false br))
   refine ⟨am, a0.celli 17 rfl rfl, ?_⟩
   refine bif_of (fun bv => ?_) (fun bv => ?_)
   ·have h := h.1 (of_decide_eq_true bv)
    exact h
   have h := h.2 (Int.not_le.1 (of_decide_eq_false bv))
   refine ⟨ao, aq, ap, a0.celli 18 rfl rfl, ?_⟩
   refine h.mono fun ca c7 h => ?_
   obtain ⟨b5, he, hk, h⟩ := h
   refine ⟨b5, he, ?_⟩
   have a0 := hk.blk a0 (by simp)
   refine bif_of (fun bc => ?_) (fun bc => ?_)
   ·have h := h.1 (not_t bc)
    exact h
   have h := h.2 (not_f bc)
   refine ⟨a1, a0.celli 0 rfl rfl, ?_⟩
   refine bif_ff (cong1 (r := false) (fun z => z == 3) (beq_t aw) (by decide)) ?_
   refine ⟨an, a0.celli 19 rfl rfl, ?_⟩
   exact h
  have h := h.2 (beq_f aw)
  refine ⟨a1, a0.celli 0 rfl rfl, ?_⟩
  first | unfold Q04.J1 | unfold Q04.J2 | unfold Q04.J4 | unfold Q04.J5
  refine ⟨a1, a0.celli 0 rfl rfl, ?_⟩
  refine bif_of (fun bh => ?_) (fun bh => ?_)
  ·have h := h.1 (of_decide_eq_true bh)
   have h := h az ar
   exact h
  have h := h.2 (Int.not_lt.1 (of_decide_eq_false bh))
  refine ⟨a1, a0.celli 0 rfl rfl, ?_⟩
  refine bif_of (fun bn => ?_) (fun bn => ?_)
  ·have h := h.1 (of_decide_eq_true bn)
   have h := h az ar
   exact h
  have h := h.2 (Int.not_lt.1 (of_decide_eq_false bn))
  refine bif_of (fun au => ?_) (fun au => ?_)
  ·have h := h.1 (beq_t au)
   refine ⟨a2, a7, ae, ak, al, a8, a6, a4, a5, aj, ⟨a0.celli 1 rfl rfl, a0.celli 2 rfl rfl, a0.celli 3 rfl rfl, a0.celli 4 rfl rfl, a0.celli 5 rfl rfl, a0.celli 6 rfl rfl, a0.celli 7 rfl rfl, a0.celli 8 rfl rfl, trivial⟩, ?_⟩
   refine (Q03.pure a2 a7 ae ak al a8 a6 a4 a5 aj).mono fun ee ww55 ⟨he, hxx⟩ => ⟨(Q03.F a2 a7 ae ak al a8 a6 a4 a5 aj), he, ?_⟩
   have b8 := ar.trans hxx
   have a0 := a0.ext hxx id
   refine bif_of (fun b9 => ?_) (fun b9 => ?_)
   ·have h := h.1 (not_t b9)
    have h := h ww55 b8
    exact h
   have h := h.2 (not_f b9)
   refine bif_ff (by rw [au]; rfl) ?_
   refine bif_tt au ?_
   refine ⟨a3, ab, af, ai, ag, ac, ad, a9, aa, ah, ⟨a0.celli 9 rfl rfl, a0.celli 10 rfl rfl, a0.celli 11 rfl rfl, a0.celli 12 rfl rfl, a0.celli 13 rfl rfl, a0.celli 14 rfl rfl, a0.celli 15 rfl rfl, a0.celli 16 rfl rfl, trivial⟩, ?_⟩
   refine (Q03.pure a3 ab af ai ag ac ad a9 aa ah).mono fun ee ww58 ⟨he, hxx⟩ => ⟨(Q03.F a3 ab af ai ag ac ad a9 aa ah), he, ?_⟩
   have b1 := b8.trans hxx
   have a0 := a0.ext hxx id
   refine bif_of (fun bg => ?_) (fun bg => ?_)
   ·have h := h.1 (not_t bg)
    have h := h ww58 b1
    exact h
   have h := h.2 (not_f bg)
   refine bif_ff (by rw [au]; rfl) ?_
   refine bif_ff (cong1 (r := false) (fun z => z == 3) (beq_t au) (by decide)) ?_
   refine bif_tt (by rw [(cong1 (r := false) (fun z => z == 3) (beq_t au) (by decide))]; rfl) ?_
   refine ⟨am, a0.celli 17 rfl rfl, ?_⟩
   refine bif_of (fun ba => ?_) (fun ba => ?_)
   ·have h := h.1 (bne_t ba)
    have h := h ww58 b1
    exact h
   have h := h.2 (bne_f ba)
   refine ⟨ao, aq, ap, a0.celli 18 rfl rfl, ?_⟩
   refine bif_of (fun bt => ?_) (fun bt => ?_)
   ·have h := h.1 (of_decide_eq_true bt)
    have h := h ww58 b1
    exact h
   have h := h.2 (Int.not_lt.1 (of_decide_eq_false bt))
   refine ⟨a1, a0.celli 0 rfl rfl, ?_⟩
   refine bif_ff (cong1 (r := false) (fun z => z == 3) (beq_t au) (by decide)) ?_
   refine ⟨an, a0.celli 19 rfl rfl, ?_⟩
   have h := h ww58 b1
   exact h
  have h := h.2 (beq_f au)
  refine bif_tt (by rw [au]; rfl) ?_
  refine ⟨a2, a7, ae, ak, al, a8, a6, a4, a5, aj, ⟨a0.celli 1 rfl rfl, a0.celli 2 rfl rfl, a0.celli 3 rfl rfl, a0.celli 4 rfl rfl, a0.celli 5 rfl rfl, a0.celli 6 rfl rfl, a0.celli 7 rfl rfl, a0.celli 8 rfl rfl, trivial⟩, ?_⟩
  have h := h az (w.heap.size) ar (Priv.cons bi a0.lt Priv.nil)
  refine h.mono fun c6 c9 h => ?_
  obtain ⟨b3, he, hk, h⟩ := h
  refine ⟨b3, he, ?_⟩
  have a0 := hk.blk a0 (by simp)
  refine bif_of (fun bs => ?_) (fun bs => ?_)
  ·have h := h.1 (not_t bs)
   exact h
  have h := h.2 (not_f bs)
  refine bif_ff au ?_
  refine bif_tt (by rw [au]; rfl) ?_
  refine ⟨a3, ab, af, ai, ag, ac, ad, a9, aa, ah, ⟨a0.celli 9 rfl rfl, a0.celli 10 rfl rfl, a0.celli 11 rfl rfl, a0.celli 12 rfl rfl, a0.celli 13 rfl rfl, a0.celli 14 rfl rfl, a0.celli 15 rfl rfl, a0.celli 16 rfl rfl, trivial⟩, ?_⟩
  refine h.mono fun c4 c0 h => ?_
  obtain ⟨b0, he, hk, h⟩ := h
  refine ⟨b0, he, ?_⟩
  have a0 := hk.blk a0 (by simp)
  refine bif_of (fun bp => ?_) (fun bp => ?_)
  ·have h := h.1 (not_t bp)
   exact h
  have h := h.2 (not_f bp)
  refine bif_fo (fun b6 => ?_) (fun b6 => ?_)
  ·have h := h.2 (beq_f b6)
   refine bif_tt (by rw [b6]; rfl) ?_
   refine ⟨am, a0.celli 17 rfl rfl, ?_⟩
   refine bif_of (fun bo => ?_) (fun bo => ?_)
   ·have h := h.1 (bne_t bo)
    exact h
   have h := h.2 (bne_f bo)
   refine ⟨ao, aq, ap, a0.celli 18 rfl rfl, ?_⟩
   refine bif_of (fun bl => ?_) (fun bl => ?_)
   ·have h := h.1 (of_decide_eq_true bl)
    exact h
   have h := h.2 (Int.not_lt.1 (of_decide_eq_false bl))
   refine ⟨a1, a0.celli 0 rfl rfl, ?_⟩
   refine bif_ff b6 ?_
   refine ⟨an, a0.celli 19 rfl rfl, ?_⟩
   exact h
  have h := h.1 (beq_t b6)
  refine ⟨am, a0.celli 17 rfl rfl, ?_⟩
  refine bif_of (fun bj => ?_) (fun bj => ?_)
  ·have h := h.1 (of_decide_eq_true bj)
   exact h
  have h := h.2 (Int.not_lt.1 (of_decide_eq_false bj))
  refine ⟨am, a0.celli 17 rfl rfl, ?_⟩
  refine bif_of (fun be => ?_) (fun be => ?_)
  ·have h := h.1 (of_decide_eq_true be)
   exact h
  have h := h.2 (Int.not_le.1 (of_decide_eq_false be))
  refine ⟨ao, aq, ap, a0.celli 18 rfl rfl, ?_⟩
  refine h.mono fun c5 cc h => ?_
  obtain ⟨ax, he, hk, h⟩ := h
  refine ⟨ax, he, ?_⟩
  have a0 := hk.blk a0 (by simp)
  refine bif_of (fun bu => ?_) (fun bu => ?_)
  ·have h := h.1 (not_t bu)
   exact h
  have h := h.2 (not_f bu)
  refine bif_ff (by rw [b6]; rfl) ?_
  refine ⟨a1, a0.celli 0 rfl rfl, ?_⟩
  refine bif_tt b6 ?_
  exact h

theorem Q04.go (aj a6 a9 ae am ak ac : Int) (aa : Option Addr) (ab a7 : Nat) (ah a0 a5 a8 ag af a2 : Int) (a4 : Option Addr) (a1 a3 : Nat) (ad al : Int) (ao : Option Addr) (ap an : Nat) (ai : Int) {R : RW} {w : World} (h : Q04.N aj a6 a9 ae am ak ac aa ab a7 ah a0 a5 a8 ag af a2 a4 a1 a3 ad al ao ap an ai R w) : Calls Try.prog 19 #[.agg #[.int .i64 aj, .int .i64 a6, .int .i64 a9, .int .u64 ae, .int .i64 am, .int .i64 ak, .int .i64 ac, .slice aa ab a7, .int .u64 ah, .int .i64 a0, .int .i64 a5, .int .u64 a8, .int .i64 ag, .int .i64 af, .int .i64 a2, .slice a4 a1 a3, .int .u64 ad, .int .i64 al, .slice ao ap an, .int .u64 ai]] w fun e w' => ∃ v, e = .returned v ∧ R v w' := Q04.ok aj a6 a9 ae am ak ac aa ab a7 ah a0 a5 a8 ag af a2 a4 a1 a3 ad al ao ap an ai (Q04.up aj a6 a9 ae am ak ac aa ab a7 ah a0 a5 a8 ag af a2 a4 a1 a3 ad al ao ap an ai h)
theorem Q04.run (aj a6 a9 ae am ak ac : Int) (aa : Option Addr) (ab a7 : Nat) (ah a0 a5 a8 ag af a2 : Int) (a4 : Option Addr) (a1 a3 : Nat) (ad al : Int) (ao : Option Addr) (ap an : Nat) (ai : Int) {V : Value} {Q : World → Prop} {w : World} (h : Q04.N aj a6 a9 ae am ak ac aa ab a7 ah a0 a5 a8 ag af a2 a4 a1 a3 ad al ao ap an ai (fun v w' => v = V ∧ Q w') w) : Calls Try.prog 19 #[.agg #[.int .i64 aj, .int .i64 a6, .int .i64 a9, .int .u64 ae, .int .i64 am, .int .i64 ak, .int .i64 ac, .slice aa ab a7, .int .u64 ah, .int .i64 a0, .int .i64 a5, .int .u64 a8, .int .i64 ag, .int .i64 af, .int .i64 a2, .slice a4 a1 a3, .int .u64 ad, .int .i64 al, .slice ao ap an, .int .u64 ai]] w (Ret V Q) := (Q04.go aj a6 a9 ae am ak ac aa ab a7 ah a0 a5 a8 ag af a2 a4 a1 a3 ad al ao ap an ai h).mono fun e w' ⟨v, he, hv, hq⟩ => ⟨by rw [he, hv], hq⟩

def Q0r.M (cs b8 bw cf cn ct bz : Int) (bp : Option Addr) (bi bm : Nat) (cm ap b5 bv cg c7 bb : Int) (bc : Option Addr) (az b1 : Nat) (c8 cp : Int) (cu : Option Addr) (d2 d1 : Nat) (cq c9 aq b6 bg cd cc b3 : Int) (be : Option Addr) (bd b2 : Nat) (cb ar b7 bk ca ch b9 : Int) (b0 : Option Addr) (ba b4 : Nat) (ce cr : Int) (cx : Option Addr) (cw d4 : Nat) (co : Int) (R : RW) (w : World) : Prop :=
 thenW (w.alloc (.cells #[.int .i64 cs, .int .i64 b8, .int .i64 bw, .int .u64 cf, .int .i64 cn, .int .i64 ct, .int .i64 bz, .slice bp bi bm, .int .u64 cm, .int .i64 ap, .int .i64 b5, .int .u64 bv, .int .i64 cg, .int .i64 c7, .int .i64 bb, .slice bc az b1, .int .u64 c8, .int .i64 cp, .slice cu d2 d1, .int .u64 cq] 30)) fun au =>
 thenW (au.alloc (.cells #[.int .i64 c9, .int .i64 aq, .int .i64 b6, .int .u64 bg, .int .i64 cd, .int .i64 cc, .int .i64 b3, .slice be bd b2, .int .u64 cb, .int .i64 ar, .int .i64 b7, .int .u64 bk, .int .i64 ca, .int .i64 ch, .int .i64 b9, .slice b0 ba b4, .int .u64 ce, .int .i64 cr, .slice cx cw d4, .int .u64 co] 30)) fun a0 =>
 ∃ (c4 : Int), a0.cell? ((blk w.heap.size).add 0) = some (.int .i64 c4) ∧
 ∃ (bx : Int), a0.cell? ((blk au.heap.size).add 0) = some (.int .i64 bx) ∧
 bif c4 == bx then (
 ∃ (cl : Int), a0.cell? ((blk w.heap.size).add 17) = some (.int .i64 cl) ∧
 ∃ (ci : Int), a0.cell? ((blk au.heap.size).add 17) = some (.int .i64 ci) ∧
 bif cl == ci then (
 ∃ (ck : Int), a0.cell? ((blk w.heap.size).add 19) = some (.int .u64 ck) ∧
 ∃ (cj : Int), a0.cell? ((blk au.heap.size).add 19) = some (.int .u64 cj) ∧
 bif ck == cj then (
 ∃ (a2 ag av c2 bl al : Int) (ak : Option Addr) (ae ab : Nat) (bq : Int), cellsAt a0 ((blk w.heap.size).add 1) [.int .i64 a2, .int .i64 ag, .int .u64 av, .int .i64 c2, .int .i64 bl, .int .i64 al, .slice ak ae ab, .int .u64 bq] 0 ∧
 ∃ (a1 af ax c3 br an : Int) (a7 : Option Addr) (a9 a6 : Nat) (bh : Int), cellsAt a0 ((blk au.heap.size).add 1) [.int .i64 a1, .int .i64 af, .int .u64 ax, .int .i64 c3, .int .i64 br, .int .i64 an, .slice a7 a9 a6, .int .u64 bh] 0 ∧
 Calls Try.prog 35 #[.agg #[.int .i64 a2, .int .i64 ag, .int .u64 av, .int .i64 c2, .int .i64 bl, .int .i64 al, .slice ak ae ab, .int .u64 bq], .agg #[.int .i64 a1, .int .i64 af, .int .u64 ax, .int .i64 c3, .int .i64 br, .int .i64 an, .slice a7 a9 a6, .int .u64 bh]] a0 fun d8 c5 => ∃ (bn : Bool), d8 = .returned (.bool bn) ∧
 bif bn then (
 ∃ (a3 a5 aw bs bu am : Int) (ad : Option Addr) (ah ac : Nat) (c1 : Int), cellsAt c5 ((blk w.heap.size).add 9) [.int .i64 a3, .int .i64 a5, .int .u64 aw, .int .i64 bs, .int .i64 bu, .int .i64 am, .slice ad ah ac, .int .u64 c1] 0 ∧
 ∃ (a4 aa ay c0 bf ao : Int) (ai : Option Addr) (a8 aj : Nat) (bt : Int), cellsAt c5 ((blk au.heap.size).add 9) [.int .i64 a4, .int .i64 aa, .int .u64 ay, .int .i64 c0, .int .i64 bf, .int .i64 ao, .slice ai a8 aj, .int .u64 bt] 0 ∧
 Calls Try.prog 35 #[.agg #[.int .i64 a3, .int .i64 a5, .int .u64 aw, .int .i64 bs, .int .i64 bu, .int .i64 am, .slice ad ah ac, .int .u64 c1], .agg #[.int .i64 a4, .int .i64 aa, .int .u64 ay, .int .i64 c0, .int .i64 bf, .int .i64 ao, .slice ai a8 aj, .int .u64 bt]] c5 fun d6 c6 => ∃ (bo : Bool), d6 = .returned (.bool bo) ∧
 bif bo then (
 ∃ (d5 : Option Addr) (cz d3 : Nat), c6.cell? ((blk w.heap.size).add 18) = some (.slice d5 cz d3) ∧
 ∃ (cy : Option Addr) (d0 cv : Nat), c6.cell? ((blk au.heap.size).add 18) = some (.slice cy d0 cv) ∧
 Calls Try.prog 36 #[.slice d5 cz d3, .slice cy d0 cv] c6 fun d9 d7 => ∃ (bj : Bool), d9 = .returned (.bool bj) ∧
 R (.bool bj) d7) else (
 R (.bool false) c6)) else (
 R (.bool false) c5)) else (
 R (.bool false) a0)) else (
 R (.bool false) a0)) else (
 R (.bool false) a0)

theorem Q0r.ok (b7 ai an b0 bb b8 aq : Int) (ao : Option Addr) (ap al : Nat) (b4 a1 af am b3 b2 a4 : Int) (aa : Option Addr) (a3 a5 : Nat) (au ba : Int) (bg : Option Addr) (bh bf : Nat) (b6 b1 a0 ag ak ay aw a7 : Int) (ae : Option Addr) (ad a6 : Nat) (av a2 ah aj ar ax a9 : Int) (a8 : Option Addr) (ac ab : Nat) (az b9 : Int) (bc : Option Addr) (bd be : Nat) (b5 : Int) {R : RW} {w : World} (h : Q0r.M b7 ai an b0 bb b8 aq ao ap al b4 a1 af am b3 b2 a4 aa a3 a5 au ba bg bh bf b6 b1 a0 ag ak ay aw a7 ae ad a6 av a2 ah aj ar ax a9 a8 ac ab az b9 bc bd be b5 R w) : Calls Try.prog 14 #[.agg #[.int .i64 b7, .int .i64 ai, .int .i64 an, .int .u64 b0, .int .i64 bb, .int .i64 b8, .int .i64 aq, .slice ao ap al, .int .u64 b4, .int .i64 a1, .int .i64 af, .int .u64 am, .int .i64 b3, .int .i64 b2, .int .i64 a4, .slice aa a3 a5, .int .u64 au, .int .i64 ba, .slice bg bh bf, .int .u64 b6], .agg #[.int .i64 b1, .int .i64 a0, .int .i64 ag, .int .u64 ak, .int .i64 ay, .int .i64 aw, .int .i64 a7, .slice ae ad a6, .int .u64 av, .int .i64 a2, .int .i64 ah, .int .u64 aj, .int .i64 ar, .int .i64 ax, .int .i64 a9, .slice a8 ac ab, .int .u64 az, .int .i64 b9, .slice bc bd be, .int .u64 b5]] w fun e w' => ∃ v, e = .returned v ∧ R v w' :=
  Q08 follows (H := []) (args := [.agg #[.int .i64 b7, .int .i64 ai, .int .i64 an, .int .u64 b0, .int .i64 bb, .int .i64 b8, .int .i64 aq, .slice ao ap al, .int .u64 b4, .int .i64 a1, .int .i64 af, .int .u64 am, .int .i64 b3, .int .i64 b2, .int .i64 a4, .slice aa a3 a5, .int .u64 au, .int .i64 ba, .slice bg bh bf, .int .u64 b6], .agg #[.int .i64 b1, .int .i64 a0, .int .i64 ag, .int .u64 ak, .int .i64 ay, .int .i64 aw, .int .i64 a7, .slice ae ad a6, .int .u64 av, .int .i64 a2, .int .i64 ah, .int .u64 aj, .int .i64 ar, .int .i64 ax, .int .i64 a9, .slice a8 ac ab, .int .u64 az, .int .i64 b9, .slice bc bd be, .int .u64 b5]]) (cast (by kernel_rfl) h)

def Q0r.N (aq am aw bb bg bf b1 : Int) (az : Option Addr) (b0 au : Nat) (be a2 aj av b4 bd a8 : Int) (ae : Option Addr) (a7 a9 : Nat) (b5 ay : Int) (bm : Option Addr) (bn bl : Nat) (ap a6 a1 ak ar b9 b7 ab : Int) (ai : Option Addr) (ah aa : Nat) (b6 a3 al ao b3 b8 ad : Int) (ac : Option Addr) (ag af : Nat) (ba ax : Int) (bi : Option Addr) (bj bk : Nat) (an : Int) (R : RW) (w : World) : Prop :=
 (aq = a6 →
 (ay = ax →
 (ap = an →
 ∀ (a0 : World) (bq bo : Nat), Ext no w a0 → Priv w a0 [bq, bo] →
 Calls Try.prog 35 #[.agg #[.int .i64 am, .int .i64 aw, .int .u64 bb, .int .i64 bg, .int .i64 bf, .int .i64 b1, .slice az b0 au, .int .u64 be], .agg #[.int .i64 a1, .int .i64 ak, .int .u64 ar, .int .i64 b9, .int .i64 b7, .int .i64 ab, .slice ai ah aa, .int .u64 b6]] a0 fun br bc => ∃ (a5 : Bool), br = .returned (.bool a5) ∧
 Keep [bq, bo] a0 bc ∧
 (a5 = true →
 Calls Try.prog 35 #[.agg #[.int .i64 a2, .int .i64 aj, .int .u64 av, .int .i64 b4, .int .i64 bd, .int .i64 a8, .slice ae a7 a9, .int .u64 b5], .agg #[.int .i64 a3, .int .i64 al, .int .u64 ao, .int .i64 b3, .int .i64 b8, .int .i64 ad, .slice ac ag af, .int .u64 ba]] bc fun bp bh => ∃ (a4 : Bool), bp = .returned (.bool a4) ∧
 Keep [bq, bo] bc bh ∧
 (a4 = true →
 Calls Try.prog 36 #[.slice bm bn bl, .slice bi bj bk] bh fun bs bt => ∃ (b2 : Bool), bs = .returned (.bool b2) ∧
 R (.bool b2) bt) ∧
 (a4 = false →
 R (.bool false) bh)) ∧
 (a5 = false →
 R (.bool false) bc)) ∧
 (ap ≠ an →
 ∀ (a0 : World), Ext no w a0 →
 R (.bool false) a0)) ∧
 (ay ≠ ax →
 ∀ (a0 : World), Ext no w a0 →
 R (.bool false) a0)) ∧
 (aq ≠ a6 →
 ∀ (a0 : World), Ext no w a0 →
 R (.bool false) a0)

theorem Q0r.up (bc ad ar b3 b7 bd au : Int) (ap : Option Addr) (am ao : Nat) (b6 a0 aa aq b4 av ag : Int) (ah : Option Addr) (a4 a6 : Nat) (aw b9 : Int) (be : Option Addr) (bi bh : Nat) (ba ax a1 ab al b1 b0 a8 : Int) (aj : Option Addr) (ai a7 : Nat) (az a2 ac an ay b5 ae : Int) (a5 : Option Addr) (af a9 : Nat) (b2 bb : Int) (bg : Option Addr) (bf bj : Nat) (b8 : Int) {R : RW} {w : World} (h : Q0r.N bc ad ar b3 b7 bd au ap am ao b6 a0 aa aq b4 av ag ah a4 a6 aw b9 be bi bh ba ax a1 ab al b1 b0 a8 aj ai a7 az a2 ac an ay b5 ae a5 af a9 b2 bb bg bf bj b8 R w) : Q0r.M bc ad ar b3 b7 bd au ap am ao b6 a0 aa aq b4 av ag ah a4 a6 aw b9 be bi bh ba ax a1 ab al b1 b0 a8 aj ai a7 az a2 ac an ay b5 ae a5 af a9 b2 bb bg bf bj b8 R w := by
  unfold Q0r.M
  unfold Q0r.N at h
  refine Q02 fun bq bx => ?_
  have a3 := Blk.of_new bx
  have c3 := ((Ext.refl no w)).size
  have bp := (Ext.refl no w).x_alloc bx
  refine Q02 fun bk bs => ?_
  have ak := Blk.of_new bs
  have c6 := (bp).size
  have bz := Nat.ne_of_lt a3.lt
  have a3 := a3.x_alloc bs
  have bl := bp.x_alloc bs
  refine ⟨bc, a3.celli 0 rfl rfl, ?_⟩
  refine ⟨ax, ak.celli 0 rfl rfl, ?_⟩
  refine bif_fo (fun br => ?_) (fun br => ?_)
  ·have h := h.2 (beq_f br)
   have h := h bk bl
   exact h
  have h := h.1 (beq_t br)
  refine ⟨b9, a3.celli 17 rfl rfl, ?_⟩
  refine ⟨bb, ak.celli 17 rfl rfl, ?_⟩
  refine bif_fo (fun bt => ?_) (fun bt => ?_)
  ·have h := h.2 (beq_f bt)
   have h := h bk bl
   exact h
  have h := h.1 (beq_t bt)
  refine ⟨ba, a3.celli 19 rfl rfl, ?_⟩
  refine ⟨b8, ak.celli 19 rfl rfl, ?_⟩
  refine bif_fo (fun bv => ?_) (fun bv => ?_)
  ·have h := h.2 (beq_f bv)
   have h := h bk bl
   exact h
  have h := h.1 (beq_t bv)
  refine ⟨ad, ar, b3, b7, bd, au, ap, am, ao, b6, ⟨a3.celli 1 rfl rfl, a3.celli 2 rfl rfl, a3.celli 3 rfl rfl, a3.celli 4 rfl rfl, a3.celli 5 rfl rfl, a3.celli 6 rfl rfl, a3.celli 7 rfl rfl, a3.celli 8 rfl rfl, trivial⟩, ?_⟩
  refine ⟨a1, ab, al, b1, b0, a8, aj, ai, a7, az, ⟨ak.celli 1 rfl rfl, ak.celli 2 rfl rfl, ak.celli 3 rfl rfl, ak.celli 4 rfl rfl, ak.celli 5 rfl rfl, ak.celli 6 rfl rfl, ak.celli 7 rfl rfl, ak.celli 8 rfl rfl, trivial⟩, ?_⟩
  have h := h bk (w.heap.size) (bq.heap.size) bl (Priv.cons c3 a3.lt (Priv.cons c6 ak.lt Priv.nil))
  refine h.mono fun c1 c4 h => ?_
  obtain ⟨bn, he, hk, h⟩ := h
  refine ⟨bn, he, ?_⟩
  have a3 := hk.blk a3 (by simp)
  have ak := hk.blk ak (by simp)
  refine bif_fo (fun bu => ?_) (fun bu => ?_)
  ·have h := h.2 bu
   exact h
  have h := h.1 bu
  refine ⟨a0, aa, aq, b4, av, ag, ah, a4, a6, aw, ⟨a3.celli 9 rfl rfl, a3.celli 10 rfl rfl, a3.celli 11 rfl rfl, a3.celli 12 rfl rfl, a3.celli 13 rfl rfl, a3.celli 14 rfl rfl, a3.celli 15 rfl rfl, a3.celli 16 rfl rfl, trivial⟩, ?_⟩
  refine ⟨a2, ac, an, ay, b5, ae, a5, af, a9, b2, ⟨ak.celli 9 rfl rfl, ak.celli 10 rfl rfl, ak.celli 11 rfl rfl, ak.celli 12 rfl rfl, ak.celli 13 rfl rfl, ak.celli 14 rfl rfl, ak.celli 15 rfl rfl, ak.celli 16 rfl rfl, trivial⟩, ?_⟩
  refine h.mono fun c0 c7 h => ?_
  obtain ⟨bo, he, hk, h⟩ := h
  refine ⟨bo, he, ?_⟩
  have a3 := hk.blk a3 (by simp)
  have ak := hk.blk ak (by simp)
  refine bif_fo (fun bw => ?_) (fun bw => ?_)
  ·have h := h.2 bw
   exact h
  have h := h.1 bw
  refine ⟨be, bi, bh, a3.celli 18 rfl rfl, ?_⟩
  refine ⟨bg, bf, bj, ak.celli 18 rfl rfl, ?_⟩
  refine h.mono fun c2 c5 h => ?_
  obtain ⟨bm, he, h⟩ := h
  refine ⟨bm, he, ?_⟩
  exact h

theorem Q0r.go (b7 ai an b0 bb b8 aq : Int) (ao : Option Addr) (ap al : Nat) (b4 a1 af am b3 b2 a4 : Int) (aa : Option Addr) (a3 a5 : Nat) (au ba : Int) (bg : Option Addr) (bh bf : Nat) (b6 b1 a0 ag ak ay aw a7 : Int) (ae : Option Addr) (ad a6 : Nat) (av a2 ah aj ar ax a9 : Int) (a8 : Option Addr) (ac ab : Nat) (az b9 : Int) (bc : Option Addr) (bd be : Nat) (b5 : Int) {R : RW} {w : World} (h : Q0r.N b7 ai an b0 bb b8 aq ao ap al b4 a1 af am b3 b2 a4 aa a3 a5 au ba bg bh bf b6 b1 a0 ag ak ay aw a7 ae ad a6 av a2 ah aj ar ax a9 a8 ac ab az b9 bc bd be b5 R w) : Calls Try.prog 14 #[.agg #[.int .i64 b7, .int .i64 ai, .int .i64 an, .int .u64 b0, .int .i64 bb, .int .i64 b8, .int .i64 aq, .slice ao ap al, .int .u64 b4, .int .i64 a1, .int .i64 af, .int .u64 am, .int .i64 b3, .int .i64 b2, .int .i64 a4, .slice aa a3 a5, .int .u64 au, .int .i64 ba, .slice bg bh bf, .int .u64 b6], .agg #[.int .i64 b1, .int .i64 a0, .int .i64 ag, .int .u64 ak, .int .i64 ay, .int .i64 aw, .int .i64 a7, .slice ae ad a6, .int .u64 av, .int .i64 a2, .int .i64 ah, .int .u64 aj, .int .i64 ar, .int .i64 ax, .int .i64 a9, .slice a8 ac ab, .int .u64 az, .int .i64 b9, .slice bc bd be, .int .u64 b5]] w fun e w' => ∃ v, e = .returned v ∧ R v w' := Q0r.ok b7 ai an b0 bb b8 aq ao ap al b4 a1 af am b3 b2 a4 aa a3 a5 au ba bg bh bf b6 b1 a0 ag ak ay aw a7 ae ad a6 av a2 ah aj ar ax a9 a8 ac ab az b9 bc bd be b5 (Q0r.up b7 ai an b0 bb b8 aq ao ap al b4 a1 af am b3 b2 a4 aa a3 a5 au ba bg bh bf b6 b1 a0 ag ak ay aw a7 ae ad a6 av a2 ah aj ar ax a9 a8 ac ab az b9 bc bd be b5 h)
theorem Q0r.run (b7 ai an b0 bb b8 aq : Int) (ao : Option Addr) (ap al : Nat) (b4 a1 af am b3 b2 a4 : Int) (aa : Option Addr) (a3 a5 : Nat) (au ba : Int) (bg : Option Addr) (bh bf : Nat) (b6 b1 a0 ag ak ay aw a7 : Int) (ae : Option Addr) (ad a6 : Nat) (av a2 ah aj ar ax a9 : Int) (a8 : Option Addr) (ac ab : Nat) (az b9 : Int) (bc : Option Addr) (bd be : Nat) (b5 : Int) {V : Value} {Q : World → Prop} {w : World} (h : Q0r.N b7 ai an b0 bb b8 aq ao ap al b4 a1 af am b3 b2 a4 aa a3 a5 au ba bg bh bf b6 b1 a0 ag ak ay aw a7 ae ad a6 av a2 ah aj ar ax a9 a8 ac ab az b9 bc bd be b5 (fun v w' => v = V ∧ Q w') w) : Calls Try.prog 14 #[.agg #[.int .i64 b7, .int .i64 ai, .int .i64 an, .int .u64 b0, .int .i64 bb, .int .i64 b8, .int .i64 aq, .slice ao ap al, .int .u64 b4, .int .i64 a1, .int .i64 af, .int .u64 am, .int .i64 b3, .int .i64 b2, .int .i64 a4, .slice aa a3 a5, .int .u64 au, .int .i64 ba, .slice bg bh bf, .int .u64 b6], .agg #[.int .i64 b1, .int .i64 a0, .int .i64 ag, .int .u64 ak, .int .i64 ay, .int .i64 aw, .int .i64 a7, .slice ae ad a6, .int .u64 av, .int .i64 a2, .int .i64 ah, .int .u64 aj, .int .i64 ar, .int .i64 ax, .int .i64 a9, .slice a8 ac ab, .int .u64 az, .int .i64 b9, .slice bc bd be, .int .u64 b5]] w (Ret V Q) := (Q0r.go b7 ai an b0 bb b8 aq ao ap al b4 a1 af am b3 b2 a4 aa a3 a5 au ba bg bh bf b6 b1 a0 ag ak ay aw a7 ae ad a6 av a2 ah aj ar ax a9 a8 ac ab az b9 bc bd be b5 h).mono fun e w' ⟨v, he, hv, hq⟩ => ⟨by rw [he, hv], hq⟩

structure Fr where
  kd : Int
  e : Ent
  f : Ent
  who : Int
  v : List Hd
  sg : Int
deriving DecidableEq
def Fr.zero : Fr := ⟨0, Ent.zero, Ent.zero, 0, [], 0⟩
structure FP where
  r : Fr
  ea : Option Addr
  ec : Nat
  fa : Option Addr
  fc : Nat
  va : Option Addr
  vc : Nat
def FP.C (x : FP) : List Value := [.int .i64 x.r.kd, .int .i64 x.r.e.w, .int .i64 x.r.e.i, .int .u64 x.r.e.pv, .int .i64 x.r.e.t, .int .i64 x.r.e.tw, .int .i64 x.r.e.ep, .slice x.ea x.r.e.body.length x.ec, .int .u64 x.r.e.sg,
  .int .i64 x.r.f.w, .int .i64 x.r.f.i, .int .u64 x.r.f.pv, .int .i64 x.r.f.t, .int .i64 x.r.f.tw, .int .i64 x.r.f.ep, .slice x.fa x.r.f.body.length x.fc, .int .u64 x.r.f.sg, .int .i64 x.r.who, .slice x.va x.r.v.length x.vc, .int .u64 x.r.sg]
def FP.V (x : FP) : Value := .agg #[.int .i64 x.r.kd, .int .i64 x.r.e.w, .int .i64 x.r.e.i, .int .u64 x.r.e.pv, .int .i64 x.r.e.t, .int .i64 x.r.e.tw, .int .i64 x.r.e.ep, .slice x.ea x.r.e.body.length x.ec, .int .u64 x.r.e.sg,
  .int .i64 x.r.f.w, .int .i64 x.r.f.i, .int .u64 x.r.f.pv, .int .i64 x.r.f.t, .int .i64 x.r.f.tw, .int .i64 x.r.f.ep, .slice x.fa x.r.f.body.length x.fc, .int .u64 x.r.f.sg, .int .i64 x.r.who, .slice x.va x.r.v.length x.vc, .int .u64 x.r.sg]
structure FP.at (w : World) (x : FP) : Prop where
  e : RowAt w x.ea (bytesV x.r.e.body)
  f : RowAt w x.fa (bytesV x.r.f.body)
  v : RowAt w x.va (hsC x.r.v)
def frOK (x : Fr) : Bool :=
  if x.kd = 1 then Q0u x.e && (decide (x.f = Ent.zero) && (decide (x.who = 0) && (decide (x.v.length = 0) && decide (x.sg = 0))))
  else if x.kd = 2 then decide (x.e = Ent.zero) && (decide (x.f = Ent.zero) && (decide (0 ≤ x.who) && (decide (x.who < 8) && (rightV x.v && decide (x.sg = 0)))))
  else if x.kd = 3 then decide (x.e = Ent.zero) && (decide (x.f = Ent.zero) && (decide (0 ≤ x.who) && (decide (x.who < 8) && rightV x.v)))
  else if x.kd = 4 then Q0u x.e && (Q0u x.f && (decide (x.who = 0) && (decide (x.v.length = 0) && decide (x.sg = 0))))
  else false
def frSame (x y : Fr) : Bool := decide (x = y)
section
variable {w w' : World} {o o' : Own} {K : Nat → Prop} {x y : FP} {e f : Ent} {a : Option Addr} {c : Nat}
theorem FP.at.no (h : x.at w) (X : Ext no w w') : x.at w' := ⟨h.e.no X, h.f.no X, h.v.no X⟩
theorem beq_dz (s : Int) : (s == 0) = decide (s = 0) := by rw [Bool.eq_iff_iff]; simp
theorem Q2j (ha : RowAt w a (bytesV e.body)) (b : Bool) :
    Calls Try.prog 37 #[entV e a c, .bool b] w (Ret (.bool (if b then Q0u e else decide (e = Ent.zero))) fun w' => Ext no w w') := by
  refine Q0Y.run e.w e.i e.pv e.t e.tw e.ep a e.body.length c e.sg b ?_
  unfold Q0Y.N
  rw [Q2w]
  refine ⟨fun h w2 X => ⟨by rw [h]; rfl, X⟩, fun h w2 X => ?_⟩
  refine (Q2r (e := e) (f := Ent.zero) (b := none) (d := 0) (ha.no X) (RowAt.nil _ _)).mono fun v w3 ⟨hx, X3⟩ => ⟨_, hx, by rw [h]; rfl, X.trans X3⟩
theorem Q2d (h : x.at w) (hl : x.r.v.length < 1000000) : Calls Try.prog 16 #[x.V] w (Ret (.bool (frOK x.r)) fun w' => Ext no w w') := by
  obtain ⟨⟨kd, e, f, who, v, sg⟩, ea, ec, fa, fc, va, vc⟩ := x
  obtain ⟨he, hf, hv⟩ := h
  refine Q0R.run kd e.w e.i e.pv e.t e.tw e.ep ea e.body.length ec e.sg f.w f.i f.pv f.t f.tw f.ep fa f.body.length fc f.sg who va v.length vc sg ?_
  unfold Q0R.N
  have leaf : ∀ {b : Bool} {w2 : World}, b = frOK ⟨kd, e, f, who, v, sg⟩ → Ext no w w2 → Value.bool b = Value.bool (frOK ⟨kd, e, f, who, v, sg⟩) ∧ Ext no w w2 := fun h X => ⟨by rw [h], X⟩
  refine ⟨fun h1 w2 X => leaf ?_ X, fun h1 => ⟨fun h4 w2 X => leaf ?_ X, fun h4 => ⟨fun k1 w2 p X hp => ?_, fun k1 w2 p X hp => ?_⟩⟩⟩
  · unfold frOK; simp only []; rw [if_neg (by omega), if_neg (by omega), if_neg (by omega), if_neg (by omega)]
  · unfold frOK; simp only []; rw [if_neg (by omega), if_neg (by omega), if_neg (by omega), if_neg (by omega)]
  · subst k1
    refine (Q2j (he.no X) true).mono fun u w3 ⟨hx, X3⟩ => ⟨_, hx, X3.kept, fun h => leaf ?_ (X.trans X3), fun h => ?_⟩
    · have h' : Q0u e = false := h
      simp [frOK, h']
    have h' : Q0u e = true := h
    have X3 := X.trans X3
    refine (Q2j (hf.no X3) _).mono fun u w4 ⟨hx, X4⟩ => ⟨_, hx, X4.kept, fun hh => leaf ?_ (X3.trans X4), fun hh => ?_⟩
    all_goals simp at hh
    · simp [frOK, hh]
    have X4 := X3.trans X4
    refine ⟨fun hw => ⟨fun hn => leaf ?_ X4, fun hn => leaf ?_ X4⟩, fun hw => leaf ?_ X4⟩
    · have hn' : v.length = 0 := by omega
      simp [frOK, h', hh, hw, List.length_eq_zero_iff.1 hn', beq_dz]
    · have hn' : v ≠ [] := fun h => hn (by rw [h]; rfl)
      simp [frOK, hn']
    · simp [frOK, hw]
  · refine (Q2j (he.no X) _).mono fun u w3 ⟨hx, X3⟩ => ⟨_, hx, X3.kept, fun h => leaf ?_ (X.trans X3), fun h => ?_⟩
    · by_cases k4 : kd = 4
      · subst k4; simp at h; simp [frOK, h]
      · rw [beq_false_of_ne k4] at h; simp at h; simp [frOK, h, k1, k4]
    have X3 := X.trans X3
    refine (Q2j (hf.no X3) _).mono fun u w4 ⟨hx, X4⟩ => ⟨_, hx, X4.kept, fun hh => leaf ?_ (X3.trans X4), fun hh => ?_⟩
    · by_cases k4 : kd = 4
      · subst k4; simp at hh; simp [frOK, hh]
      · rw [beq_false_of_ne k4] at hh; simp at hh; simp [frOK, hh, k1, k4]
    have X4 := X3.trans X4
    refine ⟨fun k2 => ⟨fun k3 => ?_, fun k3 => ?_⟩, fun k2 => ?_⟩
    · obtain rfl : kd = 4 := by omega
      simp at h hh
      refine ⟨fun hw => ⟨fun hn => leaf ?_ X4, fun hn => leaf ?_ X4⟩, fun hw => leaf ?_ X4⟩
      · have hn' : v.length = 0 := by omega
        simp [frOK, h, hh, hw, List.length_eq_zero_iff.1 hn', beq_dz]
      · have hn' : v ≠ [] := fun h => hn (by rw [h]; rfl)
        simp [frOK, hn']
      · simp [frOK, hw]
    · subst k3
      simp at h hh
      refine ⟨fun hw => ⟨fun hn => ?_, fun hn => leaf ?_ X4⟩, fun hw => leaf ?_ X4⟩
      · refine (Q20 (hv.no X4) hl).mono fun u w5 ⟨hx, X5⟩ => ⟨_, hx, X5.kept, fun hv => leaf ?_ (X4.trans X5), fun hv => leaf ?_ (X4.trans X5)⟩
        · have hv' : rightV v = true := hv
          have hw' : 0 ≤ who := hw
          simp [frOK, h, hh, hw', hn, hv']
        · have hv' : rightV v = false := hv
          simp [frOK, hv']
      · have : ¬ who < 8 := by omega
        simp [frOK, this]
      · have : ¬ 0 ≤ who := by omega
        simp [frOK, this]
    · subst k2
      simp at h hh
      refine ⟨fun hw => ⟨fun hn => ?_, fun hn => leaf ?_ X4⟩, fun hw => leaf ?_ X4⟩
      · refine (Q20 (hv.no X4) hl).mono fun u w5 ⟨hx, X5⟩ => ⟨_, hx, X5.kept, fun hv => leaf ?_ (X4.trans X5), fun hv => leaf ?_ (X4.trans X5)⟩
        · have hv' : rightV v = true := hv
          have hw' : 0 ≤ who := hw
          simp [frOK, h, hh, hw', hn, hv', beq_dz]
        · have hv' : rightV v = false := hv
          simp [frOK, hv']
      · have : ¬ who < 8 := by omega
        simp [frOK, this]
      · have : ¬ 0 ≤ who := by omega
        simp [frOK, this]
theorem Q1C (ha : RowAt w a (bytesV e.body)) (hl : e.body.length < 1000000) :
    Calls Try.prog 50 #[entV e a c] w (Ret (.bool (decide (e = Ent.zero))) fun w' => Ext no w w') := by
  refine Q0t.run e.w e.i e.pv e.t e.tw e.ep a e.body.length c e.sg ?_
  unfold Q0t.N
  intro w2 X
  exact (Q2f (e := e) (f := Ent.zero) (b := none) (d := 0) (ha.no X) (RowAt.nil _ _) hl).mono fun v w3 ⟨hx, X3⟩ => ⟨_, hx, rfl, X.trans X3⟩
theorem Q1c (h : x.at w) (hl : x.r.v.length < 1000000) (hle : x.r.e.body.length < 1000000) (hlf : x.r.f.body.length < 1000000) : Calls Try.prog 19 #[x.V] w (Ret (.bool (frOK x.r)) fun w' => Ext no w w') := by
  obtain ⟨⟨kd, e, f, who, v, sg⟩, ea, ec, fa, fc, va, vc⟩ := x
  obtain ⟨he, hf, hv⟩ := h
  refine Q04.run kd e.w e.i e.pv e.t e.tw e.ep ea e.body.length ec e.sg f.w f.i f.pv f.t f.tw f.ep fa f.body.length fc f.sg who va v.length vc sg ?_
  unfold Q04.N
  rw [Q1z, Q1z]
  have leaf : ∀ {b : Bool} {w2 : World}, b = frOK ⟨kd, e, f, who, v, sg⟩ → Ext no w w2 → Value.bool b = Value.bool (frOK ⟨kd, e, f, who, v, sg⟩) ∧ Ext no w w2 := fun h X => ⟨by rw [h], X⟩
  refine ⟨fun k1 => ⟨fun h w2 X => leaf ?_ X, fun h w2 p X hp => ?_⟩, fun k1 => ⟨fun k2 w2 p X hp => ?_, fun k2 => ⟨fun h1 w2 X => leaf ?_ X, fun h1 => ⟨fun h4 w2 X => leaf ?_ X, fun h4 => ?_⟩⟩⟩⟩
  · subst k1; simp [frOK, h]
  · subst k1
    refine (Q1C (hf.no X) hlf).mono fun u w3 ⟨hx, X3⟩ => ⟨_, hx, X3.kept, fun hh => leaf ?_ (X.trans X3), fun hh => ?_⟩
    all_goals simp at hh
    · simp [frOK, hh]
    have X3 := X.trans X3
    refine ⟨fun hw => leaf ?_ X3, fun hw => ⟨fun hn => leaf ?_ X3, fun hn => leaf ?_ X3⟩⟩
    · simp [frOK, hw]
    · have hn' : v ≠ [] := fun h => by rw [h] at hn; simp at hn
      simp [frOK, hn']
    · have hn' : v.length = 0 := by omega
      simp [frOK, h, hh, hw, List.length_eq_zero_iff.1 hn', beq_dz]
  · subst k2
    refine (Q1C (he.no X) hle).mono fun u w3 ⟨hx, X3⟩ => ⟨_, hx, X3.kept, fun h => leaf ?_ (X.trans X3), fun h => ?_⟩
    all_goals simp at h
    · simp [frOK, h]
    have X3 := X.trans X3
    refine (Q1C (hf.no X3) hlf).mono fun u w4 ⟨hx, X4⟩ => ⟨_, hx, X4.kept, fun hh => leaf ?_ (X3.trans X4), fun hh => ?_⟩
    all_goals simp at hh
    · simp [frOK, hh]
    have X4 := X3.trans X4
    refine ⟨fun hw => leaf ?_ X4, fun hw => ⟨fun hn => leaf ?_ X4, fun hn => ?_⟩⟩
    · have : ¬ 0 ≤ who := by omega
      simp [frOK, this]
    · have : ¬ who < 8 := by omega
      simp [frOK, this]
    · refine (Q1N (hv.no X4) hl).mono fun u w5 ⟨hx, X5⟩ => ⟨_, hx, X5.kept, fun hv => leaf ?_ (X4.trans X5), fun hv => leaf ?_ (X4.trans X5)⟩
      · have hv' : rightV v = false := hv
        simp [frOK, hv']
      · have hv' : rightV v = true := hv
        simp [frOK, h, hh, hw, hn, hv', beq_dz]
  · unfold frOK; simp only []; rw [if_neg (by omega), if_neg (by omega), if_neg (by omega), if_neg (by omega)]
  · unfold frOK; simp only []; rw [if_neg (by omega), if_neg (by omega), if_neg (by omega), if_neg (by omega)]
  · refine ⟨fun k4 => ⟨fun h w2 X => leaf ?_ X, fun h => ⟨fun hh w2 X => leaf ?_ X, fun hh => ⟨fun hw w2 X => leaf ?_ X, fun hw => ⟨fun hn w2 X => leaf ?_ X, fun hn w2 X => leaf ?_ X⟩⟩⟩⟩, fun k4 w2 p X hp => ?_⟩
    · subst k4; simp [frOK, h]
    · subst k4; simp [frOK, hh]
    · subst k4; simp [frOK, hw]
    · subst k4
      have hn' : v ≠ [] := fun h => by rw [h] at hn; simp at hn
      simp [frOK, hn']
    · subst k4
      have hn' : v.length = 0 := by omega
      simp [frOK, h, hh, hw, List.length_eq_zero_iff.1 hn', beq_dz]
    · obtain rfl : kd = 3 := by omega
      refine (Q1C (he.no X) hle).mono fun u w3 ⟨hx, X3⟩ => ⟨_, hx, X3.kept, fun h => leaf ?_ (X.trans X3), fun h => ?_⟩
      all_goals simp at h
      · simp [frOK, h]
      have X3 := X.trans X3
      refine (Q1C (hf.no X3) hlf).mono fun u w4 ⟨hx, X4⟩ => ⟨_, hx, X4.kept, fun hh => leaf ?_ (X3.trans X4), fun hh => ?_⟩
      all_goals simp at hh
      · simp [frOK, hh]
      have X4 := X3.trans X4
      refine ⟨fun _ => ⟨fun hw => leaf ?_ X4, fun hw => ⟨fun hn => leaf ?_ X4, fun hn => ?_⟩⟩, fun h => absurd rfl h⟩
      · have : ¬ 0 ≤ who := by omega
        simp [frOK, this]
      · have : ¬ who < 8 := by omega
        simp [frOK, this]
      · refine (Q1N (hv.no X4) hl).mono fun u w5 ⟨hx, X5⟩ => ⟨_, hx, X5.kept, fun hv => leaf ?_ (X4.trans X5), fun hv => leaf ?_ (X4.trans X5)⟩
        · have hv' : rightV v = false := hv
          simp [frOK, hv']
        · have hv' : rightV v = true := hv
          simp [frOK, h, hh, hw, hn, hv']
theorem Q2b (hx : x.at w) (hy : y.at w) (hle : x.r.e.body.length < 1000000) (hlf : x.r.f.body.length < 1000000) (hlv : x.r.v.length < 1000000) : Calls Try.prog 14 #[x.V, y.V] w (Ret (.bool (frSame x.r y.r)) fun w' => Ext no w w') := by
  obtain ⟨⟨kd, e, f, who, v, sg⟩, ea, ec, fa, fc, va, vc⟩ := x
  obtain ⟨⟨kd', e', f', who', v', sg'⟩, ea', ec', fa', fc', va', vc'⟩ := y
  refine Q0r.run kd e.w e.i e.pv e.t e.tw e.ep ea e.body.length ec e.sg f.w f.i f.pv f.t f.tw f.ep fa f.body.length fc f.sg who va v.length vc sg kd' e'.w e'.i e'.pv e'.t e'.tw e'.ep ea' e'.body.length ec' e'.sg f'.w f'.i f'.pv f'.t f'.tw f'.ep fa' f'.body.length fc' f'.sg who' va' v'.length vc' sg' ?_
  unfold Q0r.N
  have leaf : ∀ {b : Bool} {w2 : World}, (b = true ↔ (Fr.mk kd e f who v sg) = ⟨kd', e', f', who', v', sg'⟩) → Ext no w w2 → Value.bool b = Value.bool (frSame ⟨kd, e, f, who, v, sg⟩ ⟨kd', e', f', who', v', sg'⟩) ∧ Ext no w w2 := fun {b} {w2} h X => ⟨by
    congr 1
    rw [Bool.eq_iff_iff, h]
    unfold frSame; rw [decide_eq_true_eq], X⟩
  refine ⟨fun h1 => ⟨fun h2 => ⟨fun h3 w2 p46 p47 X hp => ?_, fun h w2 X => leaf (by simp [h]) X⟩, fun h w2 X => leaf (by simp [h]) X⟩, fun h w2 X => leaf (by simp [h]) X⟩
  refine (Q2f (e := e) (f := e') (hx.e.no X) (hy.e.no X) hle).mono fun u w3 ⟨hx3, X3⟩ => ⟨_, hx3, X3.kept, fun h4 => ?_, fun h => leaf ?_ (X.trans X3)⟩
  · have X3 := X.trans X3
    refine (Q2f (e := f) (f := f') (hx.f.no X3) (hy.f.no X3) hlf).mono fun u w4 ⟨hx4, X4⟩ => ⟨_, hx4, X4.kept, fun h5 => ?_, fun h => leaf ?_ (X3.trans X4)⟩
    · have X4 := X3.trans X4
      refine (Q4L (hx.v.no X4) (hy.v.no X4) hlv).mono fun u w5 ⟨hx5, X5⟩ => ⟨_, hx5, leaf ?_ (X4.trans X5)⟩
      rw [decide_eq_true_eq] at h4 h5 ⊢
      rw [Fr.mk.injEq]
      exact ⟨fun h => ⟨h1, h4, h5, h2, h, h3⟩, fun h => h.2.2.2.2.1⟩
    · simp at h; simp [h]
  · simp at h; simp [h]
end
end Go.Proofs.Ytoempemllkebkaa
set_option linter.unnecessarySimpa false
namespace Go.Mx

abbrev Pan := Fs → List PanicEntry → World → Prop
def pop1 (P : Program) (f : Fs) (o : Oper) (w : World) (K : RW) (Φ : Pan) : Prop :=
  match o.op with
  | .panic x =>
    (match ev f x with
    | some (.iface t v) => Φ f [{ v := .iface t v, recovered := false }] w
    | _ => False)
  | .call c =>
    (match c.callee with
    | .value g =>
      bif known f (opnds o.op) then
        (match rho f g with
        | .func (.func k) first cap => bif enters P k then Calls P k (first.toList ++ c.args.toList.map (rho f) ++ cap.toList).toArray w (fun e w' => (resEx P o.type fun v => e = .returned v ∧ K v w') ∨ ∃ ch, e = .panicked ch ∧ Φ f ch w') else False
        | _ => False)
      else False
    | _ => mopF P f o w K)
  | _ => mopF P f o w K
def pops (P : Program) (N : Nat) (ops : List Oper) (lo : Fs) (Φ : Pan) : List Oper → Dg → Fs → World → (Fs → World → Prop) → Prop
  | [], _, f, w, K => K f w
  | o :: rest, dg, f, w, K =>
    gask ops lo f dg o fun b dg f =>
      bif b then pop1 P (f ++ lo) o w (fun v w' => putK N o.dst v dg f fun dg f => pops P N ops lo Φ rest dg f w' K) Φ
      else putK N o.dst undef dg f fun dg f => pops P N ops lo Φ rest dg f w K

theorem pop1_wp {P : Program} {D : List Deferred} {n : Nat} {f : Fs} {a : Act} {o : Oper} {w : World} {K : RW} {Φ : Pan} {next : Act → World → Prop} {Q : Exit → Act → World → Prop}
    (hf : Fr D n f a) (h : pop1 P f o w K Φ) (hk : ∀ v w', K v w' → next (a.put o.dst v) w') (hQ : ∀ ch w', Φ f ch w' → Q (.panic ch) a w') : o.wp P a w next Q := by
  unfold pop1 at h
  split at h
  · rename_i x ho
    split at h
    · rename_i t v hv
      have he : a.eval x = .iface t v := by rw [hf.eval (by rw [hv]; rfl)]; unfold rho; rw [hv]; rfl
      have hr : (execOp a.eval o).run P w = .halt (.panic (.iface t v)) w := by
        simp only [execOp, ho, he, Instr.panic, Sem.run_bind]
        rfl
      unfold Oper.wp
      rw [hr]
      exact hQ _ _ h
    · exact h.elim
  · rename_i c ho
    split at h
    · rename_i g hg
      cases hkn : known f (opnds o.op)
      · simp [hkn] at h
      · simp only [hkn, cond_true] at h
        split at h
        · rename_i k first cap hfn
          cases hen : enters P k
          · simp [hen] at h
          · simp only [hen, cond_true] at h
            have hs : isSel o.op = false := by rw [ho]; rfl
            have hr : (execOp a.eval o).run P w = .ok (.enter k (first.toList ++ c.args.toList.map (rho f) ++ cap.toList).toArray) w := by
              rw [Q2M hf hkn hs]
              simp only [execOp, ho, resolve, hg, hfn, Deferred.ofValue, pure_bind, invoke, Sem.run_bind, Sem.run_pure, Result.andThen_ok, Q2h hen]
              congr 2
              apply Array.ext'
              simp
            unfold Oper.wp
            rw [hr, Oper.upon_enter]
            refine h.mono fun e w'' hh => ?_
            rcases hh with hh | ⟨ch, rfl, hh⟩
            · obtain ⟨v, rfl, h2⟩ := Q1W hh
              exact hk _ _ h2
            · exact hQ _ _ hh
        · exact h.elim
    · exact (mopF_ok hf h).wp hk
  · exact (mopF_ok hf h).wp hk

theorem pops_ok {D : List Deferred} {P : Program} {N : Nat} {ops : List Oper} {lo : Fs} {Φ : Pan} {Q : Exit → Act → World → Prop} {K : Fs → World → Prop}
    (hQ : ∀ f w a, K f w → Fr D N (f ++ lo) a → Q .normal a w) (hP : ∀ g ch w a, Φ g ch w → Fr D N g a → Q (.panic ch) a w) :
    ∀ (l : List Oper) (dg : Dg) (f : Fs) (w : World) (a : Act), pops P N ops lo Φ l dg f w K → Fr D N (f ++ lo) a → DgOk dg (f ++ lo) → wpList P ops.toArray Q l a w
  | [], dg, f, w, a, h, hf, hd => hQ f w a h hf
  | o :: rest, dg, f, w, a, h, hf, hd => by
    simp only [pops] at h
    obtain ⟨b, dg1, f1, hb, h, hf1, hd1⟩ := gask_ok (P := P) h hf hd
    unfold wpList
    cases b
    · rw [hb]
      simp only [cond_false] at h
      obtain ⟨dg2, f2, h, hf2, hd2⟩ := putK_ok h hf1 hd1
      exact pops_ok hQ hP rest dg2 f2 w _ h hf2 hd2
    · rw [hb]
      simp only [cond_true] at h
      refine .inl (pop1_wp hf1 h (fun v w' h => ?_) fun ch w' h => hP _ ch w' a h hf1)
      obtain ⟨dg2, f2, h, hf2, hd2⟩ := putK_ok h hf1 hd1
      exact pops_ok hQ hP rest dg2 f2 w' _ h hf2 hd2

def pcode (P : Program) (H : Hints) (N : Nat) (Φ : Pan) : Code → Fs → Kx → Fs → World → Prop
  | .skip, _, K, f, w => K.n f w
  | .seq a b, lo, K, f, w => pcode P H N Φ a lo { K with n := fun f w => pcode P H N Φ b lo K f w } f w
  | .cond c x y, lo, K, f, w =>
    match ev (f ++ lo) c with
    | some (.bool b) => bif b then pcode P H N Φ x lo K f w else pcode P H N Φ y lo K f w
    | _ => False
  | .region _ ops draw, lo, K, f, w =>
    match draw with
    | false => pops P N ops.toList lo Φ ops.toList [] f w K.n
    | true => bif regOk ops.toList then mdraw P N ops.toList lo ops.toList.length [] [] [] f w.drew K.n else False
  | .block id (.loop body), lo, K, f, w =>
    match hget H id with
    | none => False
    | some hs =>
      match getAll (f ++ lo) hs.1, getAll (f ++ lo) (hs.2.map (·.1)) with
      | some cv, some vv =>
        bif (subF (zipF hs.1 cv) lo && Q1a (hs.2.map (·.2)) vv) then
          ∃ (I : Nat → List Value → World → Prop) (m : Nat), I m vv w ∧ ∀ (m : Nat) (w : World), salls (hs.2.map (·.2)) fun vs => I m vs w →
            pcode P H N Φ body (zipF hs.1 cv)
              { n := fun f' w' => bif disjF f' (zipF hs.1 cv) then
                      (match getAll f' (hs.2.map (·.1)) with
                       | some vs' => bif Q1a (hs.2.map (·.2)) vs' then ∃ m', m' < m ∧ I m' vs' w' else False
                       | none => False)
                    else False
                r := fun f' w' => K.r (f' ++ keepF f (zipF hs.1 cv)) w'
                ex := (id, fun f' w' => K.n (f' ++ keepF f (zipF hs.1 cv)) w') :: exmap (fun k f' w' => k (f' ++ keepF f (zipF hs.1 cv)) w') K.ex }
              (zipF (hs.2.map (·.1)) vs) w
        else False
      | _, _ => False
  | .block id c, lo, K, f, w => pcode P H N Φ c lo { K with ex := (id, K.n) :: K.ex } f w
  | .exit id, _, K, f, w => match exget K.ex id with | some k => k f w | none => False
  | .ret, _, K, f, w => K.r f w
  | _, _, _, _, _ => False

def postP (D : List Deferred) (N : Nat) (lo : Fs) (K : Kx) (Φ : Pan) : Exit → Act → World → Prop
  | .normal, a, w => ∃ f, Fr D N (f ++ lo) a ∧ K.n f w
  | .ret, a, w => ∃ f, Fr D N (f ++ lo) a ∧ K.r f w
  | .exit id, a, w => ∃ f k, exget K.ex id = some k ∧ Fr D N (f ++ lo) a ∧ k f w
  | .panic ch, a, w => ∃ g, Fr D N g a ∧ Φ g ch w
  | _, _, _ => False

section
variable {P : Program} {H : Hints} {N : Nat} {D : List Deferred} {Φ : Pan}
theorem post_P {lo : Fs} {K : Kx} {e : Exit} {a : Act} {w : World} (h : post D N lo K e a w) : postP D N lo K Φ e a w := by
  cases e <;> first | exact h | exact h.elim
theorem Q3X {id : Nat} {c : Code} (h : ∀ b, c ≠ .loop b) (lo : Fs) (K : Kx) (f : Fs) (w : World) :
    pcode P H N Φ (.block id c) lo K f w = pcode P H N Φ c lo { K with ex := (id, K.n) :: K.ex } f w := by
  cases c <;> first | rfl | exact absurd rfl (h _)

theorem Q1y (hm : P.follows .mixedOrders = true) (c : Code) (lo : Fs) (K : Kx) (f : Fs) (w : World) (a : Act)
    (h : pcode P H N Φ c lo K f w) (hf : Fr D N (f ++ lo) a) : c.wp P (postP D N lo K Φ) a w := by
  match c, h with
  | .skip, h => exact wp_skip ⟨f, hf, h⟩
  | .seq x y, h =>
    refine wp_seq (Code.wp_mono (fun e a' w' he => ?_) (Q1y hm x lo _ f w a h hf))
    cases e <;> try exact he
    obtain ⟨f', hf', h'⟩ := he
    exact Q1y hm y lo K f' w' a' h' hf'
  | .cond c x y, h =>
    simp only [pcode] at h
    split at h
    · rename_i b hb
      have hc : a.eval c = .bool b := by
        have := hf.eval (x := c) (by rw [hb]; rfl)
        rw [this, rho, hb]; rfl
      refine wp_cond_split hc (fun ht => ?_) (fun ht => ?_)
      · subst ht; exact Q1y hm x lo K f w a h hf
      · subst ht; exact Q1y hm y lo K f w a h hf
    · exact h.elim
  | .region id ops draw, h =>
    have hd0 : DgOk [] (f ++ lo) := fun s b hs => by cases hs
    cases draw
    · simp only [pcode] at h
      have := pops_ok (Q := postP D N lo K Φ) (fun f w a h hf => ⟨f, hf, h⟩) (fun g ch w a h hf => ⟨g, hf, h⟩) ops.toList [] f w a h hf hd0
      exact wp_region_list (by simpa using this)
    · exact Code.wp_mono (fun e a' w' he => post_P he) (Q1i (H := H) hm (.region id ops true) lo K f w a h hf)
  | .block id c, h =>
    by_cases hl : ∃ b, c = .loop b
    · obtain ⟨body, rfl⟩ := hl
      simp only [pcode] at h
      split at h
      · exact h.elim
      · rename_i hs hhs
        split at h
        · rename_i cv vv hcv hvv
          cases hc : (subF (zipF hs.1 cv) lo && Q1a (hs.2.map (·.2)) vv)
          · simp [hc] at h
          · simp only [hc, cond_true] at h
            rw [Bool.and_eq_true] at hc
            obtain ⟨hsub, hfit⟩ := hc
            obtain ⟨I, m, hI, hround⟩ := h
            have hlo : ∀ t v, get lo t = some v → has (zipF hs.1 cv) t = true := Q37 hsub
            have h0 : ∀ t v, get (zipF hs.1 cv) t = some v → get (f ++ lo) t = some v := Q1m hcv
            refine wp_block (Q28 (fun m a w => ∃ vs, I m vs w ∧ Q1a (hs.2.map (·.2)) vs = true ∧ Fr D N (zipF (hs.2.map (·.1)) vs ++ zipF hs.1 cv) a) (m := m) ⟨vv, hI, hfit, ?_⟩ fun m a w hJ => ?_)
            · refine ⟨hf.size, hf.defers, fun t v ht => hf.at_ t v ?_⟩
              rw [Q1b] at ht
              cases h1 : get (zipF (hs.2.map (·.1)) vv) t with
              | some u => rw [h1] at ht; obtain rfl : u = v := (by simpa using ht); exact Q1m hvv t u h1
              | none => rw [h1] at ht; exact h0 t v (by simpa using ht)
            · obtain ⟨vs, hIv, hfv, hfr⟩ := hJ
              have hb := Q35 (hround m w) hfv hIv
              refine Code.wp_mono (fun e a' w' he => ?_) (Q1y hm body _ _ _ w a hb hfr)
              cases e with
              | normal =>
                obtain ⟨f', hf', h'⟩ := he
                simp only at h'
                cases hd : disjF f' (zipF hs.1 cv)
                · simp [hd] at h'
                · simp only [hd, cond_true] at h'
                  split at h'
                  · rename_i vs' hvs'
                    cases hft : Q1a (hs.2.map (·.2)) vs'
                    · simp [hft] at h'
                    · simp only [hft, cond_true] at h'
                      obtain ⟨m', hlt, hI'⟩ := h'
                      refine ⟨m', hlt, vs', hI', hft, hf'.size, hf'.defers, fun t v ht => hf'.at_ t v ?_⟩
                      rw [Q1b] at ht
                      rw [Q1b]
                      cases h1 : get (zipF (hs.2.map (·.1)) vs') t with
                      | some u =>
                        rw [h1] at ht
                        obtain rfl : u = v := by simpa using ht
                        rw [Q1m hvs' t u h1]; rfl
                      | none =>
                        rw [h1] at ht
                        have h2 : get (zipF hs.1 cv) t = some v := by simpa using ht
                        rw [has_get (Q2u hd t v h2), h2]; rfl
                  · exact h'.elim
              | ret =>
                obtain ⟨f', hf', h'⟩ := he
                exact ⟨_, fr_conv hf' hlo h0, h'⟩
              | exit id' =>
                obtain ⟨f', k, hk, hf', h'⟩ := he
                simp only [exget] at hk
                simp only [Exit.then, Exit.inBlock]
                cases hq : Nat.beq id id'
                · simp only [hq, cond_false] at hk
                  have hne : id' ≠ id := fun e => by subst e; simp at hq
                  rw [if_neg hne]
                  obtain ⟨k', hk', rfl⟩ := Q2g hk
                  exact ⟨_, k', hk', fr_conv hf' hlo h0, h'⟩
                · have := Q0Z hq
                  subst this
                  simp only [Nat.beq_refl, cond_true, Option.some.injEq] at hk
                  subst hk
                  simp only [if_true]
                  exact ⟨_, fr_conv hf' hlo h0, h'⟩
              | goto l => exact he.elim
              | panic ch => exact he
              | outgrown => exact he.elim
        · exact h.elim
    · rw [Q3X (fun b e => hl ⟨b, e⟩)] at h
      refine wp_block (Code.wp_mono (fun e a' w' he => ?_) (Q1y hm c lo _ f w a h hf))
      cases e with
      | normal => exact he
      | ret => exact he
      | exit id' =>
        obtain ⟨f', k, hk, hf', h'⟩ := he
        simp only [exget] at hk
        simp only [Exit.inBlock]
        cases hq : Nat.beq id id'
        · simp only [hq, cond_false] at hk
          have hne : id' ≠ id := fun e => by subst e; simp at hq
          rw [if_neg hne]
          exact ⟨f', k, hk, hf', h'⟩
        · have := Q0Z hq
          subst this
          simp only [Nat.beq_refl, cond_true, Option.some.injEq] at hk
          subst hk
          simp only [if_true]
          exact ⟨f', hf', h'⟩
      | goto l => exact he.elim
      | panic ch => exact he
      | outgrown => exact he.elim
  | .exit id, h =>
    simp only [pcode] at h
    split at h
    · rename_i k hk
      exact wp_exit ⟨f, k, hk, hf, h⟩
    · exact h.elim
  | .ret, h => exact wp_ret ⟨f, hf, h⟩
  | .loop _, h => exact h.elim
  | .rangeFunc .., h => exact h.elim
  | .scope _, h => exact h.elim
  | .label _, h => exact h.elim
  | .goto _, h => exact h.elim
  | .refuse _, h => exact h.elim
termination_by SizeOf.sizeOf c
end

def pfunc (P : Program) (H : Hints) (k : Nat) (args : List Value) (Φ : List PanicEntry → World → Prop) (R : RW) (w : World) : Prop :=
  match P.funcs[k]? with
  | some fn =>
    match fn.body with
    | some c =>
      bif Nat.ble args.length fn.ntmps then
        pcode P H fn.ntmps (fun _ ch w => Φ ch w) c [] { n := fun f w => mres P f w fn.results.toList [] (fun vs => R (wrapR vs) w), r := fun f w => mres P f w fn.results.toList [] (fun vs => R (wrapR vs) w), ex := [] } (argsF args 0) w
      else False
    | none => False
  | none => False
section
variable {P : Program} {H : Hints}
theorem fr_args {args : List Value} {n : Nat} (hlen : args.length ≤ n) : Fr [] n (argsF args 0 ++ []) { tmps := args.toArray ++ Array.replicate (n - args.toArray.size) undef, defers := [] } := by
  refine ⟨by simp; omega, rfl, fun t v ht => ?_⟩
  rw [List.append_nil] at ht
  obtain ⟨j, rfl, hj⟩ := Q2V ht
  have hjl := (List.getElem?_eq_some_iff.1 hj).1
  rw [Nat.zero_add, Array.getElem?_append_left (by simpa using hjl)]
  simpa using hj
theorem Q2G (hm : P.follows .mixedOrders = true) {k : Nat} {args : List Value} {Φ : List PanicEntry → World → Prop} {R : RW} {w : World} (h : pfunc P H k args Φ R w) :
    Calls P k args.toArray w fun e w' => (∃ v, e = .returned v ∧ R v w') ∨ ∃ ch, e = .panicked ch ∧ Φ ch w' := by
  unfold pfunc at h
  split at h
  · rename_i fn hfn
    split at h
    · rename_i c hc
      cases hle : Nat.ble args.length fn.ntmps
      · simp [hle] at h
      · simp only [hle, cond_true] at h
        refine calls_of_wp hfn hc ?_
        refine Code.wp_mono (fun e a w' he => ?_) (Q1y hm c [] _ _ w _ h (fr_args (Nat.le_of_ble_eq_true hle)))
        cases e with
        | normal =>
          obtain ⟨f, hf, h⟩ := he
          rw [List.append_nil] at hf
          obtain ⟨v, h1, h2⟩ := Q1g hf h
          exact ⟨hf.defers, v, h1, .inl ⟨v, rfl, h2⟩⟩
        | ret =>
          obtain ⟨f, hf, h⟩ := he
          rw [List.append_nil] at hf
          obtain ⟨v, h1, h2⟩ := Q1g hf h
          exact ⟨hf.defers, v, h1, .inl ⟨v, rfl, h2⟩⟩
        | exit id => obtain ⟨f, k, hk, _⟩ := he; cases hk
        | goto l => exact he.elim
        | panic ch =>
          obtain ⟨g, hg, h⟩ := he
          exact ⟨hg.defers, .inr ⟨ch, rfl, h⟩⟩
        | outgrown => exact he.elim
    · exact h.elim
  · exact h.elim
def dfunc (P : Program) (H : Hints) (k : Nat) (args : List Value) (R : RW) (w : World) : Prop :=
  match P.funcs[k]? with
  | some fn =>
    match fn.body with
    | some (.seq A (.seq B (.seq (.region _ ops false) C))) =>
      bif Nat.ble args.length fn.ntmps then
        mcode P H fn.ntmps A [] ⟨fun f w => mcode P H fn.ntmps B [] ⟨fun f w =>
            (match ops.toList with
            | [o1, o2] =>
              (match o1.guard, o2.guard, o2.op, o2.dst with
              | none, none, .defer c, none =>
                (match c.callee, c.args.toList with
                | .value x, [] =>
                  mopF P f o1 w fun v w => putK fn.ntmps o1.dst v [] f fun _ f =>
                    match ev f x with
                    | some (.func (.func k') first caps) =>
                      bif enters P k' then
                        pcode P H fn.ntmps (fun g ch w => CallsD P k' (first ++ caps) (.panicking ch) w fun e u w' => ∃ v, e = .returned v ∧ settle u = .returning ∧ mres P g w' fn.results.toList [] (fun vs => R (wrapR vs) w')) C []
                          { n := fun _ _ => False, r := fun g w => CallsD P k' (first ++ caps) .returning w fun e u w' => ∃ v, e = .returned v ∧ settle u = .returning ∧ mres P g w' fn.results.toList [] (fun vs => R (wrapR vs) w'), ex := [] } f w
                      else False
                    | _ => False
                | _, _ => False)
              | _, _, _, _ => False)
            | _ => False),
            fun f w => mres P f w fn.results.toList [] (fun vs => R (wrapR vs) w), []⟩ f w,
          fun f w => mres P f w fn.results.toList [] (fun vs => R (wrapR vs) w), []⟩ (argsF args 0) w
      else False
    | _ => False
  | none => False
theorem Q3j {fn : Func} {tmps : Array Value} {D : List Deferred} {n : Nat} {g : Fs} {a : Act} (hg : Fr D n g a) {k : Nat} {first caps : Array Value} (hen : enters P k = true) {u : FrameMode} (hu : u ≠ .run) {w : World} {R : RW}
    (h : CallsD P k (first ++ caps) u w fun e u' w' => ∃ v, e = .returned v ∧ settle u' = .returning ∧ mres P g w' fn.results.toList [] (fun vs => R (wrapR vs) w')) :
    Leaves P fn a.tmps (fun e w' => ∃ v, e = .returned v ∧ R v w') [{ target := .fn (.func k) caps, args := first }] u w := by
  refine leaves_cons hu (by simp only [invoke, Q2h hen]) (h.mono fun e u' w' ⟨v, he, hs, hm⟩ => ?_)
  subst he
  show Leaves P fn a.tmps _ [] (settle u') w'
  rw [hs]
  obtain ⟨v, h1, h2⟩ := Q1g hg hm
  exact ⟨v, h1, v, rfl, h2⟩
theorem Q5u (hm : P.follows .mixedOrders = true) {k : Nat} {args : List Value} {R : RW} {w : World} (h : dfunc P H k args R w) :
    Calls P k args.toArray w fun e w' => ∃ v, e = .returned v ∧ R v w' := by
  unfold dfunc at h
  split at h
  · rename_i fn hfn
    split at h
    · rename_i A B id ops C hc
      cases hle : Nat.ble args.length fn.ntmps
      · simp [hle] at h
      · simp only [hle, cond_true] at h
        refine calls_of_wp_defers hfn hc ?_
        have hret : ∀ (lo f : Fs) (a : Act) (w : World), Fr [] fn.ntmps (f ++ []) a → mres P f w fn.results.toList [] (fun vs => R (wrapR vs) w) → bodyPostD P fn (fun e w' => ∃ v, e = .returned v ∧ R v w') .ret a w := fun lo f a w hf hr => by
          rw [List.append_nil] at hf
          obtain ⟨v, h1, h2⟩ := Q1g hf hr
          show Leaves P fn a.tmps _ a.defers .returning w
          rw [hf.defers]
          exact ⟨v, h1, v, rfl, h2⟩
        refine wp_seq (Code.wp_mono (fun e a w' he => ?_) (Q1i hm A [] _ _ w _ h (fr_args (Nat.le_of_ble_eq_true hle))))
        cases e with
        | ret => obtain ⟨f, hf, hr⟩ := he; exact hret [] f a w' hf hr
        | exit id => obtain ⟨f, k, hk, _⟩ := he; cases hk
        | goto l => exact he.elim
        | panic ch => exact he.elim
        | outgrown => exact he.elim
        | normal =>
          obtain ⟨f, hf, h⟩ := he
          refine wp_seq (Code.wp_mono (fun e a w' he => ?_) (Q1i hm B [] _ _ w' a h hf))
          cases e with
          | ret => obtain ⟨f, hf, hr⟩ := he; exact hret [] f a w' hf hr
          | exit id => obtain ⟨f, k, hk, _⟩ := he; cases hk
          | goto l => exact he.elim
          | panic ch => exact he.elim
          | outgrown => exact he.elim
          | normal =>
            obtain ⟨f, hf, h⟩ := he
            rw [List.append_nil] at hf
            split at h
            · rename_i o1 o2 hops
              split at h
              · rename_i c hg1 hg2 ho2 hd2
                split at h
                · rename_i x hcal hargs
                  refine wp_seq (wp_region_list ?_)
                  rw [hops]
                  have hops' : ops = [o1, o2].toArray := by rw [← hops]
                  rw [hops']
                  unfold wpList
                  have hw1 : Region.wanted o1 (yielded [o1, o2].toArray a.tmps) = true := by unfold Region.wanted; rw [hg1]
                  rw [if_pos hw1]
                  refine .inl ((mopF_ok hf h).wp fun v w2 h => ?_)
                  obtain ⟨dg2, f2, h, hf2, _⟩ := putK_ok (lo := []) (dg := []) h (by rw [List.append_nil]; exact hf) (fun s b hs => by cases hs)
                  rw [List.append_nil] at hf2
                  split at h
                  · rename_i k' first caps hev
                    cases hen : enters P k'
                    · simp [hen] at h
                    · simp only [hen, cond_true] at h
                      unfold wpList
                      have hw2 : Region.wanted o2 (yielded [o1, o2].toArray (a.put o1.dst v).tmps) = true := by unfold Region.wanted; rw [hg2]
                      rw [if_pos hw2]
                      refine .inl ?_
                      have hex : (a.put o1.dst v).eval x = .func (.func k') first caps := by rw [hf2.eval (by rw [hev]; rfl)]; unfold rho; rw [hev]; rfl
                      have hca : c.args = #[] := by apply Array.ext'; rw [hargs]
                      have hr : (execOp (a.put o1.dst v).eval o2).run P w2 = .ok (.defer { target := .fn (.func k') caps, args := first }) w2 := by
                        simp only [execOp, ho2, resolve, hcal, hca, hex, Deferred.ofValue, pure_bind, Sem.run_bind, Sem.run_pure, Result.andThen_ok]
                        simp
                      unfold Oper.wp
                      rw [hr, Oper.upon_defer, hd2]
                      unfold wpList
                      have hf3 : Fr [{ target := .fn (.func k') caps, args := first }] fn.ntmps (f2 ++ []) ({ a.put o1.dst v with defers := { target := .fn (.func k') caps, args := first } :: (a.put o1.dst v).defers } : Act) := by
                        rw [List.append_nil]
                        exact ⟨hf2.size, by show _ :: _ = _; rw [hf2.defers], hf2.at_⟩
                      refine Code.wp_mono (fun e a3 w3 he => ?_) (Q1y hm C [] _ f2 w2 _ h hf3)
                      cases e with
                      | normal => obtain ⟨_, _, h⟩ := he; exact h.elim
                      | ret =>
                        obtain ⟨g, hg, h⟩ := he
                        rw [List.append_nil] at hg
                        show Leaves P fn a3.tmps _ a3.defers .returning w3
                        rw [hg.defers]
                        exact Q3j (tmps := a3.tmps) hg hen (by simp) h
                      | exit id => obtain ⟨f, k, hk, _⟩ := he; cases hk
                      | goto l => exact he.elim
                      | panic ch =>
                        obtain ⟨g, hg, h⟩ := he
                        show Leaves P fn a3.tmps _ a3.defers (.panicking ch) w3
                        rw [hg.defers]
                        exact Q3j (tmps := a3.tmps) hg hen (by simp) h
                      | outgrown => exact he.elim
                  · exact h.elim
                · exact h.elim
              · exact h.elim
            · exact h.elim
    · exact h.elim
  · exact h.elim
end
def recV : FrameMode → Value × FrameMode
  | .panicking ({ v, recovered := false, goexit := false } :: older) => (v, .panicking ({ v, recovered := true } :: older))
  | u => (.nilIface, u)
def rfunc (P : Program) (H : Hints) (k : Nat) (args : List Value) (u : FrameMode) (R : Value → FrameMode → World → Prop) (w : World) : Prop :=
  match P.funcs[k]? with
  | some fn =>
    match fn.body with
    | some (.seq (.region _ ops false) C) =>
      bif Nat.ble args.length fn.ntmps then
        (match ops.toList with
        | [o1, o2] =>
          (match o1.guard, o1.op, o1.dst, o2.guard with
          | none, .call c, some d, none =>
            (match c.callee, c.args.toList with
            | .builtin .recover, [] =>
              bif Nat.blt d fn.ntmps then
                mopF P ((d, (recV u).1) :: argsF args 0) o2 w fun v w => putK fn.ntmps o2.dst v [] ((d, (recV u).1) :: argsF args 0) fun _ f =>
                  mcode P H fn.ntmps C [] ⟨fun f w => mres P f w fn.results.toList [] (fun vs => R (wrapR vs) (recV u).2 w), fun f w => mres P f w fn.results.toList [] (fun vs => R (wrapR vs) (recV u).2 w), []⟩ f w
              else False
            | _, _ => False)
          | _, _, _, _ => False)
        | _ => False)
      else False
    | _ => False
  | none => False
section
variable {P : Program} {H : Hints}
theorem recV_D (c : Frame) (cs : List Frame) (u : FrameMode) (hu : c.mode = u) :
    (match recoverD (c :: cs) with | some (v, cs') => (v, cs') | none => (.nilIface, c :: cs)) = ((recV u).1, { c with mode := (recV u).2 } :: cs) := by
  subst hu
  unfold recoverD recV
  simp only
  split <;> rename_i h
  · split at h
    · rename_i v older hm
      cases h
      rw [hm]
    · cases h
  · split at h
    · cases h
    · rename_i hn
      split
      · rename_i v older hm; exact absurd hm (hn v older)
      · rfl
theorem Q4m (hm : P.follows .mixedOrders = true) {k : Nat} {args : List Value} {u : FrameMode} {R : Value → FrameMode → World → Prop} {w : World} (h : rfunc P H k args u R w) :
    CallsD P k args.toArray u w fun e u' w' => ∃ v, e = .returned v ∧ R v u' w' := by
  unfold rfunc at h
  split at h
  · rename_i fn hfn
    split at h
    · rename_i id ops C hc
      cases hle : Nat.ble args.length fn.ntmps
      · simp [hle] at h
      · simp only [hle, cond_true] at h
        split at h
        · rename_i o1 o2 hops
          split at h
          · rename_i c d hg1 ho1 hd1 hg2
            split at h
            · rename_i hcal hargs
              cases hlt : Nat.blt d fn.ntmps
              · simp [hlt] at h
              · simp only [hlt, cond_true] at h
                refine callsD_of_wpS hfn hc fun c₀ cs hu => ?_
                refine wpS_seq (wpS_region ?_)
                have hops' : ops = #[o1, o2] := by apply Array.ext'; rw [hops]
                have hca : c.args = #[] := by apply Array.ext'; rw [hargs]
                have hf0 := fr_args (Nat.le_of_ble_eq_true hle)
                rw [List.append_nil] at hf0
                generalize ({ tmps := args.toArray ++ Array.replicate (fn.ntmps - args.toArray.size) undef, defers := [] } : Act) = a at *
                rw [hops']
                show wpOpsS P #[o1, o2] _ [0, 1] a (c₀ :: cs) w
                unfold wpOpsS
                have hw1 : Region.wanted o1 (yielded #[o1, o2] a.tmps) = true := by unfold Region.wanted; rw [hg1]
                show (if Region.wanted o1 (yielded #[o1, o2] a.tmps) = true then _ else _)
                rw [if_pos hw1]
                have hr1 : (execOp a.eval o1).run P w = .ok .recover w := by
                  simp only [execOp, ho1, resolve, hcal, hca]
                  rfl
                have hr1' : (execOp a.eval #[o1, o2][0]).run P w = .ok .recover w := hr1
                rw [hr1']
                have hrec := recV_D c₀ cs u hu
                have key : wpOpsS P #[o1, o2] (Exit.thenS (C.wpS P (bodyPostS P fn c₀ cs fun e u' w' => ∃ v, e = .returned v ∧ R v u' w')) (bodyPostS P fn c₀ cs fun e u' w' => ∃ v, e = .returned v ∧ R v u' w')) [1] (a.put o1.dst (recV u).1) ({ c₀ with mode := (recV u).2 } :: cs) w := by
                  have hf1 : Fr [] fn.ntmps ((d, (recV u).1) :: argsF args 0) (a.put o1.dst (recV u).1) := by rw [hd1]; exact hf0.put hlt _
                  unfold wpOpsS
                  have hw2 : Region.wanted o2 (yielded #[o1, o2] (a.put o1.dst (recV u).1).tmps) = true := by unfold Region.wanted; rw [hg2]
                  show (if Region.wanted o2 (yielded #[o1, o2] (a.put o1.dst (recV u).1).tmps) = true then _ else _)
                  rw [if_pos hw2]
                  have fin : ∀ v w2, putK fn.ntmps o2.dst v [] ((d, (recV u).1) :: argsF args 0) (fun _ f => mcode P H fn.ntmps C [] ⟨fun f w => mres P f w fn.results.toList [] (fun vs => R (wrapR vs) (recV u).2 w), fun f w => mres P f w fn.results.toList [] (fun vs => R (wrapR vs) (recV u).2 w), []⟩ f w2) →
                      wpOpsS P #[o1, o2] (Exit.thenS (C.wpS P (bodyPostS P fn c₀ cs fun e u' w' => ∃ v, e = .returned v ∧ R v u' w')) (bodyPostS P fn c₀ cs fun e u' w' => ∃ v, e = .returned v ∧ R v u' w')) [] ((a.put o1.dst (recV u).1).put o2.dst v) ({ c₀ with mode := (recV u).2 } :: cs) w2 := fun v w2 h => by
                    obtain ⟨dg2, f2, h, hf2, _⟩ := putK_ok (lo := []) (dg := []) h (by rw [List.append_nil]; exact hf1) (fun s b hs => by cases hs)
                    unfold wpOpsS
                    show C.wpS P _ _ _ _
                    refine wpS_of_wp (Code.wp_mono (fun e a3 w3 he => ?_) (Q1i hm C [] _ f2 w2 _ h hf2))
                    cases e with
                    | normal =>
                      obtain ⟨g, hg, h⟩ := he
                      rw [List.append_nil] at hg
                      obtain ⟨v, h1, h2⟩ := Q1g (R := fun v w => R v (recV u).2 w) hg h
                      exact ⟨hg.defers, _, rfl, v, h1, v, rfl, h2⟩
                    | ret =>
                      obtain ⟨g, hg, h⟩ := he
                      rw [List.append_nil] at hg
                      obtain ⟨v, h1, h2⟩ := Q1g (R := fun v w => R v (recV u).2 w) hg h
                      exact ⟨hg.defers, _, rfl, v, h1, v, rfl, h2⟩
                    | exit id => obtain ⟨f, k, hk, _⟩ := he; cases hk
                    | goto l => exact he.elim
                    | panic ch => exact he.elim
                    | outgrown => exact he.elim
                  have hok := mopF_ok hf1 h
                  unfold OpOk at hok
                  generalize hrun : (execOp (a.put o1.dst (recV u).1).eval o2).run P w = r at hok
                  have hrun' : (execOp (a.put o1.dst (recV u).1).eval #[o1, o2][1]).run P w = r := hrun
                  rw [hrun']
                  clear hrun hrun'
                  cases r with
                  | ok n w2 =>
                    cases n <;> simp only at hok
                    case value v => exact fin v w2 hok
                    case skip => exact fin undef w2 hok
                    case enter f args =>
                      show Calls P f args w2 _
                      exact hok.mono fun e w'' ⟨v, he, hv⟩ => by subst he; exact fin v w'' hv
                    all_goals exact hok.elim
                  | halt x w2 => exact hok.elim
                cases hrd : recoverD (c₀ :: cs) with
                | none =>
                  rw [hrd] at hrec
                  have h1 : Value.nilIface = (recV u).1 := congrArg Prod.fst hrec
                  have h2 : c₀ :: cs = { c₀ with mode := (recV u).2 } :: cs := congrArg Prod.snd hrec
                  show wpOpsS P #[o1, o2] _ [1] (a.put o1.dst .nilIface) (c₀ :: cs) w
                  rw [h1, h2]; exact key
                | some p =>
                  obtain ⟨v, cs'⟩ := p
                  rw [hrd] at hrec
                  have h1 : v = (recV u).1 := congrArg Prod.fst hrec
                  have h2 : cs' = { c₀ with mode := (recV u).2 } :: cs := congrArg Prod.snd hrec
                  show wpOpsS P #[o1, o2] _ [1] (a.put o1.dst v) cs' w
                  rw [h1, h2]; exact key
            · exact h.elim
          · exact h.elim
        · exact h.elim
    · exact h.elim
  · exact h.elim
end
end Go.Mx
set_option linter.unusedSectionVars false
namespace Go.Mx
section
variable {K K1 : Nat → Prop} {w w1 w' : World} {o o1 o' : Own} {p q j : Nat}
def setAll : List Value → Nat → List Value → List Value
  | cs, _, [] => cs
  | cs, k, v :: r => setAll (cs.set k v) (k + 1) r
def putsK (w : World) (a : Addr) : List Value → Nat → (World → Prop) → Prop
  | [], _, Φ => Φ w
  | v :: r, j, Φ => Q01 w (a.add j) ∧ thenW (w.setCell (a.add j) v) fun w' => putsK w' a r (j + 1) Φ
theorem Q2B : ∀ {vs u cs : List Value} {k : Nat}, setAll (u ++ cs) (u.length + k) vs = u ++ setAll cs k vs
  | [], _, _, _ => rfl
  | v :: r, u, cs, k => by
    simp only [setAll]
    rw [show (u ++ cs).set (u.length + k) v = u ++ cs.set k v by rw [List.set_append_right _ _ (by omega)]; congr 2; omega, Nat.add_assoc, Q2B]
theorem Q2Z : ∀ {vs u cs : List Value}, vs.length = u.length → setAll (u ++ cs) 0 vs = vs ++ cs
  | [], [], _, _ => rfl
  | v :: r, x :: u, cs, h => by
    have := Q2B (vs := r) (u := [v]) (cs := u ++ cs) (k := 0)
    simp only [setAll, List.cons_append, List.set_cons_zero]
    simp only [List.length_cons, List.length_nil, List.cons_append, List.nil_append, Nat.add_zero] at this
    rw [this, Q2Z (by simpa using h)]
  | [], _ :: _, _, h => by simp at h
  | _ :: _, [], _, h => by simp at h
theorem Q0e {w : World} {q : Nat} {t : TypeId} {vs cs : List Value} (h : Blk w q t (setAll cs (0 + 0) vs)) (hl : vs.length = cs.length) : Blk w q t vs := by
  have := Q2Z (vs := vs) (u := cs) (cs := []) hl
  rw [List.append_nil, List.append_nil] at this
  rw [this] at h
  exact h
theorem Q0a {q k : Nat} {t : TypeId} : ∀ {vs cs : List Value} {j : Nat} {w : World} {Φ : World → Prop}, Blk w q t cs → k + j + vs.length ≤ cs.length → (∀ w', Ext (fun b => b = q) w w' → Blk w' q t (setAll cs (k + j) vs) → Φ w') → putsK w ((blk q).add k) vs j Φ
  | [], cs, j, w, Φ, hb, _, h => h w (Ext.refl _ _) hb
  | v :: r, cs, j, w, Φ, hb, hl, h => by
    simp only [List.length_cons] at hl
    have hc : cs[k + j]? = some (cs[k + j]'(by omega)) := List.getElem?_eq_getElem (by omega)
    refine ⟨by rw [add_add]; exact hb.cana hc, Q02 fun w2 e2 => ?_⟩
    rw [add_add, add_blk] at e2
    have X : Ext (fun b => b = q) w w2 := (Ext.refl (fun b => b = q) w).x_set (q := q) (i := k + j) rfl (.inl rfl) e2
    have hb2 := hb.seti (k + j) (t := t) (v := v) rfl e2
    exact Q0a hb2 (by simp; omega) fun w' X' hb' => h w' (X.trans X') hb'
end
theorem Ext.x_puts {m : Nat → Prop} {w0 w w' : World} {q : Nat} (h : Ext m w0 w) (X : Ext (fun b => b = q) w w') (hq : m q ∨ w0.heap.size ≤ q) : Ext m w0 w' :=
  ⟨X.os.trans h.os, X.tape.trans h.tape, X.output.trans h.output, Nat.le_trans h.size X.size, fun b hb hm => by
    refine (X.block b (Nat.lt_of_lt_of_le hb h.size) fun e => ?_).trans (h.block b hb hm)
    subst e
    rcases hq with hq | hq
    · exact hm hq
    · omega⟩
theorem Blk.x_puts {w w' : World} {p q : Nat} {t : TypeId} {cs : List Value} (h : Blk w p t cs) (X : Ext (fun b => b = q) w w') (hne : p ≠ q) : Blk w' p t cs := h.ext X hne
end Go.Mx
set_option maxRecDepth 100000
namespace Go.Proofs.Ytoempemllkebkaa
open Go Go.Mx Go.Proofs
def frmMust.M (k1 : Int) (Φ : List PanicEntry → World → Prop) (R : RW) (w : World) : Prop :=
 bif k1 != 0 then (
 Φ [{ v := .iface 33 (.int .i64 k1), recovered := false }] w) else (
 R (.tuple #[]) w)

theorem frmMust.ok (k1 : Int) {Φ : List PanicEntry → World → Prop} {R : RW} {w : World} (h : frmMust.M k1 Φ R w) : Calls Try.prog 61 #[.int .i64 k1] w fun e w' => (∃ v, e = .returned v ∧ R v w') ∨ ∃ ch, e = .panicked ch ∧ Φ ch w' :=
  Q2G follows (H := []) (args := [.int .i64 k1]) (cast (by kernel_rfl) h)

def frmEnt.M (b2 b5 : Addr) (Φ : List PanicEntry → World → Prop) (R : RW) (w : World) : Prop :=
 ∃ (b9 : Option Addr) (b6 b8 : Nat), w.cell? b2 = some (.slice b9 b6 b8) ∧
 Calls Try.prog 98 #[.slice b9 b6 b8] w fun az aj => (∃ (a7 ac ak b0 ax ah : Int) (a9 : Option Addr) (a8 aa : Nat) (al ad : Int), az = .returned (.tuple #[.agg #[.int .i64 a7, .int .i64 ac, .int .u64 ak, .int .i64 b0, .int .i64 ax, .int .i64 ah, .slice a9 a8 aa, .int .u64 al], .int .i64 ad]) ∧
 thenW (aj.alloc (.cells #[.int .i64 0, .int .i64 0, .int .u64 0, .int .i64 0, .int .i64 0, .int .i64 0, .slice none 0 0, .int .u64 0] 27)) fun b3 =>
 putsK b3 (blk aj.heap.size) [.int .i64 a7, .int .i64 ac, .int .u64 ak, .int .i64 b0, .int .i64 ax, .int .i64 ah, .slice a9 a8 aa, .int .u64 al] 0 fun b4 =>
 Calls Try.prog 61 #[.int .i64 ad] b4 fun am ai => (am = .returned (.tuple #[]) ∧
 ∃ (b7 : Option Addr), ai.cell? b5 = some (.pointer b7) ∧
 ∃ (a0 a1 ab ag ae a5 : Int) (a4 : Option Addr) (a3 a2 : Nat) (af : Int), cellsAt ai (blk aj.heap.size) [.int .i64 a0, .int .i64 a1, .int .u64 ab, .int .i64 ag, .int .i64 ae, .int .i64 a5, .slice a4 a3 a2, .int .u64 af] 0 ∧
 b7.elim False fun a6 =>
 Q01 ai (a6.add 0) ∧
 thenW (ai.setCell (a6.add 0) (.int .i64 a0)) fun ay =>
 Q01 ay (a6.add 1) ∧
 thenW (ay.setCell (a6.add 1) (.int .i64 a1)) fun av =>
 Q01 av (a6.add 2) ∧
 thenW (av.setCell (a6.add 2) (.int .u64 ab)) fun ar =>
 Q01 ar (a6.add 3) ∧
 thenW (ar.setCell (a6.add 3) (.int .i64 ag)) fun aw =>
 Q01 aw (a6.add 4) ∧
 thenW (aw.setCell (a6.add 4) (.int .i64 ae)) fun aq =>
 Q01 aq (a6.add 5) ∧
 thenW (aq.setCell (a6.add 5) (.int .i64 a5)) fun ap =>
 Q01 ap (a6.add 6) ∧
 thenW (ap.setCell (a6.add 6) (.slice a4 a3 a2)) fun au =>
 Q01 au (a6.add 7) ∧
 thenW (au.setCell (a6.add 7) (.int .u64 af)) fun b1 =>
 R (.tuple #[]) b1) ∨ ∃ (an : List PanicEntry), am = .panicked an ∧
 Φ an ai) ∨ ∃ (ao : List PanicEntry), az = .panicked ao ∧
 Φ ao aj

theorem frmEnt.ok (a1 a0 : Addr) {Φ : List PanicEntry → World → Prop} {R : RW} {w : World} (h : frmEnt.M a1 a0 Φ R w) : Calls Try.prog 97 #[.pointer (some a1), .pointer (some a0)] w fun e w' => (∃ v, e = .returned v ∧ R v w') ∨ ∃ ch, e = .panicked ch ∧ Φ ch w' :=
  Q2G follows (H := []) (args := [.pointer (some a1), .pointer (some a0)]) (cast (by kernel_rfl) h)

def frmVec.M (a8 a6 : Addr) (Φ : List PanicEntry → World → Prop) (R : RW) (w : World) : Prop :=
 ∃ (ae : Option Addr) (ah ab : Nat), w.cell? a8 = some (.slice ae ah ab) ∧
 Calls Try.prog 93 #[.slice ae ah ab] w fun ag af => (∃ (a2 : Option Addr) (a1 a0 : Nat) (a4 : Int), ag = .returned (.tuple #[.slice a2 a1 a0, .int .i64 a4]) ∧
 Calls Try.prog 61 #[.int .i64 a4] af fun ac a3 => (ac = .returned (.tuple #[]) ∧
 ∃ (a9 : Option Addr), a3.cell? a6 = some (.pointer a9) ∧
 a9.elim False fun ad =>
 Q01 a3 (((ad.add 1).add 18).add 0) ∧
 thenW (a3.setCell (((ad.add 1).add 18).add 0) (.slice a2 a1 a0)) fun a7 =>
 R (.tuple #[]) a7) ∨ ∃ (a5 : List PanicEntry), ac = .panicked a5 ∧
 Φ a5 a3) ∨ ∃ (aa : List PanicEntry), ag = .panicked aa ∧
 Φ aa af

theorem frmVec.ok (a1 a0 : Addr) {Φ : List PanicEntry → World → Prop} {R : RW} {w : World} (h : frmVec.M a1 a0 Φ R w) : Calls Try.prog 92 #[.pointer (some a1), .pointer (some a0)] w fun e w' => (∃ v, e = .returned v ∧ R v w') ∨ ∃ ch, e = .panicked ch ∧ Φ ch w' :=
  Q2G follows (H := []) (args := [.pointer (some a1), .pointer (some a0)]) (cast (by kernel_rfl) h)

def Q2L.M (r1 : Option Addr) (Φ : List PanicEntry → World → Prop) (R : RW) (w : World) : Prop :=
 thenW (w.alloc (.cells #[.int .i64 0, .int .i64 0, .int .i64 0, .int .u64 0, .int .i64 0, .int .i64 0, .int .i64 0, .slice none 0 0, .int .u64 0, .int .i64 0, .int .i64 0, .int .u64 0, .int .i64 0, .int .i64 0, .int .i64 0, .slice none 0 0, .int .u64 0, .int .i64 0, .slice none 0 0, .int .u64 0] 38)) fun dh =>
 r1.elim False fun a3 =>
 ∃ (bw : Option Addr), dh.cell? (a3.add 0) = some (.pointer bw) ∧
 Calls Try.prog 54 #[.pointer bw, .int .i64 4] dh fun df dc => (∃ (ce : Int), df = .returned (.int .i64 ce) ∧
 r1.elim False fun a9 =>
 Q01 dc (((a9.add 1).add 0).add 0) ∧
 thenW (dc.setCell (((a9.add 1).add 0).add 0) (.int .i64 ce)) fun cv =>
 r1.elim False fun dn =>
 ∃ (cb : Int), cv.cell? ((dn.add 1).add 0) = some (.int .i64 cb) ∧
 Calls Try.prog 60 #[.pointer r1, .int .i64 cb] cv fun d1 cx => (∃ (bg : Nat) (bv bu : Array Value), d1 = .returned (.func (.func bg) bv bu) ∧
 bif enters Try.prog bg then Calls Try.prog bg (bv.toList ++ ([] : List Value) ++ bu.toList).toArray cx (fun cw cp => (cw = .returned (.tuple #[]) ∧
 r1.elim False fun dp =>
 ∃ (bp : Option Addr), cp.cell? (dp.add 0) = some (.pointer bp) ∧
 Calls Try.prog 56 #[.pointer bp] cp fun d7 ct => (∃ (cf : Int), d7 = .returned (.int .i64 cf) ∧
 Calls Try.prog 61 #[.int .i64 cf] ct fun db cq => (db = .returned (.tuple #[]) ∧
 r1.elim False fun di =>
 ∃ (bk : Option Addr) (ag ch : Nat), cq.cell? (di.add 21) = some (.slice bk ag ch) ∧
 ∃ (I0 : Nat → List Value → World → Prop) (dl : Nat), I0 dl [.int .i64 0] cq ∧ ∀ (dg : Nat) (cg : World) (cs : Int), I0 dg [.int .i64 cs] cg →
 bif decide (cs < (ag : Int)) then (
 bk.elim False fun dj =>
 0 ≤ (cs : Int) ∧ (cs : Int) < (ag : Int) ∧
 ∃ (cr : Nat) (cy da : Array Value), cg.cell? (dj.add (Int.toNat cs * 1)) = some (.func (.func cr) cy da) ∧
 bif enters Try.prog cr then Calls Try.prog cr (cy.toList ++ ([] : List Value) ++ da.toList).toArray cg (fun d3 d9 => (d3 = .returned (.tuple #[]) ∧
 ∃ de, de < dg ∧ I0 de [.int .i64 (IntKind.i64.wrap (cs + 1))] d9) ∨ ∃ (d0 : List PanicEntry), d3 = .panicked d0 ∧
 Φ d0 d9) else False) else (
 r1.elim False fun dm =>
 ∃ (bx an bd bo c8 c0 b6 : Int) (b7 : Option Addr) (bc au : Nat) (bq aj ay bj bs c4 ba : Int) (b2 : Option Addr) (av b5 : Nat) (bz c9 : Int) (ck : Option Addr) (cm co : Nat) (cd : Int), cellsAt cg (dm.add 1) [.int .i64 bx, .int .i64 an, .int .i64 bd, .int .u64 bo, .int .i64 c8, .int .i64 c0, .int .i64 b6, .slice b7 bc au, .int .u64 bq, .int .i64 aj, .int .i64 ay, .int .u64 bj, .int .i64 bs, .int .i64 c4, .int .i64 ba, .slice b2 av b5, .int .u64 bz, .int .i64 c9, .slice ck cm co, .int .u64 cd] 0 ∧
 Calls Try.prog 16 #[.agg #[.int .i64 bx, .int .i64 an, .int .i64 bd, .int .u64 bo, .int .i64 c8, .int .i64 c0, .int .i64 b6, .slice b7 bc au, .int .u64 bq, .int .i64 aj, .int .i64 ay, .int .u64 bj, .int .i64 bs, .int .i64 c4, .int .i64 ba, .slice b2 av b5, .int .u64 bz, .int .i64 c9, .slice ck cm co, .int .u64 cd]] cg fun cz ci => (∃ (c1 : Bool), cz = .returned (.bool c1) ∧
 bif !c1 then (
 Φ [{ v := .iface 33 (.int .i64 4), recovered := false }] ci) else (
 r1.elim False fun dk =>
 ∃ (c5 am aq bi c6 c7 ao : Int) (bf : Option Addr) (b1 b4 : Nat) (bt al b3 bn c3 c2 b0 : Int) (be : Option Addr) (ap az : Nat) (br cc : Int) (cl : Option Addr) (cn cj : Nat) (ca : Int), cellsAt ci (dk.add 1) [.int .i64 c5, .int .i64 am, .int .i64 aq, .int .u64 bi, .int .i64 c6, .int .i64 c7, .int .i64 ao, .slice bf b1 b4, .int .u64 bt, .int .i64 al, .int .i64 b3, .int .u64 bn, .int .i64 c3, .int .i64 c2, .int .i64 b0, .slice be ap az, .int .u64 br, .int .i64 cc, .slice cl cn cj, .int .u64 ca] 0 ∧
 putsK ci (blk w.heap.size) [.int .i64 c5, .int .i64 am, .int .i64 aq, .int .u64 bi, .int .i64 c6, .int .i64 c7, .int .i64 ao, .slice bf b1 b4, .int .u64 bt, .int .i64 al, .int .i64 b3, .int .u64 bn, .int .i64 c3, .int .i64 c2, .int .i64 b0, .slice be ap az, .int .u64 br, .int .i64 cc, .slice cl cn cj, .int .u64 ca] 0 fun d5 =>
 ∃ (b8 a0 a8 af b9 bb a7 : Int) (ac : Option Addr) (ad ab : Nat) (ax a5 aa ak ai ah a2 : Int) (a6 : Option Addr) (a4 a1 : Nat) (ae ar : Int) (bh : Option Addr) (bl bm : Nat) (aw : Int), cellsAt d5 (blk w.heap.size) [.int .i64 b8, .int .i64 a0, .int .i64 a8, .int .u64 af, .int .i64 b9, .int .i64 bb, .int .i64 a7, .slice ac ad ab, .int .u64 ax, .int .i64 a5, .int .i64 aa, .int .u64 ak, .int .i64 ai, .int .i64 ah, .int .i64 a2, .slice a6 a4 a1, .int .u64 ae, .int .i64 ar, .slice bh bl bm, .int .u64 aw] 0 ∧
 R (.agg #[.int .i64 b8, .int .i64 a0, .int .i64 a8, .int .u64 af, .int .i64 b9, .int .i64 bb, .int .i64 a7, .slice ac ad ab, .int .u64 ax, .int .i64 a5, .int .i64 aa, .int .u64 ak, .int .i64 ai, .int .i64 ah, .int .i64 a2, .slice a6 a4 a1, .int .u64 ae, .int .i64 ar, .slice bh bl bm, .int .u64 aw]) d5)) ∨ ∃ (cu : List PanicEntry), cz = .panicked cu ∧
 Φ cu ci)) ∨ ∃ (d6 : List PanicEntry), db = .panicked d6 ∧
 Φ d6 cq) ∨ ∃ (d8 : List PanicEntry), d7 = .panicked d8 ∧
 Φ d8 ct) ∨ ∃ (d4 : List PanicEntry), cw = .panicked d4 ∧
 Φ d4 cp) else False) ∨ ∃ (d2 : List PanicEntry), d1 = .panicked d2 ∧
 Φ d2 cx) ∨ ∃ (dd : List PanicEntry), df = .panicked dd ∧
 Φ dd dc

theorem Q2L.ok (r1 : Option Addr) {Φ : List PanicEntry → World → Prop} {R : RW} {w : World} (h : Q2L.M r1 Φ R w) : Calls Try.prog 34 #[.pointer r1] w fun e w' => (∃ v, e = .returned v ∧ R v w') ∨ ∃ ch, e = .panicked ch ∧ Φ ch w' :=
  Q2G follows (H := [(0, [0, 2, 31, 32], [(33, (.one (.int .i64)))])]) (args := [.pointer r1]) (cast (by kernel_rfl) h)

def frmBack.M (a0 ad : Addr) (pk : Int) (R : Value → FrameMode → World → Prop) (w : World) : Prop :=
 ∃ (b3 : Bool), (binOp .neq 20 (.iface 33 (.int .i64 pk)) (.nilIface)).run Try.prog w = .ok (.bool b3) w ∧
 bif b3 then (
 thenW (w.drew) fun ai =>
 ∃ (v5 : Int), (Instr.typeAssert (.iface 33 (.int .i64 pk)) 20 33 false).run Try.prog ai = .ok (.int .i64 v5) ai ∧
 Q01 ai (a0.add 0) ∧
 thenW (ai.setCell (a0.add 0) (.int .i64 0)) fun al =>
 Q01 al (a0.add 1) ∧
 thenW (al.setCell (a0.add 1) (.int .i64 0)) fun an =>
 Q01 an (a0.add 2) ∧
 thenW (an.setCell (a0.add 2) (.int .i64 0)) fun am =>
 Q01 am (a0.add 3) ∧
 thenW (am.setCell (a0.add 3) (.int .u64 0)) fun ak =>
 Q01 ak (a0.add 4) ∧
 thenW (ak.setCell (a0.add 4) (.int .i64 0)) fun a4 =>
 Q01 a4 (a0.add 5) ∧
 thenW (a4.setCell (a0.add 5) (.int .i64 0)) fun ag =>
 Q01 ag (a0.add 6) ∧
 thenW (ag.setCell (a0.add 6) (.int .i64 0)) fun a8 =>
 Q01 a8 (a0.add 7) ∧
 thenW (a8.setCell (a0.add 7) (.slice none 0 0)) fun a9 =>
 Q01 a9 (a0.add 8) ∧
 thenW (a9.setCell (a0.add 8) (.int .u64 0)) fun ah =>
 Q01 ah (a0.add 9) ∧
 thenW (ah.setCell (a0.add 9) (.int .i64 0)) fun a7 =>
 Q01 a7 (a0.add 10) ∧
 thenW (a7.setCell (a0.add 10) (.int .i64 0)) fun aa =>
 Q01 aa (a0.add 11) ∧
 thenW (aa.setCell (a0.add 11) (.int .u64 0)) fun ac =>
 Q01 ac (a0.add 12) ∧
 thenW (ac.setCell (a0.add 12) (.int .i64 0)) fun a5 =>
 Q01 a5 (a0.add 13) ∧
 thenW (a5.setCell (a0.add 13) (.int .i64 0)) fun ae =>
 Q01 ae (a0.add 14) ∧
 thenW (ae.setCell (a0.add 14) (.int .i64 0)) fun ab =>
 Q01 ab (a0.add 15) ∧
 thenW (ab.setCell (a0.add 15) (.slice none 0 0)) fun a3 =>
 Q01 a3 (a0.add 16) ∧
 thenW (a3.setCell (a0.add 16) (.int .u64 0)) fun af =>
 Q01 af (a0.add 17) ∧
 thenW (af.setCell (a0.add 17) (.int .i64 0)) fun a6 =>
 Q01 a6 (a0.add 18) ∧
 thenW (a6.setCell (a0.add 18) (.slice none 0 0)) fun a2 =>
 Q01 a2 (a0.add 19) ∧
 thenW (a2.setCell (a0.add 19) (.int .u64 0)) fun a1 =>
 (Instr.typeAssert (.iface 33 (.int .i64 pk)) 20 33 false).run Try.prog a1 = .ok (.int .i64 v5) a1 ∧
 Q01 a1 (ad.add 0) ∧
 thenW (a1.setCell (ad.add 0) (.int .i64 v5)) fun aj =>
 R (.tuple #[]) (.panicking [{ v := .iface 33 (.int .i64 pk), recovered := true }]) aj) else (
 R (.tuple #[]) (.panicking [{ v := .iface 33 (.int .i64 pk), recovered := true }]) w)

theorem frmBack.ok (a1 a0 : Addr) (pk : Int) {R : Value → FrameMode → World → Prop} {w : World} (h : frmBack.M a1 a0 pk R w) : CallsD Try.prog 32 #[.pointer (some a1), .pointer (some a0)] (.panicking [{ v := .iface 33 (.int .i64 pk), recovered := false }]) w fun e u' w' => ∃ v, e = .returned v ∧ R v u' w' :=
  Q4m follows (H := []) (args := [.pointer (some a1), .pointer (some a0)]) (cast (by kernel_rfl) h)

def frmDone.M (a1 a0 : Addr) (R : Value → FrameMode → World → Prop) (w : World) : Prop :=
 R (.tuple #[]) .returning w

theorem frmDone.ok (a1 a0 : Addr) {R : Value → FrameMode → World → Prop} {w : World} (h : frmDone.M a1 a0 R w) : CallsD Try.prog 32 #[.pointer (some a1), .pointer (some a0)] .returning w fun e u' w' => ∃ v, e = .returned v ∧ R v u' w' :=
  Q4m follows (H := []) (args := [.pointer (some a1), .pointer (some a0)]) (cast (by kernel_rfl) h)

def frmRead.M (f3 : Option Addr) (f2 f4 : Nat) (R : RW) (w : World) : Prop :=
 thenW (w.alloc (.cells #[.int .i64 0, .int .i64 0, .int .i64 0, .int .u64 0, .int .i64 0, .int .i64 0, .int .i64 0, .slice none 0 0, .int .u64 0, .int .i64 0, .int .i64 0, .int .u64 0, .int .i64 0, .int .i64 0, .int .i64 0, .slice none 0 0, .int .u64 0, .int .i64 0, .slice none 0 0, .int .u64 0] 38)) fun dx =>
 thenW (dx.alloc (.cells #[.int .i64 0] 33)) fun f0 =>
 bif decide ((f2 : Int) > 4000) then (
 ∃ (e2 cj d4 dr e4 dy c6 : Int) (cp : Option Addr) (ci c3 : Nat) (dv bi cv dk dn dq cy : Int) (cb : Option Addr) (ck cc : Nat) (dt e9 : Int) (eg : Option Addr) (ej eh : Nat) (ec : Int), cellsAt f0 (blk w.heap.size) [.int .i64 e2, .int .i64 cj, .int .i64 d4, .int .u64 dr, .int .i64 e4, .int .i64 dy, .int .i64 c6, .slice cp ci c3, .int .u64 dv, .int .i64 bi, .int .i64 cv, .int .u64 dk, .int .i64 dn, .int .i64 dq, .int .i64 cy, .slice cb ck cc, .int .u64 dt, .int .i64 e9, .slice eg ej eh, .int .u64 ec] 0 ∧
 putsK f0 (blk w.heap.size) [.int .i64 e2, .int .i64 cj, .int .i64 d4, .int .u64 dr, .int .i64 e4, .int .i64 dy, .int .i64 c6, .slice cp ci c3, .int .u64 dv, .int .i64 bi, .int .i64 cv, .int .u64 dk, .int .i64 dn, .int .i64 dq, .int .i64 cy, .slice cb ck cc, .int .u64 dt, .int .i64 e9, .slice eg ej eh, .int .u64 ec] 0 fun ep =>
 Q01 ep ((blk dx.heap.size).add 0) ∧
 thenW (ep.setCell ((blk dx.heap.size).add 0) (.int .i64 3)) fun em =>
 ∃ (cn af ba bp c7 co au : Int) (az : Option Addr) (bd bb : Nat) (ct a8 b2 bv c4 cq bc : Int) (b9 : Option Addr) (bg b1 : Nat) (cx dl : Int) (dp : Option Addr) (dm du : Nat) (d0 : Int), cellsAt em (blk w.heap.size) [.int .i64 cn, .int .i64 af, .int .i64 ba, .int .u64 bp, .int .i64 c7, .int .i64 co, .int .i64 au, .slice az bd bb, .int .u64 ct, .int .i64 a8, .int .i64 b2, .int .u64 bv, .int .i64 c4, .int .i64 cq, .int .i64 bc, .slice b9 bg b1, .int .u64 cx, .int .i64 dl, .slice dp dm du, .int .u64 d0] 0 ∧
 ∃ (ek : Int), em.cell? (blk dx.heap.size) = some (.int .i64 ek) ∧
 R (.tuple #[.agg #[.int .i64 cn, .int .i64 af, .int .i64 ba, .int .u64 bp, .int .i64 c7, .int .i64 co, .int .i64 au, .slice az bd bb, .int .u64 ct, .int .i64 a8, .int .i64 b2, .int .u64 bv, .int .i64 c4, .int .i64 cq, .int .i64 bc, .slice b9 bg b1, .int .u64 cx, .int .i64 dl, .slice dp dm du, .int .u64 d0], .int .i64 ek]) em) else (
 Calls Try.prog 33 #[.slice f3 f2 f4] f0 fun eu en => (∃ (e0 : Option Addr), eu = .returned (.pointer e0) ∧
 thenW (en.alloc (.cells #[.pointer e0, .int .i64 0, .int .i64 0, .int .i64 0, .int .u64 0, .int .i64 0, .int .i64 0, .int .i64 0, .slice none 0 0, .int .u64 0, .int .i64 0, .int .i64 0, .int .u64 0, .int .i64 0, .int .i64 0, .int .i64 0, .slice none 0 0, .int .u64 0, .int .i64 0, .slice none 0 0, .int .u64 0, .slice none 0 0] 72)) fun ez =>
 Calls Try.prog 34 #[.pointer (some (blk en.heap.size))] ez fun ev et => (∃ (eb ca da dw ef ea d8 : Int) (d2 : Option Addr) (db d1 : Nat) (dz cd de ds e3 e6 di : Int) (d9 : Option Addr) (df d5 : Nat) (e7 el : Int) (er : Option Addr) (ew es : Nat) (ei : Int), ev = .returned (.agg #[.int .i64 eb, .int .i64 ca, .int .i64 da, .int .u64 dw, .int .i64 ef, .int .i64 ea, .int .i64 d8, .slice d2 db d1, .int .u64 dz, .int .i64 cd, .int .i64 de, .int .u64 ds, .int .i64 e3, .int .i64 e6, .int .i64 di, .slice d9 df d5, .int .u64 e7, .int .i64 el, .slice er ew es, .int .u64 ei]) ∧
 putsK et (blk w.heap.size) [.int .i64 eb, .int .i64 ca, .int .i64 da, .int .u64 dw, .int .i64 ef, .int .i64 ea, .int .i64 d8, .slice d2 db d1, .int .u64 dz, .int .i64 cd, .int .i64 de, .int .u64 ds, .int .i64 e3, .int .i64 e6, .int .i64 di, .slice d9 df d5, .int .u64 e7, .int .i64 el, .slice er ew es, .int .u64 ei] 0 fun eq =>
 Q01 eq ((blk dx.heap.size).add 0) ∧
 thenW (eq.setCell ((blk dx.heap.size).add 0) (.int .i64 0)) fun f1 =>
 CallsD Try.prog 32 #[.pointer (some (blk w.heap.size)), .pointer (some (blk dx.heap.size))] .returning f1 fun e8 e5 bj => ∃ (ey : Value), e8 = .returned ey ∧ settle e5 = .returning ∧
 ∃ (cl ad b0 bs cs c8 b3 : Int) (b7 : Option Addr) (b5 b8 : Nat) (cw ae ay c1 cu cm ax : Int) (b6 : Option Addr) (be aw : Nat) (cg c5 : Int) (dj : Option Addr) (d6 dc : Nat) (cf : Int), cellsAt bj (blk w.heap.size) [.int .i64 cl, .int .i64 ad, .int .i64 b0, .int .u64 bs, .int .i64 cs, .int .i64 c8, .int .i64 b3, .slice b7 b5 b8, .int .u64 cw, .int .i64 ae, .int .i64 ay, .int .u64 c1, .int .i64 cu, .int .i64 cm, .int .i64 ax, .slice b6 be aw, .int .u64 cg, .int .i64 c5, .slice dj d6 dc, .int .u64 cf] 0 ∧
 ∃ (ed : Int), bj.cell? (blk dx.heap.size) = some (.int .i64 ed) ∧
 R (.tuple #[.agg #[.int .i64 cl, .int .i64 ad, .int .i64 b0, .int .u64 bs, .int .i64 cs, .int .i64 c8, .int .i64 b3, .slice b7 b5 b8, .int .u64 cw, .int .i64 ae, .int .i64 ay, .int .u64 c1, .int .i64 cu, .int .i64 cm, .int .i64 ax, .slice b6 be aw, .int .u64 cg, .int .i64 c5, .slice dj d6 dc, .int .u64 cf], .int .i64 ed]) bj) ∨ ∃ (eo : List PanicEntry), ev = .panicked eo ∧
 CallsD Try.prog 32 #[.pointer (some (blk w.heap.size)), .pointer (some (blk dx.heap.size))] (.panicking eo) et fun e8 e5 bj => ∃ (ey : Value), e8 = .returned ey ∧ settle e5 = .returning ∧
 ∃ (bo a3 aa bf bw c0 ab : Int) (a4 : Option Addr) (al ap : Nat) (bn a0 a9 b4 bt bm a6 : Int) (a7 : Option Addr) (ar aq : Nat) (bq ce : Int) (dh : Option Addr) (d3 dg : Nat) (cr : Int), cellsAt bj (blk w.heap.size) [.int .i64 bo, .int .i64 a3, .int .i64 aa, .int .u64 bf, .int .i64 bw, .int .i64 c0, .int .i64 ab, .slice a4 al ap, .int .u64 bn, .int .i64 a0, .int .i64 a9, .int .u64 b4, .int .i64 bt, .int .i64 bm, .int .i64 a6, .slice a7 ar aq, .int .u64 bq, .int .i64 ce, .slice dh d3 dg, .int .u64 cr] 0 ∧
 ∃ (e1 : Int), bj.cell? (blk dx.heap.size) = some (.int .i64 e1) ∧
 R (.tuple #[.agg #[.int .i64 bo, .int .i64 a3, .int .i64 aa, .int .u64 bf, .int .i64 bw, .int .i64 c0, .int .i64 ab, .slice a4 al ap, .int .u64 bn, .int .i64 a0, .int .i64 a9, .int .u64 b4, .int .i64 bt, .int .i64 bm, .int .i64 a6, .slice a7 ar aq, .int .u64 bq, .int .i64 ce, .slice dh d3 dg, .int .u64 cr], .int .i64 e1]) bj) ∨ ∃ (ex : List PanicEntry), eu = .panicked ex ∧
 CallsD Try.prog 32 #[.pointer (some (blk w.heap.size)), .pointer (some (blk dx.heap.size))] (.panicking ex) en fun e8 e5 bj => ∃ (ey : Value), e8 = .returned ey ∧ settle e5 = .returning ∧
 ∃ (bx a1 am bh bk br ac : Int) (ah : Option Addr) (ak ag : Nat) (c2 a2 ai av bl bu an : Int) (a5 : Option Addr) (aj ao : Nat) (bz c9 : Int) (dd : Option Addr) (cz d7 : Nat) (ch : Int), cellsAt bj (blk w.heap.size) [.int .i64 bx, .int .i64 a1, .int .i64 am, .int .u64 bh, .int .i64 bk, .int .i64 br, .int .i64 ac, .slice ah ak ag, .int .u64 c2, .int .i64 a2, .int .i64 ai, .int .u64 av, .int .i64 bl, .int .i64 bu, .int .i64 an, .slice a5 aj ao, .int .u64 bz, .int .i64 c9, .slice dd cz d7, .int .u64 ch] 0 ∧
 ∃ (ee : Int), bj.cell? (blk dx.heap.size) = some (.int .i64 ee) ∧
 R (.tuple #[.agg #[.int .i64 bx, .int .i64 a1, .int .i64 am, .int .u64 bh, .int .i64 bk, .int .i64 br, .int .i64 ac, .slice ah ak ag, .int .u64 c2, .int .i64 a2, .int .i64 ai, .int .u64 av, .int .i64 bl, .int .i64 bu, .int .i64 an, .slice a5 aj ao, .int .u64 bz, .int .i64 c9, .slice dd cz d7, .int .u64 ch], .int .i64 ee]) bj)

theorem frmRead.ok (a1 : Option Addr) (a0 a2 : Nat) {R : RW} {w : World} (h : frmRead.M a1 a0 a2 R w) : Calls Try.prog 13 #[.slice a1 a0 a2] w fun e w' => ∃ v, e = .returned v ∧ R v w' :=
  Q5u follows (H := []) (args := [.slice a1 a0 a2]) (cast (by kernel_rfl) h)

end Go.Proofs.Ytoempemllkebkaa