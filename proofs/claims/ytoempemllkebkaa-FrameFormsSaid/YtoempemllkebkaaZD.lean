/- Frames: which are right, and which are the same. -/
import Derived.Test.YtoempemllkebkaaZB
import Derived.Test.YtoempemllkebkaaZC
import Derived.Test.YtoempemllkebkaaZA
import Derived.Recover
set_option linter.unusedVariables false
set_option linter.unusedSimpArgs false
set_option maxRecDepth 20000
set_option maxHeartbeats 4000000
namespace Go.Proofs.Ytoempemllkebkaa
open Go Go.Mx Go.Proofs
open W (OwnB Rd RdR GivesW numR countR doneR zig unzig intR)
def Q0T.M (aj ar av ay az aq : Int) (ap : Option Addr) (ao au : Nat) (ax : Int) (aw : Bool) (R : RW) (w : World) : Prop :=
 thenW (w.alloc (.cells #[.int .i64 aj, .int .i64 ar, .int .u64 av, .int .i64 ay, .int .i64 az, .int .i64 aq, .slice ap ao au, .int .u64 ax] 27)) fun an =>
 bif aw then (
 ∃ (a0 a3 ad ai af aa : Int) (a6 : Option Addr) (a9 a2 : Nat) (ag : Int), cellsAt an (blk w.heap.size) [.int .i64 a0, .int .i64 a3, .int .u64 ad, .int .i64 ai, .int .i64 af, .int .i64 aa, .slice a6 a9 a2, .int .u64 ag] 0 ∧
 Calls Try.prog 62 #[.agg #[.int .i64 a0, .int .i64 a3, .int .u64 ad, .int .i64 ai, .int .i64 af, .int .i64 aa, .slice a6 a9 a2, .int .u64 ag]] an fun b3 b1 => ∃ (ac : Bool), b3 = .returned (.bool ac) ∧
 R (.bool ac) b1) else (
 ∃ (a1 a4 ae al am a7 : Int) (a8 : Option Addr) (ab a5 : Nat) (ak : Int), cellsAt an (blk w.heap.size) [.int .i64 a1, .int .i64 a4, .int .u64 ae, .int .i64 al, .int .i64 am, .int .i64 a7, .slice a8 ab a5, .int .u64 ak] 0 ∧
 Calls Try.prog 30 #[.agg #[.int .i64 a1, .int .i64 a4, .int .u64 ae, .int .i64 al, .int .i64 am, .int .i64 a7, .slice a8 ab a5, .int .u64 ak], .agg #[.int .i64 0, .int .i64 0, .int .u64 0, .int .i64 0, .int .i64 0, .int .i64 0, .slice none 0 0, .int .u64 0]] an fun b0 b2 => ∃ (ah : Bool), b0 = .returned (.bool ah) ∧
 R (.bool ah) b2)

theorem Q0T.ok (a0 a2 a6 a8 a9 a1 : Int) (a5 : Option Addr) (a4 a3 : Nat) (aa : Int) (a7 : Bool) {R : RW} {w : World} (h : Q0T.M a0 a2 a6 a8 a9 a1 a5 a4 a3 aa a7 R w) : Calls Try.prog 37 #[.agg #[.int .i64 a0, .int .i64 a2, .int .u64 a6, .int .i64 a8, .int .i64 a9, .int .i64 a1, .slice a5 a4 a3, .int .u64 aa], .bool a7] w fun e w' => ∃ v, e = .returned v ∧ R v w' :=
  Q08 follows (H := []) (args := [.agg #[.int .i64 a0, .int .i64 a2, .int .u64 a6, .int .i64 a8, .int .i64 a9, .int .i64 a1, .slice a5 a4 a3, .int .u64 aa], .bool a7]) (cast (by kernel_rfl) h)

def Q0T.N (a0 a3 a7 a9 aa a2 : Int) (a5 : Option Addr) (a4 a1 : Nat) (ab : Int) (a6 : Bool) (R : RW) (w : World) : Prop :=
 (a6 = true →
 ∀ (ad : World), Ext no w ad →
 R (.bool (Q0f.F a0 a3 a7 a9 aa a2 a5 a4 a1 ab)) ad) ∧
 (a6 = false →
 ∀ (ac : World), Ext no w ac →
 Calls Try.prog 30 #[.agg #[.int .i64 a0, .int .i64 a3, .int .u64 a7, .int .i64 a9, .int .i64 aa, .int .i64 a2, .slice a5 a4 a1, .int .u64 ab], .agg #[.int .i64 0, .int .i64 0, .int .u64 0, .int .i64 0, .int .i64 0, .int .i64 0, .slice none 0 0, .int .u64 0]] ac fun af ae => ∃ (a8 : Bool), af = .returned (.bool a8) ∧
 R (.bool a8) ae)

theorem Q0T.up (a0 a4 a6 a8 a9 a3 : Int) (a2 : Option Addr) (a1 a5 : Nat) (a7 : Int) (ab : Bool) {R : RW} {w : World} (h : Q0T.N a0 a4 a6 a8 a9 a3 a2 a1 a5 a7 ab R w) : Q0T.M a0 a4 a6 a8 a9 a3 a2 a1 a5 a7 ab R w := by
  unfold Q0T.M
  unfold Q0T.N at h
  refine Q02 fun ae ah => ?_
  have aa := Blk.of_new ah
  have ak := ((Ext.refl no w)).size
  have ad := (Ext.refl no w).x_alloc ah
  refine bif_of (fun af => ?_) (fun af => ?_)
  ·have h := h.1 af
   refine ⟨a0, a4, a6, a8, a9, a3, a2, a1, a5, a7, ⟨aa.celli 0 rfl rfl, aa.celli 1 rfl rfl, aa.celli 2 rfl rfl, aa.celli 3 rfl rfl, aa.celli 4 rfl rfl, aa.celli 5 rfl rfl, aa.celli 6 rfl rfl, aa.celli 7 rfl rfl, trivial⟩, ?_⟩
   refine (Q0f.pure a0 a4 a6 a8 a9 a3 a2 a1 a5 a7).mono fun ee ww12 ⟨he, hxx⟩ => ⟨(Q0f.F a0 a4 a6 a8 a9 a3 a2 a1 a5 a7), he, ?_⟩
   have ag := ad.trans hxx
   have h := h ww12 ag
   exact h
  have h := h.2 af
  refine ⟨a0, a4, a6, a8, a9, a3, a2, a1, a5, a7, ⟨aa.celli 0 rfl rfl, aa.celli 1 rfl rfl, aa.celli 2 rfl rfl, aa.celli 3 rfl rfl, aa.celli 4 rfl rfl, aa.celli 5 rfl rfl, aa.celli 6 rfl rfl, aa.celli 7 rfl rfl, trivial⟩, ?_⟩
  have h := h ae ad
  refine h.mono fun aj ai h => ?_
  obtain ⟨ac, he, h⟩ := h
  refine ⟨ac, he, ?_⟩
  exact h

theorem Q0T.go (a0 a2 a6 a8 a9 a1 : Int) (a5 : Option Addr) (a4 a3 : Nat) (aa : Int) (a7 : Bool) {R : RW} {w : World} (h : Q0T.N a0 a2 a6 a8 a9 a1 a5 a4 a3 aa a7 R w) : Calls Try.prog 37 #[.agg #[.int .i64 a0, .int .i64 a2, .int .u64 a6, .int .i64 a8, .int .i64 a9, .int .i64 a1, .slice a5 a4 a3, .int .u64 aa], .bool a7] w fun e w' => ∃ v, e = .returned v ∧ R v w' := Q0T.ok a0 a2 a6 a8 a9 a1 a5 a4 a3 aa a7 (Q0T.up a0 a2 a6 a8 a9 a1 a5 a4 a3 aa a7 h)
theorem Q0T.run (a0 a2 a6 a8 a9 a1 : Int) (a5 : Option Addr) (a4 a3 : Nat) (aa : Int) (a7 : Bool) {V : Value} {Q : World → Prop} {w : World} (h : Q0T.N a0 a2 a6 a8 a9 a1 a5 a4 a3 aa a7 (fun v w' => v = V ∧ Q w') w) : Calls Try.prog 37 #[.agg #[.int .i64 a0, .int .i64 a2, .int .u64 a6, .int .i64 a8, .int .i64 a9, .int .i64 a1, .slice a5 a4 a3, .int .u64 aa], .bool a7] w (Ret V Q) := (Q0T.go a0 a2 a6 a8 a9 a1 a5 a4 a3 aa a7 h).mono fun e w' ⟨v, he, hv, hq⟩ => ⟨by rw [he, hv], hq⟩

def Q0R.M (cx b5 c0 c7 ct cw bb : Int) (bd : Option Addr) (bu bi : Nat) (cu aq b1 bo c6 c4 b3 : Int) (b2 : Option Addr) (b4 b0 : Nat) (c5 cs : Int) (d8 : Option Addr) (dc d3 : Nat) (cv : Int) (R : RW) (w : World) : Prop :=
 thenW (w.alloc (.cells #[.int .i64 cx, .int .i64 b5, .int .i64 c0, .int .u64 c7, .int .i64 ct, .int .i64 cw, .int .i64 bb, .slice bd bu bi, .int .u64 cu, .int .i64 aq, .int .i64 b1, .int .u64 bo, .int .i64 c6, .int .i64 c4, .int .i64 b3, .slice b2 b4 b0, .int .u64 c5, .int .i64 cs, .slice d8 dc d3, .int .u64 cv] 38)) fun aa =>
 ∃ (c1 : Int), aa.cell? ((blk w.heap.size).add 0) = some (.int .i64 c1) ∧
 bif decide (c1 < 1) then (
 R (.bool false) aa) else (
 ∃ (c2 : Int), aa.cell? ((blk w.heap.size).add 0) = some (.int .i64 c2) ∧
 bif decide (c2 > 4) then (
 R (.bool false) aa) else (
 ∃ (a2 a6 ab ao ar a4 : Int) (a7 : Option Addr) (a5 a3 : Nat) (ap : Int), cellsAt aa ((blk w.heap.size).add 1) [.int .i64 a2, .int .i64 a6, .int .u64 ab, .int .i64 ao, .int .i64 ar, .int .i64 a4, .slice a7 a5 a3, .int .u64 ap] 0 ∧
 ∃ (br : Int), aa.cell? ((blk w.heap.size).add 0) = some (.int .i64 br) ∧
 bif br == 1 then (
 Calls Try.prog 37 #[.agg #[.int .i64 a2, .int .i64 a6, .int .u64 ab, .int .i64 ao, .int .i64 ar, .int .i64 a4, .slice a7 a5 a3, .int .u64 ap], .bool true] aa fun dj c8 => ∃ (bz : Bool), dj = .returned (.bool bz) ∧
 bif !bz then (
 R (.bool false) c8) else (
 ∃ (a8 aj au bw bj ak : Int) (af : Option Addr) (ah am : Nat) (bh : Int), cellsAt c8 ((blk w.heap.size).add 9) [.int .i64 a8, .int .i64 aj, .int .u64 au, .int .i64 bw, .int .i64 bj, .int .i64 ak, .slice af ah am, .int .u64 bh] 0 ∧
 ∃ (bp : Int), c8.cell? ((blk w.heap.size).add 0) = some (.int .i64 bp) ∧
 Calls Try.prog 37 #[.agg #[.int .i64 a8, .int .i64 aj, .int .u64 au, .int .i64 bw, .int .i64 bj, .int .i64 ak, .slice af ah am, .int .u64 bh], .bool (bp == 4)] c8 fun dm a1 => ∃ (bc : Bool), dm = .returned (.bool bc) ∧
 bif !bc then (
 R (.bool false) a1) else (
 ∃ (bm : Int), a1.cell? ((blk w.heap.size).add 0) = some (.int .i64 bm) ∧
 bif bm != 2 then (
 ∃ (bg : Int), a1.cell? ((blk w.heap.size).add 0) = some (.int .i64 bg) ∧
 bif bg != 3 then (
 ∃ (cg : Int), a1.cell? ((blk w.heap.size).add 17) = some (.int .i64 cg) ∧
 bif cg == 0 then (
 ∃ (dd : Option Addr) (d2 df : Nat), a1.cell? ((blk w.heap.size).add 18) = some (.slice dd d2 df) ∧
 bif (d2 : Int) == 0 then (
 ∃ (ci : Int), a1.cell? ((blk w.heap.size).add 19) = some (.int .u64 ci) ∧
 R (.bool (ci == 0)) a1) else (
 R (.bool false) a1)) else (
 R (.bool false) a1)) else (
 ∃ (cp : Int), a1.cell? ((blk w.heap.size).add 17) = some (.int .i64 cp) ∧
 bif decide (cp ≥ 0) then (
 ∃ (cr : Int), a1.cell? ((blk w.heap.size).add 17) = some (.int .i64 cr) ∧
 bif decide (cr < 8) then (
 ∃ (d6 : Option Addr) (cy d9 : Nat), a1.cell? ((blk w.heap.size).add 18) = some (.slice d6 cy d9) ∧
 Calls Try.prog 38 #[.slice d6 cy d9] a1 fun dh b9 => ∃ (ay : Bool), dh = .returned (.bool ay) ∧
 bif ay then (
 ∃ (b8 : Int), b9.cell? ((blk w.heap.size).add 0) = some (.int .i64 b8) ∧
 bif b8 == 3 then (
 R (.bool true) b9) else (
 ∃ (cc : Int), b9.cell? ((blk w.heap.size).add 19) = some (.int .u64 cc) ∧
 R (.bool (cc == 0)) b9)) else (
 R (.bool false) b9)) else (
 R (.bool false) a1)) else (
 R (.bool false) a1))) else (
 ∃ (cj : Int), a1.cell? ((blk w.heap.size).add 17) = some (.int .i64 cj) ∧
 bif decide (cj ≥ 0) then (
 ∃ (co : Int), a1.cell? ((blk w.heap.size).add 17) = some (.int .i64 co) ∧
 bif decide (co < 8) then (
 ∃ (d4 : Option Addr) (d5 db : Nat), a1.cell? ((blk w.heap.size).add 18) = some (.slice d4 d5 db) ∧
 Calls Try.prog 38 #[.slice d4 d5 db] a1 fun dg bf => ∃ (ax : Bool), dg = .returned (.bool ax) ∧
 bif ax then (
 ∃ (bv : Int), bf.cell? ((blk w.heap.size).add 0) = some (.int .i64 bv) ∧
 bif bv == 3 then (
 R (.bool true) bf) else (
 ∃ (ck : Int), bf.cell? ((blk w.heap.size).add 19) = some (.int .u64 ck) ∧
 R (.bool (ck == 0)) bf)) else (
 R (.bool false) bf)) else (
 R (.bool false) a1)) else (
 R (.bool false) a1))))) else (
 ∃ (c3 : Int), aa.cell? ((blk w.heap.size).add 0) = some (.int .i64 c3) ∧
 Calls Try.prog 37 #[.agg #[.int .i64 a2, .int .i64 a6, .int .u64 ab, .int .i64 ao, .int .i64 ar, .int .i64 a4, .slice a7 a5 a3, .int .u64 ap], .bool (c3 == 4)] aa fun dk c9 => ∃ (bq : Bool), dk = .returned (.bool bq) ∧
 bif !bq then (
 R (.bool false) c9) else (
 ∃ (a9 ag aw b7 bs ac : Int) (ae : Option Addr) (ad ai : Nat) (bn : Int), cellsAt c9 ((blk w.heap.size).add 9) [.int .i64 a9, .int .i64 ag, .int .u64 aw, .int .i64 b7, .int .i64 bs, .int .i64 ac, .slice ae ad ai, .int .u64 bn] 0 ∧
 ∃ (bx : Int), c9.cell? ((blk w.heap.size).add 0) = some (.int .i64 bx) ∧
 Calls Try.prog 37 #[.agg #[.int .i64 a9, .int .i64 ag, .int .u64 aw, .int .i64 b7, .int .i64 bs, .int .i64 ac, .slice ae ad ai, .int .u64 bn], .bool (bx == 4)] c9 fun di a0 => ∃ (bl : Bool), di = .returned (.bool bl) ∧
 bif !bl then (
 R (.bool false) a0) else (
 ∃ (bk : Int), a0.cell? ((blk w.heap.size).add 0) = some (.int .i64 bk) ∧
 bif bk != 2 then (
 ∃ (b6 : Int), a0.cell? ((blk w.heap.size).add 0) = some (.int .i64 b6) ∧
 bif b6 != 3 then (
 ∃ (cb : Int), a0.cell? ((blk w.heap.size).add 17) = some (.int .i64 cb) ∧
 bif cb == 0 then (
 ∃ (dl : Option Addr) (cz dn : Nat), a0.cell? ((blk w.heap.size).add 18) = some (.slice dl cz dn) ∧
 bif (cz : Int) == 0 then (
 ∃ (cf : Int), a0.cell? ((blk w.heap.size).add 19) = some (.int .u64 cf) ∧
 R (.bool (cf == 0)) a0) else (
 R (.bool false) a0)) else (
 R (.bool false) a0)) else (
 ∃ (cm : Int), a0.cell? ((blk w.heap.size).add 17) = some (.int .i64 cm) ∧
 bif decide (cm ≥ 0) then (
 ∃ (ce : Int), a0.cell? ((blk w.heap.size).add 17) = some (.int .i64 ce) ∧
 bif decide (ce < 8) then (
 ∃ (da : Option Addr) (d0 d7 : Nat), a0.cell? ((blk w.heap.size).add 18) = some (.slice da d0 d7) ∧
 Calls Try.prog 38 #[.slice da d0 d7] a0 fun de bt => ∃ (av : Bool), de = .returned (.bool av) ∧
 bif av then (
 ∃ (be : Int), bt.cell? ((blk w.heap.size).add 0) = some (.int .i64 be) ∧
 bif be == 3 then (
 R (.bool true) bt) else (
 ∃ (cl : Int), bt.cell? ((blk w.heap.size).add 19) = some (.int .u64 cl) ∧
 R (.bool (cl == 0)) bt)) else (
 R (.bool false) bt)) else (
 R (.bool false) a0)) else (
 R (.bool false) a0))) else (
 ∃ (cd : Int), a0.cell? ((blk w.heap.size).add 17) = some (.int .i64 cd) ∧
 bif decide (cd ≥ 0) then (
 ∃ (cq : Int), a0.cell? ((blk w.heap.size).add 17) = some (.int .i64 cq) ∧
 bif decide (cq < 8) then (
 ∃ (ca : Option Addr) (ch cn : Nat), a0.cell? ((blk w.heap.size).add 18) = some (.slice ca ch cn) ∧
 Calls Try.prog 38 #[.slice ca ch cn] a0 fun d1 an => ∃ (al : Bool), d1 = .returned (.bool al) ∧
 bif al then (
 ∃ (az : Int), an.cell? ((blk w.heap.size).add 0) = some (.int .i64 az) ∧
 bif az == 3 then (
 R (.bool true) an) else (
 ∃ (ba : Int), an.cell? ((blk w.heap.size).add 19) = some (.int .u64 ba) ∧
 R (.bool (ba == 0)) an)) else (
 R (.bool false) an)) else (
 R (.bool false) a0)) else (
 R (.bool false) a0)))))))

theorem Q0R.ok (am a6 ab ad ai ak aa : Int) (ac : Option Addr) (a7 a9 : Nat) (al a0 a5 a8 ag ae a4 : Int) (a1 : Option Addr) (a3 a2 : Nat) (af ah : Int) (an : Option Addr) (ao ap : Nat) (aj : Int) {R : RW} {w : World} (h : Q0R.M am a6 ab ad ai ak aa ac a7 a9 al a0 a5 a8 ag ae a4 a1 a3 a2 af ah an ao ap aj R w) : Calls Try.prog 16 #[.agg #[.int .i64 am, .int .i64 a6, .int .i64 ab, .int .u64 ad, .int .i64 ai, .int .i64 ak, .int .i64 aa, .slice ac a7 a9, .int .u64 al, .int .i64 a0, .int .i64 a5, .int .u64 a8, .int .i64 ag, .int .i64 ae, .int .i64 a4, .slice a1 a3 a2, .int .u64 af, .int .i64 ah, .slice an ao ap, .int .u64 aj]] w fun e w' => ∃ v, e = .returned v ∧ R v w' :=
  Q08 follows (H := []) (args := [.agg #[.int .i64 am, .int .i64 a6, .int .i64 ab, .int .u64 ad, .int .i64 ai, .int .i64 ak, .int .i64 aa, .slice ac a7 a9, .int .u64 al, .int .i64 a0, .int .i64 a5, .int .u64 a8, .int .i64 ag, .int .i64 ae, .int .i64 a4, .slice a1 a3 a2, .int .u64 af, .int .i64 ah, .slice an ao ap, .int .u64 aj]]) (cast (by kernel_rfl) h)

def Q0R.N (a0 ab ai ap aw ax ah : Int) (aj : Option Addr) (ae ag : Nat) (ay a4 a9 af au aq a8 : Int) (a5 : Option Addr) (a7 a6 : Nat) (ar a1 : Int) (b1 : Option Addr) (aa b2 : Nat) (al : Int) (R : RW) (w : World) : Prop :=
 (a0 < 1 →
 ∀ (a2 : World), Ext no w a2 →
 R (.bool false) a2) ∧
 ((1 : Int) ≤ a0 →
 (a0 > 4 →
 ∀ (a2 : World), Ext no w a2 →
 R (.bool false) a2) ∧
 (a0 ≤ 4 →
 (a0 = 1 →
 ∀ (a2 : World) (bc : Nat), Ext no w a2 → Priv w a2 [bc] →
 Calls Try.prog 37 #[.agg #[.int .i64 ab, .int .i64 ai, .int .u64 ap, .int .i64 aw, .int .i64 ax, .int .i64 ah, .slice aj ae ag, .int .u64 ay], .bool true] a2 fun b6 az => ∃ (ao : Bool), b6 = .returned (.bool ao) ∧
 Keep [bc] a2 az ∧
 (ao = false →
 R (.bool false) az) ∧
 (ao = true →
 Calls Try.prog 37 #[.agg #[.int .i64 a4, .int .i64 a9, .int .u64 af, .int .i64 au, .int .i64 aq, .int .i64 a8, .slice a5 a7 a6, .int .u64 ar], .bool (a0 == 4)] az fun bb av => ∃ (am : Bool), bb = .returned (.bool am) ∧
 Keep [bc] az av ∧
 (am = false →
 R (.bool false) av) ∧
 (am = true →
 (a1 = 0 →
 ((aa : Int) = 0 →
 R (.bool (al == 0)) av) ∧
 ((aa : Int) ≠ 0 →
 R (.bool false) av)) ∧
 (a1 ≠ 0 →
 R (.bool false) av)))) ∧
 (a0 ≠ 1 →
 ∀ (a2 : World) (b5 : Nat), Ext no w a2 → Priv w a2 [b5] →
 Calls Try.prog 37 #[.agg #[.int .i64 ab, .int .i64 ai, .int .u64 ap, .int .i64 aw, .int .i64 ax, .int .i64 ah, .slice aj ae ag, .int .u64 ay], .bool (a0 == 4)] a2 fun b8 b0 => ∃ (an : Bool), b8 = .returned (.bool an) ∧
 Keep [b5] a2 b0 ∧
 (an = false →
 R (.bool false) b0) ∧
 (an = true →
 Calls Try.prog 37 #[.agg #[.int .i64 a4, .int .i64 a9, .int .u64 af, .int .i64 au, .int .i64 aq, .int .i64 a8, .slice a5 a7 a6, .int .u64 ar], .bool (a0 == 4)] b0 fun b7 a3 => ∃ (ak : Bool), b7 = .returned (.bool ak) ∧
 Keep [b5] b0 a3 ∧
 (ak = false →
 R (.bool false) a3) ∧
 (ak = true →
 (a0 ≠ 2 →
 (a0 ≠ 3 →
 (a1 = 0 →
 ((aa : Int) = 0 →
 R (.bool (al == 0)) a3) ∧
 ((aa : Int) ≠ 0 →
 R (.bool false) a3)) ∧
 (a1 ≠ 0 →
 R (.bool false) a3)) ∧
 (a0 = 3 →
 (a1 ≥ 0 →
 (a1 < 8 →
 Calls Try.prog 38 #[.slice b1 aa b2] a3 fun ba b4 => ∃ (ad : Bool), ba = .returned (.bool ad) ∧
 Keep [b5] a3 b4 ∧
 (ad = true →
 R (.bool true) b4) ∧
 (ad = false →
 R (.bool false) b4)) ∧
 ((8 : Int) ≤ a1 →
 R (.bool false) a3)) ∧
 (a1 < 0 →
 R (.bool false) a3))) ∧
 (a0 = 2 →
 (a1 ≥ 0 →
 (a1 < 8 →
 Calls Try.prog 38 #[.slice b1 aa b2] a3 fun b9 b3 => ∃ (ac : Bool), b9 = .returned (.bool ac) ∧
 Keep [b5] a3 b3 ∧
 (ac = true →
 R (.bool (al == 0)) b3) ∧
 (ac = false →
 R (.bool false) b3)) ∧
 ((8 : Int) ≤ a1 →
 R (.bool false) a3)) ∧
 (a1 < 0 →
 R (.bool false) a3)))))))

theorem Q0R.up (a1 aa ai an ao ap ah : Int) (aj : Option Addr) (ae ag : Nat) (aq a2 a8 a9 ad ab a7 : Int) (a4 : Option Addr) (a6 a5 : Nat) (ac a3 : Int) (ak : Option Addr) (al am : Nat) (af : Int) {R : RW} {w : World} (h : Q0R.N a1 aa ai an ao ap ah aj ae ag aq a2 a8 a9 ad ab a7 a4 a6 a5 ac a3 ak al am af R w) : Q0R.M a1 aa ai an ao ap ah aj ae ag aq a2 a8 a9 ad ab a7 a4 a6 a5 ac a3 ak al am af R w := by
  unfold Q0R.M
  unfold Q0R.N at h
  refine Q02 fun aw bk => ?_
  have a0 := Blk.of_new bk
  have bl := ((Ext.refl no w)).size
  have ar := (Ext.refl no w).x_alloc bk
  refine ⟨a1, a0.celli 0 rfl rfl, ?_⟩
  refine bif_of (fun bj => ?_) (fun bj => ?_)
  ·have h := h.1 (of_decide_eq_true bj)
   have h := h aw ar
   exact h
  have h := h.2 (Int.not_lt.1 (of_decide_eq_false bj))
  refine ⟨a1, a0.celli 0 rfl rfl, ?_⟩
  refine bif_of (fun b7 => ?_) (fun b7 => ?_)
  ·have h := h.1 (of_decide_eq_true b7)
   have h := h aw ar
   exact h
  have h := h.2 (Int.not_lt.1 (of_decide_eq_false b7))
  refine ⟨aa, ai, an, ao, ap, ah, aj, ae, ag, aq, ⟨a0.celli 1 rfl rfl, a0.celli 2 rfl rfl, a0.celli 3 rfl rfl, a0.celli 4 rfl rfl, a0.celli 5 rfl rfl, a0.celli 6 rfl rfl, a0.celli 7 rfl rfl, a0.celli 8 rfl rfl, trivial⟩, ?_⟩
  refine ⟨a1, a0.celli 0 rfl rfl, ?_⟩
  refine bif_of (fun b1 => ?_) (fun b1 => ?_)
  ·have h := h.1 (beq_t b1)
   have h := h aw (w.heap.size) ar (Priv.cons bl a0.lt Priv.nil)
   refine h.mono fun bm bo h => ?_
   obtain ⟨b0, he, hk, h⟩ := h
   refine ⟨b0, he, ?_⟩
   have a0 := hk.blk a0 (by simp)
   refine bif_of (fun be => ?_) (fun be => ?_)
   ·have h := h.1 (not_t be)
    exact h
   have h := h.2 (not_f be)
   refine ⟨a2, a8, a9, ad, ab, a7, a4, a6, a5, ac, ⟨a0.celli 9 rfl rfl, a0.celli 10 rfl rfl, a0.celli 11 rfl rfl, a0.celli 12 rfl rfl, a0.celli 13 rfl rfl, a0.celli 14 rfl rfl, a0.celli 15 rfl rfl, a0.celli 16 rfl rfl, trivial⟩, ?_⟩
   refine ⟨a1, a0.celli 0 rfl rfl, ?_⟩
   refine h.mono fun bw bn h => ?_
   obtain ⟨ay, he, hk, h⟩ := h
   refine ⟨ay, he, ?_⟩
   have a0 := hk.blk a0 (by simp)
   refine bif_of (fun bf => ?_) (fun bf => ?_)
   ·have h := h.1 (not_t bf)
    exact h
   have h := h.2 (not_f bf)
   refine ⟨a1, a0.celli 0 rfl rfl, ?_⟩
   refine bif_tt (cong1 (r := true) (fun z => z != 2) (beq_t b1) (by decide)) ?_
   refine ⟨a1, a0.celli 0 rfl rfl, ?_⟩
   refine bif_tt (cong1 (r := true) (fun z => z != 3) (beq_t b1) (by decide)) ?_
   refine ⟨a3, a0.celli 17 rfl rfl, ?_⟩
   refine bif_fo (fun b5 => ?_) (fun b5 => ?_)
   ·have h := h.2 (beq_f b5)
    exact h
   have h := h.1 (beq_t b5)
   refine ⟨ak, al, am, a0.celli 18 rfl rfl, ?_⟩
   refine bif_fo (fun bi => ?_) (fun bi => ?_)
   ·have h := h.2 (beq_f bi)
    exact h
   have h := h.1 (beq_t bi)
   refine ⟨af, a0.celli 19 rfl rfl, ?_⟩
   exact h
  have h := h.2 (beq_f b1)
  refine ⟨a1, a0.celli 0 rfl rfl, ?_⟩
  have h := h aw (w.heap.size) ar (Priv.cons bl a0.lt Priv.nil)
  refine h.mono fun bs br h => ?_
  obtain ⟨az, he, hk, h⟩ := h
  refine ⟨az, he, ?_⟩
  have a0 := hk.blk a0 (by simp)
  refine bif_of (fun bc => ?_) (fun bc => ?_)
  ·have h := h.1 (not_t bc)
   exact h
  have h := h.2 (not_f bc)
  refine ⟨a2, a8, a9, ad, ab, a7, a4, a6, a5, ac, ⟨a0.celli 9 rfl rfl, a0.celli 10 rfl rfl, a0.celli 11 rfl rfl, a0.celli 12 rfl rfl, a0.celli 13 rfl rfl, a0.celli 14 rfl rfl, a0.celli 15 rfl rfl, a0.celli 16 rfl rfl, trivial⟩, ?_⟩
  refine ⟨a1, a0.celli 0 rfl rfl, ?_⟩
  refine h.mono fun bq bx h => ?_
  obtain ⟨ax, he, hk, h⟩ := h
  refine ⟨ax, he, ?_⟩
  have a0 := hk.blk a0 (by simp)
  refine bif_of (fun bd => ?_) (fun bd => ?_)
  ·have h := h.1 (not_t bd)
   exact h
  have h := h.2 (not_f bd)
  refine ⟨a1, a0.celli 0 rfl rfl, ?_⟩
  refine bif_fo (fun b2 => ?_) (fun b2 => ?_)
  ·have h := h.2 (bne_f b2)
   refine ⟨a3, a0.celli 17 rfl rfl, ?_⟩
   refine bif_fo (fun ba => ?_) (fun ba => ?_)
   ·have h := h.2 (Int.not_le.1 (of_decide_eq_false ba))
    exact h
   have h := h.1 (of_decide_eq_true ba)
   refine ⟨a3, a0.celli 17 rfl rfl, ?_⟩
   refine bif_fo (fun bh => ?_) (fun bh => ?_)
   ·have h := h.2 (Int.not_lt.1 (of_decide_eq_false bh))
    exact h
   have h := h.1 (of_decide_eq_true bh)
   refine ⟨ak, al, am, a0.celli 18 rfl rfl, ?_⟩
   refine h.mono fun bt bp h => ?_
   obtain ⟨au, he, hk, h⟩ := h
   refine ⟨au, he, ?_⟩
   have a0 := hk.blk a0 (by simp)
   refine bif_fo (fun bb => ?_) (fun bb => ?_)
   ·have h := h.2 bb
    exact h
   have h := h.1 bb
   refine ⟨a1, a0.celli 0 rfl rfl, ?_⟩
   refine bif_ff (cong1 (r := false) (fun z => z == 3) (bne_f b2) (by decide)) ?_
   refine ⟨af, a0.celli 19 rfl rfl, ?_⟩
   exact h
  have h := h.1 (bne_t b2)
  refine ⟨a1, a0.celli 0 rfl rfl, ?_⟩
  refine bif_of (fun b3 => ?_) (fun b3 => ?_)
  ·have h := h.1 (bne_t b3)
   refine ⟨a3, a0.celli 17 rfl rfl, ?_⟩
   refine bif_fo (fun b6 => ?_) (fun b6 => ?_)
   ·have h := h.2 (beq_f b6)
    exact h
   have h := h.1 (beq_t b6)
   refine ⟨ak, al, am, a0.celli 18 rfl rfl, ?_⟩
   refine bif_fo (fun b9 => ?_) (fun b9 => ?_)
   ·have h := h.2 (beq_f b9)
    exact h
   have h := h.1 (beq_t b9)
   refine ⟨af, a0.celli 19 rfl rfl, ?_⟩
   exact h
  have h := h.2 (bne_f b3)
  refine ⟨a3, a0.celli 17 rfl rfl, ?_⟩
  refine bif_fo (fun b8 => ?_) (fun b8 => ?_)
  ·have h := h.2 (Int.not_le.1 (of_decide_eq_false b8))
   exact h
  have h := h.1 (of_decide_eq_true b8)
  refine ⟨a3, a0.celli 17 rfl rfl, ?_⟩
  refine bif_fo (fun b4 => ?_) (fun b4 => ?_)
  ·have h := h.2 (Int.not_lt.1 (of_decide_eq_false b4))
   exact h
  have h := h.1 (of_decide_eq_true b4)
  refine ⟨ak, al, am, a0.celli 18 rfl rfl, ?_⟩
  refine h.mono fun bu bv h => ?_
  obtain ⟨av, he, hk, h⟩ := h
  refine ⟨av, he, ?_⟩
  have a0 := hk.blk a0 (by simp)
  refine bif_fo (fun bg => ?_) (fun bg => ?_)
  ·have h := h.2 bg
   exact h
  have h := h.1 bg
  refine ⟨a1, a0.celli 0 rfl rfl, ?_⟩
  refine bif_tt (cong1 (r := true) (fun z => z == 3) (bne_f b3) (by decide)) ?_
  exact h

theorem Q0R.go (am a6 ab ad ai ak aa : Int) (ac : Option Addr) (a7 a9 : Nat) (al a0 a5 a8 ag ae a4 : Int) (a1 : Option Addr) (a3 a2 : Nat) (af ah : Int) (an : Option Addr) (ao ap : Nat) (aj : Int) {R : RW} {w : World} (h : Q0R.N am a6 ab ad ai ak aa ac a7 a9 al a0 a5 a8 ag ae a4 a1 a3 a2 af ah an ao ap aj R w) : Calls Try.prog 16 #[.agg #[.int .i64 am, .int .i64 a6, .int .i64 ab, .int .u64 ad, .int .i64 ai, .int .i64 ak, .int .i64 aa, .slice ac a7 a9, .int .u64 al, .int .i64 a0, .int .i64 a5, .int .u64 a8, .int .i64 ag, .int .i64 ae, .int .i64 a4, .slice a1 a3 a2, .int .u64 af, .int .i64 ah, .slice an ao ap, .int .u64 aj]] w fun e w' => ∃ v, e = .returned v ∧ R v w' := Q0R.ok am a6 ab ad ai ak aa ac a7 a9 al a0 a5 a8 ag ae a4 a1 a3 a2 af ah an ao ap aj (Q0R.up am a6 ab ad ai ak aa ac a7 a9 al a0 a5 a8 ag ae a4 a1 a3 a2 af ah an ao ap aj h)
theorem Q0R.run (am a6 ab ad ai ak aa : Int) (ac : Option Addr) (a7 a9 : Nat) (al a0 a5 a8 ag ae a4 : Int) (a1 : Option Addr) (a3 a2 : Nat) (af ah : Int) (an : Option Addr) (ao ap : Nat) (aj : Int) {V : Value} {Q : World → Prop} {w : World} (h : Q0R.N am a6 ab ad ai ak aa ac a7 a9 al a0 a5 a8 ag ae a4 a1 a3 a2 af ah an ao ap aj (fun v w' => v = V ∧ Q w') w) : Calls Try.prog 16 #[.agg #[.int .i64 am, .int .i64 a6, .int .i64 ab, .int .u64 ad, .int .i64 ai, .int .i64 ak, .int .i64 aa, .slice ac a7 a9, .int .u64 al, .int .i64 a0, .int .i64 a5, .int .u64 a8, .int .i64 ag, .int .i64 ae, .int .i64 a4, .slice a1 a3 a2, .int .u64 af, .int .i64 ah, .slice an ao ap, .int .u64 aj]] w (Ret V Q) := (Q0R.go am a6 ab ad ai ak aa ac a7 a9 al a0 a5 a8 ag ae a4 a1 a3 a2 af ah an ao ap aj h).mono fun e w' ⟨v, he, hv, hq⟩ => ⟨by rw [he, hv], hq⟩

def Q0q.M (aa af ah aj ak ae : Int) (ad : Option Addr) (ac ag : Nat) (ai : Int) (R : RW) (w : World) : Prop :=
 thenW (w.alloc (.cells #[.int .i64 aa, .int .i64 af, .int .u64 ah, .int .i64 aj, .int .i64 ak, .int .i64 ae, .slice ad ac ag, .int .u64 ai] 27)) fun an =>
 ∃ (a0 a5 a6 ab a9 a2 : Int) (a1 : Option Addr) (a3 a4 : Nat) (a7 : Int), cellsAt an (blk w.heap.size) [.int .i64 a0, .int .i64 a5, .int .u64 a6, .int .i64 ab, .int .i64 a9, .int .i64 a2, .slice a1 a3 a4, .int .u64 a7] 0 ∧
 Calls Try.prog 35 #[.agg #[.int .i64 a0, .int .i64 a5, .int .u64 a6, .int .i64 ab, .int .i64 a9, .int .i64 a2, .slice a1 a3 a4, .int .u64 a7], .agg #[.int .i64 0, .int .i64 0, .int .u64 0, .int .i64 0, .int .i64 0, .int .i64 0, .slice none 0 0, .int .u64 0]] an fun al am => ∃ (a8 : Bool), al = .returned (.bool a8) ∧
 R (.bool a8) am

theorem Q0q.ok (a0 a2 a6 a7 a8 a1 : Int) (a5 : Option Addr) (a4 a3 : Nat) (a9 : Int) {R : RW} {w : World} (h : Q0q.M a0 a2 a6 a7 a8 a1 a5 a4 a3 a9 R w) : Calls Try.prog 50 #[.agg #[.int .i64 a0, .int .i64 a2, .int .u64 a6, .int .i64 a7, .int .i64 a8, .int .i64 a1, .slice a5 a4 a3, .int .u64 a9]] w fun e w' => ∃ v, e = .returned v ∧ R v w' :=
  Q08 follows (H := []) (args := [.agg #[.int .i64 a0, .int .i64 a2, .int .u64 a6, .int .i64 a7, .int .i64 a8, .int .i64 a1, .slice a5 a4 a3, .int .u64 a9]]) (cast (by kernel_rfl) h)

def Q0q.N (a1 a3 a7 a8 a9 a2 : Int) (a6 : Option Addr) (a5 a4 : Nat) (aa : Int) (R : RW) (w : World) : Prop :=
 ∀ (ad : World), Ext no w ad →
 Calls Try.prog 35 #[.agg #[.int .i64 a1, .int .i64 a3, .int .u64 a7, .int .i64 a8, .int .i64 a9, .int .i64 a2, .slice a6 a5 a4, .int .u64 aa], .agg #[.int .i64 0, .int .i64 0, .int .u64 0, .int .i64 0, .int .i64 0, .int .i64 0, .slice none 0 0, .int .u64 0]] ad fun ac ab => ∃ (a0 : Bool), ac = .returned (.bool a0) ∧
 R (.bool a0) ab

theorem Q0q.up (a0 a2 a6 a7 a8 a1 : Int) (a5 : Option Addr) (a4 a3 : Nat) (a9 : Int) {R : RW} {w : World} (h : Q0q.N a0 a2 a6 a7 a8 a1 a5 a4 a3 a9 R w) : Q0q.M a0 a2 a6 a7 a8 a1 a5 a4 a3 a9 R w := by
  unfold Q0q.M
  unfold Q0q.N at h
  refine Q02 fun ae e9 => ?_
  have aa := Blk.of_new e9
  have ag := ((Ext.refl no w)).size
  have ac := (Ext.refl no w).x_alloc e9
  refine ⟨a0, a2, a6, a7, a8, a1, a5, a4, a3, a9, ⟨aa.celli 0 rfl rfl, aa.celli 1 rfl rfl, aa.celli 2 rfl rfl, aa.celli 3 rfl rfl, aa.celli 4 rfl rfl, aa.celli 5 rfl rfl, aa.celli 6 rfl rfl, aa.celli 7 rfl rfl, trivial⟩, ?_⟩
  have h := h ae ac
  refine h.mono fun af ad h => ?_
  obtain ⟨ab, he, h⟩ := h
  refine ⟨ab, he, ?_⟩
  exact h

theorem Q0q.go (a0 a2 a6 a7 a8 a1 : Int) (a5 : Option Addr) (a4 a3 : Nat) (a9 : Int) {R : RW} {w : World} (h : Q0q.N a0 a2 a6 a7 a8 a1 a5 a4 a3 a9 R w) : Calls Try.prog 50 #[.agg #[.int .i64 a0, .int .i64 a2, .int .u64 a6, .int .i64 a7, .int .i64 a8, .int .i64 a1, .slice a5 a4 a3, .int .u64 a9]] w fun e w' => ∃ v, e = .returned v ∧ R v w' := Q0q.ok a0 a2 a6 a7 a8 a1 a5 a4 a3 a9 (Q0q.up a0 a2 a6 a7 a8 a1 a5 a4 a3 a9 h)
theorem Q0q.run (a0 a2 a6 a7 a8 a1 : Int) (a5 : Option Addr) (a4 a3 : Nat) (a9 : Int) {V : Value} {Q : World → Prop} {w : World} (h : Q0q.N a0 a2 a6 a7 a8 a1 a5 a4 a3 a9 (fun v w' => v = V ∧ Q w') w) : Calls Try.prog 50 #[.agg #[.int .i64 a0, .int .i64 a2, .int .u64 a6, .int .i64 a7, .int .i64 a8, .int .i64 a1, .slice a5 a4 a3, .int .u64 a9]] w (Ret V Q) := (Q0q.go a0 a2 a6 a7 a8 a1 a5 a4 a3 a9 h).mono fun e w' ⟨v, he, hv, hq⟩ => ⟨by rw [he, hv], hq⟩

abbrev Q04.J1 (cr : Bool) (a2 : Addr) (R : RW) (bs : World) : Prop :=
 ∃ (c4 : Int), bs.cell? (a2.add 0) = some (.int .i64 c4) ∧
 bif decide (c4 < 1) then (
 R (.bool false) bs) else (
 ∃ (bi : Int), bs.cell? (a2.add 0) = some (.int .i64 bi) ∧
 bif decide (bi > 4) then (
 R (.bool false) bs) else (
 ∃ (a4 au ay br bq ak : Int) (ar : Option Addr) (ah ai : Nat) (bn : Int), cellsAt bs (a2.add 1) [.int .i64 a4, .int .i64 au, .int .u64 ay, .int .i64 br, .int .i64 bq, .int .i64 ak, .slice ar ah ai, .int .u64 bn] 0 ∧
 Calls Try.prog 49 #[.agg #[.int .i64 a4, .int .i64 au, .int .u64 ay, .int .i64 br, .int .i64 bq, .int .i64 ak, .slice ar ah ai, .int .u64 bn]] bs fun co a0 => ∃ (b8 : Bool), co = .returned (.bool b8) ∧
 bif !b8 then (
 R (.bool false) a0) else (
 bif cr then (
 ∃ (a3 ad b5 bf bl aq : Int) (ao : Option Addr) (an ae : Nat) (bd : Int), cellsAt a0 (a2.add 9) [.int .i64 a3, .int .i64 ad, .int .u64 b5, .int .i64 bf, .int .i64 bl, .int .i64 aq, .slice ao an ae, .int .u64 bd] 0 ∧
 Calls Try.prog 49 #[.agg #[.int .i64 a3, .int .i64 ad, .int .u64 b5, .int .i64 bf, .int .i64 bl, .int .i64 aq, .slice ao an ae, .int .u64 bd]] a0 fun cq a1 => ∃ (b4 : Bool), cq = .returned (.bool b4) ∧
 bif !b4 then (
 R (.bool false) a1) else (
 bif !cr then (
 ∃ (a6 a9 ba bb bh af : Int) (ab : Option Addr) (aj am : Nat) (bp : Int), cellsAt a1 (a2.add 9) [.int .i64 a6, .int .i64 a9, .int .u64 ba, .int .i64 bb, .int .i64 bh, .int .i64 af, .slice ab aj am, .int .u64 bp] 0 ∧
 Calls Try.prog 50 #[.agg #[.int .i64 a6, .int .i64 a9, .int .u64 ba, .int .i64 bb, .int .i64 bh, .int .i64 af, .slice ab aj am, .int .u64 bp]] a1 fun cl a7 => ∃ (b3 : Bool), cl = .returned (.bool b3) ∧
 bif !b3 then (
 R (.bool false) a7) else (
 ∃ (c1 : Int), a7.cell? (a2.add 17) = some (.int .i64 c1) ∧
 bif decide (c1 < 0) then (
 R (.bool false) a7) else (
 ∃ (bx : Int), a7.cell? (a2.add 17) = some (.int .i64 bx) ∧
 bif decide (bx ≥ 8) then (
 R (.bool false) a7) else (
 ∃ (ce : Option Addr) (ca cc : Nat), a7.cell? (a2.add 18) = some (.slice ce ca cc) ∧
 Calls Try.prog 51 #[.slice ce ca cc] a7 fun cj aw => ∃ (ax : Bool), cj = .returned (.bool ax) ∧
 bif !ax then (
 R (.bool false) aw) else (
 ∃ (bo : Int), aw.cell? (a2.add 0) = some (.int .i64 bo) ∧
 bif bo == 3 then (
 R (.bool true) aw) else (
 ∃ (c2 : Int), aw.cell? (a2.add 19) = some (.int .u64 c2) ∧
 R (.bool (c2 == 0)) aw)))))) else (
 ∃ (bv : Int), a1.cell? (a2.add 17) = some (.int .i64 bv) ∧
 bif decide (bv < 0) then (
 R (.bool false) a1) else (
 ∃ (bz : Int), a1.cell? (a2.add 17) = some (.int .i64 bz) ∧
 bif decide (bz ≥ 8) then (
 R (.bool false) a1) else (
 ∃ (c7 : Option Addr) (cb ch : Nat), a1.cell? (a2.add 18) = some (.slice c7 cb ch) ∧
 Calls Try.prog 51 #[.slice c7 cb ch] a1 fun cn av => ∃ (b6 : Bool), cn = .returned (.bool b6) ∧
 bif !b6 then (
 R (.bool false) av) else (
 ∃ (be : Int), av.cell? (a2.add 0) = some (.int .i64 be) ∧
 bif be == 3 then (
 R (.bool true) av) else (
 ∃ (bu : Int), av.cell? (a2.add 19) = some (.int .u64 bu) ∧
 R (.bool (bu == 0)) av))))))) else (
 bif !cr then (
 ∃ (a5 al b0 bk bc ac : Int) (aa : Option Addr) (ap ag : Nat) (bm : Int), cellsAt a0 (a2.add 9) [.int .i64 a5, .int .i64 al, .int .u64 b0, .int .i64 bk, .int .i64 bc, .int .i64 ac, .slice aa ap ag, .int .u64 bm] 0 ∧
 Calls Try.prog 50 #[.agg #[.int .i64 a5, .int .i64 al, .int .u64 b0, .int .i64 bk, .int .i64 bc, .int .i64 ac, .slice aa ap ag, .int .u64 bm]] a0 fun cm a8 => ∃ (az : Bool), cm = .returned (.bool az) ∧
 bif !az then (
 R (.bool false) a8) else (
 ∃ (bt : Int), a8.cell? (a2.add 17) = some (.int .i64 bt) ∧
 bif decide (bt < 0) then (
 R (.bool false) a8) else (
 ∃ (c3 : Int), a8.cell? (a2.add 17) = some (.int .i64 c3) ∧
 bif decide (c3 ≥ 8) then (
 R (.bool false) a8) else (
 ∃ (cd : Option Addr) (c8 c9 : Nat), a8.cell? (a2.add 18) = some (.slice cd c8 c9) ∧
 Calls Try.prog 51 #[.slice cd c8 c9] a8 fun ck b2 => ∃ (b1 : Bool), ck = .returned (.bool b1) ∧
 bif !b1 then (
 R (.bool false) b2) else (
 ∃ (bj : Int), b2.cell? (a2.add 0) = some (.int .i64 bj) ∧
 bif bj == 3 then (
 R (.bool true) b2) else (
 ∃ (c6 : Int), b2.cell? (a2.add 19) = some (.int .u64 c6) ∧
 R (.bool (c6 == 0)) b2)))))) else (
 ∃ (bw : Int), a0.cell? (a2.add 17) = some (.int .i64 bw) ∧
 bif decide (bw < 0) then (
 R (.bool false) a0) else (
 ∃ (c5 : Int), a0.cell? (a2.add 17) = some (.int .i64 c5) ∧
 bif decide (c5 ≥ 8) then (
 R (.bool false) a0) else (
 ∃ (ci : Option Addr) (cf cg : Nat), a0.cell? (a2.add 18) = some (.slice ci cf cg) ∧
 Calls Try.prog 51 #[.slice ci cf cg] a0 fun cp b9 => ∃ (b7 : Bool), cp = .returned (.bool b7) ∧
 bif !b7 then (
 R (.bool false) b9) else (
 ∃ (bg : Int), b9.cell? (a2.add 0) = some (.int .i64 bg) ∧
 bif bg == 3 then (
 R (.bool true) b9) else (
 ∃ (c0 : Int), b9.cell? (a2.add 19) = some (.int .u64 c0) ∧
 R (.bool (c0 == 0)) b9)))))))))

abbrev Q04.J2 (a9 dp : Bool) (a0 : Addr) (R : RW) (au : World) : Prop :=
 ∃ (bq : Int), au.cell? (a0.add 0) = some (.int .i64 bq) ∧
 bif decide (bq < 1) then (
 R (.bool false) au) else (
 ∃ (c6 : Int), au.cell? (a0.add 0) = some (.int .i64 c6) ∧
 bif decide (c6 > 4) then (
 R (.bool false) au) else (
 ∃ (aa av bc bl bj ao : Int) (af : Option Addr) (aq ag : Nat) (bi : Int), cellsAt au (a0.add 1) [.int .i64 aa, .int .i64 av, .int .u64 bc, .int .i64 bl, .int .i64 bj, .int .i64 ao, .slice af aq ag, .int .u64 bi] 0 ∧
 Calls Try.prog 49 #[.agg #[.int .i64 aa, .int .i64 av, .int .u64 bc, .int .i64 bl, .int .i64 bj, .int .i64 ao, .slice af aq ag, .int .u64 bi]] au fun dt a1 => ∃ (b8 : Bool), dt = .returned (.bool b8) ∧
 bif !b8 then (
 R (.bool false) a1) else (
 bif dp then (
 ∃ (ad am b2 bm c3 ak : Int) (ah : Option Addr) (an az : Nat) (bw : Int), cellsAt a1 (a0.add 9) [.int .i64 ad, .int .i64 am, .int .u64 b2, .int .i64 bm, .int .i64 c3, .int .i64 ak, .slice ah an az, .int .u64 bw] 0 ∧
 Calls Try.prog 49 #[.agg #[.int .i64 ad, .int .i64 am, .int .u64 b2, .int .i64 bm, .int .i64 c3, .int .i64 ak, .slice ah an az, .int .u64 bw]] a1 fun dy a2 => ∃ (bb : Bool), dy = .returned (.bool bb) ∧
 bif !bb then (
 R (.bool false) a2) else (
 bif !dp then (
 ∃ (ac al ba bz br ay : Int) (aw : Option Addr) (aj ar : Nat) (bx : Int), cellsAt a2 (a0.add 9) [.int .i64 ac, .int .i64 al, .int .u64 ba, .int .i64 bz, .int .i64 br, .int .i64 ay, .slice aw aj ar, .int .u64 bx] 0 ∧
 Calls Try.prog 50 #[.agg #[.int .i64 ac, .int .i64 al, .int .u64 ba, .int .i64 bz, .int .i64 br, .int .i64 ay, .slice aw aj ar, .int .u64 bx]] a2 fun du a4 => ∃ (b9 : Bool), du = .returned (.bool b9) ∧
 bif !b9 then (
 R (.bool false) a4) else (
 bif a9 then (
 ∃ (cf : Int), a4.cell? (a0.add 17) = some (.int .i64 cf) ∧
 bif decide (cf < 0) then (
 R (.bool false) a4) else (
 ∃ (cj : Int), a4.cell? (a0.add 17) = some (.int .i64 cj) ∧
 bif decide (cj ≥ 8) then (
 R (.bool false) a4) else (
 ∃ (dd : Option Addr) (dg d5 : Nat), a4.cell? (a0.add 18) = some (.slice dd dg d5) ∧
 Calls Try.prog 51 #[.slice dd dg d5] a4 fun e9 a5 => ∃ (b3 : Bool), e9 = .returned (.bool b3) ∧
 bif !b3 then (
 R (.bool false) a5) else (
 bif !a9 then (
 ∃ (cq : Int), a5.cell? (a0.add 17) = some (.int .i64 cq) ∧
 bif cq != 0 then (
 R (.bool false) a5) else (
 ∃ (dw : Option Addr) (db dv : Nat), a5.cell? (a0.add 18) = some (.slice dw db dv) ∧
 bif decide ((db : Int) > 0) then (
 R (.bool false) a5) else (
 ∃ (bd : Int), a5.cell? (a0.add 0) = some (.int .i64 bd) ∧
 bif bd == 3 then (
 R (.bool true) a5) else (
 ∃ (cw : Int), a5.cell? (a0.add 19) = some (.int .u64 cw) ∧
 R (.bool (cw == 0)) a5)))) else (
 ∃ (c2 : Int), a5.cell? (a0.add 0) = some (.int .i64 c2) ∧
 bif c2 == 3 then (
 R (.bool true) a5) else (
 ∃ (co : Int), a5.cell? (a0.add 19) = some (.int .u64 co) ∧
 R (.bool (co == 0)) a5)))))) else (
 bif !a9 then (
 ∃ (d1 : Int), a4.cell? (a0.add 17) = some (.int .i64 d1) ∧
 bif d1 != 0 then (
 R (.bool false) a4) else (
 ∃ (e6 : Option Addr) (d9 ec : Nat), a4.cell? (a0.add 18) = some (.slice e6 d9 ec) ∧
 bif decide ((d9 : Int) > 0) then (
 R (.bool false) a4) else (
 ∃ (bf : Int), a4.cell? (a0.add 0) = some (.int .i64 bf) ∧
 bif bf == 3 then (
 R (.bool true) a4) else (
 ∃ (cl : Int), a4.cell? (a0.add 19) = some (.int .u64 cl) ∧
 R (.bool (cl == 0)) a4)))) else (
 ∃ (bn : Int), a4.cell? (a0.add 0) = some (.int .i64 bn) ∧
 bif bn == 3 then (
 R (.bool true) a4) else (
 ∃ (cs : Int), a4.cell? (a0.add 19) = some (.int .u64 cs) ∧
 R (.bool (cs == 0)) a4))))) else (
 bif a9 then (
 ∃ (ce : Int), a2.cell? (a0.add 17) = some (.int .i64 ce) ∧
 bif decide (ce < 0) then (
 R (.bool false) a2) else (
 ∃ (cp : Int), a2.cell? (a0.add 17) = some (.int .i64 cp) ∧
 bif decide (cp ≥ 8) then (
 R (.bool false) a2) else (
 ∃ (d7 : Option Addr) (de dj : Nat), a2.cell? (a0.add 18) = some (.slice d7 de dj) ∧
 Calls Try.prog 51 #[.slice d7 de dj] a2 fun eb a6 => ∃ (b7 : Bool), eb = .returned (.bool b7) ∧
 bif !b7 then (
 R (.bool false) a6) else (
 bif !a9 then (
 ∃ (d0 : Int), a6.cell? (a0.add 17) = some (.int .i64 d0) ∧
 bif d0 != 0 then (
 R (.bool false) a6) else (
 ∃ (dz : Option Addr) (dk e3 : Nat), a6.cell? (a0.add 18) = some (.slice dz dk e3) ∧
 bif decide ((dk : Int) > 0) then (
 R (.bool false) a6) else (
 ∃ (be : Int), a6.cell? (a0.add 0) = some (.int .i64 be) ∧
 bif be == 3 then (
 R (.bool true) a6) else (
 ∃ (cv : Int), a6.cell? (a0.add 19) = some (.int .u64 cv) ∧
 R (.bool (cv == 0)) a6)))) else (
 ∃ (c7 : Int), a6.cell? (a0.add 0) = some (.int .i64 c7) ∧
 bif c7 == 3 then (
 R (.bool true) a6) else (
 ∃ (cx : Int), a6.cell? (a0.add 19) = some (.int .u64 cx) ∧
 R (.bool (cx == 0)) a6)))))) else (
 bif !a9 then (
 ∃ (cm : Int), a2.cell? (a0.add 17) = some (.int .i64 cm) ∧
 bif cm != 0 then (
 R (.bool false) a2) else (
 ∃ (e5 : Option Addr) (d8 e4 : Nat), a2.cell? (a0.add 18) = some (.slice e5 d8 e4) ∧
 bif decide ((d8 : Int) > 0) then (
 R (.bool false) a2) else (
 ∃ (c5 : Int), a2.cell? (a0.add 0) = some (.int .i64 c5) ∧
 bif c5 == 3 then (
 R (.bool true) a2) else (
 ∃ (cr : Int), a2.cell? (a0.add 19) = some (.int .u64 cr) ∧
 R (.bool (cr == 0)) a2)))) else (
 ∃ (c4 : Int), a2.cell? (a0.add 0) = some (.int .i64 c4) ∧
 bif c4 == 3 then (
 R (.bool true) a2) else (
 ∃ (cg : Int), a2.cell? (a0.add 19) = some (.int .u64 cg) ∧
 R (.bool (cg == 0)) a2)))))) else (
 bif !dp then (
 ∃ (ab ae b6 bg bt b0 : Int) (ax : Option Addr) (ai ap : Nat) (bu : Int), cellsAt a1 (a0.add 9) [.int .i64 ab, .int .i64 ae, .int .u64 b6, .int .i64 bg, .int .i64 bt, .int .i64 b0, .slice ax ai ap, .int .u64 bu] 0 ∧
 Calls Try.prog 50 #[.agg #[.int .i64 ab, .int .i64 ae, .int .u64 b6, .int .i64 bg, .int .i64 bt, .int .i64 b0, .slice ax ai ap, .int .u64 bu]] a1 fun dq a3 => ∃ (b5 : Bool), dq = .returned (.bool b5) ∧
 bif !b5 then (
 R (.bool false) a3) else (
 bif a9 then (
 ∃ (cu : Int), a3.cell? (a0.add 17) = some (.int .i64 cu) ∧
 bif decide (cu < 0) then (
 R (.bool false) a3) else (
 ∃ (ck : Int), a3.cell? (a0.add 17) = some (.int .i64 ck) ∧
 bif decide (ck ≥ 8) then (
 R (.bool false) a3) else (
 ∃ (di : Option Addr) (dm df : Nat), a3.cell? (a0.add 18) = some (.slice di dm df) ∧
 Calls Try.prog 51 #[.slice di dm df] a3 fun ed a8 => ∃ (b1 : Bool), ed = .returned (.bool b1) ∧
 bif !b1 then (
 R (.bool false) a8) else (
 bif !a9 then (
 ∃ (ci : Int), a8.cell? (a0.add 17) = some (.int .i64 ci) ∧
 bif ci != 0 then (
 R (.bool false) a8) else (
 ∃ (dr : Option Addr) (dh ea : Nat), a8.cell? (a0.add 18) = some (.slice dr dh ea) ∧
 bif decide ((dh : Int) > 0) then (
 R (.bool false) a8) else (
 ∃ (c0 : Int), a8.cell? (a0.add 0) = some (.int .i64 c0) ∧
 bif c0 == 3 then (
 R (.bool true) a8) else (
 ∃ (ca : Int), a8.cell? (a0.add 19) = some (.int .u64 ca) ∧
 R (.bool (ca == 0)) a8)))) else (
 ∃ (bk : Int), a8.cell? (a0.add 0) = some (.int .i64 bk) ∧
 bif bk == 3 then (
 R (.bool true) a8) else (
 ∃ (cy : Int), a8.cell? (a0.add 19) = some (.int .u64 cy) ∧
 R (.bool (cy == 0)) a8)))))) else (
 bif !a9 then (
 ∃ (cz : Int), a3.cell? (a0.add 17) = some (.int .i64 cz) ∧
 bif cz != 0 then (
 R (.bool false) a3) else (
 ∃ (e1 : Option Addr) (d4 e0 : Nat), a3.cell? (a0.add 18) = some (.slice e1 d4 e0) ∧
 bif decide ((d4 : Int) > 0) then (
 R (.bool false) a3) else (
 ∃ (bo : Int), a3.cell? (a0.add 0) = some (.int .i64 bo) ∧
 bif bo == 3 then (
 R (.bool true) a3) else (
 ∃ (cb : Int), a3.cell? (a0.add 19) = some (.int .u64 cb) ∧
 R (.bool (cb == 0)) a3)))) else (
 ∃ (bv : Int), a3.cell? (a0.add 0) = some (.int .i64 bv) ∧
 bif bv == 3 then (
 R (.bool true) a3) else (
 ∃ (ct : Int), a3.cell? (a0.add 19) = some (.int .u64 ct) ∧
 R (.bool (ct == 0)) a3))))) else (
 bif a9 then (
 ∃ (ch : Int), a1.cell? (a0.add 17) = some (.int .i64 ch) ∧
 bif decide (ch < 0) then (
 R (.bool false) a1) else (
 ∃ (cn : Int), a1.cell? (a0.add 17) = some (.int .i64 cn) ∧
 bif decide (cn ≥ 8) then (
 R (.bool false) a1) else (
 ∃ (dl : Option Addr) (da d6 : Nat), a1.cell? (a0.add 18) = some (.slice dl da d6) ∧
 Calls Try.prog 51 #[.slice dl da d6] a1 fun e7 a7 => ∃ (b4 : Bool), e7 = .returned (.bool b4) ∧
 bif !b4 then (
 R (.bool false) a7) else (
 bif !a9 then (
 ∃ (cc : Int), a7.cell? (a0.add 17) = some (.int .i64 cc) ∧
 bif cc != 0 then (
 R (.bool false) a7) else (
 ∃ (e2 : Option Addr) (dn e8 : Nat), a7.cell? (a0.add 18) = some (.slice e2 dn e8) ∧
 bif decide ((dn : Int) > 0) then (
 R (.bool false) a7) else (
 ∃ (bs : Int), a7.cell? (a0.add 0) = some (.int .i64 bs) ∧
 bif bs == 3 then (
 R (.bool true) a7) else (
 ∃ (c8 : Int), a7.cell? (a0.add 19) = some (.int .u64 c8) ∧
 R (.bool (c8 == 0)) a7)))) else (
 ∃ (bh : Int), a7.cell? (a0.add 0) = some (.int .i64 bh) ∧
 bif bh == 3 then (
 R (.bool true) a7) else (
 ∃ (d3 : Int), a7.cell? (a0.add 19) = some (.int .u64 d3) ∧
 R (.bool (d3 == 0)) a7)))))) else (
 bif !a9 then (
 ∃ (c9 : Int), a1.cell? (a0.add 17) = some (.int .i64 c9) ∧
 bif c9 != 0 then (
 R (.bool false) a1) else (
 ∃ (ds : Option Addr) (dc dx : Nat), a1.cell? (a0.add 18) = some (.slice ds dc dx) ∧
 bif decide ((dc : Int) > 0) then (
 R (.bool false) a1) else (
 ∃ (c1 : Int), a1.cell? (a0.add 0) = some (.int .i64 c1) ∧
 bif c1 == 3 then (
 R (.bool true) a1) else (
 ∃ (cd : Int), a1.cell? (a0.add 19) = some (.int .u64 cd) ∧
 R (.bool (cd == 0)) a1)))) else (
 ∃ (bp : Int), a1.cell? (a0.add 0) = some (.int .i64 bp) ∧
 bif bp == 3 then (
 R (.bool true) a1) else (
 ∃ (d2 : Int), a1.cell? (a0.add 19) = some (.int .u64 d2) ∧
 R (.bool (d2 == 0)) a1))))))))

abbrev Q04.J3 (a4 : Bool) (a3 : Addr) (R : RW) (a2 : World) : Prop :=
 ∃ (a1 : Int), a2.cell? (a3.add 0) = some (.int .i64 a1) ∧
 bif a1 == 2 then (
 Q04.J1 a4 a3 R a2) else (
 ∃ (a0 : Int), a2.cell? (a3.add 0) = some (.int .i64 a0) ∧
 Q04.J2 (a0 == 3) a4 a3 R a2)

abbrev Q04.J4 (a9 kf : Bool) (a0 : Addr) (R : RW) (a1 : World) : Prop :=
 ∃ (g5 : Int), a1.cell? (a0.add 0) = some (.int .i64 g5) ∧
 bif decide (g5 < 1) then (
 R (.bool false) a1) else (
 ∃ (ey : Int), a1.cell? (a0.add 0) = some (.int .i64 ey) ∧
 bif decide (ey > 4) then (
 R (.bool false) a1) else (
 bif kf then (
 ∃ (au cr ee fb gi c0 : Int) (bq : Option Addr) (bn c6 : Nat) (g0 : Int), cellsAt a1 (a0.add 1) [.int .i64 au, .int .i64 cr, .int .u64 ee, .int .i64 fb, .int .i64 gi, .int .i64 c0, .slice bq bn c6, .int .u64 g0] 0 ∧
 Calls Try.prog 49 #[.agg #[.int .i64 au, .int .i64 cr, .int .u64 ee, .int .i64 fb, .int .i64 gi, .int .i64 c0, .slice bq bn c6, .int .u64 g0]] a1 fun l6 a2 => ∃ (ek : Bool), l6 = .returned (.bool ek) ∧
 bif !ek then (
 R (.bool false) a2) else (
 bif !kf then (
 ∃ (aa bx dq ew fx az : Int) (br : Option Addr) (b1 bv : Nat) (fv : Int), cellsAt a2 (a0.add 1) [.int .i64 aa, .int .i64 bx, .int .u64 dq, .int .i64 ew, .int .i64 fx, .int .i64 az, .slice br b1 bv, .int .u64 fv] 0 ∧
 Calls Try.prog 50 #[.agg #[.int .i64 aa, .int .i64 bx, .int .u64 dq, .int .i64 ew, .int .i64 fx, .int .i64 az, .slice br b1 bv, .int .u64 fv]] a2 fun kg a4 => ∃ (du : Bool), kg = .returned (.bool du) ∧
 bif !du then (
 R (.bool false) a4) else (
 bif a9 then (
 ∃ (ap bl dg fc f3 ch : Int) (d2 : Option Addr) (cb bm : Nat) (g9 : Int), cellsAt a4 (a0.add 9) [.int .i64 ap, .int .i64 bl, .int .u64 dg, .int .i64 fc, .int .i64 f3, .int .i64 ch, .slice d2 cb bm, .int .u64 g9] 0 ∧
 Calls Try.prog 49 #[.agg #[.int .i64 ap, .int .i64 bl, .int .u64 dg, .int .i64 fc, .int .i64 f3, .int .i64 ch, .slice d2 cb bm, .int .u64 g9]] a4 fun l9 a7 => ∃ (dp : Bool), l9 = .returned (.bool dp) ∧
 bif !dp then (
 R (.bool false) a7) else (
 bif !a9 then (
 ∃ (al c8 eg ga fl b2 : Int) (bo : Option Addr) (cd bu : Nat) (fu : Int), cellsAt a7 (a0.add 9) [.int .i64 al, .int .i64 c8, .int .u64 eg, .int .i64 ga, .int .i64 fl, .int .i64 b2, .slice bo cd bu, .int .u64 fu] 0 ∧
 Calls Try.prog 50 #[.agg #[.int .i64 al, .int .i64 c8, .int .u64 eg, .int .i64 ga, .int .i64 fl, .int .i64 b2, .slice bo cd bu, .int .u64 fu]] a7 fun ki ax => ∃ (d3 : Bool), ki = .returned (.bool d3) ∧
 bif !d3 then (
 R (.bool false) ax) else (
 ∃ (j2 : Int), ax.cell? (a0.add 17) = some (.int .i64 j2) ∧
 bif decide (j2 < 0) then (
 R (.bool false) ax) else (
 ∃ (ij : Int), ax.cell? (a0.add 17) = some (.int .i64 ij) ∧
 bif decide (ij ≥ 8) then (
 R (.bool false) ax) else (
 ∃ (k8 : Option Addr) (jo ja : Nat), ax.cell? (a0.add 18) = some (.slice k8 jo ja) ∧
 Calls Try.prog 51 #[.slice k8 jo ja] ax fun kx e7 => ∃ (eh : Bool), kx = .returned (.bool eh) ∧
 bif !eh then (
 R (.bool false) e7) else (
 ∃ (f1 : Int), e7.cell? (a0.add 0) = some (.int .i64 f1) ∧
 bif f1 == 3 then (
 R (.bool true) e7) else (
 ∃ (i8 : Int), e7.cell? (a0.add 19) = some (.int .u64 i8) ∧
 R (.bool (i8 == 0)) e7)))))) else (
 ∃ (ii : Int), a7.cell? (a0.add 17) = some (.int .i64 ii) ∧
 bif decide (ii < 0) then (
 R (.bool false) a7) else (
 ∃ (i6 : Int), a7.cell? (a0.add 17) = some (.int .i64 i6) ∧
 bif decide (i6 ≥ 8) then (
 R (.bool false) a7) else (
 ∃ (jr : Option Addr) (jg jt : Nat), a7.cell? (a0.add 18) = some (.slice jr jg jt) ∧
 Calls Try.prog 51 #[.slice jr jg jt] a7 fun km dl => ∃ (dn : Bool), km = .returned (.bool dn) ∧
 bif !dn then (
 R (.bool false) dl) else (
 ∃ (g8 : Int), dl.cell? (a0.add 0) = some (.int .i64 g8) ∧
 bif g8 == 3 then (
 R (.bool true) dl) else (
 ∃ (i9 : Int), dl.cell? (a0.add 19) = some (.int .u64 i9) ∧
 R (.bool (i9 == 0)) dl))))))) else (
 bif !a9 then (
 ∃ (ar cy ed ft f2 c7 : Int) (cs : Option Addr) (b5 bw : Nat) (f5 : Int), cellsAt a4 (a0.add 9) [.int .i64 ar, .int .i64 cy, .int .u64 ed, .int .i64 ft, .int .i64 f2, .int .i64 c7, .slice cs b5 bw, .int .u64 f5] 0 ∧
 Calls Try.prog 50 #[.agg #[.int .i64 ar, .int .i64 cy, .int .u64 ed, .int .i64 ft, .int .i64 f2, .int .i64 c7, .slice cs b5 bw, .int .u64 f5]] a4 fun kj ao => ∃ (eq : Bool), kj = .returned (.bool eq) ∧
 bif !eq then (
 R (.bool false) ao) else (
 ∃ (ip : Int), ao.cell? (a0.add 17) = some (.int .i64 ip) ∧
 bif decide (ip < 0) then (
 R (.bool false) ao) else (
 ∃ (ib : Int), ao.cell? (a0.add 17) = some (.int .i64 ib) ∧
 bif decide (ib ≥ 8) then (
 R (.bool false) ao) else (
 ∃ (j4 : Option Addr) (j7 j6 : Nat), ao.cell? (a0.add 18) = some (.slice j4 j7 j6) ∧
 Calls Try.prog 51 #[.slice j4 j7 j6] ao fun kk e1 => ∃ (dr : Bool), kk = .returned (.bool dr) ∧
 bif !dr then (
 R (.bool false) e1) else (
 ∃ (eu : Int), e1.cell? (a0.add 0) = some (.int .i64 eu) ∧
 bif eu == 3 then (
 R (.bool true) e1) else (
 ∃ (i1 : Int), e1.cell? (a0.add 19) = some (.int .u64 i1) ∧
 R (.bool (i1 == 0)) e1)))))) else (
 ∃ (gm : Int), a4.cell? (a0.add 17) = some (.int .i64 gm) ∧
 bif decide (gm < 0) then (
 R (.bool false) a4) else (
 ∃ (i0 : Int), a4.cell? (a0.add 17) = some (.int .i64 i0) ∧
 bif decide (i0 ≥ 8) then (
 R (.bool false) a4) else (
 ∃ (k5 : Option Addr) (jw k2 : Nat), a4.cell? (a0.add 18) = some (.slice k5 jw k2) ∧
 Calls Try.prog 51 #[.slice k5 jw k2] a4 fun l2 dm => ∃ (e8 : Bool), l2 = .returned (.bool e8) ∧
 bif !e8 then (
 R (.bool false) dm) else (
 ∃ (gf : Int), dm.cell? (a0.add 0) = some (.int .i64 gf) ∧
 bif gf == 3 then (
 R (.bool true) dm) else (
 ∃ (i4 : Int), dm.cell? (a0.add 19) = some (.int .u64 i4) ∧
 R (.bool (i4 == 0)) dm)))))))) else (
 bif a9 then (
 ∃ (ay cn dw fe fw ce : Int) (c1 : Option Addr) (d1 ci : Nat) (f8 : Int), cellsAt a2 (a0.add 9) [.int .i64 ay, .int .i64 cn, .int .u64 dw, .int .i64 fe, .int .i64 fw, .int .i64 ce, .slice c1 d1 ci, .int .u64 f8] 0 ∧
 Calls Try.prog 49 #[.agg #[.int .i64 ay, .int .i64 cn, .int .u64 dw, .int .i64 fe, .int .i64 fw, .int .i64 ce, .slice c1 d1 ci, .int .u64 f8]] a2 fun kr a5 => ∃ (eb : Bool), kr = .returned (.bool eb) ∧
 bif !eb then (
 R (.bool false) a5) else (
 bif !a9 then (
 ∃ (av cz d6 fs g7 c2 : Int) (b7 : Option Addr) (bi be : Nat) (g4 : Int), cellsAt a5 (a0.add 9) [.int .i64 av, .int .i64 cz, .int .u64 d6, .int .i64 fs, .int .i64 g7, .int .i64 c2, .slice b7 bi be, .int .u64 g4] 0 ∧
 Calls Try.prog 50 #[.agg #[.int .i64 av, .int .i64 cz, .int .u64 d6, .int .i64 fs, .int .i64 g7, .int .i64 c2, .slice b7 bi be, .int .u64 g4]] a5 fun l5 ac => ∃ (ea : Bool), l5 = .returned (.bool ea) ∧
 bif !ea then (
 R (.bool false) ac) else (
 ∃ (ih : Int), ac.cell? (a0.add 17) = some (.int .i64 ih) ∧
 bif decide (ih < 0) then (
 R (.bool false) ac) else (
 ∃ (ia : Int), ac.cell? (a0.add 17) = some (.int .i64 ia) ∧
 bif decide (ia ≥ 8) then (
 R (.bool false) ac) else (
 ∃ (jb : Option Addr) (k1 j3 : Nat), ac.cell? (a0.add 18) = some (.slice jb k1 j3) ∧
 Calls Try.prog 51 #[.slice jb k1 j3] ac fun l1 da => ∃ (em : Bool), l1 = .returned (.bool em) ∧
 bif !em then (
 R (.bool false) da) else (
 ∃ (ex : Int), da.cell? (a0.add 0) = some (.int .i64 ex) ∧
 bif ex == 3 then (
 R (.bool true) da) else (
 ∃ (gr : Int), da.cell? (a0.add 19) = some (.int .u64 gr) ∧
 R (.bool (gr == 0)) da)))))) else (
 ∃ (iq : Int), a5.cell? (a0.add 17) = some (.int .i64 iq) ∧
 bif decide (iq < 0) then (
 R (.bool false) a5) else (
 ∃ (ir : Int), a5.cell? (a0.add 17) = some (.int .i64 ir) ∧
 bif decide (ir ≥ 8) then (
 R (.bool false) a5) else (
 ∃ (js : Option Addr) (k0 kc : Nat), a5.cell? (a0.add 18) = some (.slice js k0 kc) ∧
 Calls Try.prog 51 #[.slice js k0 kc] a5 fun kt d7 => ∃ (d5 : Bool), kt = .returned (.bool d5) ∧
 bif !d5 then (
 R (.bool false) d7) else (
 ∃ (ge : Int), d7.cell? (a0.add 0) = some (.int .i64 ge) ∧
 bif ge == 3 then (
 R (.bool true) d7) else (
 ∃ (gs : Int), d7.cell? (a0.add 19) = some (.int .u64 gs) ∧
 R (.bool (gs == 0)) d7))))))) else (
 bif !a9 then (
 ∃ (ah ba ec fz fi ca : Int) (b0 : Option Addr) (b3 cx : Nat) (f6 : Int), cellsAt a2 (a0.add 9) [.int .i64 ah, .int .i64 ba, .int .u64 ec, .int .i64 fz, .int .i64 fi, .int .i64 ca, .slice b0 b3 cx, .int .u64 f6] 0 ∧
 Calls Try.prog 50 #[.agg #[.int .i64 ah, .int .i64 ba, .int .u64 ec, .int .i64 fz, .int .i64 fi, .int .i64 ca, .slice b0 b3 cx, .int .u64 f6]] a2 fun l4 ae => ∃ (df : Bool), l4 = .returned (.bool df) ∧
 bif !df then (
 R (.bool false) ae) else (
 ∃ (iv : Int), ae.cell? (a0.add 17) = some (.int .i64 iv) ∧
 bif decide (iv < 0) then (
 R (.bool false) ae) else (
 ∃ (gt : Int), ae.cell? (a0.add 17) = some (.int .i64 gt) ∧
 bif decide (gt ≥ 8) then (
 R (.bool false) ae) else (
 ∃ (jq : Option Addr) (ji k3 : Nat), ae.cell? (a0.add 18) = some (.slice jq ji k3) ∧
 Calls Try.prog 51 #[.slice jq ji k3] ae fun kp ds => ∃ (dh : Bool), kp = .returned (.bool dh) ∧
 bif !dh then (
 R (.bool false) ds) else (
 ∃ (f7 : Int), ds.cell? (a0.add 0) = some (.int .i64 f7) ∧
 bif f7 == 3 then (
 R (.bool true) ds) else (
 ∃ (ix : Int), ds.cell? (a0.add 19) = some (.int .u64 ix) ∧
 R (.bool (ix == 0)) ds)))))) else (
 ∃ (gn : Int), a2.cell? (a0.add 17) = some (.int .i64 gn) ∧
 bif decide (gn < 0) then (
 R (.bool false) a2) else (
 ∃ (iz : Int), a2.cell? (a0.add 17) = some (.int .i64 iz) ∧
 bif decide (iz ≥ 8) then (
 R (.bool false) a2) else (
 ∃ (k4 : Option Addr) (jn k7 : Nat), a2.cell? (a0.add 18) = some (.slice k4 jn k7) ∧
 Calls Try.prog 51 #[.slice k4 jn k7] a2 fun kq et => ∃ (e9 : Bool), kq = .returned (.bool e9) ∧
 bif !e9 then (
 R (.bool false) et) else (
 ∃ (fa : Int), et.cell? (a0.add 0) = some (.int .i64 fa) ∧
 bif fa == 3 then (
 R (.bool true) et) else (
 ∃ (i7 : Int), et.cell? (a0.add 19) = some (.int .u64 i7) ∧
 R (.bool (i7 == 0)) et))))))))) else (
 bif !kf then (
 ∃ (ab cp er g6 fq b6 : Int) (bb : Option Addr) (b4 cf : Nat) (f0 : Int), cellsAt a1 (a0.add 1) [.int .i64 ab, .int .i64 cp, .int .u64 er, .int .i64 g6, .int .i64 fq, .int .i64 b6, .slice bb b4 cf, .int .u64 f0] 0 ∧
 Calls Try.prog 50 #[.agg #[.int .i64 ab, .int .i64 cp, .int .u64 er, .int .i64 g6, .int .i64 fq, .int .i64 b6, .slice bb b4 cf, .int .u64 f0]] a1 fun kz a3 => ∃ (dd : Bool), kz = .returned (.bool dd) ∧
 bif !dd then (
 R (.bool false) a3) else (
 bif a9 then (
 ∃ (ad cm d8 g3 gh bh : Int) (cg : Option Addr) (d0 bf : Nat) (fk : Int), cellsAt a3 (a0.add 9) [.int .i64 ad, .int .i64 cm, .int .u64 d8, .int .i64 g3, .int .i64 gh, .int .i64 bh, .slice cg d0 bf, .int .u64 fk] 0 ∧
 Calls Try.prog 49 #[.agg #[.int .i64 ad, .int .i64 cm, .int .u64 d8, .int .i64 g3, .int .i64 gh, .int .i64 bh, .slice cg d0 bf, .int .u64 fk]] a3 fun kl a8 => ∃ (e5 : Bool), kl = .returned (.bool e5) ∧
 bif !e5 then (
 R (.bool false) a8) else (
 bif !a9 then (
 ∃ (ag b8 ej fg g1 bp : Int) (bc : Option Addr) (ck bk : Nat) (fo : Int), cellsAt a8 (a0.add 9) [.int .i64 ag, .int .i64 b8, .int .u64 ej, .int .i64 fg, .int .i64 g1, .int .i64 bp, .slice bc ck bk, .int .u64 fo] 0 ∧
 Calls Try.prog 50 #[.agg #[.int .i64 ag, .int .i64 b8, .int .u64 ej, .int .i64 fg, .int .i64 g1, .int .i64 bp, .slice bc ck bk, .int .u64 fo]] a8 fun la aj => ∃ (e2 : Bool), la = .returned (.bool e2) ∧
 bif !e2 then (
 R (.bool false) aj) else (
 ∃ (il : Int), aj.cell? (a0.add 17) = some (.int .i64 il) ∧
 bif decide (il < 0) then (
 R (.bool false) aj) else (
 ∃ (gz : Int), aj.cell? (a0.add 17) = some (.int .i64 gz) ∧
 bif decide (gz ≥ 8) then (
 R (.bool false) aj) else (
 ∃ (j8 : Option Addr) (jp jh : Nat), aj.cell? (a0.add 18) = some (.slice j8 jp jh) ∧
 Calls Try.prog 51 #[.slice j8 jp jh] aj fun kw ep => ∃ (dy : Bool), kw = .returned (.bool dy) ∧
 bif !dy then (
 R (.bool false) ep) else (
 ∃ (fj : Int), ep.cell? (a0.add 0) = some (.int .i64 fj) ∧
 bif fj == 3 then (
 R (.bool true) ep) else (
 ∃ (gq : Int), ep.cell? (a0.add 19) = some (.int .u64 gq) ∧
 R (.bool (gq == 0)) ep)))))) else (
 ∃ (io : Int), a8.cell? (a0.add 17) = some (.int .i64 io) ∧
 bif decide (io < 0) then (
 R (.bool false) a8) else (
 ∃ (ic : Int), a8.cell? (a0.add 17) = some (.int .i64 ic) ∧
 bif decide (ic ≥ 8) then (
 R (.bool false) a8) else (
 ∃ (jd : Option Addr) (jv jf : Nat), a8.cell? (a0.add 18) = some (.slice jd jv jf) ∧
 Calls Try.prog 51 #[.slice jd jv jf] a8 fun l0 dj => ∃ (el : Bool), l0 = .returned (.bool el) ∧
 bif !el then (
 R (.bool false) dj) else (
 ∃ (gd : Int), dj.cell? (a0.add 0) = some (.int .i64 gd) ∧
 bif gd == 3 then (
 R (.bool true) dj) else (
 ∃ (gv : Int), dj.cell? (a0.add 19) = some (.int .u64 gv) ∧
 R (.bool (gv == 0)) dj))))))) else (
 bif !a9 then (
 ∃ (aw cw de g2 ez cv : Int) (ct : Option Addr) (bd bz : Nat) (fm : Int), cellsAt a3 (a0.add 9) [.int .i64 aw, .int .i64 cw, .int .u64 de, .int .i64 g2, .int .i64 ez, .int .i64 cv, .slice ct bd bz, .int .u64 fm] 0 ∧
 Calls Try.prog 50 #[.agg #[.int .i64 aw, .int .i64 cw, .int .u64 de, .int .i64 g2, .int .i64 ez, .int .i64 cv, .slice ct bd bz, .int .u64 fm]] a3 fun kh ak => ∃ (dt : Bool), kh = .returned (.bool dt) ∧
 bif !dt then (
 R (.bool false) ak) else (
 ∃ (iw : Int), ak.cell? (a0.add 17) = some (.int .i64 iw) ∧
 bif decide (iw < 0) then (
 R (.bool false) ak) else (
 ∃ (gw : Int), ak.cell? (a0.add 17) = some (.int .i64 gw) ∧
 bif decide (gw ≥ 8) then (
 R (.bool false) ak) else (
 ∃ (jk : Option Addr) (k9 kd : Nat), ak.cell? (a0.add 18) = some (.slice jk k9 kd) ∧
 Calls Try.prog 51 #[.slice jk k9 kd] ak fun ks d9 => ∃ (e6 : Bool), ks = .returned (.bool e6) ∧
 bif !e6 then (
 R (.bool false) d9) else (
 ∃ (f4 : Int), d9.cell? (a0.add 0) = some (.int .i64 f4) ∧
 bif f4 == 3 then (
 R (.bool true) d9) else (
 ∃ (gu : Int), d9.cell? (a0.add 19) = some (.int .u64 gu) ∧
 R (.bool (gu == 0)) d9)))))) else (
 ∃ (gp : Int), a3.cell? (a0.add 17) = some (.int .i64 gp) ∧
 bif decide (gp < 0) then (
 R (.bool false) a3) else (
 ∃ (gx : Int), a3.cell? (a0.add 17) = some (.int .i64 gx) ∧
 bif decide (gx ≥ 8) then (
 R (.bool false) a3) else (
 ∃ (kb : Option Addr) (jm jj : Nat), a3.cell? (a0.add 18) = some (.slice kb jm jj) ∧
 Calls Try.prog 51 #[.slice kb jm jj] a3 fun kn en => ∃ (dz : Bool), kn = .returned (.bool dz) ∧
 bif !dz then (
 R (.bool false) en) else (
 ∃ (fr : Int), en.cell? (a0.add 0) = some (.int .i64 fr) ∧
 bif fr == 3 then (
 R (.bool true) en) else (
 ∃ (iy : Int), en.cell? (a0.add 19) = some (.int .u64 iy) ∧
 R (.bool (iy == 0)) en)))))))) else (
 bif a9 then (
 ∃ (ai cl db gl fd bg : Int) (cq : Option Addr) (c3 cc : Nat) (gb : Int), cellsAt a1 (a0.add 9) [.int .i64 ai, .int .i64 cl, .int .u64 db, .int .i64 gl, .int .i64 fd, .int .i64 bg, .slice cq c3 cc, .int .u64 gb] 0 ∧
 Calls Try.prog 49 #[.agg #[.int .i64 ai, .int .i64 cl, .int .u64 db, .int .i64 gl, .int .i64 fd, .int .i64 bg, .slice cq c3 cc, .int .u64 gb]] a1 fun l7 a6 => ∃ (dx : Bool), l7 = .returned (.bool dx) ∧
 bif !dx then (
 R (.bool false) a6) else (
 bif !a9 then (
 ∃ (aq c9 d4 f9 gj bj : Int) (bt : Option Addr) (cj c4 : Nat) (gg : Int), cellsAt a6 (a0.add 9) [.int .i64 aq, .int .i64 c9, .int .u64 d4, .int .i64 f9, .int .i64 gj, .int .i64 bj, .slice bt cj c4, .int .u64 gg] 0 ∧
 Calls Try.prog 50 #[.agg #[.int .i64 aq, .int .i64 c9, .int .u64 d4, .int .i64 f9, .int .i64 gj, .int .i64 bj, .slice bt cj c4, .int .u64 gg]] a6 fun kv af => ∃ (ef : Bool), kv = .returned (.bool ef) ∧
 bif !ef then (
 R (.bool false) af) else (
 ∃ (iu : Int), af.cell? (a0.add 17) = some (.int .i64 iu) ∧
 bif decide (iu < 0) then (
 R (.bool false) af) else (
 ∃ (i5 : Int), af.cell? (a0.add 17) = some (.int .i64 i5) ∧
 bif decide (i5 ≥ 8) then (
 R (.bool false) af) else (
 ∃ (ka : Option Addr) (jz ke : Nat), af.cell? (a0.add 18) = some (.slice ka jz ke) ∧
 Calls Try.prog 51 #[.slice ka jz ke] af fun l3 e4 => ∃ (eo : Bool), l3 = .returned (.bool eo) ∧
 bif !eo then (
 R (.bool false) e4) else (
 ∃ (fp : Int), e4.cell? (a0.add 0) = some (.int .i64 fp) ∧
 bif fp == 3 then (
 R (.bool true) e4) else (
 ∃ (j1 : Int), e4.cell? (a0.add 19) = some (.int .u64 j1) ∧
 R (.bool (j1 == 0)) e4)))))) else (
 ∃ (im : Int), a6.cell? (a0.add 17) = some (.int .i64 im) ∧
 bif decide (im < 0) then (
 R (.bool false) a6) else (
 ∃ (it : Int), a6.cell? (a0.add 17) = some (.int .i64 it) ∧
 bif decide (it ≥ 8) then (
 R (.bool false) a6) else (
 ∃ (je : Option Addr) (j5 ju : Nat), a6.cell? (a0.add 18) = some (.slice je j5 ju) ∧
 Calls Try.prog 51 #[.slice je j5 ju] a6 fun ky dk => ∃ (e0 : Bool), ky = .returned (.bool e0) ∧
 bif !e0 then (
 R (.bool false) dk) else (
 ∃ (gc : Int), dk.cell? (a0.add 0) = some (.int .i64 gc) ∧
 bif gc == 3 then (
 R (.bool true) dk) else (
 ∃ (ie : Int), dk.cell? (a0.add 19) = some (.int .u64 ie) ∧
 R (.bool (ie == 0)) dk))))))) else (
 bif !a9 then (
 ∃ (an cu e3 ev fh bs : Int) (c5 : Option Addr) (co b9 : Nat) (gk : Int), cellsAt a1 (a0.add 9) [.int .i64 an, .int .i64 cu, .int .u64 e3, .int .i64 ev, .int .i64 fh, .int .i64 bs, .slice c5 co b9, .int .u64 gk] 0 ∧
 Calls Try.prog 50 #[.agg #[.int .i64 an, .int .i64 cu, .int .u64 e3, .int .i64 ev, .int .i64 fh, .int .i64 bs, .slice c5 co b9, .int .u64 gk]] a1 fun ku am => ∃ (di : Bool), ku = .returned (.bool di) ∧
 bif !di then (
 R (.bool false) am) else (
 ∃ (ig : Int), am.cell? (a0.add 17) = some (.int .i64 ig) ∧
 bif decide (ig < 0) then (
 R (.bool false) am) else (
 ∃ (gy : Int), am.cell? (a0.add 17) = some (.int .i64 gy) ∧
 bif decide (gy ≥ 8) then (
 R (.bool false) am) else (
 ∃ (jx : Option Addr) (jc j9 : Nat), am.cell? (a0.add 18) = some (.slice jx jc j9) ∧
 Calls Try.prog 51 #[.slice jx jc j9] am fun ko dv => ∃ (es : Bool), ko = .returned (.bool es) ∧
 bif !es then (
 R (.bool false) dv) else (
 ∃ (ff : Int), dv.cell? (a0.add 0) = some (.int .i64 ff) ∧
 bif ff == 3 then (
 R (.bool true) dv) else (
 ∃ (ik : Int), dv.cell? (a0.add 19) = some (.int .u64 ik) ∧
 R (.bool (ik == 0)) dv)))))) else (
 ∃ (j0 : Int), a1.cell? (a0.add 17) = some (.int .i64 j0) ∧
 bif decide (j0 < 0) then (
 R (.bool false) a1) else (
 ∃ (i2 : Int), a1.cell? (a0.add 17) = some (.int .i64 i2) ∧
 bif decide (i2 ≥ 8) then (
 R (.bool false) a1) else (
 ∃ (k6 : Option Addr) (jy jl : Nat), a1.cell? (a0.add 18) = some (.slice k6 jy jl) ∧
 Calls Try.prog 51 #[.slice k6 jy jl] a1 fun l8 dc => ∃ (ei : Bool), l8 = .returned (.bool ei) ∧
 bif !ei then (
 R (.bool false) dc) else (
 ∃ (fy : Int), dc.cell? (a0.add 0) = some (.int .i64 fy) ∧
 bif fy == 3 then (
 R (.bool true) dc) else (
 ∃ (i3 : Int), dc.cell? (a0.add 19) = some (.int .u64 i3) ∧
 R (.bool (i3 == 0)) dc))))))))))

abbrev Q04.J5 (a1 b7 pc : Bool) (a0 : Addr) (R : RW) (a3 : World) : Prop :=
 ∃ (k7 : Int), a3.cell? (a0.add 0) = some (.int .i64 k7) ∧
 bif decide (k7 < 1) then (
 R (.bool false) a3) else (
 ∃ (gj : Int), a3.cell? (a0.add 0) = some (.int .i64 gj) ∧
 bif decide (gj > 4) then (
 R (.bool false) a3) else (
 bif pc then (
 ∃ (c4 cp fd ks i8 ci : Int) (cg : Option Addr) (cr dg : Nat) (iw : Int), cellsAt a3 (a0.add 1) [.int .i64 c4, .int .i64 cp, .int .u64 fd, .int .i64 ks, .int .i64 i8, .int .i64 ci, .slice cg cr dg, .int .u64 iw] 0 ∧
 Calls Try.prog 49 #[.agg #[.int .i64 c4, .int .i64 cp, .int .u64 fd, .int .i64 ks, .int .i64 i8, .int .i64 ci, .slice cg cr dg, .int .u64 iw]] a3 fun sm aa => ∃ (ea : Bool), sm = .returned (.bool ea) ∧
 bif !ea then (
 R (.bool false) aa) else (
 bif !pc then (
 ∃ (bs d8 fj gu gz ch : Int) (cu : Option Addr) (dq cx : Nat) (k4 : Int), cellsAt aa (a0.add 1) [.int .i64 bs, .int .i64 d8, .int .u64 fj, .int .i64 gu, .int .i64 gz, .int .i64 ch, .slice cu dq cx, .int .u64 k4] 0 ∧
 Calls Try.prog 50 #[.agg #[.int .i64 bs, .int .i64 d8, .int .u64 fj, .int .i64 gu, .int .i64 gz, .int .i64 ch, .slice cu dq cx, .int .u64 k4]] aa fun qg ab => ∃ (ex : Bool), qg = .returned (.bool ex) ∧
 bif !ex then (
 R (.bool false) ab) else (
 bif b7 then (
 ∃ (bz dw ff iq ih e5 : Int) (d3 : Option Addr) (d4 d2 : Nat) (gr : Int), cellsAt ab (a0.add 9) [.int .i64 bz, .int .i64 dw, .int .u64 ff, .int .i64 iq, .int .i64 ih, .int .i64 e5, .slice d3 d4 d2, .int .u64 gr] 0 ∧
 Calls Try.prog 49 #[.agg #[.int .i64 bz, .int .i64 dw, .int .u64 ff, .int .i64 iq, .int .i64 ih, .int .i64 e5, .slice d3 d4 d2, .int .u64 gr]] ab fun qr ac => ∃ (ed : Bool), qr = .returned (.bool ed) ∧
 bif !ed then (
 R (.bool false) ac) else (
 bif !b7 then (
 ∃ (b8 e4 fo i2 gv du : Int) (e1 : Option Addr) (dj cq : Nat) (jw : Int), cellsAt ac (a0.add 9) [.int .i64 b8, .int .i64 e4, .int .u64 fo, .int .i64 i2, .int .i64 gv, .int .i64 du, .slice e1 dj cq, .int .u64 jw] 0 ∧
 Calls Try.prog 50 #[.agg #[.int .i64 b8, .int .i64 e4, .int .u64 fo, .int .i64 i2, .int .i64 gv, .int .i64 du, .slice e1 dj cq, .int .u64 jw]] ac fun qu af => ∃ (ei : Bool), qu = .returned (.bool ei) ∧
 bif !ei then (
 R (.bool false) af) else (
 bif a1 then (
 ∃ (nj : Int), af.cell? (a0.add 17) = some (.int .i64 nj) ∧
 bif decide (nj < 0) then (
 R (.bool false) af) else (
 ∃ (mn : Int), af.cell? (a0.add 17) = some (.int .i64 mn) ∧
 bif decide (mn ≥ 8) then (
 R (.bool false) af) else (
 ∃ (o8 : Option Addr) (os od : Nat), af.cell? (a0.add 18) = some (.slice o8 os od) ∧
 Calls Try.prog 51 #[.slice o8 os od] af fun s5 av => ∃ (g4 : Bool), s5 = .returned (.bool g4) ∧
 bif !g4 then (
 R (.bool false) av) else (
 bif !a1 then (
 ∃ (ma : Int), av.cell? (a0.add 17) = some (.int .i64 ma) ∧
 bif ma != 0 then (
 R (.bool false) av) else (
 ∃ (sj : Option Addr) (nx se : Nat), av.cell? (a0.add 18) = some (.slice sj nx se) ∧
 bif decide ((nx : Int) > 0) then (
 R (.bool false) av) else (
 ∃ (j8 : Int), av.cell? (a0.add 0) = some (.int .i64 j8) ∧
 bif j8 == 3 then (
 R (.bool true) av) else (
 ∃ (ln : Int), av.cell? (a0.add 19) = some (.int .u64 ln) ∧
 R (.bool (ln == 0)) av)))) else (
 ∃ (gk : Int), av.cell? (a0.add 0) = some (.int .i64 gk) ∧
 bif gk == 3 then (
 R (.bool true) av) else (
 ∃ (nl : Int), av.cell? (a0.add 19) = some (.int .u64 nl) ∧
 R (.bool (nl == 0)) av)))))) else (
 bif !a1 then (
 ∃ (l1 : Int), af.cell? (a0.add 17) = some (.int .i64 l1) ∧
 bif l1 != 0 then (
 R (.bool false) af) else (
 ∃ (s7 : Option Addr) (oh s8 : Nat), af.cell? (a0.add 18) = some (.slice s7 oh s8) ∧
 bif decide ((oh : Int) > 0) then (
 R (.bool false) af) else (
 ∃ (ka : Int), af.cell? (a0.add 0) = some (.int .i64 ka) ∧
 bif ka == 3 then (
 R (.bool true) af) else (
 ∃ (lg : Int), af.cell? (a0.add 19) = some (.int .u64 lg) ∧
 R (.bool (lg == 0)) af)))) else (
 ∃ (kb : Int), af.cell? (a0.add 0) = some (.int .i64 kb) ∧
 bif kb == 3 then (
 R (.bool true) af) else (
 ∃ (lr : Int), af.cell? (a0.add 19) = some (.int .u64 lr) ∧
 R (.bool (lr == 0)) af))))) else (
 bif a1 then (
 ∃ (l5 : Int), ac.cell? (a0.add 17) = some (.int .i64 l5) ∧
 bif decide (l5 < 0) then (
 R (.bool false) ac) else (
 ∃ (mo : Int), ac.cell? (a0.add 17) = some (.int .i64 mo) ∧
 bif decide (mo ≥ 8) then (
 R (.bool false) ac) else (
 ∃ (ou : Option Addr) (oz o6 : Nat), ac.cell? (a0.add 18) = some (.slice ou oz o6) ∧
 Calls Try.prog 51 #[.slice ou oz o6] ac fun sn aq => ∃ (f3 : Bool), sn = .returned (.bool f3) ∧
 bif !f3 then (
 R (.bool false) aq) else (
 bif !a1 then (
 ∃ (lf : Int), aq.cell? (a0.add 17) = some (.int .i64 lf) ∧
 bif lf != 0 then (
 R (.bool false) aq) else (
 ∃ (sb : Option Addr) (oq qp : Nat), aq.cell? (a0.add 18) = some (.slice sb oq qp) ∧
 bif decide ((oq : Int) > 0) then (
 R (.bool false) aq) else (
 ∃ (gx : Int), aq.cell? (a0.add 0) = some (.int .i64 gx) ∧
 bif gx == 3 then (
 R (.bool true) aq) else (
 ∃ (lz : Int), aq.cell? (a0.add 19) = some (.int .u64 lz) ∧
 R (.bool (lz == 0)) aq)))) else (
 ∃ (gp : Int), aq.cell? (a0.add 0) = some (.int .i64 gp) ∧
 bif gp == 3 then (
 R (.bool true) aq) else (
 ∃ (l9 : Int), aq.cell? (a0.add 19) = some (.int .u64 l9) ∧
 R (.bool (l9 == 0)) aq)))))) else (
 bif !a1 then (
 ∃ (mf : Int), ac.cell? (a0.add 17) = some (.int .i64 mf) ∧
 bif mf != 0 then (
 R (.bool false) ac) else (
 ∃ (qe : Option Addr) (ox qm : Nat), ac.cell? (a0.add 18) = some (.slice qe ox qm) ∧
 bif decide ((ox : Int) > 0) then (
 R (.bool false) ac) else (
 ∃ (k0 : Int), ac.cell? (a0.add 0) = some (.int .i64 k0) ∧
 bif k0 == 3 then (
 R (.bool true) ac) else (
 ∃ (mz : Int), ac.cell? (a0.add 19) = some (.int .u64 mz) ∧
 R (.bool (mz == 0)) ac)))) else (
 ∃ (kg : Int), ac.cell? (a0.add 0) = some (.int .i64 kg) ∧
 bif kg == 3 then (
 R (.bool true) ac) else (
 ∃ (l6 : Int), ac.cell? (a0.add 19) = some (.int .u64 l6) ∧
 R (.bool (l6 == 0)) ac)))))) else (
 bif !b7 then (
 ∃ (c0 dl f0 gw i0 df : Int) (cm : Option Addr) (d6 dt : Nat) (ki : Int), cellsAt ab (a0.add 9) [.int .i64 c0, .int .i64 dl, .int .u64 f0, .int .i64 gw, .int .i64 i0, .int .i64 df, .slice cm d6 dt, .int .u64 ki] 0 ∧
 Calls Try.prog 50 #[.agg #[.int .i64 c0, .int .i64 dl, .int .u64 f0, .int .i64 gw, .int .i64 i0, .int .i64 df, .slice cm d6 dt, .int .u64 ki]] ab fun qi ag => ∃ (g1 : Bool), qi = .returned (.bool g1) ∧
 bif !g1 then (
 R (.bool false) ag) else (
 bif a1 then (
 ∃ (ml : Int), ag.cell? (a0.add 17) = some (.int .i64 ml) ∧
 bif decide (ml < 0) then (
 R (.bool false) ag) else (
 ∃ (lk : Int), ag.cell? (a0.add 17) = some (.int .i64 lk) ∧
 bif decide (lk ≥ 8) then (
 R (.bool false) ag) else (
 ∃ (ow : Option Addr) (ob nt : Nat), ag.cell? (a0.add 18) = some (.slice ow ob nt) ∧
 Calls Try.prog 51 #[.slice ow ob nt] ag fun sg au => ∃ (eu : Bool), sg = .returned (.bool eu) ∧
 bif !eu then (
 R (.bool false) au) else (
 bif !a1 then (
 ∃ (ne : Int), au.cell? (a0.add 17) = some (.int .i64 ne) ∧
 bif ne != 0 then (
 R (.bool false) au) else (
 ∃ (si : Option Addr) (om qj : Nat), au.cell? (a0.add 18) = some (.slice si om qj) ∧
 bif decide ((om : Int) > 0) then (
 R (.bool false) au) else (
 ∃ (jo : Int), au.cell? (a0.add 0) = some (.int .i64 jo) ∧
 bif jo == 3 then (
 R (.bool true) au) else (
 ∃ (le : Int), au.cell? (a0.add 19) = some (.int .u64 le) ∧
 R (.bool (le == 0)) au)))) else (
 ∃ (jc : Int), au.cell? (a0.add 0) = some (.int .i64 jc) ∧
 bif jc == 3 then (
 R (.bool true) au) else (
 ∃ (m2 : Int), au.cell? (a0.add 19) = some (.int .u64 m2) ∧
 R (.bool (m2 == 0)) au)))))) else (
 bif !a1 then (
 ∃ (mb : Int), ag.cell? (a0.add 17) = some (.int .i64 mb) ∧
 bif mb != 0 then (
 R (.bool false) ag) else (
 ∃ (qt : Option Addr) (o1 qv : Nat), ag.cell? (a0.add 18) = some (.slice qt o1 qv) ∧
 bif decide ((o1 : Int) > 0) then (
 R (.bool false) ag) else (
 ∃ (jh : Int), ag.cell? (a0.add 0) = some (.int .i64 jh) ∧
 bif jh == 3 then (
 R (.bool true) ag) else (
 ∃ (lx : Int), ag.cell? (a0.add 19) = some (.int .u64 lx) ∧
 R (.bool (lx == 0)) ag)))) else (
 ∃ (k1 : Int), ag.cell? (a0.add 0) = some (.int .i64 k1) ∧
 bif k1 == 3 then (
 R (.bool true) ag) else (
 ∃ (n9 : Int), ag.cell? (a0.add 19) = some (.int .u64 n9) ∧
 R (.bool (n9 == 0)) ag))))) else (
 bif a1 then (
 ∃ (na : Int), ab.cell? (a0.add 17) = some (.int .i64 na) ∧
 bif decide (na < 0) then (
 R (.bool false) ab) else (
 ∃ (n1 : Int), ab.cell? (a0.add 17) = some (.int .i64 n1) ∧
 bif decide (n1 ≥ 8) then (
 R (.bool false) ab) else (
 ∃ (o7 : Option Addr) (o9 oo : Nat), ab.cell? (a0.add 18) = some (.slice o7 o9 oo) ∧
 Calls Try.prog 51 #[.slice o7 o9 oo] ab fun sc ay => ∃ (g6 : Bool), sc = .returned (.bool g6) ∧
 bif !g6 then (
 R (.bool false) ay) else (
 bif !a1 then (
 ∃ (ly : Int), ay.cell? (a0.add 17) = some (.int .i64 ly) ∧
 bif ly != 0 then (
 R (.bool false) ay) else (
 ∃ (qy : Option Addr) (ok qc : Nat), ay.cell? (a0.add 18) = some (.slice qy ok qc) ∧
 bif decide ((ok : Int) > 0) then (
 R (.bool false) ay) else (
 ∃ (js : Int), ay.cell? (a0.add 0) = some (.int .i64 js) ∧
 bif js == 3 then (
 R (.bool true) ay) else (
 ∃ (mw : Int), ay.cell? (a0.add 19) = some (.int .u64 mw) ∧
 R (.bool (mw == 0)) ay)))) else (
 ∃ (jv : Int), ay.cell? (a0.add 0) = some (.int .i64 jv) ∧
 bif jv == 3 then (
 R (.bool true) ay) else (
 ∃ (l4 : Int), ay.cell? (a0.add 19) = some (.int .u64 l4) ∧
 R (.bool (l4 == 0)) ay)))))) else (
 bif !a1 then (
 ∃ (lu : Int), ab.cell? (a0.add 17) = some (.int .i64 lu) ∧
 bif lu != 0 then (
 R (.bool false) ab) else (
 ∃ (s4 : Option Addr) (oi qh : Nat), ab.cell? (a0.add 18) = some (.slice s4 oi qh) ∧
 bif decide ((oi : Int) > 0) then (
 R (.bool false) ab) else (
 ∃ (j4 : Int), ab.cell? (a0.add 0) = some (.int .i64 j4) ∧
 bif j4 == 3 then (
 R (.bool true) ab) else (
 ∃ (nr : Int), ab.cell? (a0.add 19) = some (.int .u64 nr) ∧
 R (.bool (nr == 0)) ab)))) else (
 ∃ (jt : Int), ab.cell? (a0.add 0) = some (.int .i64 jt) ∧
 bif jt == 3 then (
 R (.bool true) ab) else (
 ∃ (l7 : Int), ab.cell? (a0.add 19) = some (.int .u64 l7) ∧
 R (.bool (l7 == 0)) ab))))))) else (
 bif b7 then (
 ∃ (cf da eq kx gi dx : Int) (ct : Option Addr) (dk d9 : Nat) (kr : Int), cellsAt aa (a0.add 9) [.int .i64 cf, .int .i64 da, .int .u64 eq, .int .i64 kx, .int .i64 gi, .int .i64 dx, .slice ct dk d9, .int .u64 kr] 0 ∧
 Calls Try.prog 49 #[.agg #[.int .i64 cf, .int .i64 da, .int .u64 eq, .int .i64 kx, .int .i64 gi, .int .i64 dx, .slice ct dk d9, .int .u64 kr]] aa fun qk ad => ∃ (f6 : Bool), qk = .returned (.bool f6) ∧
 bif !f6 then (
 R (.bool false) ad) else (
 bif !b7 then (
 ∃ (c9 dr ga jf ir di : Int) (dz : Option Addr) (e6 de : Nat) (k2 : Int), cellsAt ad (a0.add 9) [.int .i64 c9, .int .i64 dr, .int .u64 ga, .int .i64 jf, .int .i64 ir, .int .i64 di, .slice dz e6 de, .int .u64 k2] 0 ∧
 Calls Try.prog 50 #[.agg #[.int .i64 c9, .int .i64 dr, .int .u64 ga, .int .i64 jf, .int .i64 ir, .int .i64 di, .slice dz e6 de, .int .u64 k2]] ad fun qz ae => ∃ (fm : Bool), qz = .returned (.bool fm) ∧
 bif !fm then (
 R (.bool false) ae) else (
 bif a1 then (
 ∃ (lt : Int), ae.cell? (a0.add 17) = some (.int .i64 lt) ∧
 bif decide (lt < 0) then (
 R (.bool false) ae) else (
 ∃ (mx : Int), ae.cell? (a0.add 17) = some (.int .i64 mx) ∧
 bif decide (mx ≥ 8) then (
 R (.bool false) ae) else (
 ∃ (oa : Option Addr) (nz o0 : Nat), ae.cell? (a0.add 18) = some (.slice oa nz o0) ∧
 Calls Try.prog 51 #[.slice oa nz o0] ae fun sd aw => ∃ (fi : Bool), sd = .returned (.bool fi) ∧
 bif !fi then (
 R (.bool false) aw) else (
 bif !a1 then (
 ∃ (mu : Int), aw.cell? (a0.add 17) = some (.int .i64 mu) ∧
 bif mu != 0 then (
 R (.bool false) aw) else (
 ∃ (qq : Option Addr) (oe qn : Nat), aw.cell? (a0.add 18) = some (.slice qq oe qn) ∧
 bif decide ((oe : Int) > 0) then (
 R (.bool false) aw) else (
 ∃ (k8 : Int), aw.cell? (a0.add 0) = some (.int .i64 k8) ∧
 bif k8 == 3 then (
 R (.bool true) aw) else (
 ∃ (nn : Int), aw.cell? (a0.add 19) = some (.int .u64 nn) ∧
 R (.bool (nn == 0)) aw)))) else (
 ∃ (ii : Int), aw.cell? (a0.add 0) = some (.int .i64 ii) ∧
 bif ii == 3 then (
 R (.bool true) aw) else (
 ∃ (ns : Int), aw.cell? (a0.add 19) = some (.int .u64 ns) ∧
 R (.bool (ns == 0)) aw)))))) else (
 bif !a1 then (
 ∃ (m0 : Int), ae.cell? (a0.add 17) = some (.int .i64 m0) ∧
 bif m0 != 0 then (
 R (.bool false) ae) else (
 ∃ (qs : Option Addr) (nu s1 : Nat), ae.cell? (a0.add 18) = some (.slice qs nu s1) ∧
 bif decide ((nu : Int) > 0) then (
 R (.bool false) ae) else (
 ∃ (jd : Int), ae.cell? (a0.add 0) = some (.int .i64 jd) ∧
 bif jd == 3 then (
 R (.bool true) ae) else (
 ∃ (n8 : Int), ae.cell? (a0.add 19) = some (.int .u64 n8) ∧
 R (.bool (n8 == 0)) ae)))) else (
 ∃ (ia : Int), ae.cell? (a0.add 0) = some (.int .i64 ia) ∧
 bif ia == 3 then (
 R (.bool true) ae) else (
 ∃ (mm : Int), ae.cell? (a0.add 19) = some (.int .u64 mm) ∧
 R (.bool (mm == 0)) ae))))) else (
 bif a1 then (
 ∃ (l2 : Int), ad.cell? (a0.add 17) = some (.int .i64 l2) ∧
 bif decide (l2 < 0) then (
 R (.bool false) ad) else (
 ∃ (m1 : Int), ad.cell? (a0.add 17) = some (.int .i64 m1) ∧
 bif decide (m1 ≥ 8) then (
 R (.bool false) ad) else (
 ∃ (oy : Option Addr) (op ov : Nat), ad.cell? (a0.add 18) = some (.slice oy op ov) ∧
 Calls Try.prog 51 #[.slice oy op ov] ad fun sh az => ∃ (e7 : Bool), sh = .returned (.bool e7) ∧
 bif !e7 then (
 R (.bool false) az) else (
 bif !a1 then (
 ∃ (md : Int), az.cell? (a0.add 17) = some (.int .i64 md) ∧
 bif md != 0 then (
 R (.bool false) az) else (
 ∃ (s6 : Option Addr) (oj s9 : Nat), az.cell? (a0.add 18) = some (.slice s6 oj s9) ∧
 bif decide ((oj : Int) > 0) then (
 R (.bool false) az) else (
 ∃ (it : Int), az.cell? (a0.add 0) = some (.int .i64 it) ∧
 bif it == 3 then (
 R (.bool true) az) else (
 ∃ (lj : Int), az.cell? (a0.add 19) = some (.int .u64 lj) ∧
 R (.bool (lj == 0)) az)))) else (
 ∃ (kt : Int), az.cell? (a0.add 0) = some (.int .i64 kt) ∧
 bif kt == 3 then (
 R (.bool true) az) else (
 ∃ (mc : Int), az.cell? (a0.add 19) = some (.int .u64 mc) ∧
 R (.bool (mc == 0)) az)))))) else (
 bif !a1 then (
 ∃ (m9 : Int), ad.cell? (a0.add 17) = some (.int .i64 m9) ∧
 bif m9 != 0 then (
 R (.bool false) ad) else (
 ∃ (sf : Option Addr) (o3 qd : Nat), ad.cell? (a0.add 18) = some (.slice sf o3 qd) ∧
 bif decide ((o3 : Int) > 0) then (
 R (.bool false) ad) else (
 ∃ (iz : Int), ad.cell? (a0.add 0) = some (.int .i64 iz) ∧
 bif iz == 3 then (
 R (.bool true) ad) else (
 ∃ (mi : Int), ad.cell? (a0.add 19) = some (.int .u64 mi) ∧
 R (.bool (mi == 0)) ad)))) else (
 ∃ (im : Int), ad.cell? (a0.add 0) = some (.int .i64 im) ∧
 bif im == 3 then (
 R (.bool true) ad) else (
 ∃ (nd : Int), ad.cell? (a0.add 19) = some (.int .u64 nd) ∧
 R (.bool (nd == 0)) ad)))))) else (
 bif !b7 then (
 ∃ (c7 dd es jk ko d7 : Int) (e0 : Option Addr) (dp cn : Nat) (kc : Int), cellsAt aa (a0.add 9) [.int .i64 c7, .int .i64 dd, .int .u64 es, .int .i64 jk, .int .i64 ko, .int .i64 d7, .slice e0 dp cn, .int .u64 kc] 0 ∧
 Calls Try.prog 50 #[.agg #[.int .i64 c7, .int .i64 dd, .int .u64 es, .int .i64 jk, .int .i64 ko, .int .i64 d7, .slice e0 dp cn, .int .u64 kc]] aa fun s2 ah => ∃ (gc : Bool), s2 = .returned (.bool gc) ∧
 bif !gc then (
 R (.bool false) ah) else (
 bif a1 then (
 ∃ (n7 : Int), ah.cell? (a0.add 17) = some (.int .i64 n7) ∧
 bif decide (n7 < 0) then (
 R (.bool false) ah) else (
 ∃ (mq : Int), ah.cell? (a0.add 17) = some (.int .i64 mq) ∧
 bif decide (mq ≥ 8) then (
 R (.bool false) ah) else (
 ∃ (ny : Option Addr) (ol nv : Nat), ah.cell? (a0.add 18) = some (.slice ny ol nv) ∧
 Calls Try.prog 51 #[.slice ny ol nv] ah fun s3 ax => ∃ (gd : Bool), s3 = .returned (.bool gd) ∧
 bif !gd then (
 R (.bool false) ax) else (
 bif !a1 then (
 ∃ (lb : Int), ax.cell? (a0.add 17) = some (.int .i64 lb) ∧
 bif lb != 0 then (
 R (.bool false) ax) else (
 ∃ (ql : Option Addr) (o4 qx : Nat), ax.cell? (a0.add 18) = some (.slice ql o4 qx) ∧
 bif decide ((o4 : Int) > 0) then (
 R (.bool false) ax) else (
 ∃ (kn : Int), ax.cell? (a0.add 0) = some (.int .i64 kn) ∧
 bif kn == 3 then (
 R (.bool true) ax) else (
 ∃ (ms : Int), ax.cell? (a0.add 19) = some (.int .u64 ms) ∧
 R (.bool (ms == 0)) ax)))) else (
 ∃ (io : Int), ax.cell? (a0.add 0) = some (.int .i64 io) ∧
 bif io == 3 then (
 R (.bool true) ax) else (
 ∃ (lh : Int), ax.cell? (a0.add 19) = some (.int .u64 lh) ∧
 R (.bool (lh == 0)) ax)))))) else (
 bif !a1 then (
 ∃ (mh : Int), ah.cell? (a0.add 17) = some (.int .i64 mh) ∧
 bif mh != 0 then (
 R (.bool false) ah) else (
 ∃ (qw : Option Addr) (ot s0 : Nat), ah.cell? (a0.add 18) = some (.slice qw ot s0) ∧
 bif decide ((ot : Int) > 0) then (
 R (.bool false) ah) else (
 ∃ (ji : Int), ah.cell? (a0.add 0) = some (.int .i64 ji) ∧
 bif ji == 3 then (
 R (.bool true) ah) else (
 ∃ (kz : Int), ah.cell? (a0.add 19) = some (.int .u64 kz) ∧
 R (.bool (kz == 0)) ah)))) else (
 ∃ (j2 : Int), ah.cell? (a0.add 0) = some (.int .i64 j2) ∧
 bif j2 == 3 then (
 R (.bool true) ah) else (
 ∃ (m6 : Int), ah.cell? (a0.add 19) = some (.int .u64 m6) ∧
 R (.bool (m6 == 0)) ah))))) else (
 bif a1 then (
 ∃ (mt : Int), aa.cell? (a0.add 17) = some (.int .i64 mt) ∧
 bif decide (mt < 0) then (
 R (.bool false) aa) else (
 ∃ (m4 : Int), aa.cell? (a0.add 17) = some (.int .i64 m4) ∧
 bif decide (m4 ≥ 8) then (
 R (.bool false) aa) else (
 ∃ (oc : Option Addr) (o2 og : Nat), aa.cell? (a0.add 18) = some (.slice oc o2 og) ∧
 Calls Try.prog 51 #[.slice oc o2 og] aa fun qf ar => ∃ (er : Bool), qf = .returned (.bool er) ∧
 bif !er then (
 R (.bool false) ar) else (
 bif !a1 then (
 ∃ (mr : Int), ar.cell? (a0.add 17) = some (.int .i64 mr) ∧
 bif mr != 0 then (
 R (.bool false) ar) else (
 ∃ (qo : Option Addr) (o5 sk : Nat), ar.cell? (a0.add 18) = some (.slice qo o5 sk) ∧
 bif decide ((o5 : Int) > 0) then (
 R (.bool false) ar) else (
 ∃ (gs : Int), ar.cell? (a0.add 0) = some (.int .i64 gs) ∧
 bif gs == 3 then (
 R (.bool true) ar) else (
 ∃ (ky : Int), ar.cell? (a0.add 19) = some (.int .u64 ky) ∧
 R (.bool (ky == 0)) ar)))) else (
 ∃ (gl : Int), ar.cell? (a0.add 0) = some (.int .i64 gl) ∧
 bif gl == 3 then (
 R (.bool true) ar) else (
 ∃ (ni : Int), ar.cell? (a0.add 19) = some (.int .u64 ni) ∧
 R (.bool (ni == 0)) ar)))))) else (
 bif !a1 then (
 ∃ (lw : Int), aa.cell? (a0.add 17) = some (.int .i64 lw) ∧
 bif lw != 0 then (
 R (.bool false) aa) else (
 ∃ (sl : Option Addr) (nw sa : Nat), aa.cell? (a0.add 18) = some (.slice sl nw sa) ∧
 bif decide ((nw : Int) > 0) then (
 R (.bool false) aa) else (
 ∃ (je : Int), aa.cell? (a0.add 0) = some (.int .i64 je) ∧
 bif je == 3 then (
 R (.bool true) aa) else (
 ∃ (kh : Int), aa.cell? (a0.add 19) = some (.int .u64 kh) ∧
 R (.bool (kh == 0)) aa)))) else (
 ∃ (fe : Int), aa.cell? (a0.add 0) = some (.int .i64 fe) ∧
 bif fe == 3 then (
 R (.bool true) aa) else (
 ∃ (kk : Int), aa.cell? (a0.add 19) = some (.int .u64 kk) ∧
 R (.bool (kk == 0)) aa)))))))) else (
 bif !pc then (
 ∃ (b2 bl ck fb g9 bn : Int) (bv : Option Addr) (c2 cc : Nat) (e8 : Int), cellsAt a3 (a0.add 1) [.int .i64 b2, .int .i64 bl, .int .u64 ck, .int .i64 fb, .int .i64 g9, .int .i64 bn, .slice bv c2 cc, .int .u64 e8] 0 ∧
 Calls Try.prog 50 #[.agg #[.int .i64 b2, .int .i64 bl, .int .u64 ck, .int .i64 fb, .int .i64 g9, .int .i64 bn, .slice bv c2 cc, .int .u64 e8]] a3 fun q4 a2 => ∃ (cv : Bool), q4 = .returned (.bool cv) ∧
 bif !cv then (
 R (.bool false) a2) else (
 bif b7 then (
 ∃ (b1 bj dc f1 fr bi : Int) (c5 : Option Addr) (bh bp : Nat) (fw : Int), cellsAt a2 (a0.add 9) [.int .i64 b1, .int .i64 bj, .int .u64 dc, .int .i64 f1, .int .i64 fr, .int .i64 bi, .slice c5 bh bp, .int .u64 fw] 0 ∧
 Calls Try.prog 49 #[.agg #[.int .i64 b1, .int .i64 bj, .int .u64 dc, .int .i64 f1, .int .i64 fr, .int .i64 bi, .slice c5 bh bp, .int .u64 fw]] a2 fun q5 a4 => ∃ (co : Bool), q5 = .returned (.bool co) ∧
 bif !co then (
 R (.bool false) a4) else (
 bif !b7 then (
 ∃ (b6 bb cy eb ev bc : Int) (cb : Option Addr) (bk bo : Nat) (en : Int), cellsAt a4 (a0.add 9) [.int .i64 b6, .int .i64 bb, .int .u64 cy, .int .i64 eb, .int .i64 ev, .int .i64 bc, .slice cb bk bo, .int .u64 en] 0 ∧
 Calls Try.prog 50 #[.agg #[.int .i64 b6, .int .i64 bb, .int .u64 cy, .int .i64 eb, .int .i64 ev, .int .i64 bc, .slice cb bk bo, .int .u64 en]] a4 fun q2 a9 => ∃ (d1 : Bool), q2 = .returned (.bool d1) ∧
 bif !d1 then (
 R (.bool false) a9) else (
 bif a1 then (
 ∃ (k5 : Int), a9.cell? (a0.add 17) = some (.int .i64 k5) ∧
 bif decide (k5 < 0) then (
 R (.bool false) a9) else (
 ∃ (ik : Int), a9.cell? (a0.add 17) = some (.int .i64 ik) ∧
 bif decide (ik ≥ 8) then (
 R (.bool false) a9) else (
 ∃ (nf : Option Addr) (l3 mj : Nat), a9.cell? (a0.add 18) = some (.slice nf l3 mj) ∧
 Calls Try.prog 51 #[.slice nf l3 mj] a9 fun pf al => ∃ (cw : Bool), pf = .returned (.bool cw) ∧
 bif !cw then (
 R (.bool false) al) else (
 bif !a1 then (
 ∃ (jz : Int), al.cell? (a0.add 17) = some (.int .i64 jz) ∧
 bif jz != 0 then (
 R (.bool false) al) else (
 ∃ (q8 : Option Addr) (nq pp : Nat), al.cell? (a0.add 18) = some (.slice q8 nq pp) ∧
 bif decide ((nq : Int) > 0) then (
 R (.bool false) al) else (
 ∃ (ek : Int), al.cell? (a0.add 0) = some (.int .i64 ek) ∧
 bif ek == 3 then (
 R (.bool true) al) else (
 ∃ (ie : Int), al.cell? (a0.add 19) = some (.int .u64 ie) ∧
 R (.bool (ie == 0)) al)))) else (
 ∃ (ft : Int), al.cell? (a0.add 0) = some (.int .i64 ft) ∧
 bif ft == 3 then (
 R (.bool true) al) else (
 ∃ (jx : Int), al.cell? (a0.add 19) = some (.int .u64 jx) ∧
 R (.bool (jx == 0)) al)))))) else (
 bif !a1 then (
 ∃ (i6 : Int), a9.cell? (a0.add 17) = some (.int .i64 i6) ∧
 bif i6 != 0 then (
 R (.bool false) a9) else (
 ∃ (q9 : Option Addr) (nm pt : Nat), a9.cell? (a0.add 18) = some (.slice q9 nm pt) ∧
 bif decide ((nm : Int) > 0) then (
 R (.bool false) a9) else (
 ∃ (g0 : Int), a9.cell? (a0.add 0) = some (.int .i64 g0) ∧
 bif g0 == 3 then (
 R (.bool true) a9) else (
 ∃ (gn : Int), a9.cell? (a0.add 19) = some (.int .u64 gn) ∧
 R (.bool (gn == 0)) a9)))) else (
 ∃ (ez : Int), a9.cell? (a0.add 0) = some (.int .i64 ez) ∧
 bif ez == 3 then (
 R (.bool true) a9) else (
 ∃ (gm : Int), a9.cell? (a0.add 19) = some (.int .u64 gm) ∧
 R (.bool (gm == 0)) a9))))) else (
 bif a1 then (
 ∃ (gy : Int), a4.cell? (a0.add 17) = some (.int .i64 gy) ∧
 bif decide (gy < 0) then (
 R (.bool false) a4) else (
 ∃ (k6 : Int), a4.cell? (a0.add 17) = some (.int .i64 k6) ∧
 bif decide (k6 ≥ 8) then (
 R (.bool false) a4) else (
 ∃ (me : Option Addr) (lp n0 : Nat), a4.cell? (a0.add 18) = some (.slice me lp n0) ∧
 Calls Try.prog 51 #[.slice me lp n0] a4 fun p2 ap => ∃ (db : Bool), p2 = .returned (.bool db) ∧
 bif !db then (
 R (.bool false) ap) else (
 bif !a1 then (
 ∃ (j6 : Int), ap.cell? (a0.add 17) = some (.int .i64 j6) ∧
 bif j6 != 0 then (
 R (.bool false) ap) else (
 ∃ (p3 : Option Addr) (mp pb : Nat), ap.cell? (a0.add 18) = some (.slice p3 mp pb) ∧
 bif decide ((mp : Int) > 0) then (
 R (.bool false) ap) else (
 ∃ (ey : Int), ap.cell? (a0.add 0) = some (.int .i64 ey) ∧
 bif ey == 3 then (
 R (.bool true) ap) else (
 ∃ (jq : Int), ap.cell? (a0.add 19) = some (.int .u64 jq) ∧
 R (.bool (jq == 0)) ap)))) else (
 ∃ (ee : Int), ap.cell? (a0.add 0) = some (.int .i64 ee) ∧
 bif ee == 3 then (
 R (.bool true) ap) else (
 ∃ (kq : Int), ap.cell? (a0.add 19) = some (.int .u64 kq) ∧
 R (.bool (kq == 0)) ap)))))) else (
 bif !a1 then (
 ∃ (ge : Int), a4.cell? (a0.add 17) = some (.int .i64 ge) ∧
 bif ge != 0 then (
 R (.bool false) a4) else (
 ∃ (pi : Option Addr) (my q0 : Nat), a4.cell? (a0.add 18) = some (.slice pi my q0) ∧
 bif decide ((my : Int) > 0) then (
 R (.bool false) a4) else (
 ∃ (ef : Int), a4.cell? (a0.add 0) = some (.int .i64 ef) ∧
 bif ef == 3 then (
 R (.bool true) a4) else (
 ∃ (jy : Int), a4.cell? (a0.add 19) = some (.int .u64 jy) ∧
 R (.bool (jy == 0)) a4)))) else (
 ∃ (em : Int), a4.cell? (a0.add 0) = some (.int .i64 em) ∧
 bif em == 3 then (
 R (.bool true) a4) else (
 ∃ (i3 : Int), a4.cell? (a0.add 19) = some (.int .u64 i3) ∧
 R (.bool (i3 == 0)) a4)))))) else (
 bif !b7 then (
 ∃ (b4 bm cj fx fv c8 : Int) (ba : Option Addr) (ce bq : Nat) (fq : Int), cellsAt a2 (a0.add 9) [.int .i64 b4, .int .i64 bm, .int .u64 cj, .int .i64 fx, .int .i64 fv, .int .i64 c8, .slice ba ce bq, .int .u64 fq] 0 ∧
 Calls Try.prog 50 #[.agg #[.int .i64 b4, .int .i64 bm, .int .u64 cj, .int .i64 fx, .int .i64 fv, .int .i64 c8, .slice ba ce bq, .int .u64 fq]] a2 fun p7 a8 => ∃ (e2 : Bool), p7 = .returned (.bool e2) ∧
 bif !e2 then (
 R (.bool false) a8) else (
 bif a1 then (
 ∃ (j0 : Int), a8.cell? (a0.add 17) = some (.int .i64 j0) ∧
 bif decide (j0 < 0) then (
 R (.bool false) a8) else (
 ∃ (jb : Int), a8.cell? (a0.add 17) = some (.int .i64 jb) ∧
 bif decide (jb ≥ 8) then (
 R (.bool false) a8) else (
 ∃ (n2 : Option Addr) (lo la : Nat), a8.cell? (a0.add 18) = some (.slice n2 lo la) ∧
 Calls Try.prog 51 #[.slice n2 lo la] a8 fun p5 ao => ∃ (dh : Bool), p5 = .returned (.bool dh) ∧
 bif !dh then (
 R (.bool false) ao) else (
 bif !a1 then (
 ∃ (gh : Int), ao.cell? (a0.add 17) = some (.int .i64 gh) ∧
 bif gh != 0 then (
 R (.bool false) ao) else (
 ∃ (qb : Option Addr) (nb pr : Nat), ao.cell? (a0.add 18) = some (.slice qb nb pr) ∧
 bif decide ((nb : Int) > 0) then (
 R (.bool false) ao) else (
 ∃ (ep : Int), ao.cell? (a0.add 0) = some (.int .i64 ep) ∧
 bif ep == 3 then (
 R (.bool true) ao) else (
 ∃ (jn : Int), ao.cell? (a0.add 19) = some (.int .u64 jn) ∧
 R (.bool (jn == 0)) ao)))) else (
 ∃ (gb : Int), ao.cell? (a0.add 0) = some (.int .i64 gb) ∧
 bif gb == 3 then (
 R (.bool true) ao) else (
 ∃ (jg : Int), ao.cell? (a0.add 19) = some (.int .u64 jg) ∧
 R (.bool (jg == 0)) ao)))))) else (
 bif !a1 then (
 ∃ (jl : Int), a8.cell? (a0.add 17) = some (.int .i64 jl) ∧
 bif jl != 0 then (
 R (.bool false) a8) else (
 ∃ (pa : Option Addr) (n4 ph : Nat), a8.cell? (a0.add 18) = some (.slice pa n4 ph) ∧
 bif decide ((n4 : Int) > 0) then (
 R (.bool false) a8) else (
 ∃ (ew : Int), a8.cell? (a0.add 0) = some (.int .i64 ew) ∧
 bif ew == 3 then (
 R (.bool true) a8) else (
 ∃ (j5 : Int), a8.cell? (a0.add 19) = some (.int .u64 j5) ∧
 R (.bool (j5 == 0)) a8)))) else (
 ∃ (eg : Int), a8.cell? (a0.add 0) = some (.int .i64 eg) ∧
 bif eg == 3 then (
 R (.bool true) a8) else (
 ∃ (ja : Int), a8.cell? (a0.add 19) = some (.int .u64 ja) ∧
 R (.bool (ja == 0)) a8))))) else (
 bif a1 then (
 ∃ (ig : Int), a2.cell? (a0.add 17) = some (.int .i64 ig) ∧
 bif decide (ig < 0) then (
 R (.bool false) a2) else (
 ∃ (i7 : Int), a2.cell? (a0.add 17) = some (.int .i64 i7) ∧
 bif decide (i7 ≥ 8) then (
 R (.bool false) a2) else (
 ∃ (l8 : Option Addr) (lv n6 : Nat), a2.cell? (a0.add 18) = some (.slice l8 lv n6) ∧
 Calls Try.prog 51 #[.slice l8 lv n6] a2 fun pg aj => ∃ (dv : Bool), pg = .returned (.bool dv) ∧
 bif !dv then (
 R (.bool false) aj) else (
 bif !a1 then (
 ∃ (kd : Int), aj.cell? (a0.add 17) = some (.int .i64 kd) ∧
 bif kd != 0 then (
 R (.bool false) aj) else (
 ∃ (pq : Option Addr) (n5 q7 : Nat), aj.cell? (a0.add 18) = some (.slice pq n5 q7) ∧
 bif decide ((n5 : Int) > 0) then (
 R (.bool false) aj) else (
 ∃ (ej : Int), aj.cell? (a0.add 0) = some (.int .i64 ej) ∧
 bif ej == 3 then (
 R (.bool true) aj) else (
 ∃ (ib : Int), aj.cell? (a0.add 19) = some (.int .u64 ib) ∧
 R (.bool (ib == 0)) aj)))) else (
 ∃ (fz : Int), aj.cell? (a0.add 0) = some (.int .i64 fz) ∧
 bif fz == 3 then (
 R (.bool true) aj) else (
 ∃ (iu : Int), aj.cell? (a0.add 19) = some (.int .u64 iu) ∧
 R (.bool (iu == 0)) aj)))))) else (
 bif !a1 then (
 ∃ (jm : Int), a2.cell? (a0.add 17) = some (.int .i64 jm) ∧
 bif jm != 0 then (
 R (.bool false) a2) else (
 ∃ (q3 : Option Addr) (mk ps : Nat), a2.cell? (a0.add 18) = some (.slice q3 mk ps) ∧
 bif decide ((mk : Int) > 0) then (
 R (.bool false) a2) else (
 ∃ (el : Int), a2.cell? (a0.add 0) = some (.int .i64 el) ∧
 bif el == 3 then (
 R (.bool true) a2) else (
 ∃ (i1 : Int), a2.cell? (a0.add 19) = some (.int .u64 i1) ∧
 R (.bool (i1 == 0)) a2)))) else (
 ∃ (eh : Int), a2.cell? (a0.add 0) = some (.int .i64 eh) ∧
 bif eh == 3 then (
 R (.bool true) a2) else (
 ∃ (jr : Int), a2.cell? (a0.add 19) = some (.int .u64 jr) ∧
 R (.bool (jr == 0)) a2))))))) else (
 bif b7 then (
 ∃ (b5 br cs fy f4 c3 : Int) (ca : Option Addr) (c6 b9 : Nat) (fa : Int), cellsAt a3 (a0.add 9) [.int .i64 b5, .int .i64 br, .int .u64 cs, .int .i64 fy, .int .i64 f4, .int .i64 c3, .slice ca c6 b9, .int .u64 fa] 0 ∧
 Calls Try.prog 49 #[.agg #[.int .i64 b5, .int .i64 br, .int .u64 cs, .int .i64 fy, .int .i64 f4, .int .i64 c3, .slice ca c6 b9, .int .u64 fa]] a3 fun pk a5 => ∃ (cz : Bool), pk = .returned (.bool cz) ∧
 bif !cz then (
 R (.bool false) a5) else (
 bif !b7 then (
 ∃ (b0 bu dy f5 f2 bd : Int) (bw : Option Addr) (bf cd : Nat) (g2 : Int), cellsAt a5 (a0.add 9) [.int .i64 b0, .int .i64 bu, .int .u64 dy, .int .i64 f5, .int .i64 f2, .int .i64 bd, .slice bw bf cd, .int .u64 g2] 0 ∧
 Calls Try.prog 50 #[.agg #[.int .i64 b0, .int .i64 bu, .int .u64 dy, .int .i64 f5, .int .i64 f2, .int .i64 bd, .slice bw bf cd, .int .u64 g2]] a5 fun py a7 => ∃ (ds : Bool), py = .returned (.bool ds) ∧
 bif !ds then (
 R (.bool false) a7) else (
 bif a1 then (
 ∃ (jp : Int), a7.cell? (a0.add 17) = some (.int .i64 jp) ∧
 bif decide (jp < 0) then (
 R (.bool false) a7) else (
 ∃ (ic : Int), a7.cell? (a0.add 17) = some (.int .i64 ic) ∧
 bif decide (ic ≥ 8) then (
 R (.bool false) a7) else (
 ∃ (nh : Option Addr) (m5 lm : Nat), a7.cell? (a0.add 18) = some (.slice nh m5 lm) ∧
 Calls Try.prog 51 #[.slice nh m5 lm] a7 fun q1 an => ∃ (e3 : Bool), q1 = .returned (.bool e3) ∧
 bif !e3 then (
 R (.bool false) an) else (
 bif !a1 then (
 ∃ (gt : Int), an.cell? (a0.add 17) = some (.int .i64 gt) ∧
 bif gt != 0 then (
 R (.bool false) an) else (
 ∃ (pw : Option Addr) (ng p0 : Nat), an.cell? (a0.add 18) = some (.slice pw ng p0) ∧
 bif decide ((ng : Int) > 0) then (
 R (.bool false) an) else (
 ∃ (et : Int), an.cell? (a0.add 0) = some (.int .i64 et) ∧
 bif et == 3 then (
 R (.bool true) an) else (
 ∃ (j7 : Int), an.cell? (a0.add 19) = some (.int .u64 j7) ∧
 R (.bool (j7 == 0)) an)))) else (
 ∃ (fu : Int), an.cell? (a0.add 0) = some (.int .i64 fu) ∧
 bif fu == 3 then (
 R (.bool true) an) else (
 ∃ (iv : Int), an.cell? (a0.add 19) = some (.int .u64 iv) ∧
 R (.bool (iv == 0)) an)))))) else (
 bif !a1 then (
 ∃ (il : Int), a7.cell? (a0.add 17) = some (.int .i64 il) ∧
 bif il != 0 then (
 R (.bool false) a7) else (
 ∃ (p9 : Option Addr) (m8 pv : Nat), a7.cell? (a0.add 18) = some (.slice p9 m8 pv) ∧
 bif decide ((m8 : Int) > 0) then (
 R (.bool false) a7) else (
 ∃ (f7 : Int), a7.cell? (a0.add 0) = some (.int .i64 f7) ∧
 bif f7 == 3 then (
 R (.bool true) a7) else (
 ∃ (iy : Int), a7.cell? (a0.add 19) = some (.int .u64 iy) ∧
 R (.bool (iy == 0)) a7)))) else (
 ∃ (fh : Int), a7.cell? (a0.add 0) = some (.int .i64 fh) ∧
 bif fh == 3 then (
 R (.bool true) a7) else (
 ∃ (kv : Int), a7.cell? (a0.add 19) = some (.int .u64 kv) ∧
 R (.bool (kv == 0)) a7))))) else (
 bif a1 then (
 ∃ (gq : Int), a5.cell? (a0.add 17) = some (.int .i64 gq) ∧
 bif decide (gq < 0) then (
 R (.bool false) a5) else (
 ∃ (i9 : Int), a5.cell? (a0.add 17) = some (.int .i64 i9) ∧
 bif decide (i9 ≥ 8) then (
 R (.bool false) a5) else (
 ∃ (ll : Option Addr) (lq ld : Nat), a5.cell? (a0.add 18) = some (.slice ll lq ld) ∧
 Calls Try.prog 51 #[.slice ll lq ld] a5 fun pm am => ∃ (d5 : Bool), pm = .returned (.bool d5) ∧
 bif !d5 then (
 R (.bool false) am) else (
 bif !a1 then (
 ∃ (kf : Int), am.cell? (a0.add 17) = some (.int .i64 kf) ∧
 bif kf != 0 then (
 R (.bool false) am) else (
 ∃ (pj : Option Addr) (li p8 : Nat), am.cell? (a0.add 18) = some (.slice pj li p8) ∧
 bif decide ((li : Int) > 0) then (
 R (.bool false) am) else (
 ∃ (g8 : Int), am.cell? (a0.add 0) = some (.int .i64 g8) ∧
 bif g8 == 3 then (
 R (.bool true) am) else (
 ∃ (ij : Int), am.cell? (a0.add 19) = some (.int .u64 ij) ∧
 R (.bool (ij == 0)) am)))) else (
 ∃ (eo : Int), am.cell? (a0.add 0) = some (.int .i64 eo) ∧
 bif eo == 3 then (
 R (.bool true) am) else (
 ∃ (kp : Int), am.cell? (a0.add 19) = some (.int .u64 kp) ∧
 R (.bool (kp == 0)) am)))))) else (
 bif !a1 then (
 ∃ (j9 : Int), a5.cell? (a0.add 17) = some (.int .i64 j9) ∧
 bif j9 != 0 then (
 R (.bool false) a5) else (
 ∃ (pu : Option Addr) (n3 p4 : Nat), a5.cell? (a0.add 18) = some (.slice pu n3 p4) ∧
 bif decide ((n3 : Int) > 0) then (
 R (.bool false) a5) else (
 ∃ (e9 : Int), a5.cell? (a0.add 0) = some (.int .i64 e9) ∧
 bif e9 == 3 then (
 R (.bool true) a5) else (
 ∃ (k3 : Int), a5.cell? (a0.add 19) = some (.int .u64 k3) ∧
 R (.bool (k3 == 0)) a5)))) else (
 ∃ (fk : Int), a5.cell? (a0.add 0) = some (.int .i64 fk) ∧
 bif fk == 3 then (
 R (.bool true) a5) else (
 ∃ (gf : Int), a5.cell? (a0.add 19) = some (.int .u64 gf) ∧
 R (.bool (gf == 0)) a5)))))) else (
 bif !b7 then (
 ∃ (b3 c1 d0 fg f9 be : Int) (bx : Option Addr) (bg bt : Nat) (fc : Int), cellsAt a3 (a0.add 9) [.int .i64 b3, .int .i64 c1, .int .u64 d0, .int .i64 fg, .int .i64 f9, .int .i64 be, .slice bx bg bt, .int .u64 fc] 0 ∧
 Calls Try.prog 50 #[.agg #[.int .i64 b3, .int .i64 c1, .int .u64 d0, .int .i64 fg, .int .i64 f9, .int .i64 be, .slice bx bg bt, .int .u64 fc]] a3 fun px a6 => ∃ (dn : Bool), px = .returned (.bool dn) ∧
 bif !dn then (
 R (.bool false) a6) else (
 bif a1 then (
 ∃ (ix : Int), a6.cell? (a0.add 17) = some (.int .i64 ix) ∧
 bif decide (ix < 0) then (
 R (.bool false) a6) else (
 ∃ (ke : Int), a6.cell? (a0.add 17) = some (.int .i64 ke) ∧
 bif decide (ke ≥ 8) then (
 R (.bool false) a6) else (
 ∃ (nc : Option Addr) (nk l0 : Nat), a6.cell? (a0.add 18) = some (.slice nc nk l0) ∧
 Calls Try.prog 51 #[.slice nc nk l0] a6 fun pl ai => ∃ (dm : Bool), pl = .returned (.bool dm) ∧
 bif !dm then (
 R (.bool false) ai) else (
 bif !a1 then (
 ∃ (ju : Int), ai.cell? (a0.add 17) = some (.int .i64 ju) ∧
 bif ju != 0 then (
 R (.bool false) ai) else (
 ∃ (pz : Option Addr) (np p1 : Nat), ai.cell? (a0.add 18) = some (.slice pz np p1) ∧
 bif decide ((np : Int) > 0) then (
 R (.bool false) ai) else (
 ∃ (g7 : Int), ai.cell? (a0.add 0) = some (.int .i64 g7) ∧
 bif g7 == 3 then (
 R (.bool true) ai) else (
 ∃ (kw : Int), ai.cell? (a0.add 19) = some (.int .u64 kw) ∧
 R (.bool (kw == 0)) ai)))) else (
 ∃ (fl : Int), ai.cell? (a0.add 0) = some (.int .i64 fl) ∧
 bif fl == 3 then (
 R (.bool true) ai) else (
 ∃ (i4 : Int), ai.cell? (a0.add 19) = some (.int .u64 i4) ∧
 R (.bool (i4 == 0)) ai)))))) else (
 bif !a1 then (
 ∃ (j1 : Int), a6.cell? (a0.add 17) = some (.int .i64 j1) ∧
 bif j1 != 0 then (
 R (.bool false) a6) else (
 ∃ (q6 : Option Addr) (m7 p6 : Nat), a6.cell? (a0.add 18) = some (.slice q6 m7 p6) ∧
 bif decide ((m7 : Int) > 0) then (
 R (.bool false) a6) else (
 ∃ (ec : Int), a6.cell? (a0.add 0) = some (.int .i64 ec) ∧
 bif ec == 3 then (
 R (.bool true) a6) else (
 ∃ (km : Int), a6.cell? (a0.add 19) = some (.int .u64 km) ∧
 R (.bool (km == 0)) a6)))) else (
 ∃ (fp : Int), a6.cell? (a0.add 0) = some (.int .i64 fp) ∧
 bif fp == 3 then (
 R (.bool true) a6) else (
 ∃ (k9 : Int), a6.cell? (a0.add 19) = some (.int .u64 k9) ∧
 R (.bool (k9 == 0)) a6))))) else (
 bif a1 then (
 ∃ (kl : Int), a3.cell? (a0.add 17) = some (.int .i64 kl) ∧
 bif decide (kl < 0) then (
 R (.bool false) a3) else (
 ∃ (gg : Int), a3.cell? (a0.add 17) = some (.int .i64 gg) ∧
 bif decide (gg ≥ 8) then (
 R (.bool false) a3) else (
 ∃ (m3 : Option Addr) (lc mv : Nat), a3.cell? (a0.add 18) = some (.slice m3 lc mv) ∧
 Calls Try.prog 51 #[.slice m3 lc mv] a3 fun pn ak => ∃ (cl : Bool), pn = .returned (.bool cl) ∧
 bif !cl then (
 R (.bool false) ak) else (
 bif !a1 then (
 ∃ (kj : Int), ak.cell? (a0.add 17) = some (.int .i64 kj) ∧
 bif kj != 0 then (
 R (.bool false) ak) else (
 ∃ (pe : Option Addr) (mg qa : Nat), ak.cell? (a0.add 18) = some (.slice pe mg qa) ∧
 bif decide ((mg : Int) > 0) then (
 R (.bool false) ak) else (
 ∃ (f8 : Int), ak.cell? (a0.add 0) = some (.int .i64 f8) ∧
 bif f8 == 3 then (
 R (.bool true) ak) else (
 ∃ (ip : Int), ak.cell? (a0.add 19) = some (.int .u64 ip) ∧
 R (.bool (ip == 0)) ak)))) else (
 ∃ (g3 : Int), ak.cell? (a0.add 0) = some (.int .i64 g3) ∧
 bif g3 == 3 then (
 R (.bool true) ak) else (
 ∃ (j3 : Int), ak.cell? (a0.add 19) = some (.int .u64 j3) ∧
 R (.bool (j3 == 0)) ak)))))) else (
 bif !a1 then (
 ∃ (i5 : Int), a3.cell? (a0.add 17) = some (.int .i64 i5) ∧
 bif i5 != 0 then (
 R (.bool false) a3) else (
 ∃ (pd : Option Addr) (ls po : Nat), a3.cell? (a0.add 18) = some (.slice pd ls po) ∧
 bif decide ((ls : Int) > 0) then (
 R (.bool false) a3) else (
 ∃ (fs : Int), a3.cell? (a0.add 0) = some (.int .i64 fs) ∧
 bif fs == 3 then (
 R (.bool true) a3) else (
 ∃ (jj : Int), a3.cell? (a0.add 19) = some (.int .u64 jj) ∧
 R (.bool (jj == 0)) a3)))) else (
 ∃ (g5 : Int), a3.cell? (a0.add 0) = some (.int .i64 g5) ∧
 bif g5 == 3 then (
 R (.bool true) a3) else (
 ∃ (ku : Int), a3.cell? (a0.add 19) = some (.int .u64 ku) ∧
 R (.bool (ku == 0)) a3)))))))))

abbrev Q04.J6 (a4 a5 : Bool) (a3 : Addr) (R : RW) (a2 : World) : Prop :=
 ∃ (a1 : Int), a2.cell? (a3.add 0) = some (.int .i64 a1) ∧
 bif a1 == 2 then (
 Q04.J4 a4 a5 a3 R a2) else (
 ∃ (a0 : Int), a2.cell? (a3.add 0) = some (.int .i64 a0) ∧
 Q04.J5 (a0 == 3) a4 a5 a3 R a2)

def Q04.M (ar a8 ae ai ao ap ad : Int) (af : Option Addr) (aa ac : Nat) (aq a0 a7 ab al aj a6 : Int) (a3 : Option Addr) (a5 a4 : Nat) (ak am : Int) (au : Option Addr) (av aw : Nat) (an : Int) (R : RW) (w : World) : Prop :=
 thenW (w.alloc (.cells #[.int .i64 ar, .int .i64 a8, .int .i64 ae, .int .u64 ai, .int .i64 ao, .int .i64 ap, .int .i64 ad, .slice af aa ac, .int .u64 aq, .int .i64 a0, .int .i64 a7, .int .u64 ab, .int .i64 al, .int .i64 aj, .int .i64 a6, .slice a3 a5 a4, .int .u64 ak, .int .i64 am, .slice au av aw, .int .u64 an] 30)) fun ax =>
 thenW (ax.drew) fun a9 =>
 ∃ (ag : Int), a9.cell? ((blk w.heap.size).add 0) = some (.int .i64 ag) ∧
 bif ag == 1 then (
 ∃ (ah : Int), a9.cell? ((blk w.heap.size).add 0) = some (.int .i64 ah) ∧
 Q04.J3 (ah == 4) (blk w.heap.size) R a9) else (
 ∃ (a1 : Int), a9.cell? ((blk w.heap.size).add 0) = some (.int .i64 a1) ∧
 ∃ (a2 : Int), a9.cell? ((blk w.heap.size).add 0) = some (.int .i64 a2) ∧
 Q04.J6 (a2 == 4) (a1 == 4) (blk w.heap.size) R a9)

theorem Q04.ok (am a6 ab ad ai ak aa : Int) (ac : Option Addr) (a7 a9 : Nat) (al a0 a5 a8 ag ae a4 : Int) (a1 : Option Addr) (a3 a2 : Nat) (af ah : Int) (an : Option Addr) (ao ap : Nat) (aj : Int) {R : RW} {w : World} (h : Q04.M am a6 ab ad ai ak aa ac a7 a9 al a0 a5 a8 ag ae a4 a1 a3 a2 af ah an ao ap aj R w) : Calls Try.prog 19 #[.agg #[.int .i64 am, .int .i64 a6, .int .i64 ab, .int .u64 ad, .int .i64 ai, .int .i64 ak, .int .i64 aa, .slice ac a7 a9, .int .u64 al, .int .i64 a0, .int .i64 a5, .int .u64 a8, .int .i64 ag, .int .i64 ae, .int .i64 a4, .slice a1 a3 a2, .int .u64 af, .int .i64 ah, .slice an ao ap, .int .u64 aj]] w fun e w' => ∃ v, e = .returned v ∧ R v w' :=
  Q08 follows (H := []) (args := [.agg #[.int .i64 am, .int .i64 a6, .int .i64 ab, .int .u64 ad, .int .i64 ai, .int .i64 ak, .int .i64 aa, .slice ac a7 a9, .int .u64 al, .int .i64 a0, .int .i64 a5, .int .u64 a8, .int .i64 ag, .int .i64 ae, .int .i64 a4, .slice a1 a3 a2, .int .u64 af, .int .i64 ah, .slice an ao ap, .int .u64 aj]]) (cast (by kernel_rfl) h)

def Q04.N (a1 a2 aa af ak al a8 : Int) (ac : Option Addr) (a6 a7 : Nat) (am a3 ad ae aj ah ab : Int) (a4 : Option Addr) (a9 a5 : Nat) (ai a0 : Int) (b5 : Option Addr) (an b6 : Nat) (av : Int) (R : RW) (w : World) : Prop :=
 (a1 = 1 →
 ((Q03.F a2 aa af ak al a8 ac a6 a7 am) = false →
 ∀ (b0 : World), Ext no w b0 →
 R (.bool false) b0) ∧
 ((Q03.F a2 aa af ak al a8 ac a6 a7 am) = true →
 ∀ (b0 : World) (bj : Nat), Ext no w b0 → Priv w b0 [bj] →
 Calls Try.prog 50 #[.agg #[.int .i64 a3, .int .i64 ad, .int .u64 ae, .int .i64 aj, .int .i64 ah, .int .i64 ab, .slice a4 a9 a5, .int .u64 ai]] b0 fun bc b2 => ∃ (ap : Bool), bc = .returned (.bool ap) ∧
 Keep [bj] b0 b2 ∧
 (ap = false →
 R (.bool false) b2) ∧
 (ap = true →
 (a0 ≠ 0 →
 R (.bool false) b2) ∧
 (a0 = 0 →
 ((an : Int) > 0 →
 R (.bool false) b2) ∧
 ((an : Int) ≤ 0 →
 R (.bool (av == 0)) b2))))) ∧
 (a1 ≠ 1 →
 (a1 = 2 →
 ∀ (ag : World) (bb : Nat), Ext no w ag → Priv w ag [bb] →
 Calls Try.prog 50 #[.agg #[.int .i64 a2, .int .i64 aa, .int .u64 af, .int .i64 ak, .int .i64 al, .int .i64 a8, .slice ac a6 a7, .int .u64 am]] ag fun bd b4 => ∃ (az : Bool), bd = .returned (.bool az) ∧
 Keep [bb] ag b4 ∧
 (az = false →
 R (.bool false) b4) ∧
 (az = true →
 Calls Try.prog 50 #[.agg #[.int .i64 a3, .int .i64 ad, .int .u64 ae, .int .i64 aj, .int .i64 ah, .int .i64 ab, .slice a4 a9 a5, .int .u64 ai]] b4 fun bh b1 => ∃ (ax : Bool), bh = .returned (.bool ax) ∧
 Keep [bb] b4 b1 ∧
 (ax = false →
 R (.bool false) b1) ∧
 (ax = true →
 (a0 < 0 →
 R (.bool false) b1) ∧
 ((0 : Int) ≤ a0 →
 (a0 ≥ 8 →
 R (.bool false) b1) ∧
 (a0 < 8 →
 Calls Try.prog 51 #[.slice b5 an b6] b1 fun bf b8 => ∃ (aq : Bool), bf = .returned (.bool aq) ∧
 Keep [bb] b1 b8 ∧
 (aq = false →
 R (.bool false) b8) ∧
 (aq = true →
 R (.bool (av == 0)) b8)))))) ∧
 (a1 ≠ 2 →
 (a1 < 1 →
 ∀ (ag : World), Ext no w ag →
 R (.bool false) ag) ∧
 ((1 : Int) ≤ a1 →
 (a1 > 4 →
 ∀ (ag : World), Ext no w ag →
 R (.bool false) ag) ∧
 (a1 ≤ 4 →
 (a1 = 4 →
 ((Q03.F a2 aa af ak al a8 ac a6 a7 am) = false →
 ∀ (b9 : World), Ext no w b9 →
 R (.bool false) b9) ∧
 ((Q03.F a2 aa af ak al a8 ac a6 a7 am) = true →
 ((Q03.F a3 ad ae aj ah ab a4 a9 a5 ai) = false →
 ∀ (ao : World), Ext no w ao →
 R (.bool false) ao) ∧
 ((Q03.F a3 ad ae aj ah ab a4 a9 a5 ai) = true →
 (a0 ≠ 0 →
 ∀ (ao : World), Ext no w ao →
 R (.bool false) ao) ∧
 (a0 = 0 →
 ((an : Int) > 0 →
 ∀ (ao : World), Ext no w ao →
 R (.bool false) ao) ∧
 ((an : Int) ≤ 0 →
 ∀ (ao : World), Ext no w ao →
 R (.bool (av == 0)) ao))))) ∧
 (a1 ≠ 4 →
 ∀ (ag : World) (ba : Nat), Ext no w ag → Priv w ag [ba] →
 Calls Try.prog 50 #[.agg #[.int .i64 a2, .int .i64 aa, .int .u64 af, .int .i64 ak, .int .i64 al, .int .i64 a8, .slice ac a6 a7, .int .u64 am]] ag fun bg b3 => ∃ (ay : Bool), bg = .returned (.bool ay) ∧
 Keep [ba] ag b3 ∧
 (ay = false →
 R (.bool false) b3) ∧
 (ay = true →
 Calls Try.prog 50 #[.agg #[.int .i64 a3, .int .i64 ad, .int .u64 ae, .int .i64 aj, .int .i64 ah, .int .i64 ab, .slice a4 a9 a5, .int .u64 ai]] b3 fun be ar => ∃ (aw : Bool), be = .returned (.bool aw) ∧
 Keep [ba] b3 ar ∧
 (aw = false →
 R (.bool false) ar) ∧
 (aw = true →
 (a1 = 3 →
 (a0 < 0 →
 R (.bool false) ar) ∧
 ((0 : Int) ≤ a0 →
 (a0 ≥ 8 →
 R (.bool false) ar) ∧
 (a0 < 8 →
 Calls Try.prog 51 #[.slice b5 an b6] ar fun bi b7 => ∃ (au : Bool), bi = .returned (.bool au) ∧
 Keep [ba] ar b7 ∧
 (au = false →
 R (.bool false) b7) ∧
 (au = true →
 R (.bool true) b7)))) ∧
 (a1 ≠ 3 →
 (a0 ≠ 0 →
 R (.bool false) ar) ∧
 (a0 = 0 →
 ((an : Int) > 0 →
 R (.bool false) ar) ∧
 ((an : Int) ≤ 0 →
 R (.bool (av == 0)) ar))))))))))

theorem Q04.up (a1 a2 a8 ae aj al a4 : Int) (a5 : Option Addr) (a7 a6 : Nat) (ak a3 aa af ai ag ac : Int) (ab : Option Addr) (ad a9 : Nat) (ah am : Int) (ap : Option Addr) (aq ao : Nat) (an : Int) {R : RW} {w : World} (h : Q04.N a1 a2 a8 ae aj al a4 a5 a7 a6 ak a3 aa af ai ag ac ab ad a9 ah am ap aq ao an R w) : Q04.M a1 a2 a8 ae aj al a4 a5 a7 a6 ak a3 aa af ai ag ac ab ad a9 ah am ap aq ao an R w := by
  unfold Q04.M
  unfold Q04.N at h
  refine Q02 fun c6 bx => ?_
  have a0 := Blk.of_new bx
  have bs := ((Ext.refl no w)).size
  have bw := (Ext.refl no w).x_alloc bx
  refine Q02 fun b3 bz => ?_
  have ar := bw.x_drew bz
  have a0 := a0.x_drew bz
  refine ⟨a1, a0.celli 0 rfl rfl, ?_⟩
  refine bif_of (fun av => ?_) (fun av => ?_)
  ·have h := h.1 (beq_t av)
   refine ⟨a1, a0.celli 0 rfl rfl, ?_⟩
   first | unfold Q04.J3 | unfold Q04.J6
   refine ⟨a1, a0.celli 0 rfl rfl, ?_⟩
   refine bif_ff (cong1 (r := false) (fun z => z == 2) (beq_t av) (by decide)) ?_
   refine ⟨a1, a0.celli 0 rfl rfl, ?_⟩
   first | unfold Q04.J1 | unfold Q04.J2 | unfold Q04.J4 | unfold Q04.J5
   refine ⟨a1, a0.celli 0 rfl rfl, ?_⟩
   refine bif_ff (cong1 (r := false) (fun z => decide (z < 1)) (beq_t av) (by decide)) ?_
   refine ⟨a1, a0.celli 0 rfl rfl, ?_⟩
   refine bif_ff (cong1 (r := false) (fun z => decide (z > 4)) (beq_t av) (by decide)) ?_
   refine ⟨a2, a8, ae, aj, al, a4, a5, a7, a6, ak, ⟨a0.celli 1 rfl rfl, a0.celli 2 rfl rfl, a0.celli 3 rfl rfl, a0.celli 4 rfl rfl, a0.celli 5 rfl rfl, a0.celli 6 rfl rfl, a0.celli 7 rfl rfl, a0.celli 8 rfl rfl, trivial⟩, ?_⟩
   refine (Q03.pure a2 a8 ae aj al a4 a5 a7 a6 ak).mono fun ee ww24 ⟨he, hxx⟩ => ⟨(Q03.F a2 a8 ae aj al a4 a5 a7 a6 ak), he, ?_⟩
   have b8 := ar.trans hxx
   have a0 := a0.ext hxx id
   refine bif_of (fun br => ?_) (fun br => ?_)
   ·have h := h.1 (not_t br)
    have h := h ww24 b8
    exact h
   have h := h.2 (not_f br)
   refine bif_ff (cong1 (r := false) (fun z => z == 4) (beq_t av) (by decide)) ?_
   refine bif_tt (by rw [(cong1 (r := false) (fun z => z == 4) (beq_t av) (by decide))]; rfl) ?_
   refine ⟨a3, aa, af, ai, ag, ac, ab, ad, a9, ah, ⟨a0.celli 9 rfl rfl, a0.celli 10 rfl rfl, a0.celli 11 rfl rfl, a0.celli 12 rfl rfl, a0.celli 13 rfl rfl, a0.celli 14 rfl rfl, a0.celli 15 rfl rfl, a0.celli 16 rfl rfl, trivial⟩, ?_⟩
   have h := h ww24 (w.heap.size) b8 (Priv.cons bs a0.lt Priv.nil)
   refine h.mono fun c0 c8 h => ?_
   obtain ⟨ax, he, hk, h⟩ := h
   refine ⟨ax, he, ?_⟩
   have a0 := hk.blk a0 (by simp)
   refine bif_of (fun bd => ?_) (fun bd => ?_)
   ·have h := h.1 (not_t bd)
    exact h
   have h := h.2 (not_f bd)
   refine bif_ff (cong1 (r := false) (fun z => z == 3) (beq_t av) (by decide)) ?_
   refine bif_tt (by rw [(cong1 (r := false) (fun z => z == 3) (beq_t av) (by decide))]; rfl) ?_
   refine ⟨am, a0.celli 17 rfl rfl, ?_⟩
   refine bif_of (fun be => ?_) (fun be => ?_)
   ·have h := h.1 (bne_t be)
    exact h
   have h := h.2 (bne_f be)
   refine ⟨ap, aq, ao, a0.celli 18 rfl rfl, ?_⟩
   refine bif_of (fun bq => ?_) (fun bq => ?_)
   ·have h := h.1 (of_decide_eq_true bq)
    exact h
   have h := h.2 (Int.not_lt.1 (of_decide_eq_false bq))
   refine ⟨a1, a0.celli 0 rfl rfl, ?_⟩
   refine bif_ff (cong1 (r := false) (fun z => z == 3) (beq_t av) (by decide)) ?_
   refine ⟨an, a0.celli 19 rfl rfl, ?_⟩
   exact h
  have h := h.2 (beq_f av)
  refine ⟨a1, a0.celli 0 rfl rfl, ?_⟩
  refine ⟨a1, a0.celli 0 rfl rfl, ?_⟩
  first | unfold Q04.J3 | unfold Q04.J6
  refine ⟨a1, a0.celli 0 rfl rfl, ?_⟩
  refine bif_of (fun aw => ?_) (fun aw => ?_)
  ·have h := h.1 (beq_t aw)
   first | unfold Q04.J1 | unfold Q04.J2 | unfold Q04.J4 | unfold Q04.J5
   refine ⟨a1, a0.celli 0 rfl rfl, ?_⟩
   refine bif_ff (cong1 (r := false) (fun z => decide (z < 1)) (beq_t aw) (by decide)) ?_
   refine ⟨a1, a0.celli 0 rfl rfl, ?_⟩
   refine bif_ff (cong1 (r := false) (fun z => decide (z > 4)) (beq_t aw) (by decide)) ?_
   refine bif_ff (cong1 (r := false) (fun z => z == 4) (beq_t aw) (by decide)) ?_
   refine bif_tt (by rw [(cong1 (r := false) (fun z => z == 4) (beq_t aw) (by decide))]; rfl) ?_
   refine ⟨a2, a8, ae, aj, al, a4, a5, a7, a6, ak, ⟨a0.celli 1 rfl rfl, a0.celli 2 rfl rfl, a0.celli 3 rfl rfl, a0.celli 4 rfl rfl, a0.celli 5 rfl rfl, a0.celli 6 rfl rfl, a0.celli 7 rfl rfl, a0.celli 8 rfl rfl, trivial⟩, ?_⟩
   have h := h b3 (w.heap.size) ar (Priv.cons bs a0.lt Priv.nil)
   refine h.mono fun c4 c3 h => ?_
   obtain ⟨az, he, hk, h⟩ := h
   refine ⟨az, he, ?_⟩
   have a0 := hk.blk a0 (by simp)
   refine bif_of (fun bj => ?_) (fun bj => ?_)
   ·have h := h.1 (not_t bj)
    exact h
   have h := h.2 (not_f bj)
   refine bif_ff (cong1 (r := false) (fun z => z == 4) (beq_t aw) (by decide)) ?_
   refine bif_tt (by rw [(cong1 (r := false) (fun z => z == 4) (beq_t aw) (by decide))]; rfl) ?_
   refine ⟨a3, aa, af, ai, ag, ac, ab, ad, a9, ah, ⟨a0.celli 9 rfl rfl, a0.celli 10 rfl rfl, a0.celli 11 rfl rfl, a0.celli 12 rfl rfl, a0.celli 13 rfl rfl, a0.celli 14 rfl rfl, a0.celli 15 rfl rfl, a0.celli 16 rfl rfl, trivial⟩, ?_⟩
   refine h.mono fun c7 c2 h => ?_
   obtain ⟨ay, he, hk, h⟩ := h
   refine ⟨ay, he, ?_⟩
   have a0 := hk.blk a0 (by simp)
   refine bif_of (fun bp => ?_) (fun bp => ?_)
   ·have h := h.1 (not_t bp)
    exact h
   have h := h.2 (not_f bp)
   refine ⟨am, a0.celli 17 rfl rfl, ?_⟩
   refine bif_of (fun bl => ?_) (fun bl => ?_)
   ·have h := h.1 (of_decide_eq_true bl)
    exact h
   have h := h.2 (Int.not_lt.1 (of_decide_eq_false bl))
   refine ⟨am, a0.celli 17 rfl rfl, ?_⟩
   refine bif_of (fun bk => ?_) (fun bk => ?_)
   ·have h := h.1 (of_decide_eq_true bk)
    exact h
   have h := h.2 (Int.not_le.1 (of_decide_eq_false bk))
   refine ⟨ap, aq, ao, a0.celli 18 rfl rfl, ?_⟩
   refine h.mono fun cb ce h => ?_
   obtain ⟨b5, he, hk, h⟩ := h
   refine ⟨b5, he, ?_⟩
   have a0 := hk.blk a0 (by simp)
   refine bif_of (fun bf => ?_) (fun bf => ?_)
   ·have h := h.1 (not_t bf)
    exact h
   have h := h.2 (not_f bf)
   refine ⟨a1, a0.celli 0 rfl rfl, ?_⟩
   refine bif_ff (cong1 (r := false) (fun z => z == 3) (beq_t aw) (by decide)) ?_
   refine ⟨an, a0.celli 19 rfl rfl, ?_⟩
   exact h
  have h := h.2 (beq_f aw)
  refine ⟨a1, a0.celli 0 rfl rfl, ?_⟩
  first | unfold Q04.J1 | unfold Q04.J2 | unfold Q04.J4 | unfold Q04.J5
  refine ⟨a1, a0.celli 0 rfl rfl, ?_⟩
  refine bif_of (fun bt => ?_) (fun bt => ?_)
  ·have h := h.1 (of_decide_eq_true bt)
   have h := h b3 ar
   exact h
  have h := h.2 (Int.not_lt.1 (of_decide_eq_false bt))
  refine ⟨a1, a0.celli 0 rfl rfl, ?_⟩
  refine bif_of (fun b9 => ?_) (fun b9 => ?_)
  ·have h := h.1 (of_decide_eq_true b9)
   have h := h b3 ar
   exact h
  have h := h.2 (Int.not_lt.1 (of_decide_eq_false b9))
  refine bif_of (fun au => ?_) (fun au => ?_)
  ·have h := h.1 (beq_t au)
   refine ⟨a2, a8, ae, aj, al, a4, a5, a7, a6, ak, ⟨a0.celli 1 rfl rfl, a0.celli 2 rfl rfl, a0.celli 3 rfl rfl, a0.celli 4 rfl rfl, a0.celli 5 rfl rfl, a0.celli 6 rfl rfl, a0.celli 7 rfl rfl, a0.celli 8 rfl rfl, trivial⟩, ?_⟩
   refine (Q03.pure a2 a8 ae aj al a4 a5 a7 a6 ak).mono fun ee ww55 ⟨he, hxx⟩ => ⟨(Q03.F a2 a8 ae aj al a4 a5 a7 a6 ak), he, ?_⟩
   have b7 := ar.trans hxx
   have a0 := a0.ext hxx id
   refine bif_of (fun bm => ?_) (fun bm => ?_)
   ·have h := h.1 (not_t bm)
    have h := h ww55 b7
    exact h
   have h := h.2 (not_f bm)
   refine bif_ff (by rw [au]; rfl) ?_
   refine bif_tt au ?_
   refine ⟨a3, aa, af, ai, ag, ac, ab, ad, a9, ah, ⟨a0.celli 9 rfl rfl, a0.celli 10 rfl rfl, a0.celli 11 rfl rfl, a0.celli 12 rfl rfl, a0.celli 13 rfl rfl, a0.celli 14 rfl rfl, a0.celli 15 rfl rfl, a0.celli 16 rfl rfl, trivial⟩, ?_⟩
   refine (Q03.pure a3 aa af ai ag ac ab ad a9 ah).mono fun ee ww58 ⟨he, hxx⟩ => ⟨(Q03.F a3 aa af ai ag ac ab ad a9 ah), he, ?_⟩
   have b4 := b7.trans hxx
   have a0 := a0.ext hxx id
   refine bif_of (fun bo => ?_) (fun bo => ?_)
   ·have h := h.1 (not_t bo)
    have h := h ww58 b4
    exact h
   have h := h.2 (not_f bo)
   refine bif_ff (by rw [au]; rfl) ?_
   refine bif_ff (cong1 (r := false) (fun z => z == 3) (beq_t au) (by decide)) ?_
   refine bif_tt (by rw [(cong1 (r := false) (fun z => z == 3) (beq_t au) (by decide))]; rfl) ?_
   refine ⟨am, a0.celli 17 rfl rfl, ?_⟩
   refine bif_of (fun bg => ?_) (fun bg => ?_)
   ·have h := h.1 (bne_t bg)
    have h := h ww58 b4
    exact h
   have h := h.2 (bne_f bg)
   refine ⟨ap, aq, ao, a0.celli 18 rfl rfl, ?_⟩
   refine bif_of (fun bc => ?_) (fun bc => ?_)
   ·have h := h.1 (of_decide_eq_true bc)
    have h := h ww58 b4
    exact h
   have h := h.2 (Int.not_lt.1 (of_decide_eq_false bc))
   refine ⟨a1, a0.celli 0 rfl rfl, ?_⟩
   refine bif_ff (cong1 (r := false) (fun z => z == 3) (beq_t au) (by decide)) ?_
   refine ⟨an, a0.celli 19 rfl rfl, ?_⟩
   have h := h ww58 b4
   exact h
  have h := h.2 (beq_f au)
  refine bif_tt (by rw [au]; rfl) ?_
  refine ⟨a2, a8, ae, aj, al, a4, a5, a7, a6, ak, ⟨a0.celli 1 rfl rfl, a0.celli 2 rfl rfl, a0.celli 3 rfl rfl, a0.celli 4 rfl rfl, a0.celli 5 rfl rfl, a0.celli 6 rfl rfl, a0.celli 7 rfl rfl, a0.celli 8 rfl rfl, trivial⟩, ?_⟩
  have h := h b3 (w.heap.size) ar (Priv.cons bs a0.lt Priv.nil)
  refine h.mono fun c5 ca h => ?_
  obtain ⟨b2, he, hk, h⟩ := h
  refine ⟨b2, he, ?_⟩
  have a0 := hk.blk a0 (by simp)
  refine bif_of (fun bb => ?_) (fun bb => ?_)
  ·have h := h.1 (not_t bb)
   exact h
  have h := h.2 (not_f bb)
  refine bif_ff au ?_
  refine bif_tt (by rw [au]; rfl) ?_
  refine ⟨a3, aa, af, ai, ag, ac, ab, ad, a9, ah, ⟨a0.celli 9 rfl rfl, a0.celli 10 rfl rfl, a0.celli 11 rfl rfl, a0.celli 12 rfl rfl, a0.celli 13 rfl rfl, a0.celli 14 rfl rfl, a0.celli 15 rfl rfl, a0.celli 16 rfl rfl, trivial⟩, ?_⟩
  refine h.mono fun c9 c1 h => ?_
  obtain ⟨b1, he, hk, h⟩ := h
  refine ⟨b1, he, ?_⟩
  have a0 := hk.blk a0 (by simp)
  refine bif_of (fun bu => ?_) (fun bu => ?_)
  ·have h := h.1 (not_t bu)
   exact h
  have h := h.2 (not_f bu)
  refine bif_fo (fun b6 => ?_) (fun b6 => ?_)
  ·have h := h.2 (beq_f b6)
   refine bif_tt (by rw [b6]; rfl) ?_
   refine ⟨am, a0.celli 17 rfl rfl, ?_⟩
   refine bif_of (fun bn => ?_) (fun bn => ?_)
   ·have h := h.1 (bne_t bn)
    exact h
   have h := h.2 (bne_f bn)
   refine ⟨ap, aq, ao, a0.celli 18 rfl rfl, ?_⟩
   refine bif_of (fun bv => ?_) (fun bv => ?_)
   ·have h := h.1 (of_decide_eq_true bv)
    exact h
   have h := h.2 (Int.not_lt.1 (of_decide_eq_false bv))
   refine ⟨a1, a0.celli 0 rfl rfl, ?_⟩
   refine bif_ff b6 ?_
   refine ⟨an, a0.celli 19 rfl rfl, ?_⟩
   exact h
  have h := h.1 (beq_t b6)
  refine ⟨am, a0.celli 17 rfl rfl, ?_⟩
  refine bif_of (fun bh => ?_) (fun bh => ?_)
  ·have h := h.1 (of_decide_eq_true bh)
   exact h
  have h := h.2 (Int.not_lt.1 (of_decide_eq_false bh))
  refine ⟨am, a0.celli 17 rfl rfl, ?_⟩
  refine bif_of (fun ba => ?_) (fun ba => ?_)
  ·have h := h.1 (of_decide_eq_true ba)
   exact h
  have h := h.2 (Int.not_le.1 (of_decide_eq_false ba))
  refine ⟨ap, aq, ao, a0.celli 18 rfl rfl, ?_⟩
  refine h.mono fun cd cc h => ?_
  obtain ⟨b0, he, hk, h⟩ := h
  refine ⟨b0, he, ?_⟩
  have a0 := hk.blk a0 (by simp)
  refine bif_of (fun bi => ?_) (fun bi => ?_)
  ·have h := h.1 (not_t bi)
   exact h
  have h := h.2 (not_f bi)
  refine bif_ff (by rw [b6]; rfl) ?_
  refine ⟨a1, a0.celli 0 rfl rfl, ?_⟩
  refine bif_tt b6 ?_
  exact h

theorem Q04.go (am a6 ab ad ai ak aa : Int) (ac : Option Addr) (a7 a9 : Nat) (al a0 a5 a8 ag ae a4 : Int) (a1 : Option Addr) (a3 a2 : Nat) (af ah : Int) (an : Option Addr) (ao ap : Nat) (aj : Int) {R : RW} {w : World} (h : Q04.N am a6 ab ad ai ak aa ac a7 a9 al a0 a5 a8 ag ae a4 a1 a3 a2 af ah an ao ap aj R w) : Calls Try.prog 19 #[.agg #[.int .i64 am, .int .i64 a6, .int .i64 ab, .int .u64 ad, .int .i64 ai, .int .i64 ak, .int .i64 aa, .slice ac a7 a9, .int .u64 al, .int .i64 a0, .int .i64 a5, .int .u64 a8, .int .i64 ag, .int .i64 ae, .int .i64 a4, .slice a1 a3 a2, .int .u64 af, .int .i64 ah, .slice an ao ap, .int .u64 aj]] w fun e w' => ∃ v, e = .returned v ∧ R v w' := Q04.ok am a6 ab ad ai ak aa ac a7 a9 al a0 a5 a8 ag ae a4 a1 a3 a2 af ah an ao ap aj (Q04.up am a6 ab ad ai ak aa ac a7 a9 al a0 a5 a8 ag ae a4 a1 a3 a2 af ah an ao ap aj h)
theorem Q04.run (am a6 ab ad ai ak aa : Int) (ac : Option Addr) (a7 a9 : Nat) (al a0 a5 a8 ag ae a4 : Int) (a1 : Option Addr) (a3 a2 : Nat) (af ah : Int) (an : Option Addr) (ao ap : Nat) (aj : Int) {V : Value} {Q : World → Prop} {w : World} (h : Q04.N am a6 ab ad ai ak aa ac a7 a9 al a0 a5 a8 ag ae a4 a1 a3 a2 af ah an ao ap aj (fun v w' => v = V ∧ Q w') w) : Calls Try.prog 19 #[.agg #[.int .i64 am, .int .i64 a6, .int .i64 ab, .int .u64 ad, .int .i64 ai, .int .i64 ak, .int .i64 aa, .slice ac a7 a9, .int .u64 al, .int .i64 a0, .int .i64 a5, .int .u64 a8, .int .i64 ag, .int .i64 ae, .int .i64 a4, .slice a1 a3 a2, .int .u64 af, .int .i64 ah, .slice an ao ap, .int .u64 aj]] w (Ret V Q) := (Q04.go am a6 ab ad ai ak aa ac a7 a9 al a0 a5 a8 ag ae a4 a1 a3 a2 af ah an ao ap aj h).mono fun e w' ⟨v, he, hv, hq⟩ => ⟨by rw [he, hv], hq⟩

def Q0s.M (ct be c1 ca cn cs bh : Int) (bj : Option Addr) (bz bq : Nat) (cq aq b4 bu c8 c6 b9 : Int) (b7 : Option Addr) (bc b3 : Nat) (c7 cm : Int) (cz : Option Addr) (d2 cx : Nat) (cr c5 ap b5 bp cf cc bb : Int) (ba : Option Addr) (az b2 : Nat) (c9 au bd bf ce cd b8 : Int) (b0 : Option Addr) (b6 b1 : Nat) (cb cp : Int) (cy : Option Addr) (cw d4 : Nat) (co : Int) (R : RW) (w : World) : Prop :=
 thenW (w.alloc (.cells #[.int .i64 ct, .int .i64 be, .int .i64 c1, .int .u64 ca, .int .i64 cn, .int .i64 cs, .int .i64 bh, .slice bj bz bq, .int .u64 cq, .int .i64 aq, .int .i64 b4, .int .u64 bu, .int .i64 c8, .int .i64 c6, .int .i64 b9, .slice b7 bc b3, .int .u64 c7, .int .i64 cm, .slice cz d2 cx, .int .u64 cr] 30)) fun ar =>
 thenW (ar.alloc (.cells #[.int .i64 c5, .int .i64 ap, .int .i64 b5, .int .u64 bp, .int .i64 cf, .int .i64 cc, .int .i64 bb, .slice ba az b2, .int .u64 c9, .int .i64 au, .int .i64 bd, .int .u64 bf, .int .i64 ce, .int .i64 cd, .int .i64 b8, .slice b0 b6 b1, .int .u64 cb, .int .i64 cp, .slice cy cw d4, .int .u64 co] 30)) fun a0 =>
 ∃ (bi : Int), a0.cell? ((blk w.heap.size).add 0) = some (.int .i64 bi) ∧
 ∃ (bv : Int), a0.cell? ((blk ar.heap.size).add 0) = some (.int .i64 bv) ∧
 bif bi == bv then (
 ∃ (cj : Int), a0.cell? ((blk w.heap.size).add 17) = some (.int .i64 cj) ∧
 ∃ (cl : Int), a0.cell? ((blk ar.heap.size).add 17) = some (.int .i64 cl) ∧
 bif cj == cl then (
 ∃ (ci : Int), a0.cell? ((blk w.heap.size).add 19) = some (.int .u64 ci) ∧
 ∃ (ck : Int), a0.cell? ((blk ar.heap.size).add 19) = some (.int .u64 ck) ∧
 bif ci == ck then (
 ∃ (a4 ad aw bk bl al : Int) (aj : Option Addr) (ae af : Nat) (bt : Int), cellsAt a0 ((blk w.heap.size).add 1) [.int .i64 a4, .int .i64 ad, .int .u64 aw, .int .i64 bk, .int .i64 bl, .int .i64 al, .slice aj ae af, .int .u64 bt] 0 ∧
 ∃ (a2 an ax c0 bn a8 : Int) (ag : Option Addr) (a7 ao : Nat) (bx : Int), cellsAt a0 ((blk ar.heap.size).add 1) [.int .i64 a2, .int .i64 an, .int .u64 ax, .int .i64 c0, .int .i64 bn, .int .i64 a8, .slice ag a7 ao, .int .u64 bx] 0 ∧
 Calls Try.prog 35 #[.agg #[.int .i64 a4, .int .i64 ad, .int .u64 aw, .int .i64 bk, .int .i64 bl, .int .i64 al, .slice aj ae af, .int .u64 bt], .agg #[.int .i64 a2, .int .i64 an, .int .u64 ax, .int .i64 c0, .int .i64 bn, .int .i64 a8, .slice ag a7 ao, .int .u64 bx]] a0 fun d7 cg => ∃ (bw : Bool), d7 = .returned (.bool bw) ∧
 bif bw then (
 ∃ (a1 ah av c4 c3 ak : Int) (am : Option Addr) (a9 ab : Nat) (br : Int), cellsAt cg ((blk w.heap.size).add 9) [.int .i64 a1, .int .i64 ah, .int .u64 av, .int .i64 c4, .int .i64 c3, .int .i64 ak, .slice am a9 ab, .int .u64 br] 0 ∧
 ∃ (a3 ac ay bo bm ai : Int) (aa : Option Addr) (a5 a6 : Nat) (c2 : Int), cellsAt cg ((blk ar.heap.size).add 9) [.int .i64 a3, .int .i64 ac, .int .u64 ay, .int .i64 bo, .int .i64 bm, .int .i64 ai, .slice aa a5 a6, .int .u64 c2] 0 ∧
 Calls Try.prog 35 #[.agg #[.int .i64 a1, .int .i64 ah, .int .u64 av, .int .i64 c4, .int .i64 c3, .int .i64 ak, .slice am a9 ab, .int .u64 br], .agg #[.int .i64 a3, .int .i64 ac, .int .u64 ay, .int .i64 bo, .int .i64 bm, .int .i64 ai, .slice aa a5 a6, .int .u64 c2]] cg fun d6 ch => ∃ (bg : Bool), d6 = .returned (.bool bg) ∧
 bif bg then (
 ∃ (cu : Option Addr) (d1 d5 : Nat), ch.cell? ((blk w.heap.size).add 18) = some (.slice cu d1 d5) ∧
 ∃ (d0 : Option Addr) (cv d3 : Nat), ch.cell? ((blk ar.heap.size).add 18) = some (.slice d0 cv d3) ∧
 Calls Try.prog 36 #[.slice cu d1 d5, .slice d0 cv d3] ch fun d9 d8 => ∃ (bs : Bool), d9 = .returned (.bool bs) ∧
 R (.bool bs) d8) else (
 R (.bool false) ch)) else (
 R (.bool false) cg)) else (
 R (.bool false) a0)) else (
 R (.bool false) a0)) else (
 R (.bool false) a0)

theorem Q0s.ok (ba ai ap ar b5 b7 ao : Int) (aq : Option Addr) (al an : Nat) (b9 a2 ag am b3 av af : Int) (a7 : Option Addr) (ac a9 : Nat) (az b4 : Int) (bc : Option Addr) (bd bh : Nat) (b6 au a1 a4 aj b2 ay a5 : Int) (ah : Option Addr) (a3 a8 : Nat) (b1 a0 ae ak aw b0 aa : Int) (ab : Option Addr) (a6 ad : Nat) (ax b8 : Int) (bg : Option Addr) (bf be : Nat) (bb : Int) {R : RW} {w : World} (h : Q0s.M ba ai ap ar b5 b7 ao aq al an b9 a2 ag am b3 av af a7 ac a9 az b4 bc bd bh b6 au a1 a4 aj b2 ay a5 ah a3 a8 b1 a0 ae ak aw b0 aa ab a6 ad ax b8 bg bf be bb R w) : Calls Try.prog 14 #[.agg #[.int .i64 ba, .int .i64 ai, .int .i64 ap, .int .u64 ar, .int .i64 b5, .int .i64 b7, .int .i64 ao, .slice aq al an, .int .u64 b9, .int .i64 a2, .int .i64 ag, .int .u64 am, .int .i64 b3, .int .i64 av, .int .i64 af, .slice a7 ac a9, .int .u64 az, .int .i64 b4, .slice bc bd bh, .int .u64 b6], .agg #[.int .i64 au, .int .i64 a1, .int .i64 a4, .int .u64 aj, .int .i64 b2, .int .i64 ay, .int .i64 a5, .slice ah a3 a8, .int .u64 b1, .int .i64 a0, .int .i64 ae, .int .u64 ak, .int .i64 aw, .int .i64 b0, .int .i64 aa, .slice ab a6 ad, .int .u64 ax, .int .i64 b8, .slice bg bf be, .int .u64 bb]] w fun e w' => ∃ v, e = .returned v ∧ R v w' :=
  Q08 follows (H := []) (args := [.agg #[.int .i64 ba, .int .i64 ai, .int .i64 ap, .int .u64 ar, .int .i64 b5, .int .i64 b7, .int .i64 ao, .slice aq al an, .int .u64 b9, .int .i64 a2, .int .i64 ag, .int .u64 am, .int .i64 b3, .int .i64 av, .int .i64 af, .slice a7 ac a9, .int .u64 az, .int .i64 b4, .slice bc bd bh, .int .u64 b6], .agg #[.int .i64 au, .int .i64 a1, .int .i64 a4, .int .u64 aj, .int .i64 b2, .int .i64 ay, .int .i64 a5, .slice ah a3 a8, .int .u64 b1, .int .i64 a0, .int .i64 ae, .int .u64 ak, .int .i64 aw, .int .i64 b0, .int .i64 aa, .slice ab a6 ad, .int .u64 ax, .int .i64 b8, .slice bg bf be, .int .u64 bb]]) (cast (by kernel_rfl) h)

def Q0s.N (b2 am ay b4 be bf aw : Int) (az : Option Addr) (aq av : Nat) (bh a4 ak ar bc b5 aj : Int) (ab : Option Addr) (ag ad : Nat) (b9 an : Int) (bi : Option Addr) (bk bj : Nat) (au a6 a3 a8 ao bb b8 a9 : Int) (al : Option Addr) (a7 ac : Nat) (bd a1 ai ap b6 ba ae : Int) (af : Option Addr) (aa ah : Nat) (b7 ax : Int) (bn : Option Addr) (bm bl : Nat) (b0 : Int) (R : RW) (w : World) : Prop :=
 (b2 = a6 →
 (an = ax →
 (au = b0 →
 ∀ (a0 : World) (bp bq : Nat), Ext no w a0 → Priv w a0 [bp, bq] →
 Calls Try.prog 35 #[.agg #[.int .i64 am, .int .i64 ay, .int .u64 b4, .int .i64 be, .int .i64 bf, .int .i64 aw, .slice az aq av, .int .u64 bh], .agg #[.int .i64 a3, .int .i64 a8, .int .u64 ao, .int .i64 bb, .int .i64 b8, .int .i64 a9, .slice al a7 ac, .int .u64 bd]] a0 fun br b3 => ∃ (a5 : Bool), br = .returned (.bool a5) ∧
 Keep [bp, bq] a0 b3 ∧
 (a5 = true →
 Calls Try.prog 35 #[.agg #[.int .i64 a4, .int .i64 ak, .int .u64 ar, .int .i64 bc, .int .i64 b5, .int .i64 aj, .slice ab ag ad, .int .u64 b9], .agg #[.int .i64 a1, .int .i64 ai, .int .u64 ap, .int .i64 b6, .int .i64 ba, .int .i64 ae, .slice af aa ah, .int .u64 b7]] b3 fun bt bg => ∃ (a2 : Bool), bt = .returned (.bool a2) ∧
 Keep [bp, bq] b3 bg ∧
 (a2 = true →
 Calls Try.prog 36 #[.slice bi bk bj, .slice bn bm bl] bg fun bs bo => ∃ (b1 : Bool), bs = .returned (.bool b1) ∧
 R (.bool b1) bo) ∧
 (a2 = false →
 R (.bool false) bg)) ∧
 (a5 = false →
 R (.bool false) b3)) ∧
 (au ≠ b0 →
 ∀ (a0 : World), Ext no w a0 →
 R (.bool false) a0)) ∧
 (an ≠ ax →
 ∀ (a0 : World), Ext no w a0 →
 R (.bool false) a0)) ∧
 (b2 ≠ a6 →
 ∀ (a0 : World), Ext no w a0 →
 R (.bool false) a0)

theorem Q0s.up (bd aj au b0 b7 bc am : Int) (an : Option Addr) (ar ap : Nat) (ba a1 a9 aq ay aw ae : Int) (ac : Option Addr) (ah a8 : Nat) (ax b6 : Int) (bh : Option Addr) (bi bf : Nat) (bb av a0 aa ao b5 b2 ag : Int) (af : Option Addr) (a4 a7 : Nat) (az a2 ai al b4 b3 ad : Int) (a5 : Option Addr) (ab a6 : Nat) (b1 b9 : Int) (bg : Option Addr) (be bj : Nat) (b8 : Int) {R : RW} {w : World} (h : Q0s.N bd aj au b0 b7 bc am an ar ap ba a1 a9 aq ay aw ae ac ah a8 ax b6 bh bi bf bb av a0 aa ao b5 b2 ag af a4 a7 az a2 ai al b4 b3 ad a5 ab a6 b1 b9 bg be bj b8 R w) : Q0s.M bd aj au b0 b7 bc am an ar ap ba a1 a9 aq ay aw ae ac ah a8 ax b6 bh bi bf bb av a0 aa ao b5 b2 ag af a4 a7 az a2 ai al b4 b3 ad a5 ab a6 b1 b9 bg be bj b8 R w := by
  unfold Q0s.M
  unfold Q0s.N at h
  refine Q02 fun br bx => ?_
  have a3 := Blk.of_new bx
  have c7 := ((Ext.refl no w)).size
  have bp := (Ext.refl no w).x_alloc bx
  refine Q02 fun bk bu => ?_
  have ak := Blk.of_new bu
  have c2 := (bp).size
  have bz := Nat.ne_of_lt a3.lt
  have a3 := a3.x_alloc bu
  have bl := bp.x_alloc bu
  refine ⟨bd, a3.celli 0 rfl rfl, ?_⟩
  refine ⟨av, ak.celli 0 rfl rfl, ?_⟩
  refine bif_fo (fun bv => ?_) (fun bv => ?_)
  ·have h := h.2 (beq_f bv)
   have h := h bk bl
   exact h
  have h := h.1 (beq_t bv)
  refine ⟨b6, a3.celli 17 rfl rfl, ?_⟩
  refine ⟨b9, ak.celli 17 rfl rfl, ?_⟩
  refine bif_fo (fun bt => ?_) (fun bt => ?_)
  ·have h := h.2 (beq_f bt)
   have h := h bk bl
   exact h
  have h := h.1 (beq_t bt)
  refine ⟨bb, a3.celli 19 rfl rfl, ?_⟩
  refine ⟨b8, ak.celli 19 rfl rfl, ?_⟩
  refine bif_fo (fun bs => ?_) (fun bs => ?_)
  ·have h := h.2 (beq_f bs)
   have h := h bk bl
   exact h
  have h := h.1 (beq_t bs)
  refine ⟨aj, au, b0, b7, bc, am, an, ar, ap, ba, ⟨a3.celli 1 rfl rfl, a3.celli 2 rfl rfl, a3.celli 3 rfl rfl, a3.celli 4 rfl rfl, a3.celli 5 rfl rfl, a3.celli 6 rfl rfl, a3.celli 7 rfl rfl, a3.celli 8 rfl rfl, trivial⟩, ?_⟩
  refine ⟨a0, aa, ao, b5, b2, ag, af, a4, a7, az, ⟨ak.celli 1 rfl rfl, ak.celli 2 rfl rfl, ak.celli 3 rfl rfl, ak.celli 4 rfl rfl, ak.celli 5 rfl rfl, ak.celli 6 rfl rfl, ak.celli 7 rfl rfl, ak.celli 8 rfl rfl, trivial⟩, ?_⟩
  have h := h bk (w.heap.size) (br.heap.size) bl (Priv.cons c7 a3.lt (Priv.cons c2 ak.lt Priv.nil))
  refine h.mono fun c3 c6 h => ?_
  obtain ⟨bn, he, hk, h⟩ := h
  refine ⟨bn, he, ?_⟩
  have a3 := hk.blk a3 (by simp)
  have ak := hk.blk ak (by simp)
  refine bif_fo (fun bq => ?_) (fun bq => ?_)
  ·have h := h.2 bq
   exact h
  have h := h.1 bq
  refine ⟨a1, a9, aq, ay, aw, ae, ac, ah, a8, ax, ⟨a3.celli 9 rfl rfl, a3.celli 10 rfl rfl, a3.celli 11 rfl rfl, a3.celli 12 rfl rfl, a3.celli 13 rfl rfl, a3.celli 14 rfl rfl, a3.celli 15 rfl rfl, a3.celli 16 rfl rfl, trivial⟩, ?_⟩
  refine ⟨a2, ai, al, b4, b3, ad, a5, ab, a6, b1, ⟨ak.celli 9 rfl rfl, ak.celli 10 rfl rfl, ak.celli 11 rfl rfl, ak.celli 12 rfl rfl, ak.celli 13 rfl rfl, ak.celli 14 rfl rfl, ak.celli 15 rfl rfl, ak.celli 16 rfl rfl, trivial⟩, ?_⟩
  refine h.mono fun c5 c1 h => ?_
  obtain ⟨bm, he, hk, h⟩ := h
  refine ⟨bm, he, ?_⟩
  have a3 := hk.blk a3 (by simp)
  have ak := hk.blk ak (by simp)
  refine bif_fo (fun bw => ?_) (fun bw => ?_)
  ·have h := h.2 bw
   exact h
  have h := h.1 bw
  refine ⟨bh, bi, bf, a3.celli 18 rfl rfl, ?_⟩
  refine ⟨bg, be, bj, ak.celli 18 rfl rfl, ?_⟩
  refine h.mono fun c4 c0 h => ?_
  obtain ⟨bo, he, h⟩ := h
  refine ⟨bo, he, ?_⟩
  exact h

theorem Q0s.go (ba ai ap ar b5 b7 ao : Int) (aq : Option Addr) (al an : Nat) (b9 a2 ag am b3 av af : Int) (a7 : Option Addr) (ac a9 : Nat) (az b4 : Int) (bc : Option Addr) (bd bh : Nat) (b6 au a1 a4 aj b2 ay a5 : Int) (ah : Option Addr) (a3 a8 : Nat) (b1 a0 ae ak aw b0 aa : Int) (ab : Option Addr) (a6 ad : Nat) (ax b8 : Int) (bg : Option Addr) (bf be : Nat) (bb : Int) {R : RW} {w : World} (h : Q0s.N ba ai ap ar b5 b7 ao aq al an b9 a2 ag am b3 av af a7 ac a9 az b4 bc bd bh b6 au a1 a4 aj b2 ay a5 ah a3 a8 b1 a0 ae ak aw b0 aa ab a6 ad ax b8 bg bf be bb R w) : Calls Try.prog 14 #[.agg #[.int .i64 ba, .int .i64 ai, .int .i64 ap, .int .u64 ar, .int .i64 b5, .int .i64 b7, .int .i64 ao, .slice aq al an, .int .u64 b9, .int .i64 a2, .int .i64 ag, .int .u64 am, .int .i64 b3, .int .i64 av, .int .i64 af, .slice a7 ac a9, .int .u64 az, .int .i64 b4, .slice bc bd bh, .int .u64 b6], .agg #[.int .i64 au, .int .i64 a1, .int .i64 a4, .int .u64 aj, .int .i64 b2, .int .i64 ay, .int .i64 a5, .slice ah a3 a8, .int .u64 b1, .int .i64 a0, .int .i64 ae, .int .u64 ak, .int .i64 aw, .int .i64 b0, .int .i64 aa, .slice ab a6 ad, .int .u64 ax, .int .i64 b8, .slice bg bf be, .int .u64 bb]] w fun e w' => ∃ v, e = .returned v ∧ R v w' := Q0s.ok ba ai ap ar b5 b7 ao aq al an b9 a2 ag am b3 av af a7 ac a9 az b4 bc bd bh b6 au a1 a4 aj b2 ay a5 ah a3 a8 b1 a0 ae ak aw b0 aa ab a6 ad ax b8 bg bf be bb (Q0s.up ba ai ap ar b5 b7 ao aq al an b9 a2 ag am b3 av af a7 ac a9 az b4 bc bd bh b6 au a1 a4 aj b2 ay a5 ah a3 a8 b1 a0 ae ak aw b0 aa ab a6 ad ax b8 bg bf be bb h)
theorem Q0s.run (ba ai ap ar b5 b7 ao : Int) (aq : Option Addr) (al an : Nat) (b9 a2 ag am b3 av af : Int) (a7 : Option Addr) (ac a9 : Nat) (az b4 : Int) (bc : Option Addr) (bd bh : Nat) (b6 au a1 a4 aj b2 ay a5 : Int) (ah : Option Addr) (a3 a8 : Nat) (b1 a0 ae ak aw b0 aa : Int) (ab : Option Addr) (a6 ad : Nat) (ax b8 : Int) (bg : Option Addr) (bf be : Nat) (bb : Int) {V : Value} {Q : World → Prop} {w : World} (h : Q0s.N ba ai ap ar b5 b7 ao aq al an b9 a2 ag am b3 av af a7 ac a9 az b4 bc bd bh b6 au a1 a4 aj b2 ay a5 ah a3 a8 b1 a0 ae ak aw b0 aa ab a6 ad ax b8 bg bf be bb (fun v w' => v = V ∧ Q w') w) : Calls Try.prog 14 #[.agg #[.int .i64 ba, .int .i64 ai, .int .i64 ap, .int .u64 ar, .int .i64 b5, .int .i64 b7, .int .i64 ao, .slice aq al an, .int .u64 b9, .int .i64 a2, .int .i64 ag, .int .u64 am, .int .i64 b3, .int .i64 av, .int .i64 af, .slice a7 ac a9, .int .u64 az, .int .i64 b4, .slice bc bd bh, .int .u64 b6], .agg #[.int .i64 au, .int .i64 a1, .int .i64 a4, .int .u64 aj, .int .i64 b2, .int .i64 ay, .int .i64 a5, .slice ah a3 a8, .int .u64 b1, .int .i64 a0, .int .i64 ae, .int .u64 ak, .int .i64 aw, .int .i64 b0, .int .i64 aa, .slice ab a6 ad, .int .u64 ax, .int .i64 b8, .slice bg bf be, .int .u64 bb]] w (Ret V Q) := (Q0s.go ba ai ap ar b5 b7 ao aq al an b9 a2 ag am b3 av af a7 ac a9 az b4 bc bd bh b6 au a1 a4 aj b2 ay a5 ah a3 a8 b1 a0 ae ak aw b0 aa ab a6 ad ax b8 bg bf be bb h).mono fun e w' ⟨v, he, hv, hq⟩ => ⟨by rw [he, hv], hq⟩

structure Fr where
  kd : Int
  e : Ent
  f : Ent
  who : Int
  v : List Hd
  sg : Int
deriving DecidableEq
def Fr.zero : Fr := ⟨0, Ent.zero, Ent.zero, 0, [], 0⟩
structure FP where
  r : Fr
  ea : Option Addr
  ec : Nat
  fa : Option Addr
  fc : Nat
  va : Option Addr
  vc : Nat
def FP.C (x : FP) : List Value := [.int .i64 x.r.kd, .int .i64 x.r.e.w, .int .i64 x.r.e.i, .int .u64 x.r.e.pv, .int .i64 x.r.e.t, .int .i64 x.r.e.tw, .int .i64 x.r.e.ep, .slice x.ea x.r.e.body.length x.ec, .int .u64 x.r.e.sg,
  .int .i64 x.r.f.w, .int .i64 x.r.f.i, .int .u64 x.r.f.pv, .int .i64 x.r.f.t, .int .i64 x.r.f.tw, .int .i64 x.r.f.ep, .slice x.fa x.r.f.body.length x.fc, .int .u64 x.r.f.sg, .int .i64 x.r.who, .slice x.va x.r.v.length x.vc, .int .u64 x.r.sg]
def FP.V (x : FP) : Value := .agg #[.int .i64 x.r.kd, .int .i64 x.r.e.w, .int .i64 x.r.e.i, .int .u64 x.r.e.pv, .int .i64 x.r.e.t, .int .i64 x.r.e.tw, .int .i64 x.r.e.ep, .slice x.ea x.r.e.body.length x.ec, .int .u64 x.r.e.sg,
  .int .i64 x.r.f.w, .int .i64 x.r.f.i, .int .u64 x.r.f.pv, .int .i64 x.r.f.t, .int .i64 x.r.f.tw, .int .i64 x.r.f.ep, .slice x.fa x.r.f.body.length x.fc, .int .u64 x.r.f.sg, .int .i64 x.r.who, .slice x.va x.r.v.length x.vc, .int .u64 x.r.sg]
structure FP.at (w : World) (x : FP) : Prop where
  e : RowAt w x.ea (bytesV x.r.e.body)
  f : RowAt w x.fa (bytesV x.r.f.body)
  v : RowAt w x.va (hsC x.r.v)
def frOK (x : Fr) : Bool :=
  if x.kd = 1 then Q0t x.e && (decide (x.f = Ent.zero) && (decide (x.who = 0) && (decide (x.v.length = 0) && decide (x.sg = 0))))
  else if x.kd = 2 then decide (x.e = Ent.zero) && (decide (x.f = Ent.zero) && (decide (0 ≤ x.who) && (decide (x.who < 8) && (rightV x.v && decide (x.sg = 0)))))
  else if x.kd = 3 then decide (x.e = Ent.zero) && (decide (x.f = Ent.zero) && (decide (0 ≤ x.who) && (decide (x.who < 8) && rightV x.v)))
  else if x.kd = 4 then Q0t x.e && (Q0t x.f && (decide (x.who = 0) && (decide (x.v.length = 0) && decide (x.sg = 0))))
  else false
def frSame (x y : Fr) : Bool := decide (x = y)
section
variable {w w' : World} {o o' : Own} {K : Nat → Prop} {x y : FP} {e f : Ent} {a : Option Addr} {c : Nat}
theorem FP.at.no (h : x.at w) (X : Ext no w w') : x.at w' := ⟨h.e.no X, h.f.no X, h.v.no X⟩
theorem beq_dz (s : Int) : (s == 0) = decide (s = 0) := by rw [Bool.eq_iff_iff]; simp
theorem Q2p (ha : RowAt w a (bytesV e.body)) (b : Bool) :
    Calls Try.prog 37 #[entV e a c, .bool b] w (Ret (.bool (if b then Q0t e else decide (e = Ent.zero))) fun w' => Ext no w w') := by
  refine Q0T.run e.w e.i e.pv e.t e.tw e.ep a e.body.length c e.sg b ?_
  unfold Q0T.N
  rw [Q2x]
  refine ⟨fun h w2 X => ⟨by rw [h]; rfl, X⟩, fun h w2 X => ?_⟩
  refine (Q2q (e := e) (f := Ent.zero) (b := none) (d := 0) (ha.no X) (RowAt.nil _ _)).mono fun v w3 ⟨hx, X3⟩ => ⟨_, hx, by rw [h]; rfl, X.trans X3⟩
theorem Q2c (h : x.at w) (hl : x.r.v.length < 1000000) : Calls Try.prog 16 #[x.V] w (Ret (.bool (frOK x.r)) fun w' => Ext no w w') := by
  obtain ⟨⟨kd, e, f, who, v, sg⟩, ea, ec, fa, fc, va, vc⟩ := x
  obtain ⟨he, hf, hv⟩ := h
  refine Q0R.run kd e.w e.i e.pv e.t e.tw e.ep ea e.body.length ec e.sg f.w f.i f.pv f.t f.tw f.ep fa f.body.length fc f.sg who va v.length vc sg ?_
  unfold Q0R.N
  have leaf : ∀ {b : Bool} {w2 : World}, b = frOK ⟨kd, e, f, who, v, sg⟩ → Ext no w w2 → Value.bool b = Value.bool (frOK ⟨kd, e, f, who, v, sg⟩) ∧ Ext no w w2 := fun h X => ⟨by rw [h], X⟩
  refine ⟨fun h1 w2 X => leaf ?_ X, fun h1 => ⟨fun h4 w2 X => leaf ?_ X, fun h4 => ⟨fun k1 w2 p X hp => ?_, fun k1 w2 p X hp => ?_⟩⟩⟩
  · unfold frOK; simp only []; rw [if_neg (by omega), if_neg (by omega), if_neg (by omega), if_neg (by omega)]
  · unfold frOK; simp only []; rw [if_neg (by omega), if_neg (by omega), if_neg (by omega), if_neg (by omega)]
  · subst k1
    refine (Q2p (he.no X) true).mono fun u w3 ⟨hx, X3⟩ => ⟨_, hx, X3.kept, fun h => leaf ?_ (X.trans X3), fun h => ?_⟩
    · have h' : Q0t e = false := h
      simp [frOK, h']
    have h' : Q0t e = true := h
    have X3 := X.trans X3
    refine (Q2p (hf.no X3) _).mono fun u w4 ⟨hx, X4⟩ => ⟨_, hx, X4.kept, fun hh => leaf ?_ (X3.trans X4), fun hh => ?_⟩
    all_goals simp at hh
    · simp [frOK, hh]
    have X4 := X3.trans X4
    refine ⟨fun hw => ⟨fun hn => leaf ?_ X4, fun hn => leaf ?_ X4⟩, fun hw => leaf ?_ X4⟩
    · have hn' : v.length = 0 := by omega
      simp [frOK, h', hh, hw, List.length_eq_zero_iff.1 hn', beq_dz]
    · have hn' : v ≠ [] := fun h => hn (by rw [h]; rfl)
      simp [frOK, hn']
    · simp [frOK, hw]
  · refine (Q2p (he.no X) _).mono fun u w3 ⟨hx, X3⟩ => ⟨_, hx, X3.kept, fun h => leaf ?_ (X.trans X3), fun h => ?_⟩
    · by_cases k4 : kd = 4
      · subst k4; simp at h; simp [frOK, h]
      · rw [beq_false_of_ne k4] at h; simp at h; simp [frOK, h, k1, k4]
    have X3 := X.trans X3
    refine (Q2p (hf.no X3) _).mono fun u w4 ⟨hx, X4⟩ => ⟨_, hx, X4.kept, fun hh => leaf ?_ (X3.trans X4), fun hh => ?_⟩
    · by_cases k4 : kd = 4
      · subst k4; simp at hh; simp [frOK, hh]
      · rw [beq_false_of_ne k4] at hh; simp at hh; simp [frOK, hh, k1, k4]
    have X4 := X3.trans X4
    refine ⟨fun k2 => ⟨fun k3 => ?_, fun k3 => ?_⟩, fun k2 => ?_⟩
    · obtain rfl : kd = 4 := by omega
      simp at h hh
      refine ⟨fun hw => ⟨fun hn => leaf ?_ X4, fun hn => leaf ?_ X4⟩, fun hw => leaf ?_ X4⟩
      · have hn' : v.length = 0 := by omega
        simp [frOK, h, hh, hw, List.length_eq_zero_iff.1 hn', beq_dz]
      · have hn' : v ≠ [] := fun h => hn (by rw [h]; rfl)
        simp [frOK, hn']
      · simp [frOK, hw]
    · subst k3
      simp at h hh
      refine ⟨fun hw => ⟨fun hn => ?_, fun hn => leaf ?_ X4⟩, fun hw => leaf ?_ X4⟩
      · refine (Q1Y (hv.no X4) hl).mono fun u w5 ⟨hx, X5⟩ => ⟨_, hx, X5.kept, fun hv => leaf ?_ (X4.trans X5), fun hv => leaf ?_ (X4.trans X5)⟩
        · have hv' : rightV v = true := hv
          have hw' : 0 ≤ who := hw
          simp [frOK, h, hh, hw', hn, hv']
        · have hv' : rightV v = false := hv
          simp [frOK, hv']
      · have : ¬ who < 8 := by omega
        simp [frOK, this]
      · have : ¬ 0 ≤ who := by omega
        simp [frOK, this]
    · subst k2
      simp at h hh
      refine ⟨fun hw => ⟨fun hn => ?_, fun hn => leaf ?_ X4⟩, fun hw => leaf ?_ X4⟩
      · refine (Q1Y (hv.no X4) hl).mono fun u w5 ⟨hx, X5⟩ => ⟨_, hx, X5.kept, fun hv => leaf ?_ (X4.trans X5), fun hv => leaf ?_ (X4.trans X5)⟩
        · have hv' : rightV v = true := hv
          have hw' : 0 ≤ who := hw
          simp [frOK, h, hh, hw', hn, hv', beq_dz]
        · have hv' : rightV v = false := hv
          simp [frOK, hv']
      · have : ¬ who < 8 := by omega
        simp [frOK, this]
      · have : ¬ 0 ≤ who := by omega
        simp [frOK, this]
theorem Q1A (ha : RowAt w a (bytesV e.body)) (hl : e.body.length < 1000000) :
    Calls Try.prog 50 #[entV e a c] w (Ret (.bool (decide (e = Ent.zero))) fun w' => Ext no w w') := by
  refine Q0q.run e.w e.i e.pv e.t e.tw e.ep a e.body.length c e.sg ?_
  unfold Q0q.N
  intro w2 X
  exact (Q2e (e := e) (f := Ent.zero) (b := none) (d := 0) (ha.no X) (RowAt.nil _ _) hl).mono fun v w3 ⟨hx, X3⟩ => ⟨_, hx, rfl, X.trans X3⟩
theorem Q1b (h : x.at w) (hl : x.r.v.length < 1000000) (hle : x.r.e.body.length < 1000000) (hlf : x.r.f.body.length < 1000000) : Calls Try.prog 19 #[x.V] w (Ret (.bool (frOK x.r)) fun w' => Ext no w w') := by
  obtain ⟨⟨kd, e, f, who, v, sg⟩, ea, ec, fa, fc, va, vc⟩ := x
  obtain ⟨he, hf, hv⟩ := h
  refine Q04.run kd e.w e.i e.pv e.t e.tw e.ep ea e.body.length ec e.sg f.w f.i f.pv f.t f.tw f.ep fa f.body.length fc f.sg who va v.length vc sg ?_
  unfold Q04.N
  rw [Q1D, Q1D]
  have leaf : ∀ {b : Bool} {w2 : World}, b = frOK ⟨kd, e, f, who, v, sg⟩ → Ext no w w2 → Value.bool b = Value.bool (frOK ⟨kd, e, f, who, v, sg⟩) ∧ Ext no w w2 := fun h X => ⟨by rw [h], X⟩
  refine ⟨fun k1 => ⟨fun h w2 X => leaf ?_ X, fun h w2 p X hp => ?_⟩, fun k1 => ⟨fun k2 w2 p X hp => ?_, fun k2 => ⟨fun h1 w2 X => leaf ?_ X, fun h1 => ⟨fun h4 w2 X => leaf ?_ X, fun h4 => ?_⟩⟩⟩⟩
  · subst k1; simp [frOK, h]
  · subst k1
    refine (Q1A (hf.no X) hlf).mono fun u w3 ⟨hx, X3⟩ => ⟨_, hx, X3.kept, fun hh => leaf ?_ (X.trans X3), fun hh => ?_⟩
    all_goals simp at hh
    · simp [frOK, hh]
    have X3 := X.trans X3
    refine ⟨fun hw => leaf ?_ X3, fun hw => ⟨fun hn => leaf ?_ X3, fun hn => leaf ?_ X3⟩⟩
    · simp [frOK, hw]
    · have hn' : v ≠ [] := fun h => by rw [h] at hn; simp at hn
      simp [frOK, hn']
    · have hn' : v.length = 0 := by omega
      simp [frOK, h, hh, hw, List.length_eq_zero_iff.1 hn', beq_dz]
  · subst k2
    refine (Q1A (he.no X) hle).mono fun u w3 ⟨hx, X3⟩ => ⟨_, hx, X3.kept, fun h => leaf ?_ (X.trans X3), fun h => ?_⟩
    all_goals simp at h
    · simp [frOK, h]
    have X3 := X.trans X3
    refine (Q1A (hf.no X3) hlf).mono fun u w4 ⟨hx, X4⟩ => ⟨_, hx, X4.kept, fun hh => leaf ?_ (X3.trans X4), fun hh => ?_⟩
    all_goals simp at hh
    · simp [frOK, hh]
    have X4 := X3.trans X4
    refine ⟨fun hw => leaf ?_ X4, fun hw => ⟨fun hn => leaf ?_ X4, fun hn => ?_⟩⟩
    · have : ¬ 0 ≤ who := by omega
      simp [frOK, this]
    · have : ¬ who < 8 := by omega
      simp [frOK, this]
    · refine (Q1I (hv.no X4) hl).mono fun u w5 ⟨hx, X5⟩ => ⟨_, hx, X5.kept, fun hv => leaf ?_ (X4.trans X5), fun hv => leaf ?_ (X4.trans X5)⟩
      · have hv' : rightV v = false := hv
        simp [frOK, hv']
      · have hv' : rightV v = true := hv
        simp [frOK, h, hh, hw, hn, hv', beq_dz]
  · unfold frOK; simp only []; rw [if_neg (by omega), if_neg (by omega), if_neg (by omega), if_neg (by omega)]
  · unfold frOK; simp only []; rw [if_neg (by omega), if_neg (by omega), if_neg (by omega), if_neg (by omega)]
  · refine ⟨fun k4 => ⟨fun h w2 X => leaf ?_ X, fun h => ⟨fun hh w2 X => leaf ?_ X, fun hh => ⟨fun hw w2 X => leaf ?_ X, fun hw => ⟨fun hn w2 X => leaf ?_ X, fun hn w2 X => leaf ?_ X⟩⟩⟩⟩, fun k4 w2 p X hp => ?_⟩
    · subst k4; simp [frOK, h]
    · subst k4; simp [frOK, hh]
    · subst k4; simp [frOK, hw]
    · subst k4
      have hn' : v ≠ [] := fun h => by rw [h] at hn; simp at hn
      simp [frOK, hn']
    · subst k4
      have hn' : v.length = 0 := by omega
      simp [frOK, h, hh, hw, List.length_eq_zero_iff.1 hn', beq_dz]
    · obtain rfl : kd = 3 := by omega
      refine (Q1A (he.no X) hle).mono fun u w3 ⟨hx, X3⟩ => ⟨_, hx, X3.kept, fun h => leaf ?_ (X.trans X3), fun h => ?_⟩
      all_goals simp at h
      · simp [frOK, h]
      have X3 := X.trans X3
      refine (Q1A (hf.no X3) hlf).mono fun u w4 ⟨hx, X4⟩ => ⟨_, hx, X4.kept, fun hh => leaf ?_ (X3.trans X4), fun hh => ?_⟩
      all_goals simp at hh
      · simp [frOK, hh]
      have X4 := X3.trans X4
      refine ⟨fun _ => ⟨fun hw => leaf ?_ X4, fun hw => ⟨fun hn => leaf ?_ X4, fun hn => ?_⟩⟩, fun h => absurd rfl h⟩
      · have : ¬ 0 ≤ who := by omega
        simp [frOK, this]
      · have : ¬ who < 8 := by omega
        simp [frOK, this]
      · refine (Q1I (hv.no X4) hl).mono fun u w5 ⟨hx, X5⟩ => ⟨_, hx, X5.kept, fun hv => leaf ?_ (X4.trans X5), fun hv => leaf ?_ (X4.trans X5)⟩
        · have hv' : rightV v = false := hv
          simp [frOK, hv']
        · have hv' : rightV v = true := hv
          simp [frOK, h, hh, hw, hn, hv']
theorem Q2d (hx : x.at w) (hy : y.at w) (hle : x.r.e.body.length < 1000000) (hlf : x.r.f.body.length < 1000000) (hlv : x.r.v.length < 1000000) : Calls Try.prog 14 #[x.V, y.V] w (Ret (.bool (frSame x.r y.r)) fun w' => Ext no w w') := by
  obtain ⟨⟨kd, e, f, who, v, sg⟩, ea, ec, fa, fc, va, vc⟩ := x
  obtain ⟨⟨kd', e', f', who', v', sg'⟩, ea', ec', fa', fc', va', vc'⟩ := y
  refine Q0s.run kd e.w e.i e.pv e.t e.tw e.ep ea e.body.length ec e.sg f.w f.i f.pv f.t f.tw f.ep fa f.body.length fc f.sg who va v.length vc sg kd' e'.w e'.i e'.pv e'.t e'.tw e'.ep ea' e'.body.length ec' e'.sg f'.w f'.i f'.pv f'.t f'.tw f'.ep fa' f'.body.length fc' f'.sg who' va' v'.length vc' sg' ?_
  unfold Q0s.N
  have leaf : ∀ {b : Bool} {w2 : World}, (b = true ↔ (Fr.mk kd e f who v sg) = ⟨kd', e', f', who', v', sg'⟩) → Ext no w w2 → Value.bool b = Value.bool (frSame ⟨kd, e, f, who, v, sg⟩ ⟨kd', e', f', who', v', sg'⟩) ∧ Ext no w w2 := fun {b} {w2} h X => ⟨by
    congr 1
    rw [Bool.eq_iff_iff, h]
    unfold frSame; rw [decide_eq_true_eq], X⟩
  refine ⟨fun h1 => ⟨fun h2 => ⟨fun h3 w2 p46 p47 X hp => ?_, fun h w2 X => leaf (by simp [h]) X⟩, fun h w2 X => leaf (by simp [h]) X⟩, fun h w2 X => leaf (by simp [h]) X⟩
  refine (Q2e (e := e) (f := e') (hx.e.no X) (hy.e.no X) hle).mono fun u w3 ⟨hx3, X3⟩ => ⟨_, hx3, X3.kept, fun h4 => ?_, fun h => leaf ?_ (X.trans X3)⟩
  · have X3 := X.trans X3
    refine (Q2e (e := f) (f := f') (hx.f.no X3) (hy.f.no X3) hlf).mono fun u w4 ⟨hx4, X4⟩ => ⟨_, hx4, X4.kept, fun h5 => ?_, fun h => leaf ?_ (X3.trans X4)⟩
    · have X4 := X3.trans X4
      refine (Q4Q (hx.v.no X4) (hy.v.no X4) hlv).mono fun u w5 ⟨hx5, X5⟩ => ⟨_, hx5, leaf ?_ (X4.trans X5)⟩
      rw [decide_eq_true_eq] at h4 h5 ⊢
      rw [Fr.mk.injEq]
      exact ⟨fun h => ⟨h1, h4, h5, h2, h, h3⟩, fun h => h.2.2.2.2.1⟩
    · simp at h; simp [h]
  · simp at h; simp [h]
end
end Go.Proofs.Ytoempemllkebkaa
set_option linter.unnecessarySimpa false
namespace Go.Mx

abbrev Pan := Fs → List PanicEntry → World → Prop
def pop1 (P : Program) (f : Fs) (o : Oper) (w : World) (K : RW) (Φ : Pan) : Prop :=
  match o.op with
  | .panic x =>
    (match ev f x with
    | some (.iface t v) => Φ f [{ v := .iface t v, recovered := false }] w
    | _ => False)
  | .call c =>
    (match c.callee with
    | .value g =>
      bif known f (opnds o.op) then
        (match rho f g with
        | .func (.func k) first cap => bif enters P k then Calls P k (first.toList ++ c.args.toList.map (rho f) ++ cap.toList).toArray w (fun e w' => (resEx P o.type fun v => e = .returned v ∧ K v w') ∨ ∃ ch, e = .panicked ch ∧ Φ f ch w') else False
        | _ => False)
      else False
    | _ => mopF P f o w K)
  | _ => mopF P f o w K
def pops (P : Program) (N : Nat) (ops : List Oper) (lo : Fs) (Φ : Pan) : List Oper → Dg → Fs → World → (Fs → World → Prop) → Prop
  | [], _, f, w, K => K f w
  | o :: rest, dg, f, w, K =>
    gask ops lo f dg o fun b dg f =>
      bif b then pop1 P (f ++ lo) o w (fun v w' => putK N o.dst v dg f fun dg f => pops P N ops lo Φ rest dg f w' K) Φ
      else putK N o.dst undef dg f fun dg f => pops P N ops lo Φ rest dg f w K

theorem pop1_wp {P : Program} {D : List Deferred} {n : Nat} {f : Fs} {a : Act} {o : Oper} {w : World} {K : RW} {Φ : Pan} {next : Act → World → Prop} {Q : Exit → Act → World → Prop}
    (hf : Fr D n f a) (h : pop1 P f o w K Φ) (hk : ∀ v w', K v w' → next (a.put o.dst v) w') (hQ : ∀ ch w', Φ f ch w' → Q (.panic ch) a w') : o.wp P a w next Q := by
  unfold pop1 at h
  split at h
  · rename_i x ho
    split at h
    · rename_i t v hv
      have he : a.eval x = .iface t v := by rw [hf.eval (by rw [hv]; rfl)]; unfold rho; rw [hv]; rfl
      have hr : (execOp a.eval o).run P w = .halt (.panic (.iface t v)) w := by
        simp only [execOp, ho, he, Instr.panic, Sem.run_bind]
        rfl
      unfold Oper.wp
      rw [hr]
      exact hQ _ _ h
    · exact h.elim
  · rename_i c ho
    split at h
    · rename_i g hg
      cases hkn : known f (opnds o.op)
      · simp [hkn] at h
      · simp only [hkn, cond_true] at h
        split at h
        · rename_i k first cap hfn
          cases hen : enters P k
          · simp [hen] at h
          · simp only [hen, cond_true] at h
            have hs : isSel o.op = false := by rw [ho]; rfl
            have hr : (execOp a.eval o).run P w = .ok (.enter k (first.toList ++ c.args.toList.map (rho f) ++ cap.toList).toArray) w := by
              rw [Q2G hf hkn hs]
              simp only [execOp, ho, resolve, hg, hfn, Deferred.ofValue, pure_bind, invoke, Sem.run_bind, Sem.run_pure, Result.andThen_ok, Q2a hen]
              congr 2
              apply Array.ext'
              simp
            unfold Oper.wp
            rw [hr, Oper.upon_enter]
            refine h.mono fun e w'' hh => ?_
            rcases hh with hh | ⟨ch, rfl, hh⟩
            · obtain ⟨v, rfl, h2⟩ := Q1W hh
              exact hk _ _ h2
            · exact hQ _ _ hh
        · exact h.elim
    · exact (mopF_ok hf h).wp hk
  · exact (mopF_ok hf h).wp hk

theorem pops_ok {D : List Deferred} {P : Program} {N : Nat} {ops : List Oper} {lo : Fs} {Φ : Pan} {Q : Exit → Act → World → Prop} {K : Fs → World → Prop}
    (hQ : ∀ f w a, K f w → Fr D N (f ++ lo) a → Q .normal a w) (hP : ∀ g ch w a, Φ g ch w → Fr D N g a → Q (.panic ch) a w) :
    ∀ (l : List Oper) (dg : Dg) (f : Fs) (w : World) (a : Act), pops P N ops lo Φ l dg f w K → Fr D N (f ++ lo) a → DgOk dg (f ++ lo) → wpList P ops.toArray Q l a w
  | [], dg, f, w, a, h, hf, hd => hQ f w a h hf
  | o :: rest, dg, f, w, a, h, hf, hd => by
    simp only [pops] at h
    obtain ⟨b, dg1, f1, hb, h, hf1, hd1⟩ := gask_ok (P := P) h hf hd
    unfold wpList
    cases b
    · rw [hb]
      simp only [cond_false] at h
      obtain ⟨dg2, f2, h, hf2, hd2⟩ := putK_ok h hf1 hd1
      exact pops_ok hQ hP rest dg2 f2 w _ h hf2 hd2
    · rw [hb]
      simp only [cond_true] at h
      refine .inl (pop1_wp hf1 h (fun v w' h => ?_) fun ch w' h => hP _ ch w' a h hf1)
      obtain ⟨dg2, f2, h, hf2, hd2⟩ := putK_ok h hf1 hd1
      exact pops_ok hQ hP rest dg2 f2 w' _ h hf2 hd2

def pcode (P : Program) (H : Hints) (N : Nat) (Φ : Pan) : Code → Fs → Kx → Fs → World → Prop
  | .skip, _, K, f, w => K.n f w
  | .seq a b, lo, K, f, w => pcode P H N Φ a lo { K with n := fun f w => pcode P H N Φ b lo K f w } f w
  | .cond c x y, lo, K, f, w =>
    match ev (f ++ lo) c with
    | some (.bool b) => bif b then pcode P H N Φ x lo K f w else pcode P H N Φ y lo K f w
    | _ => False
  | .region _ ops draw, lo, K, f, w =>
    match draw with
    | false => pops P N ops.toList lo Φ ops.toList [] f w K.n
    | true => bif regOk ops.toList then mdraw P N ops.toList lo ops.toList.length [] [] [] f w.drew K.n else False
  | .block id (.loop body), lo, K, f, w =>
    match hget H id with
    | none => False
    | some hs =>
      match getAll (f ++ lo) hs.1, getAll (f ++ lo) (hs.2.map (·.1)) with
      | some cv, some vv =>
        bif (subF (zipF hs.1 cv) lo && Q19 (hs.2.map (·.2)) vv) then
          ∃ (I : Nat → List Value → World → Prop) (m : Nat), I m vv w ∧ ∀ (m : Nat) (w : World), salls (hs.2.map (·.2)) fun vs => I m vs w →
            pcode P H N Φ body (zipF hs.1 cv)
              { n := fun f' w' => bif disjF f' (zipF hs.1 cv) then
                      (match getAll f' (hs.2.map (·.1)) with
                       | some vs' => bif Q19 (hs.2.map (·.2)) vs' then ∃ m', m' < m ∧ I m' vs' w' else False
                       | none => False)
                    else False
                r := fun f' w' => K.r (f' ++ keepF f (zipF hs.1 cv)) w'
                ex := (id, fun f' w' => K.n (f' ++ keepF f (zipF hs.1 cv)) w') :: exmap (fun k f' w' => k (f' ++ keepF f (zipF hs.1 cv)) w') K.ex }
              (zipF (hs.2.map (·.1)) vs) w
        else False
      | _, _ => False
  | .block id c, lo, K, f, w => pcode P H N Φ c lo { K with ex := (id, K.n) :: K.ex } f w
  | .exit id, _, K, f, w => match exget K.ex id with | some k => k f w | none => False
  | .ret, _, K, f, w => K.r f w
  | _, _, _, _, _ => False

def postP (D : List Deferred) (N : Nat) (lo : Fs) (K : Kx) (Φ : Pan) : Exit → Act → World → Prop
  | .normal, a, w => ∃ f, Fr D N (f ++ lo) a ∧ K.n f w
  | .ret, a, w => ∃ f, Fr D N (f ++ lo) a ∧ K.r f w
  | .exit id, a, w => ∃ f k, exget K.ex id = some k ∧ Fr D N (f ++ lo) a ∧ k f w
  | .panic ch, a, w => ∃ g, Fr D N g a ∧ Φ g ch w
  | _, _, _ => False

section
variable {P : Program} {H : Hints} {N : Nat} {D : List Deferred} {Φ : Pan}
theorem post_P {lo : Fs} {K : Kx} {e : Exit} {a : Act} {w : World} (h : post D N lo K e a w) : postP D N lo K Φ e a w := by
  cases e <;> first | exact h | exact h.elim
theorem Q4a {id : Nat} {c : Code} (h : ∀ b, c ≠ .loop b) (lo : Fs) (K : Kx) (f : Fs) (w : World) :
    pcode P H N Φ (.block id c) lo K f w = pcode P H N Φ c lo { K with ex := (id, K.n) :: K.ex } f w := by
  cases c <;> first | rfl | exact absurd rfl (h _)

theorem Q1u (hm : P.follows .mixedOrders = true) (c : Code) (lo : Fs) (K : Kx) (f : Fs) (w : World) (a : Act)
    (h : pcode P H N Φ c lo K f w) (hf : Fr D N (f ++ lo) a) : c.wp P (postP D N lo K Φ) a w := by
  match c, h with
  | .skip, h => exact wp_skip ⟨f, hf, h⟩
  | .seq x y, h =>
    refine wp_seq (Code.wp_mono (fun e a' w' he => ?_) (Q1u hm x lo _ f w a h hf))
    cases e <;> try exact he
    obtain ⟨f', hf', h'⟩ := he
    exact Q1u hm y lo K f' w' a' h' hf'
  | .cond c x y, h =>
    simp only [pcode] at h
    split at h
    · rename_i b hb
      have hc : a.eval c = .bool b := by
        have := hf.eval (x := c) (by rw [hb]; rfl)
        rw [this, rho, hb]; rfl
      refine wp_cond_split hc (fun ht => ?_) (fun ht => ?_)
      · subst ht; exact Q1u hm x lo K f w a h hf
      · subst ht; exact Q1u hm y lo K f w a h hf
    · exact h.elim
  | .region id ops draw, h =>
    have hd0 : DgOk [] (f ++ lo) := fun s b hs => by cases hs
    cases draw
    · simp only [pcode] at h
      have := pops_ok (Q := postP D N lo K Φ) (fun f w a h hf => ⟨f, hf, h⟩) (fun g ch w a h hf => ⟨g, hf, h⟩) ops.toList [] f w a h hf hd0
      exact wp_region_list (by simpa using this)
    · exact Code.wp_mono (fun e a' w' he => post_P he) (Q1g (H := H) hm (.region id ops true) lo K f w a h hf)
  | .block id c, h =>
    by_cases hl : ∃ b, c = .loop b
    · obtain ⟨body, rfl⟩ := hl
      simp only [pcode] at h
      split at h
      · exact h.elim
      · rename_i hs hhs
        split at h
        · rename_i cv vv hcv hvv
          cases hc : (subF (zipF hs.1 cv) lo && Q19 (hs.2.map (·.2)) vv)
          · simp [hc] at h
          · simp only [hc, cond_true] at h
            rw [Bool.and_eq_true] at hc
            obtain ⟨hsub, hfit⟩ := hc
            obtain ⟨I, m, hI, hround⟩ := h
            have hlo : ∀ t v, get lo t = some v → has (zipF hs.1 cv) t = true := Q39 hsub
            have h0 : ∀ t v, get (zipF hs.1 cv) t = some v → get (f ++ lo) t = some v := Q1l hcv
            refine wp_block (Q28 (fun m a w => ∃ vs, I m vs w ∧ Q19 (hs.2.map (·.2)) vs = true ∧ Fr D N (zipF (hs.2.map (·.1)) vs ++ zipF hs.1 cv) a) (m := m) ⟨vv, hI, hfit, ?_⟩ fun m a w hJ => ?_)
            · refine ⟨hf.size, hf.defers, fun t v ht => hf.at_ t v ?_⟩
              rw [Q1a] at ht
              cases h1 : get (zipF (hs.2.map (·.1)) vv) t with
              | some u => rw [h1] at ht; obtain rfl : u = v := (by simpa using ht); exact Q1l hvv t u h1
              | none => rw [h1] at ht; exact h0 t v (by simpa using ht)
            · obtain ⟨vs, hIv, hfv, hfr⟩ := hJ
              have hb := Q2R (hround m w) hfv hIv
              refine Code.wp_mono (fun e a' w' he => ?_) (Q1u hm body _ _ _ w a hb hfr)
              cases e with
              | normal =>
                obtain ⟨f', hf', h'⟩ := he
                simp only at h'
                cases hd : disjF f' (zipF hs.1 cv)
                · simp [hd] at h'
                · simp only [hd, cond_true] at h'
                  split at h'
                  · rename_i vs' hvs'
                    cases hft : Q19 (hs.2.map (·.2)) vs'
                    · simp [hft] at h'
                    · simp only [hft, cond_true] at h'
                      obtain ⟨m', hlt, hI'⟩ := h'
                      refine ⟨m', hlt, vs', hI', hft, hf'.size, hf'.defers, fun t v ht => hf'.at_ t v ?_⟩
                      rw [Q1a] at ht
                      rw [Q1a]
                      cases h1 : get (zipF (hs.2.map (·.1)) vs') t with
                      | some u =>
                        rw [h1] at ht
                        obtain rfl : u = v := by simpa using ht
                        rw [Q1l hvs' t u h1]; rfl
                      | none =>
                        rw [h1] at ht
                        have h2 : get (zipF hs.1 cv) t = some v := by simpa using ht
                        rw [has_get (Q2t hd t v h2), h2]; rfl
                  · exact h'.elim
              | ret =>
                obtain ⟨f', hf', h'⟩ := he
                exact ⟨_, fr_conv hf' hlo h0, h'⟩
              | exit id' =>
                obtain ⟨f', k, hk, hf', h'⟩ := he
                simp only [exget] at hk
                simp only [Exit.then, Exit.inBlock]
                cases hq : Nat.beq id id'
                · simp only [hq, cond_false] at hk
                  have hne : id' ≠ id := fun e => by subst e; simp at hq
                  rw [if_neg hne]
                  obtain ⟨k', hk', rfl⟩ := Q2f hk
                  exact ⟨_, k', hk', fr_conv hf' hlo h0, h'⟩
                · have := Q0Z hq
                  subst this
                  simp only [Nat.beq_refl, cond_true, Option.some.injEq] at hk
                  subst hk
                  simp only [if_true]
                  exact ⟨_, fr_conv hf' hlo h0, h'⟩
              | goto l => exact he.elim
              | panic ch => exact he
              | outgrown => exact he.elim
        · exact h.elim
    · rw [Q4a (fun b e => hl ⟨b, e⟩)] at h
      refine wp_block (Code.wp_mono (fun e a' w' he => ?_) (Q1u hm c lo _ f w a h hf))
      cases e with
      | normal => exact he
      | ret => exact he
      | exit id' =>
        obtain ⟨f', k, hk, hf', h'⟩ := he
        simp only [exget] at hk
        simp only [Exit.inBlock]
        cases hq : Nat.beq id id'
        · simp only [hq, cond_false] at hk
          have hne : id' ≠ id := fun e => by subst e; simp at hq
          rw [if_neg hne]
          exact ⟨f', k, hk, hf', h'⟩
        · have := Q0Z hq
          subst this
          simp only [Nat.beq_refl, cond_true, Option.some.injEq] at hk
          subst hk
          simp only [if_true]
          exact ⟨f', hf', h'⟩
      | goto l => exact he.elim
      | panic ch => exact he
      | outgrown => exact he.elim
  | .exit id, h =>
    simp only [pcode] at h
    split at h
    · rename_i k hk
      exact wp_exit ⟨f, k, hk, hf, h⟩
    · exact h.elim
  | .ret, h => exact wp_ret ⟨f, hf, h⟩
  | .loop _, h => exact h.elim
  | .rangeFunc .., h => exact h.elim
  | .scope _, h => exact h.elim
  | .label _, h => exact h.elim
  | .goto _, h => exact h.elim
  | .refuse _, h => exact h.elim
termination_by SizeOf.sizeOf c
end

def pfunc (P : Program) (H : Hints) (k : Nat) (args : List Value) (Φ : List PanicEntry → World → Prop) (R : RW) (w : World) : Prop :=
  match P.funcs[k]? with
  | some fn =>
    match fn.body with
    | some c =>
      bif Nat.ble args.length fn.ntmps then
        pcode P H fn.ntmps (fun _ ch w => Φ ch w) c [] { n := fun f w => mres P f w fn.results.toList [] (fun vs => R (wrapR vs) w), r := fun f w => mres P f w fn.results.toList [] (fun vs => R (wrapR vs) w), ex := [] } (argsF args 0) w
      else False
    | none => False
  | none => False
section
variable {P : Program} {H : Hints}
theorem fr_args {args : List Value} {n : Nat} (hlen : args.length ≤ n) : Fr [] n (argsF args 0 ++ []) { tmps := args.toArray ++ Array.replicate (n - args.toArray.size) undef, defers := [] } := by
  refine ⟨by simp; omega, rfl, fun t v ht => ?_⟩
  rw [List.append_nil] at ht
  obtain ⟨j, rfl, hj⟩ := Q2V ht
  have hjl := (List.getElem?_eq_some_iff.1 hj).1
  rw [Nat.zero_add, Array.getElem?_append_left (by simpa using hjl)]
  simpa using hj
theorem Q2I (hm : P.follows .mixedOrders = true) {k : Nat} {args : List Value} {Φ : List PanicEntry → World → Prop} {R : RW} {w : World} (h : pfunc P H k args Φ R w) :
    Calls P k args.toArray w fun e w' => (∃ v, e = .returned v ∧ R v w') ∨ ∃ ch, e = .panicked ch ∧ Φ ch w' := by
  unfold pfunc at h
  split at h
  · rename_i fn hfn
    split at h
    · rename_i c hc
      cases hle : Nat.ble args.length fn.ntmps
      · simp [hle] at h
      · simp only [hle, cond_true] at h
        refine calls_of_wp hfn hc ?_
        refine Code.wp_mono (fun e a w' he => ?_) (Q1u hm c [] _ _ w _ h (fr_args (Nat.le_of_ble_eq_true hle)))
        cases e with
        | normal =>
          obtain ⟨f, hf, h⟩ := he
          rw [List.append_nil] at hf
          obtain ⟨v, h1, h2⟩ := Q1f hf h
          exact ⟨hf.defers, v, h1, .inl ⟨v, rfl, h2⟩⟩
        | ret =>
          obtain ⟨f, hf, h⟩ := he
          rw [List.append_nil] at hf
          obtain ⟨v, h1, h2⟩ := Q1f hf h
          exact ⟨hf.defers, v, h1, .inl ⟨v, rfl, h2⟩⟩
        | exit id => obtain ⟨f, k, hk, _⟩ := he; cases hk
        | goto l => exact he.elim
        | panic ch =>
          obtain ⟨g, hg, h⟩ := he
          exact ⟨hg.defers, .inr ⟨ch, rfl, h⟩⟩
        | outgrown => exact he.elim
    · exact h.elim
  · exact h.elim
def dfunc (P : Program) (H : Hints) (k : Nat) (args : List Value) (R : RW) (w : World) : Prop :=
  match P.funcs[k]? with
  | some fn =>
    match fn.body with
    | some (.seq A (.seq B (.seq (.region _ ops false) C))) =>
      bif Nat.ble args.length fn.ntmps then
        mcode P H fn.ntmps A [] ⟨fun f w => mcode P H fn.ntmps B [] ⟨fun f w =>
            (match ops.toList with
            | [o1, o2] =>
              (match o1.guard, o2.guard, o2.op, o2.dst with
              | none, none, .defer c, none =>
                (match c.callee, c.args.toList with
                | .value x, [] =>
                  mopF P f o1 w fun v w => putK fn.ntmps o1.dst v [] f fun _ f =>
                    match ev f x with
                    | some (.func (.func k') first caps) =>
                      bif enters P k' then
                        pcode P H fn.ntmps (fun g ch w => CallsD P k' (first ++ caps) (.panicking ch) w fun e u w' => ∃ v, e = .returned v ∧ settle u = .returning ∧ mres P g w' fn.results.toList [] (fun vs => R (wrapR vs) w')) C []
                          { n := fun _ _ => False, r := fun g w => CallsD P k' (first ++ caps) .returning w fun e u w' => ∃ v, e = .returned v ∧ settle u = .returning ∧ mres P g w' fn.results.toList [] (fun vs => R (wrapR vs) w'), ex := [] } f w
                      else False
                    | _ => False
                | _, _ => False)
              | _, _, _, _ => False)
            | _ => False),
            fun f w => mres P f w fn.results.toList [] (fun vs => R (wrapR vs) w), []⟩ f w,
          fun f w => mres P f w fn.results.toList [] (fun vs => R (wrapR vs) w), []⟩ (argsF args 0) w
      else False
    | _ => False
  | none => False
theorem Q3p {fn : Func} {tmps : Array Value} {D : List Deferred} {n : Nat} {g : Fs} {a : Act} (hg : Fr D n g a) {k : Nat} {first caps : Array Value} (hen : enters P k = true) {u : FrameMode} (hu : u ≠ .run) {w : World} {R : RW}
    (h : CallsD P k (first ++ caps) u w fun e u' w' => ∃ v, e = .returned v ∧ settle u' = .returning ∧ mres P g w' fn.results.toList [] (fun vs => R (wrapR vs) w')) :
    Leaves P fn a.tmps (fun e w' => ∃ v, e = .returned v ∧ R v w') [{ target := .fn (.func k) caps, args := first }] u w := by
  refine leaves_cons hu (by simp only [invoke, Q2a hen]) (h.mono fun e u' w' ⟨v, he, hs, hm⟩ => ?_)
  subst he
  show Leaves P fn a.tmps _ [] (settle u') w'
  rw [hs]
  obtain ⟨v, h1, h2⟩ := Q1f hg hm
  exact ⟨v, h1, v, rfl, h2⟩
theorem Q5x (hm : P.follows .mixedOrders = true) {k : Nat} {args : List Value} {R : RW} {w : World} (h : dfunc P H k args R w) :
    Calls P k args.toArray w fun e w' => ∃ v, e = .returned v ∧ R v w' := by
  unfold dfunc at h
  split at h
  · rename_i fn hfn
    split at h
    · rename_i A B id ops C hc
      cases hle : Nat.ble args.length fn.ntmps
      · simp [hle] at h
      · simp only [hle, cond_true] at h
        refine calls_of_wp_defers hfn hc ?_
        have hret : ∀ (lo f : Fs) (a : Act) (w : World), Fr [] fn.ntmps (f ++ []) a → mres P f w fn.results.toList [] (fun vs => R (wrapR vs) w) → bodyPostD P fn (fun e w' => ∃ v, e = .returned v ∧ R v w') .ret a w := fun lo f a w hf hr => by
          rw [List.append_nil] at hf
          obtain ⟨v, h1, h2⟩ := Q1f hf hr
          show Leaves P fn a.tmps _ a.defers .returning w
          rw [hf.defers]
          exact ⟨v, h1, v, rfl, h2⟩
        refine wp_seq (Code.wp_mono (fun e a w' he => ?_) (Q1g hm A [] _ _ w _ h (fr_args (Nat.le_of_ble_eq_true hle))))
        cases e with
        | ret => obtain ⟨f, hf, hr⟩ := he; exact hret [] f a w' hf hr
        | exit id => obtain ⟨f, k, hk, _⟩ := he; cases hk
        | goto l => exact he.elim
        | panic ch => exact he.elim
        | outgrown => exact he.elim
        | normal =>
          obtain ⟨f, hf, h⟩ := he
          refine wp_seq (Code.wp_mono (fun e a w' he => ?_) (Q1g hm B [] _ _ w' a h hf))
          cases e with
          | ret => obtain ⟨f, hf, hr⟩ := he; exact hret [] f a w' hf hr
          | exit id => obtain ⟨f, k, hk, _⟩ := he; cases hk
          | goto l => exact he.elim
          | panic ch => exact he.elim
          | outgrown => exact he.elim
          | normal =>
            obtain ⟨f, hf, h⟩ := he
            rw [List.append_nil] at hf
            split at h
            · rename_i o1 o2 hops
              split at h
              · rename_i c hg1 hg2 ho2 hd2
                split at h
                · rename_i x hcal hargs
                  refine wp_seq (wp_region_list ?_)
                  rw [hops]
                  have hops' : ops = [o1, o2].toArray := by rw [← hops]
                  rw [hops']
                  unfold wpList
                  have hw1 : Region.wanted o1 (yielded [o1, o2].toArray a.tmps) = true := by unfold Region.wanted; rw [hg1]
                  rw [if_pos hw1]
                  refine .inl ((mopF_ok hf h).wp fun v w2 h => ?_)
                  obtain ⟨dg2, f2, h, hf2, _⟩ := putK_ok (lo := []) (dg := []) h (by rw [List.append_nil]; exact hf) (fun s b hs => by cases hs)
                  rw [List.append_nil] at hf2
                  split at h
                  · rename_i k' first caps hev
                    cases hen : enters P k'
                    · simp [hen] at h
                    · simp only [hen, cond_true] at h
                      unfold wpList
                      have hw2 : Region.wanted o2 (yielded [o1, o2].toArray (a.put o1.dst v).tmps) = true := by unfold Region.wanted; rw [hg2]
                      rw [if_pos hw2]
                      refine .inl ?_
                      have hex : (a.put o1.dst v).eval x = .func (.func k') first caps := by rw [hf2.eval (by rw [hev]; rfl)]; unfold rho; rw [hev]; rfl
                      have hca : c.args = #[] := by apply Array.ext'; rw [hargs]
                      have hr : (execOp (a.put o1.dst v).eval o2).run P w2 = .ok (.defer { target := .fn (.func k') caps, args := first }) w2 := by
                        simp only [execOp, ho2, resolve, hcal, hca, hex, Deferred.ofValue, pure_bind, Sem.run_bind, Sem.run_pure, Result.andThen_ok]
                        simp
                      unfold Oper.wp
                      rw [hr, Oper.upon_defer, hd2]
                      unfold wpList
                      have hf3 : Fr [{ target := .fn (.func k') caps, args := first }] fn.ntmps (f2 ++ []) ({ a.put o1.dst v with defers := { target := .fn (.func k') caps, args := first } :: (a.put o1.dst v).defers } : Act) := by
                        rw [List.append_nil]
                        exact ⟨hf2.size, by show _ :: _ = _; rw [hf2.defers], hf2.at_⟩
                      refine Code.wp_mono (fun e a3 w3 he => ?_) (Q1u hm C [] _ f2 w2 _ h hf3)
                      cases e with
                      | normal => obtain ⟨_, _, h⟩ := he; exact h.elim
                      | ret =>
                        obtain ⟨g, hg, h⟩ := he
                        rw [List.append_nil] at hg
                        show Leaves P fn a3.tmps _ a3.defers .returning w3
                        rw [hg.defers]
                        exact Q3p (tmps := a3.tmps) hg hen (by simp) h
                      | exit id => obtain ⟨f, k, hk, _⟩ := he; cases hk
                      | goto l => exact he.elim
                      | panic ch =>
                        obtain ⟨g, hg, h⟩ := he
                        show Leaves P fn a3.tmps _ a3.defers (.panicking ch) w3
                        rw [hg.defers]
                        exact Q3p (tmps := a3.tmps) hg hen (by simp) h
                      | outgrown => exact he.elim
                  · exact h.elim
                · exact h.elim
              · exact h.elim
            · exact h.elim
    · exact h.elim
  · exact h.elim
end
def recV : FrameMode → Value × FrameMode
  | .panicking ({ v, recovered := false, goexit := false } :: older) => (v, .panicking ({ v, recovered := true } :: older))
  | u => (.nilIface, u)
def rfunc (P : Program) (H : Hints) (k : Nat) (args : List Value) (u : FrameMode) (R : Value → FrameMode → World → Prop) (w : World) : Prop :=
  match P.funcs[k]? with
  | some fn =>
    match fn.body with
    | some (.seq (.region _ ops false) C) =>
      bif Nat.ble args.length fn.ntmps then
        (match ops.toList with
        | [o1, o2] =>
          (match o1.guard, o1.op, o1.dst, o2.guard with
          | none, .call c, some d, none =>
            (match c.callee, c.args.toList with
            | .builtin .recover, [] =>
              bif Nat.blt d fn.ntmps then
                mopF P ((d, (recV u).1) :: argsF args 0) o2 w fun v w => putK fn.ntmps o2.dst v [] ((d, (recV u).1) :: argsF args 0) fun _ f =>
                  mcode P H fn.ntmps C [] ⟨fun f w => mres P f w fn.results.toList [] (fun vs => R (wrapR vs) (recV u).2 w), fun f w => mres P f w fn.results.toList [] (fun vs => R (wrapR vs) (recV u).2 w), []⟩ f w
              else False
            | _, _ => False)
          | _, _, _, _ => False)
        | _ => False)
      else False
    | _ => False
  | none => False
section
variable {P : Program} {H : Hints}
theorem recV_D (c : Frame) (cs : List Frame) (u : FrameMode) (hu : c.mode = u) :
    (match recoverD (c :: cs) with | some (v, cs') => (v, cs') | none => (.nilIface, c :: cs)) = ((recV u).1, { c with mode := (recV u).2 } :: cs) := by
  subst hu
  unfold recoverD recV
  simp only
  split <;> rename_i h
  · split at h
    · rename_i v older hm
      cases h
      rw [hm]
    · cases h
  · split at h
    · cases h
    · rename_i hn
      split
      · rename_i v older hm; exact absurd hm (hn v older)
      · rfl
theorem Q4f (hm : P.follows .mixedOrders = true) {k : Nat} {args : List Value} {u : FrameMode} {R : Value → FrameMode → World → Prop} {w : World} (h : rfunc P H k args u R w) :
    CallsD P k args.toArray u w fun e u' w' => ∃ v, e = .returned v ∧ R v u' w' := by
  unfold rfunc at h
  split at h
  · rename_i fn hfn
    split at h
    · rename_i id ops C hc
      cases hle : Nat.ble args.length fn.ntmps
      · simp [hle] at h
      · simp only [hle, cond_true] at h
        split at h
        · rename_i o1 o2 hops
          split at h
          · rename_i c d hg1 ho1 hd1 hg2
            split at h
            · rename_i hcal hargs
              cases hlt : Nat.blt d fn.ntmps
              · simp [hlt] at h
              · simp only [hlt, cond_true] at h
                refine callsD_of_wpS hfn hc fun c₀ cs hu => ?_
                refine wpS_seq (wpS_region ?_)
                have hops' : ops = #[o1, o2] := by apply Array.ext'; rw [hops]
                have hca : c.args = #[] := by apply Array.ext'; rw [hargs]
                have hf0 := fr_args (Nat.le_of_ble_eq_true hle)
                rw [List.append_nil] at hf0
                generalize ({ tmps := args.toArray ++ Array.replicate (fn.ntmps - args.toArray.size) undef, defers := [] } : Act) = a at *
                rw [hops']
                show wpOpsS P #[o1, o2] _ [0, 1] a (c₀ :: cs) w
                unfold wpOpsS
                have hw1 : Region.wanted o1 (yielded #[o1, o2] a.tmps) = true := by unfold Region.wanted; rw [hg1]
                show (if Region.wanted o1 (yielded #[o1, o2] a.tmps) = true then _ else _)
                rw [if_pos hw1]
                have hr1 : (execOp a.eval o1).run P w = .ok .recover w := by
                  simp only [execOp, ho1, resolve, hcal, hca]
                  rfl
                have hr1' : (execOp a.eval #[o1, o2][0]).run P w = .ok .recover w := hr1
                rw [hr1']
                have hrec := recV_D c₀ cs u hu
                have key : wpOpsS P #[o1, o2] (Exit.thenS (C.wpS P (bodyPostS P fn c₀ cs fun e u' w' => ∃ v, e = .returned v ∧ R v u' w')) (bodyPostS P fn c₀ cs fun e u' w' => ∃ v, e = .returned v ∧ R v u' w')) [1] (a.put o1.dst (recV u).1) ({ c₀ with mode := (recV u).2 } :: cs) w := by
                  have hf1 : Fr [] fn.ntmps ((d, (recV u).1) :: argsF args 0) (a.put o1.dst (recV u).1) := by rw [hd1]; exact hf0.put hlt _
                  unfold wpOpsS
                  have hw2 : Region.wanted o2 (yielded #[o1, o2] (a.put o1.dst (recV u).1).tmps) = true := by unfold Region.wanted; rw [hg2]
                  show (if Region.wanted o2 (yielded #[o1, o2] (a.put o1.dst (recV u).1).tmps) = true then _ else _)
                  rw [if_pos hw2]
                  have fin : ∀ v w2, putK fn.ntmps o2.dst v [] ((d, (recV u).1) :: argsF args 0) (fun _ f => mcode P H fn.ntmps C [] ⟨fun f w => mres P f w fn.results.toList [] (fun vs => R (wrapR vs) (recV u).2 w), fun f w => mres P f w fn.results.toList [] (fun vs => R (wrapR vs) (recV u).2 w), []⟩ f w2) →
                      wpOpsS P #[o1, o2] (Exit.thenS (C.wpS P (bodyPostS P fn c₀ cs fun e u' w' => ∃ v, e = .returned v ∧ R v u' w')) (bodyPostS P fn c₀ cs fun e u' w' => ∃ v, e = .returned v ∧ R v u' w')) [] ((a.put o1.dst (recV u).1).put o2.dst v) ({ c₀ with mode := (recV u).2 } :: cs) w2 := fun v w2 h => by
                    obtain ⟨dg2, f2, h, hf2, _⟩ := putK_ok (lo := []) (dg := []) h (by rw [List.append_nil]; exact hf1) (fun s b hs => by cases hs)
                    unfold wpOpsS
                    show C.wpS P _ _ _ _
                    refine wpS_of_wp (Code.wp_mono (fun e a3 w3 he => ?_) (Q1g hm C [] _ f2 w2 _ h hf2))
                    cases e with
                    | normal =>
                      obtain ⟨g, hg, h⟩ := he
                      rw [List.append_nil] at hg
                      obtain ⟨v, h1, h2⟩ := Q1f (R := fun v w => R v (recV u).2 w) hg h
                      exact ⟨hg.defers, _, rfl, v, h1, v, rfl, h2⟩
                    | ret =>
                      obtain ⟨g, hg, h⟩ := he
                      rw [List.append_nil] at hg
                      obtain ⟨v, h1, h2⟩ := Q1f (R := fun v w => R v (recV u).2 w) hg h
                      exact ⟨hg.defers, _, rfl, v, h1, v, rfl, h2⟩
                    | exit id => obtain ⟨f, k, hk, _⟩ := he; cases hk
                    | goto l => exact he.elim
                    | panic ch => exact he.elim
                    | outgrown => exact he.elim
                  have hok := mopF_ok hf1 h
                  unfold OpOk at hok
                  generalize hrun : (execOp (a.put o1.dst (recV u).1).eval o2).run P w = r at hok
                  have hrun' : (execOp (a.put o1.dst (recV u).1).eval #[o1, o2][1]).run P w = r := hrun
                  rw [hrun']
                  clear hrun hrun'
                  cases r with
                  | ok n w2 =>
                    cases n <;> simp only at hok
                    case value v => exact fin v w2 hok
                    case skip => exact fin undef w2 hok
                    case enter f args =>
                      show Calls P f args w2 _
                      exact hok.mono fun e w'' ⟨v, he, hv⟩ => by subst he; exact fin v w'' hv
                    all_goals exact hok.elim
                  | halt x w2 => exact hok.elim
                cases hrd : recoverD (c₀ :: cs) with
                | none =>
                  rw [hrd] at hrec
                  have h1 : Value.nilIface = (recV u).1 := congrArg Prod.fst hrec
                  have h2 : c₀ :: cs = { c₀ with mode := (recV u).2 } :: cs := congrArg Prod.snd hrec
                  show wpOpsS P #[o1, o2] _ [1] (a.put o1.dst .nilIface) (c₀ :: cs) w
                  rw [h1, h2]; exact key
                | some p =>
                  obtain ⟨v, cs'⟩ := p
                  rw [hrd] at hrec
                  have h1 : v = (recV u).1 := congrArg Prod.fst hrec
                  have h2 : cs' = { c₀ with mode := (recV u).2 } :: cs := congrArg Prod.snd hrec
                  show wpOpsS P #[o1, o2] _ [1] (a.put o1.dst v) cs' w
                  rw [h1, h2]; exact key
            · exact h.elim
          · exact h.elim
        · exact h.elim
    · exact h.elim
  · exact h.elim
end
end Go.Mx
set_option linter.unusedSectionVars false
namespace Go.Mx
section
variable {K K1 : Nat → Prop} {w w1 w' : World} {o o1 o' : Own} {p q j : Nat}
def setAll : List Value → Nat → List Value → List Value
  | cs, _, [] => cs
  | cs, k, v :: r => setAll (cs.set k v) (k + 1) r
def putsK (w : World) (a : Addr) : List Value → Nat → (World → Prop) → Prop
  | [], _, Φ => Φ w
  | v :: r, j, Φ => Q01 w (a.add j) ∧ thenW (w.setCell (a.add j) v) fun w' => putsK w' a r (j + 1) Φ
theorem Q0a {q k : Nat} {t : TypeId} : ∀ {vs cs : List Value} {j : Nat} {w : World} {Φ : World → Prop}, Blk w q t cs → k + j + vs.length ≤ cs.length → (∀ w', Ext (fun b => b = q) w w' → Blk w' q t (setAll cs (k + j) vs) → Φ w') → putsK w ((blk q).add k) vs j Φ
  | [], cs, j, w, Φ, hb, _, h => h w (Ext.refl _ _) hb
  | v :: r, cs, j, w, Φ, hb, hl, h => by
    simp only [List.length_cons] at hl
    have hc : cs[k + j]? = some (cs[k + j]'(by omega)) := List.getElem?_eq_getElem (by omega)
    refine ⟨by rw [add_add]; exact hb.cana hc, Q02 fun w2 e2 => ?_⟩
    rw [add_add, add_blk] at e2
    have X : Ext (fun b => b = q) w w2 := (Ext.refl (fun b => b = q) w).x_set (q := q) (i := k + j) rfl (.inl rfl) e2
    have hb2 := hb.seti (k + j) (t := t) (v := v) rfl e2
    exact Q0a hb2 (by simp; omega) fun w' X' hb' => h w' (X.trans X') hb'
end
theorem Ext.x_puts {m : Nat → Prop} {w0 w w' : World} {q : Nat} (h : Ext m w0 w) (X : Ext (fun b => b = q) w w') (hq : m q ∨ w0.heap.size ≤ q) : Ext m w0 w' :=
  ⟨X.os.trans h.os, X.tape.trans h.tape, X.output.trans h.output, Nat.le_trans h.size X.size, fun b hb hm => by
    refine (X.block b (Nat.lt_of_lt_of_le hb h.size) fun e => ?_).trans (h.block b hb hm)
    subst e
    rcases hq with hq | hq
    · exact hm hq
    · omega⟩
theorem Blk.x_puts {w w' : World} {p q : Nat} {t : TypeId} {cs : List Value} (h : Blk w p t cs) (X : Ext (fun b => b = q) w w') (hne : p ≠ q) : Blk w' p t cs := h.ext X hne
end Go.Mx
set_option maxRecDepth 100000
namespace Go.Proofs.Ytoempemllkebkaa
open Go Go.Mx Go.Proofs
def frmMust.M (k1 : Int) (Φ : List PanicEntry → World → Prop) (R : RW) (w : World) : Prop :=
 bif k1 != 0 then (
 Φ [{ v := .iface 33 (.int .i64 k1), recovered := false }] w) else (
 R (.tuple #[]) w)

theorem frmMust.ok (k1 : Int) {Φ : List PanicEntry → World → Prop} {R : RW} {w : World} (h : frmMust.M k1 Φ R w) : Calls Try.prog 61 #[.int .i64 k1] w fun e w' => (∃ v, e = .returned v ∧ R v w') ∨ ∃ ch, e = .panicked ch ∧ Φ ch w' :=
  Q2I follows (H := []) (args := [.int .i64 k1]) (cast (by kernel_rfl) h)

def frmEnt.M (b2 b3 : Addr) (Φ : List PanicEntry → World → Prop) (R : RW) (w : World) : Prop :=
 ∃ (b6 : Option Addr) (b8 b7 : Nat), w.cell? b2 = some (.slice b6 b8 b7) ∧
 Calls Try.prog 98 #[.slice b6 b8 b7] w fun au aj => (∃ (a8 ac ak an aq af : Int) (a7 : Option Addr) (aa a9 : Nat) (al ae : Int), au = .returned (.tuple #[.agg #[.int .i64 a8, .int .i64 ac, .int .u64 ak, .int .i64 an, .int .i64 aq, .int .i64 af, .slice a7 aa a9, .int .u64 al], .int .i64 ae]) ∧
 thenW (aj.alloc (.cells #[.int .i64 0, .int .i64 0, .int .u64 0, .int .i64 0, .int .i64 0, .int .i64 0, .slice none 0 0, .int .u64 0] 27)) fun b5 =>
 putsK b5 (blk aj.heap.size) [.int .i64 a8, .int .i64 ac, .int .u64 ak, .int .i64 an, .int .i64 aq, .int .i64 af, .slice a7 aa a9, .int .u64 al] 0 fun b1 =>
 Calls Try.prog 61 #[.int .i64 ae] b1 fun ax ad => (ax = .returned (.tuple #[]) ∧
 ∃ (b9 : Option Addr), ad.cell? b3 = some (.pointer b9) ∧
 ∃ (a0 a1 ab ah ai a3 : Int) (a4 : Option Addr) (a5 a2 : Nat) (ag : Int), cellsAt ad (blk aj.heap.size) [.int .i64 a0, .int .i64 a1, .int .u64 ab, .int .i64 ah, .int .i64 ai, .int .i64 a3, .slice a4 a5 a2, .int .u64 ag] 0 ∧
 b9.elim False fun a6 =>
 Q01 ad (a6.add 0) ∧
 thenW (ad.setCell (a6.add 0) (.int .i64 a0)) fun ar =>
 Q01 ar (a6.add 1) ∧
 thenW (ar.setCell (a6.add 1) (.int .i64 a1)) fun az =>
 Q01 az (a6.add 2) ∧
 thenW (az.setCell (a6.add 2) (.int .u64 ab)) fun b0 =>
 Q01 b0 (a6.add 3) ∧
 thenW (b0.setCell (a6.add 3) (.int .i64 ah)) fun am =>
 Q01 am (a6.add 4) ∧
 thenW (am.setCell (a6.add 4) (.int .i64 ai)) fun ap =>
 Q01 ap (a6.add 5) ∧
 thenW (ap.setCell (a6.add 5) (.int .i64 a3)) fun ay =>
 Q01 ay (a6.add 6) ∧
 thenW (ay.setCell (a6.add 6) (.slice a4 a5 a2)) fun aw =>
 Q01 aw (a6.add 7) ∧
 thenW (aw.setCell (a6.add 7) (.int .u64 ag)) fun b4 =>
 R (.tuple #[]) b4) ∨ ∃ (ao : List PanicEntry), ax = .panicked ao ∧
 Φ ao ad) ∨ ∃ (av : List PanicEntry), au = .panicked av ∧
 Φ av aj

theorem frmEnt.ok (a0 a1 : Addr) {Φ : List PanicEntry → World → Prop} {R : RW} {w : World} (h : frmEnt.M a0 a1 Φ R w) : Calls Try.prog 97 #[.pointer (some a0), .pointer (some a1)] w fun e w' => (∃ v, e = .returned v ∧ R v w') ∨ ∃ ch, e = .panicked ch ∧ Φ ch w' :=
  Q2I follows (H := []) (args := [.pointer (some a0), .pointer (some a1)]) (cast (by kernel_rfl) h)

def frmVec.M (a6 a7 : Addr) (Φ : List PanicEntry → World → Prop) (R : RW) (w : World) : Prop :=
 ∃ (ae : Option Addr) (ah ag : Nat), w.cell? a6 = some (.slice ae ah ag) ∧
 Calls Try.prog 93 #[.slice ae ah ag] w fun ac af => (∃ (a2 : Option Addr) (a1 a0 : Nat) (a4 : Int), ac = .returned (.tuple #[.slice a2 a1 a0, .int .i64 a4]) ∧
 Calls Try.prog 61 #[.int .i64 a4] af fun ab a3 => (ab = .returned (.tuple #[]) ∧
 ∃ (ad : Option Addr), a3.cell? a7 = some (.pointer ad) ∧
 ad.elim False fun a9 =>
 Q01 a3 (((a9.add 1).add 18).add 0) ∧
 thenW (a3.setCell (((a9.add 1).add 18).add 0) (.slice a2 a1 a0)) fun a8 =>
 R (.tuple #[]) a8) ∨ ∃ (a5 : List PanicEntry), ab = .panicked a5 ∧
 Φ a5 a3) ∨ ∃ (aa : List PanicEntry), ac = .panicked aa ∧
 Φ aa af

theorem frmVec.ok (a0 a1 : Addr) {Φ : List PanicEntry → World → Prop} {R : RW} {w : World} (h : frmVec.M a0 a1 Φ R w) : Calls Try.prog 92 #[.pointer (some a0), .pointer (some a1)] w fun e w' => (∃ v, e = .returned v ∧ R v w') ∨ ∃ ch, e = .panicked ch ∧ Φ ch w' :=
  Q2I follows (H := []) (args := [.pointer (some a0), .pointer (some a1)]) (cast (by kernel_rfl) h)

def Q2J.M (r1 : Option Addr) (Φ : List PanicEntry → World → Prop) (R : RW) (w : World) : Prop :=
 thenW (w.alloc (.cells #[.int .i64 0, .int .i64 0, .int .i64 0, .int .u64 0, .int .i64 0, .int .i64 0, .int .i64 0, .slice none 0 0, .int .u64 0, .int .i64 0, .int .i64 0, .int .u64 0, .int .i64 0, .int .i64 0, .int .i64 0, .slice none 0 0, .int .u64 0, .int .i64 0, .slice none 0 0, .int .u64 0] 38)) fun dh =>
 r1.elim False fun a3 =>
 ∃ (c2 : Option Addr), dh.cell? (a3.add 0) = some (.pointer c2) ∧
 Calls Try.prog 54 #[.pointer c2, .int .i64 4] dh fun de dc => (∃ (cd : Int), de = .returned (.int .i64 cd) ∧
 r1.elim False fun a9 =>
 Q01 dc (((a9.add 1).add 0).add 0) ∧
 thenW (dc.setCell (((a9.add 1).add 0).add 0) (.int .i64 cd)) fun d7 =>
 r1.elim False fun dp =>
 ∃ (ch : Int), d7.cell? ((dp.add 1).add 0) = some (.int .i64 ch) ∧
 Calls Try.prog 60 #[.pointer r1, .int .i64 ch] d7 fun cv ct => (∃ (bg : Nat) (c7 c5 : Array Value), cv = .returned (.func (.func bg) c7 c5) ∧
 bif enters Try.prog bg then Calls Try.prog bg (c7.toList ++ ([] : List Value) ++ c5.toList).toArray ct (fun d4 cq => (d4 = .returned (.tuple #[]) ∧
 r1.elim False fun dm =>
 ∃ (bn : Option Addr), cq.cell? (dm.add 0) = some (.pointer bn) ∧
 Calls Try.prog 56 #[.pointer bn] cq fun cx cw => (∃ (ce : Int), cx = .returned (.int .i64 ce) ∧
 Calls Try.prog 61 #[.int .i64 ce] cw fun cz cp => (cz = .returned (.tuple #[]) ∧
 r1.elim False fun dj =>
 ∃ (bj : Option Addr) (ai cg : Nat), cp.cell? (dj.add 21) = some (.slice bj ai cg) ∧
 ∃ (I0 : Nat → List Value → World → Prop) (dk : Nat), I0 dk [.int .i64 0] cp ∧ ∀ (df : Nat) (cb : World) (cs : Int), I0 df [.int .i64 cs] cb →
 bif decide (cs < (ai : Int)) then (
 bj.elim False fun di =>
 0 ≤ (cs : Int) ∧ (cs : Int) < (ai : Int) ∧
 ∃ (cr : Nat) (d1 d5 : Array Value), cb.cell? (di.add (Int.toNat cs * 1)) = some (.func (.func cr) d1 d5) ∧
 bif enters Try.prog cr then Calls Try.prog cr (d1.toList ++ ([] : List Value) ++ d5.toList).toArray cb (fun d0 cy => (d0 = .returned (.tuple #[]) ∧
 ∃ dd, dd < df ∧ I0 dd [.int .i64 (IntKind.i64.wrap (cs + 1))] cy) ∨ ∃ (da : List PanicEntry), d0 = .panicked da ∧
 Φ da cy) else False) else (
 r1.elim False fun dn =>
 ∃ (c4 af ap bh br bv ao : Int) (ar : Option Addr) (bc b8 : Nat) (bz ae b3 bp bq bs b9 : Int) (b1 : Option Addr) (be aw : Nat) (c6 c9 : Int) (co : Option Addr) (cl cm : Nat) (ca : Int), cellsAt cb (dn.add 1) [.int .i64 c4, .int .i64 af, .int .i64 ap, .int .u64 bh, .int .i64 br, .int .i64 bv, .int .i64 ao, .slice ar bc b8, .int .u64 bz, .int .i64 ae, .int .i64 b3, .int .u64 bp, .int .i64 bq, .int .i64 bs, .int .i64 b9, .slice b1 be aw, .int .u64 c6, .int .i64 c9, .slice co cl cm, .int .u64 ca] 0 ∧
 Calls Try.prog 16 #[.agg #[.int .i64 c4, .int .i64 af, .int .i64 ap, .int .u64 bh, .int .i64 br, .int .i64 bv, .int .i64 ao, .slice ar bc b8, .int .u64 bz, .int .i64 ae, .int .i64 b3, .int .u64 bp, .int .i64 bq, .int .i64 bs, .int .i64 b9, .slice b1 be aw, .int .u64 c6, .int .i64 c9, .slice co cl cm, .int .u64 ca]] cb fun d8 ci => (∃ (bu : Bool), d8 = .returned (.bool bu) ∧
 bif !bu then (
 Φ [{ v := .iface 33 (.int .i64 4), recovered := false }] ci) else (
 r1.elim False fun dl =>
 ∃ (c3 ak b0 bm c1 bx az : Int) (bd : Option Addr) (av bf : Nat) (bw an b6 bl bt c0 b4 : Int) (b7 : Option Addr) (au ba : Nat) (c8 cc : Int) (cj : Option Addr) (cn ck : Nat) (cf : Int), cellsAt ci (dl.add 1) [.int .i64 c3, .int .i64 ak, .int .i64 b0, .int .u64 bm, .int .i64 c1, .int .i64 bx, .int .i64 az, .slice bd av bf, .int .u64 bw, .int .i64 an, .int .i64 b6, .int .u64 bl, .int .i64 bt, .int .i64 c0, .int .i64 b4, .slice b7 au ba, .int .u64 c8, .int .i64 cc, .slice cj cn ck, .int .u64 cf] 0 ∧
 putsK ci (blk w.heap.size) [.int .i64 c3, .int .i64 ak, .int .i64 b0, .int .u64 bm, .int .i64 c1, .int .i64 bx, .int .i64 az, .slice bd av bf, .int .u64 bw, .int .i64 an, .int .i64 b6, .int .u64 bl, .int .i64 bt, .int .i64 c0, .int .i64 b4, .slice b7 au ba, .int .u64 c8, .int .i64 cc, .slice cj cn ck, .int .u64 cf] 0 fun cu =>
 ∃ (aq a5 aa am b2 bb ac : Int) (a7 : Option Addr) (ad a8 : Nat) (ay a2 ab al ag aj a1 : Int) (a4 : Option Addr) (a6 a0 : Nat) (ah b5 : Int) (bo : Option Addr) (bk bi : Nat) (ax : Int), cellsAt cu (blk w.heap.size) [.int .i64 aq, .int .i64 a5, .int .i64 aa, .int .u64 am, .int .i64 b2, .int .i64 bb, .int .i64 ac, .slice a7 ad a8, .int .u64 ay, .int .i64 a2, .int .i64 ab, .int .u64 al, .int .i64 ag, .int .i64 aj, .int .i64 a1, .slice a4 a6 a0, .int .u64 ah, .int .i64 b5, .slice bo bk bi, .int .u64 ax] 0 ∧
 R (.agg #[.int .i64 aq, .int .i64 a5, .int .i64 aa, .int .u64 am, .int .i64 b2, .int .i64 bb, .int .i64 ac, .slice a7 ad a8, .int .u64 ay, .int .i64 a2, .int .i64 ab, .int .u64 al, .int .i64 ag, .int .i64 aj, .int .i64 a1, .slice a4 a6 a0, .int .u64 ah, .int .i64 b5, .slice bo bk bi, .int .u64 ax]) cu)) ∨ ∃ (db : List PanicEntry), d8 = .panicked db ∧
 Φ db ci)) ∨ ∃ (d9 : List PanicEntry), cz = .panicked d9 ∧
 Φ d9 cp) ∨ ∃ (d3 : List PanicEntry), cx = .panicked d3 ∧
 Φ d3 cw) ∨ ∃ (d6 : List PanicEntry), d4 = .panicked d6 ∧
 Φ d6 cq) else False) ∨ ∃ (d2 : List PanicEntry), cv = .panicked d2 ∧
 Φ d2 ct) ∨ ∃ (dg : List PanicEntry), de = .panicked dg ∧
 Φ dg dc

theorem Q2J.ok (r1 : Option Addr) {Φ : List PanicEntry → World → Prop} {R : RW} {w : World} (h : Q2J.M r1 Φ R w) : Calls Try.prog 34 #[.pointer r1] w fun e w' => (∃ v, e = .returned v ∧ R v w') ∨ ∃ ch, e = .panicked ch ∧ Φ ch w' :=
  Q2I follows (H := [(0, [0, 2, 31, 32], [(33, (.one (.int .i64)))])]) (args := [.pointer r1]) (cast (by kernel_rfl) h)

def frmBack.M (a0 ac : Addr) (pk : Int) (R : Value → FrameMode → World → Prop) (w : World) : Prop :=
 ∃ (b3 : Bool), (binOp .neq 20 (.iface 33 (.int .i64 pk)) (.nilIface)).run Try.prog w = .ok (.bool b3) w ∧
 bif b3 then (
 thenW (w.drew) fun ai =>
 ∃ (v5 : Int), (Instr.typeAssert (.iface 33 (.int .i64 pk)) 20 33 false).run Try.prog ai = .ok (.int .i64 v5) ai ∧
 Q01 ai (a0.add 0) ∧
 thenW (ai.setCell (a0.add 0) (.int .i64 0)) fun am =>
 Q01 am (a0.add 1) ∧
 thenW (am.setCell (a0.add 1) (.int .i64 0)) fun an =>
 Q01 an (a0.add 2) ∧
 thenW (an.setCell (a0.add 2) (.int .i64 0)) fun ak =>
 Q01 ak (a0.add 3) ∧
 thenW (ak.setCell (a0.add 3) (.int .u64 0)) fun al =>
 Q01 al (a0.add 4) ∧
 thenW (al.setCell (a0.add 4) (.int .i64 0)) fun a2 =>
 Q01 a2 (a0.add 5) ∧
 thenW (a2.setCell (a0.add 5) (.int .i64 0)) fun ae =>
 Q01 ae (a0.add 6) ∧
 thenW (ae.setCell (a0.add 6) (.int .i64 0)) fun a7 =>
 Q01 a7 (a0.add 7) ∧
 thenW (a7.setCell (a0.add 7) (.slice none 0 0)) fun a5 =>
 Q01 a5 (a0.add 8) ∧
 thenW (a5.setCell (a0.add 8) (.int .u64 0)) fun aa =>
 Q01 aa (a0.add 9) ∧
 thenW (aa.setCell (a0.add 9) (.int .i64 0)) fun a4 =>
 Q01 a4 (a0.add 10) ∧
 thenW (a4.setCell (a0.add 10) (.int .i64 0)) fun af =>
 Q01 af (a0.add 11) ∧
 thenW (af.setCell (a0.add 11) (.int .u64 0)) fun a3 =>
 Q01 a3 (a0.add 12) ∧
 thenW (a3.setCell (a0.add 12) (.int .i64 0)) fun ag =>
 Q01 ag (a0.add 13) ∧
 thenW (ag.setCell (a0.add 13) (.int .i64 0)) fun a6 =>
 Q01 a6 (a0.add 14) ∧
 thenW (a6.setCell (a0.add 14) (.int .i64 0)) fun a9 =>
 Q01 a9 (a0.add 15) ∧
 thenW (a9.setCell (a0.add 15) (.slice none 0 0)) fun ad =>
 Q01 ad (a0.add 16) ∧
 thenW (ad.setCell (a0.add 16) (.int .u64 0)) fun ah =>
 Q01 ah (a0.add 17) ∧
 thenW (ah.setCell (a0.add 17) (.int .i64 0)) fun ab =>
 Q01 ab (a0.add 18) ∧
 thenW (ab.setCell (a0.add 18) (.slice none 0 0)) fun a8 =>
 Q01 a8 (a0.add 19) ∧
 thenW (a8.setCell (a0.add 19) (.int .u64 0)) fun a1 =>
 (Instr.typeAssert (.iface 33 (.int .i64 pk)) 20 33 false).run Try.prog a1 = .ok (.int .i64 v5) a1 ∧
 Q01 a1 (ac.add 0) ∧
 thenW (a1.setCell (ac.add 0) (.int .i64 v5)) fun aj =>
 R (.tuple #[]) (.panicking [{ v := .iface 33 (.int .i64 pk), recovered := true }]) aj) else (
 R (.tuple #[]) (.panicking [{ v := .iface 33 (.int .i64 pk), recovered := true }]) w)

theorem frmBack.ok (a0 a1 : Addr) (pk : Int) {R : Value → FrameMode → World → Prop} {w : World} (h : frmBack.M a0 a1 pk R w) : CallsD Try.prog 32 #[.pointer (some a0), .pointer (some a1)] (.panicking [{ v := .iface 33 (.int .i64 pk), recovered := false }]) w fun e u' w' => ∃ v, e = .returned v ∧ R v u' w' :=
  Q4f follows (H := []) (args := [.pointer (some a0), .pointer (some a1)]) (cast (by kernel_rfl) h)

def frmDone.M (a0 a1 : Addr) (R : Value → FrameMode → World → Prop) (w : World) : Prop :=
 R (.tuple #[]) .returning w

theorem frmDone.ok (a0 a1 : Addr) {R : Value → FrameMode → World → Prop} {w : World} (h : frmDone.M a0 a1 R w) : CallsD Try.prog 32 #[.pointer (some a0), .pointer (some a1)] .returning w fun e u' w' => ∃ v, e = .returned v ∧ R v u' w' :=
  Q4f follows (H := []) (args := [.pointer (some a0), .pointer (some a1)]) (cast (by kernel_rfl) h)

def frmRead.M (f3 : Option Addr) (f2 f4 : Nat) (R : RW) (w : World) : Prop :=
 thenW (w.alloc (.cells #[.int .i64 0, .int .i64 0, .int .i64 0, .int .u64 0, .int .i64 0, .int .i64 0, .int .i64 0, .slice none 0 0, .int .u64 0, .int .i64 0, .int .i64 0, .int .u64 0, .int .i64 0, .int .i64 0, .int .i64 0, .slice none 0 0, .int .u64 0, .int .i64 0, .slice none 0 0, .int .u64 0] 38)) fun dx =>
 thenW (dx.alloc (.cells #[.int .i64 0] 33)) fun f0 =>
 bif decide ((f2 : Int) > 4000) then (
 ∃ (e5 cg d5 ds e8 e1 ck : Int) (c4 : Option Addr) (cw ce : Nat) (dv bm cx dd du dt c7 : Int) (cy : Option Addr) (c3 cp : Nat) (dp ea : Int) (eg : Option Addr) (ek eh : Nat) (ec : Int), cellsAt f0 (blk w.heap.size) [.int .i64 e5, .int .i64 cg, .int .i64 d5, .int .u64 ds, .int .i64 e8, .int .i64 e1, .int .i64 ck, .slice c4 cw ce, .int .u64 dv, .int .i64 bm, .int .i64 cx, .int .u64 dd, .int .i64 du, .int .i64 dt, .int .i64 c7, .slice cy c3 cp, .int .u64 dp, .int .i64 ea, .slice eg ek eh, .int .u64 ec] 0 ∧
 putsK f0 (blk w.heap.size) [.int .i64 e5, .int .i64 cg, .int .i64 d5, .int .u64 ds, .int .i64 e8, .int .i64 e1, .int .i64 ck, .slice c4 cw ce, .int .u64 dv, .int .i64 bm, .int .i64 cx, .int .u64 dd, .int .i64 du, .int .i64 dt, .int .i64 c7, .slice cy c3 cp, .int .u64 dp, .int .i64 ea, .slice eg ek eh, .int .u64 ec] 0 fun eo =>
 Q01 eo ((blk dx.heap.size).add 0) ∧
 thenW (eo.setCell ((blk dx.heap.size).add 0) (.int .i64 3)) fun em =>
 ∃ (cj ac ax bs cs cv bc : Int) (b7 : Option Addr) (aw b5 : Nat) (cd a7 b1 br co c8 b0 : Int) (bf : Option Addr) (b6 bb : Nat) (cm d1 : Int) (dw : Option Addr) (dm dn : Nat) (dg : Int), cellsAt em (blk w.heap.size) [.int .i64 cj, .int .i64 ac, .int .i64 ax, .int .u64 bs, .int .i64 cs, .int .i64 cv, .int .i64 bc, .slice b7 aw b5, .int .u64 cd, .int .i64 a7, .int .i64 b1, .int .u64 br, .int .i64 co, .int .i64 c8, .int .i64 b0, .slice bf b6 bb, .int .u64 cm, .int .i64 d1, .slice dw dm dn, .int .u64 dg] 0 ∧
 ∃ (ei : Int), em.cell? (blk dx.heap.size) = some (.int .i64 ei) ∧
 R (.tuple #[.agg #[.int .i64 cj, .int .i64 ac, .int .i64 ax, .int .u64 bs, .int .i64 cs, .int .i64 cv, .int .i64 bc, .slice b7 aw b5, .int .u64 cd, .int .i64 a7, .int .i64 b1, .int .u64 br, .int .i64 co, .int .i64 c8, .int .i64 b0, .slice bf b6 bb, .int .u64 cm, .int .i64 d1, .slice dw dm dn, .int .u64 dg], .int .i64 ei]) em) else (
 Calls Try.prog 33 #[.slice f3 f2 f4] f0 fun es en => (∃ (ee : Option Addr), es = .returned (.pointer ee) ∧
 thenW (en.alloc (.cells #[.pointer ee, .int .i64 0, .int .i64 0, .int .i64 0, .int .u64 0, .int .i64 0, .int .i64 0, .int .i64 0, .slice none 0 0, .int .u64 0, .int .i64 0, .int .i64 0, .int .u64 0, .int .i64 0, .int .i64 0, .int .i64 0, .slice none 0 0, .int .u64 0, .int .i64 0, .slice none 0 0, .int .u64 0, .slice none 0 0] 72)) fun ez =>
 Calls Try.prog 34 #[.pointer (some (blk en.heap.size))] ez fun er eu => (∃ (dy cn db dr e9 ed d7 : Int) (cz : Option Addr) (de d2 : Nat) (eb c5 dj dq e0 e6 dc : Int) (da : Option Addr) (d8 d0 : Nat) (e7 ej : Int) (ew : Option Addr) (eq et : Nat) (el : Int), er = .returned (.agg #[.int .i64 dy, .int .i64 cn, .int .i64 db, .int .u64 dr, .int .i64 e9, .int .i64 ed, .int .i64 d7, .slice cz de d2, .int .u64 eb, .int .i64 c5, .int .i64 dj, .int .u64 dq, .int .i64 e0, .int .i64 e6, .int .i64 dc, .slice da d8 d0, .int .u64 e7, .int .i64 ej, .slice ew eq et, .int .u64 el]) ∧
 putsK eu (blk w.heap.size) [.int .i64 dy, .int .i64 cn, .int .i64 db, .int .u64 dr, .int .i64 e9, .int .i64 ed, .int .i64 d7, .slice cz de d2, .int .u64 eb, .int .i64 c5, .int .i64 dj, .int .u64 dq, .int .i64 e0, .int .i64 e6, .int .i64 dc, .slice da d8 d0, .int .u64 e7, .int .i64 ej, .slice ew eq et, .int .u64 el] 0 fun ev =>
 Q01 ev ((blk dx.heap.size).add 0) ∧
 thenW (ev.setCell ((blk dx.heap.size).add 0) (.int .i64 0)) fun f1 =>
 CallsD Try.prog 32 #[.pointer (some (blk w.heap.size)), .pointer (some (blk dx.heap.size))] .returning f1 fun e3 e2 bp => ∃ (ex : Value), e3 = .returned ex ∧ settle e2 = .returning ∧
 ∃ (cl ae ay bn c9 ca bd : Int) (bh : Option Addr) (b9 b2 : Nat) (ch a8 b8 c2 cr ct bg : Int) (ba : Option Addr) (au av : Nat) (c6 ci : Int) (d4 : Option Addr) (d9 d6 : Nat) (cq : Int), cellsAt bp (blk w.heap.size) [.int .i64 cl, .int .i64 ae, .int .i64 ay, .int .u64 bn, .int .i64 c9, .int .i64 ca, .int .i64 bd, .slice bh b9 b2, .int .u64 ch, .int .i64 a8, .int .i64 b8, .int .u64 c2, .int .i64 cr, .int .i64 ct, .int .i64 bg, .slice ba au av, .int .u64 c6, .int .i64 ci, .slice d4 d9 d6, .int .u64 cq] 0 ∧
 ∃ (ef : Int), bp.cell? (blk dx.heap.size) = some (.int .i64 ef) ∧
 R (.tuple #[.agg #[.int .i64 cl, .int .i64 ae, .int .i64 ay, .int .u64 bn, .int .i64 c9, .int .i64 ca, .int .i64 bd, .slice bh b9 b2, .int .u64 ch, .int .i64 a8, .int .i64 b8, .int .u64 c2, .int .i64 cr, .int .i64 ct, .int .i64 bg, .slice ba au av, .int .u64 c6, .int .i64 ci, .slice d4 d9 d6, .int .u64 cq], .int .i64 ef]) bp) ∨ ∃ (ep : List PanicEntry), er = .panicked ep ∧
 CallsD Try.prog 32 #[.pointer (some (blk w.heap.size)), .pointer (some (blk dx.heap.size))] (.panicking ep) eu fun e3 e2 bp => ∃ (ex : Value), e3 = .returned ex ∧ settle e2 = .returning ∧
 ∃ (bw a0 ag az c1 bu an : Int) (ap : Option Addr) (ao aj : Nat) (bj a1 ab b3 bz bv aa : Int) (af : Option Addr) (ah a6 : Nat) (bo cu : Int) (dl : Option Addr) (dk df : Nat) (cb : Int), cellsAt bp (blk w.heap.size) [.int .i64 bw, .int .i64 a0, .int .i64 ag, .int .u64 az, .int .i64 c1, .int .i64 bu, .int .i64 an, .slice ap ao aj, .int .u64 bj, .int .i64 a1, .int .i64 ab, .int .u64 b3, .int .i64 bz, .int .i64 bv, .int .i64 aa, .slice af ah a6, .int .u64 bo, .int .i64 cu, .slice dl dk df, .int .u64 cb] 0 ∧
 ∃ (dz : Int), bp.cell? (blk dx.heap.size) = some (.int .i64 dz) ∧
 R (.tuple #[.agg #[.int .i64 bw, .int .i64 a0, .int .i64 ag, .int .u64 az, .int .i64 c1, .int .i64 bu, .int .i64 an, .slice ap ao aj, .int .u64 bj, .int .i64 a1, .int .i64 ab, .int .u64 b3, .int .i64 bz, .int .i64 bv, .int .i64 aa, .slice af ah a6, .int .u64 bo, .int .i64 cu, .slice dl dk df, .int .u64 cb], .int .i64 dz]) bp) ∨ ∃ (ey : List PanicEntry), es = .panicked ey ∧
 CallsD Try.prog 32 #[.pointer (some (blk w.heap.size)), .pointer (some (blk dx.heap.size))] (.panicking ey) en fun e3 e2 bp => ∃ (ex : Value), e3 = .returned ex ∧ settle e2 = .returning ∧
 ∃ (bi a3 ad be bt bq ai : Int) (al : Option Addr) (a9 am : Nat) (bk a2 a4 b4 bl c0 ak : Int) (ar : Option Addr) (a5 aq : Nat) (bx cc : Int) (d3 : Option Addr) (di dh : Nat) (cf : Int), cellsAt bp (blk w.heap.size) [.int .i64 bi, .int .i64 a3, .int .i64 ad, .int .u64 be, .int .i64 bt, .int .i64 bq, .int .i64 ai, .slice al a9 am, .int .u64 bk, .int .i64 a2, .int .i64 a4, .int .u64 b4, .int .i64 bl, .int .i64 c0, .int .i64 ak, .slice ar a5 aq, .int .u64 bx, .int .i64 cc, .slice d3 di dh, .int .u64 cf] 0 ∧
 ∃ (e4 : Int), bp.cell? (blk dx.heap.size) = some (.int .i64 e4) ∧
 R (.tuple #[.agg #[.int .i64 bi, .int .i64 a3, .int .i64 ad, .int .u64 be, .int .i64 bt, .int .i64 bq, .int .i64 ai, .slice al a9 am, .int .u64 bk, .int .i64 a2, .int .i64 a4, .int .u64 b4, .int .i64 bl, .int .i64 c0, .int .i64 ak, .slice ar a5 aq, .int .u64 bx, .int .i64 cc, .slice d3 di dh, .int .u64 cf], .int .i64 e4]) bp)

theorem frmRead.ok (a0 : Option Addr) (a1 a2 : Nat) {R : RW} {w : World} (h : frmRead.M a0 a1 a2 R w) : Calls Try.prog 13 #[.slice a0 a1 a2] w fun e w' => ∃ v, e = .returned v ∧ R v w' :=
  Q5x follows (H := []) (args := [.slice a0 a1 a2]) (cast (by kernel_rfl) h)

end Go.Proofs.Ytoempemllkebkaa