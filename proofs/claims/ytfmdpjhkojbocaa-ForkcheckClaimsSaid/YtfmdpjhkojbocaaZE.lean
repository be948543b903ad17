/- Frames: which are right, and which are the same. -/
import Derived.Test.YtfmdpjhkojbocaaZC
import Derived.Test.YtfmdpjhkojbocaaZD
set_option linter.unusedVariables false
set_option linter.unusedSimpArgs false
set_option maxRecDepth 20000
set_option maxHeartbeats 4000000
namespace Go.Proofs.Ytfmdpjhkojbocaa
open Go Go.Mx Go.Proofs
open W (OwnB GivesW numR countR doneR zig unzig intR)
/-- frame.fits -/
def frame_fits.M (ak : Int) (au : Int) (aw : Int) (ax : Int) (ay : Int) (aq : Int) (ar : Option Addr) (ao : Nat) (an : Nat) (az : Int) (av : Bool) (R : Value → World → Prop) (w : World) : Prop :=
 thenW (w.alloc (.cells #[.int .i64 ak, .int .i64 au, .int .u64 aw, .int .i64 ax, .int .i64 ay, .int .i64 aq, .slice ar ao an, .int .u64 az] 29)) fun ap =>
 bif av then (
 ∃ (a0 : Int) (a5 : Int) (ad : Int) (al : Int) (ai : Int) (ab : Int) (a4 : Option Addr) (a2 : Nat) (a3 : Nat) (ah : Int), cellsAt ap (blk w.heap.size) [.int .i64 a0, .int .i64 a5, .int .u64 ad, .int .i64 al, .int .i64 ai, .int .i64 ab, .slice a4 a2 a3, .int .u64 ah] 0 ∧
 Calls Try.prog 34 #[.agg #[.int .i64 a0, .int .i64 a5, .int .u64 ad, .int .i64 al, .int .i64 ai, .int .i64 ab, .slice a4 a2 a3, .int .u64 ah]] ap fun b0 b2 => ∃ (ac : Bool), b0 = .returned (.bool ac) ∧
 R (.bool ac) b2) else (
 ∃ (a1 : Int) (a9 : Int) (ae : Int) (aj : Int) (am : Int) (a6 : Int) (a8 : Option Addr) (a7 : Nat) (aa : Nat) (af : Int), cellsAt ap (blk w.heap.size) [.int .i64 a1, .int .i64 a9, .int .u64 ae, .int .i64 aj, .int .i64 am, .int .i64 a6, .slice a8 a7 aa, .int .u64 af] 0 ∧
 Calls Try.prog 38 #[.agg #[.int .i64 a1, .int .i64 a9, .int .u64 ae, .int .i64 aj, .int .i64 am, .int .i64 a6, .slice a8 a7 aa, .int .u64 af], .agg #[.int .i64 0, .int .i64 0, .int .u64 0, .int .i64 0, .int .i64 0, .int .i64 0, .slice none 0 0, .int .u64 0]] ap fun b3 b1 => ∃ (ag : Bool), b3 = .returned (.bool ag) ∧
 R (.bool ag) b1)

theorem frame_fits.eq (eWriter1 : Int) (eIndex2 : Int) (ePrev3 : Int) (eAtT4 : Int) (eAtW5 : Int) (eEpoch6 : Int) (eBody7a : Option Addr) (eBody7n : Nat) (eBody7c : Nat) (eSig8 : Int) (there9 : Bool) (R : Value → World → Prop) (w : World) : mfunc Try.prog [] 75 [.agg #[.int .i64 eWriter1, .int .i64 eIndex2, .int .u64 ePrev3, .int .i64 eAtT4, .int .i64 eAtW5, .int .i64 eEpoch6, .slice eBody7a eBody7n eBody7c, .int .u64 eSig8], .bool there9] R w = frame_fits.M eWriter1 eIndex2 ePrev3 eAtT4 eAtW5 eEpoch6 eBody7a eBody7n eBody7c eSig8 there9 R w := by kernel_rfl
theorem frame_fits.ok (a0 : Int) (a4 : Int) (a6 : Int) (a8 : Int) (a9 : Int) (a1 : Int) (a3 : Option Addr) (a2 : Nat) (a5 : Nat) (aa : Int) (a7 : Bool) {R : Value → World → Prop} {w : World} (h : frame_fits.M a0 a4 a6 a8 a9 a1 a3 a2 a5 aa a7 R w) : Calls Try.prog 75 #[.agg #[.int .i64 a0, .int .i64 a4, .int .u64 a6, .int .i64 a8, .int .i64 a9, .int .i64 a1, .slice a3 a2 a5, .int .u64 aa], .bool a7] w fun e w' => ∃ v, e = .returned v ∧ R v w' :=
  mfunc_ok follows (H := []) (args := [.agg #[.int .i64 a0, .int .i64 a4, .int .u64 a6, .int .i64 a8, .int .i64 a9, .int .i64 a1, .slice a3 a2 a5, .int .u64 aa], .bool a7]) (by rw [frame_fits.eq]; exact h)

def frame_fits.N (a0 : Int) (a4 : Int) (a7 : Int) (a9 : Int) (aa : Int) (a1 : Int) (a3 : Option Addr) (a2 : Nat) (a5 : Nat) (ab : Int) (a8 : Bool) (R : Value → World → Prop) (w : World) : Prop :=
 (a8 = true →
 ∀ (ad : World), Ext no w ad →
 R (.bool (entry_Right.F a0 a4 a7 a9 aa a1 a3 a2 a5 ab)) ad) ∧
 (a8 = false →
 ∀ (ac : World), Ext no w ac →
 Calls Try.prog 38 #[.agg #[.int .i64 a0, .int .i64 a4, .int .u64 a7, .int .i64 a9, .int .i64 aa, .int .i64 a1, .slice a3 a2 a5, .int .u64 ab], .agg #[.int .i64 0, .int .i64 0, .int .u64 0, .int .i64 0, .int .i64 0, .int .i64 0, .slice none 0 0, .int .u64 0]] ac fun af ae => ∃ (a6 : Bool), af = .returned (.bool a6) ∧
 R (.bool a6) ae)

theorem frame_fits.up (a0 : Int) (a5 : Int) (a6 : Int) (a7 : Int) (a8 : Int) (a3 : Int) (a4 : Option Addr) (a2 : Nat) (a1 : Nat) (a9 : Int) (ab : Bool) {R : Value → World → Prop} {w : World} (h : frame_fits.N a0 a5 a6 a7 a8 a3 a4 a2 a1 a9 ab R w) : frame_fits.M a0 a5 a6 a7 a8 a3 a4 a2 a1 a9 ab R w := by
  unfold frame_fits.M
  unfold frame_fits.N at h
  refine thenW_in fun ag ah => ?_
  have aa := Blk.of_new ah
  have ak := ((Ext.refl no w)).size
  have ad := (Ext.refl no w).x_alloc ah
  refine bif_of (fun af => ?_) (fun af => ?_)
  · have h := h.1 af
    refine ⟨a0, a5, a6, a7, a8, a3, a4, a2, a1, a9, ⟨aa.celli 0 rfl rfl, aa.celli 1 rfl rfl, aa.celli 2 rfl rfl, aa.celli 3 rfl rfl, aa.celli 4 rfl rfl, aa.celli 5 rfl rfl, aa.celli 6 rfl rfl, aa.celli 7 rfl rfl, trivial⟩, ?_⟩
    refine (entry_Right.pure a0 a5 a6 a7 a8 a3 a4 a2 a1 a9).mono fun ee ww12 ⟨he, hxx⟩ => ⟨(entry_Right.F a0 a5 a6 a7 a8 a3 a4 a2 a1 a9), he, ?_⟩
    have ae := ad.trans hxx
    have h := h ww12 ae
    exact h
  · have h := h.2 af
    refine ⟨a0, a5, a6, a7, a8, a3, a4, a2, a1, a9, ⟨aa.celli 0 rfl rfl, aa.celli 1 rfl rfl, aa.celli 2 rfl rfl, aa.celli 3 rfl rfl, aa.celli 4 rfl rfl, aa.celli 5 rfl rfl, aa.celli 6 rfl rfl, aa.celli 7 rfl rfl, trivial⟩, ?_⟩
    have h := h ag ad
    refine h.mono fun aj ai h => ?_
    obtain ⟨ac, he, h⟩ := h
    refine ⟨ac, he, ?_⟩
    exact h

theorem frame_fits.go (a0 : Int) (a4 : Int) (a6 : Int) (a8 : Int) (a9 : Int) (a1 : Int) (a3 : Option Addr) (a2 : Nat) (a5 : Nat) (aa : Int) (a7 : Bool) {R : Value → World → Prop} {w : World} (h : frame_fits.N a0 a4 a6 a8 a9 a1 a3 a2 a5 aa a7 R w) : Calls Try.prog 75 #[.agg #[.int .i64 a0, .int .i64 a4, .int .u64 a6, .int .i64 a8, .int .i64 a9, .int .i64 a1, .slice a3 a2 a5, .int .u64 aa], .bool a7] w fun e w' => ∃ v, e = .returned v ∧ R v w' := frame_fits.ok a0 a4 a6 a8 a9 a1 a3 a2 a5 aa a7 (frame_fits.up a0 a4 a6 a8 a9 a1 a3 a2 a5 aa a7 h)
theorem frame_fits.run (a0 : Int) (a4 : Int) (a6 : Int) (a8 : Int) (a9 : Int) (a1 : Int) (a3 : Option Addr) (a2 : Nat) (a5 : Nat) (aa : Int) (a7 : Bool) {V : Value} {Q : World → Prop} {w : World} (h : frame_fits.N a0 a4 a6 a8 a9 a1 a3 a2 a5 aa a7 (fun v w' => v = V ∧ Q w') w) : Calls Try.prog 75 #[.agg #[.int .i64 a0, .int .i64 a4, .int .u64 a6, .int .i64 a8, .int .i64 a9, .int .i64 a1, .slice a3 a2 a5, .int .u64 aa], .bool a7] w (Ret V Q) := (frame_fits.go a0 a4 a6 a8 a9 a1 a3 a2 a5 aa a7 h).mono fun e w' ⟨v, he, hv, hq⟩ => ⟨by rw [he, hv], hq⟩

/-- frame.Right -/
def frame_Right.M (cu : Int) (b2 : Int) (bx : Int) (c9 : Int) (ct : Int) (cv : Int) (bn : Int) (b6 : Option Addr) (bi : Nat) (bv : Nat) (cw : Int) (aq : Int) (b1 : Int) (bo : Int) (c4 : Int) (c8 : Int) (b4 : Int) (b0 : Option Addr) (b3 : Nat) (b5 : Nat) (c7 : Int) (cs : Int) (d7 : Option Addr) (d1 : Nat) (d3 : Nat) (cx : Int) (R : Value → World → Prop) (w : World) : Prop :=
 thenW (w.alloc (.cells #[.int .i64 cu, .int .i64 b2, .int .i64 bx, .int .u64 c9, .int .i64 ct, .int .i64 cv, .int .i64 bn, .slice b6 bi bv, .int .u64 cw, .int .i64 aq, .int .i64 b1, .int .u64 bo, .int .i64 c4, .int .i64 c8, .int .i64 b4, .slice b0 b3 b5, .int .u64 c7, .int .i64 cs, .slice d7 d1 d3, .int .u64 cx] 69)) fun aa =>
 ∃ (br : Int), aa.cell? ((blk w.heap.size).add 0) = some (.int .i64 br) ∧
 bif decide (br < 1) then (
 R (.bool false) aa) else (
 ∃ (b8 : Int), aa.cell? ((blk w.heap.size).add 0) = some (.int .i64 b8) ∧
 bif decide (b8 > 4) then (
 R (.bool false) aa) else (
 ∃ (a2 : Int) (a6 : Int) (ab : Int) (ar : Int) (ao : Int) (a5 : Int) (a4 : Option Addr) (a7 : Nat) (a3 : Nat) (ap : Int), cellsAt aa ((blk w.heap.size).add 1) [.int .i64 a2, .int .i64 a6, .int .u64 ab, .int .i64 ar, .int .i64 ao, .int .i64 a5, .slice a4 a7 a3, .int .u64 ap] 0 ∧
 ∃ (bb : Int), aa.cell? ((blk w.heap.size).add 0) = some (.int .i64 bb) ∧
 bif bb == 1 then (
 Calls Try.prog 75 #[.agg #[.int .i64 a2, .int .i64 a6, .int .u64 ab, .int .i64 ar, .int .i64 ao, .int .i64 a5, .slice a4 a7 a3, .int .u64 ap], .bool true] aa fun dl c6 => ∃ (bk : Bool), dl = .returned (.bool bk) ∧
 bif !bk then (
 R (.bool false) c6) else (
 ∃ (a8 : Int) (ai : Int) (au : Int) (bh : Int) (bf : Int) (an : Int) (ac : Option Addr) (ae : Nat) (al : Nat) (c3 : Int), cellsAt c6 ((blk w.heap.size).add 9) [.int .i64 a8, .int .i64 ai, .int .u64 au, .int .i64 bh, .int .i64 bf, .int .i64 an, .slice ac ae al, .int .u64 c3] 0 ∧
 ∃ (bq : Int), c6.cell? ((blk w.heap.size).add 0) = some (.int .i64 bq) ∧
 Calls Try.prog 75 #[.agg #[.int .i64 a8, .int .i64 ai, .int .u64 au, .int .i64 bh, .int .i64 bf, .int .i64 an, .slice ac ae al, .int .u64 c3], .bool (bq == 4)] c6 fun di a1 => ∃ (bz : Bool), di = .returned (.bool bz) ∧
 bif !bz then (
 R (.bool false) a1) else (
 ∃ (b9 : Int), a1.cell? ((blk w.heap.size).add 0) = some (.int .i64 b9) ∧
 bif b9 != 2 then (
 ∃ (bp : Int), a1.cell? ((blk w.heap.size).add 0) = some (.int .i64 bp) ∧
 bif bp != 3 then (
 ∃ (cf : Int), a1.cell? ((blk w.heap.size).add 17) = some (.int .i64 cf) ∧
 bif cf == 0 then (
 ∃ (dh : Option Addr) (d9 : Nat) (dm : Nat), a1.cell? ((blk w.heap.size).add 18) = some (.slice dh d9 dm) ∧
 bif (d9 : Int) == 0 then (
 ∃ (cl : Int), a1.cell? ((blk w.heap.size).add 19) = some (.int .u64 cl) ∧
 R (.bool (cl == 0)) a1) else (
 R (.bool false) a1)) else (
 R (.bool false) a1)) else (
 ∃ (cd : Int), a1.cell? ((blk w.heap.size).add 17) = some (.int .i64 cd) ∧
 bif decide (cd ≥ 0) then (
 ∃ (ca : Int), a1.cell? ((blk w.heap.size).add 17) = some (.int .i64 ca) ∧
 bif decide (ca < 8) then (
 ∃ (da : Option Addr) (d0 : Nat) (dc : Nat), a1.cell? ((blk w.heap.size).add 18) = some (.slice da d0 dc) ∧
 Calls Try.prog 72 #[.slice da d0 dc] a1 fun de bg => ∃ (ay : Bool), de = .returned (.bool ay) ∧
 bif ay then (
 ∃ (bw : Int), bg.cell? ((blk w.heap.size).add 0) = some (.int .i64 bw) ∧
 bif bw == 3 then (
 R (.bool true) bg) else (
 ∃ (ch : Int), bg.cell? ((blk w.heap.size).add 19) = some (.int .u64 ch) ∧
 R (.bool (ch == 0)) bg)) else (
 R (.bool false) bg)) else (
 R (.bool false) a1)) else (
 R (.bool false) a1))) else (
 ∃ (cp : Int), a1.cell? ((blk w.heap.size).add 17) = some (.int .i64 cp) ∧
 bif decide (cp ≥ 0) then (
 ∃ (cn : Int), a1.cell? ((blk w.heap.size).add 17) = some (.int .i64 cn) ∧
 bif decide (cn < 8) then (
 ∃ (db : Option Addr) (d2 : Nat) (cy : Nat), a1.cell? ((blk w.heap.size).add 18) = some (.slice db d2 cy) ∧
 Calls Try.prog 72 #[.slice db d2 cy] a1 fun dj bd => ∃ (av : Bool), dj = .returned (.bool av) ∧
 bif av then (
 ∃ (ba : Int), bd.cell? ((blk w.heap.size).add 0) = some (.int .i64 ba) ∧
 bif ba == 3 then (
 R (.bool true) bd) else (
 ∃ (ce : Int), bd.cell? ((blk w.heap.size).add 19) = some (.int .u64 ce) ∧
 R (.bool (ce == 0)) bd)) else (
 R (.bool false) bd)) else (
 R (.bool false) a1)) else (
 R (.bool false) a1))))) else (
 ∃ (be : Int), aa.cell? ((blk w.heap.size).add 0) = some (.int .i64 be) ∧
 Calls Try.prog 75 #[.agg #[.int .i64 a2, .int .i64 a6, .int .u64 ab, .int .i64 ar, .int .i64 ao, .int .i64 a5, .slice a4 a7 a3, .int .u64 ap], .bool (be == 4)] aa fun dd c5 => ∃ (bu : Bool), dd = .returned (.bool bu) ∧
 bif !bu then (
 R (.bool false) c5) else (
 ∃ (a9 : Int) (ad : Int) (ax : Int) (bm : Int) (bt : Int) (aj : Int) (ak : Option Addr) (am : Nat) (af : Nat) (c2 : Int), cellsAt c5 ((blk w.heap.size).add 9) [.int .i64 a9, .int .i64 ad, .int .u64 ax, .int .i64 bm, .int .i64 bt, .int .i64 aj, .slice ak am af, .int .u64 c2] 0 ∧
 ∃ (b7 : Int), c5.cell? ((blk w.heap.size).add 0) = some (.int .i64 b7) ∧
 Calls Try.prog 75 #[.agg #[.int .i64 a9, .int .i64 ad, .int .u64 ax, .int .i64 bm, .int .i64 bt, .int .i64 aj, .slice ak am af, .int .u64 c2], .bool (b7 == 4)] c5 fun dg a0 => ∃ (c1 : Bool), dg = .returned (.bool c1) ∧
 bif !c1 then (
 R (.bool false) a0) else (
 ∃ (bs : Int), a0.cell? ((blk w.heap.size).add 0) = some (.int .i64 bs) ∧
 bif bs != 2 then (
 ∃ (bc : Int), a0.cell? ((blk w.heap.size).add 0) = some (.int .i64 bc) ∧
 bif bc != 3 then (
 ∃ (ci : Int), a0.cell? ((blk w.heap.size).add 17) = some (.int .i64 ci) ∧
 bif ci == 0 then (
 ∃ (dn : Option Addr) (d4 : Nat) (df : Nat), a0.cell? ((blk w.heap.size).add 18) = some (.slice dn d4 df) ∧
 bif (d4 : Int) == 0 then (
 ∃ (cb : Int), a0.cell? ((blk w.heap.size).add 19) = some (.int .u64 cb) ∧
 R (.bool (cb == 0)) a0) else (
 R (.bool false) a0)) else (
 R (.bool false) a0)) else (
 ∃ (co : Int), a0.cell? ((blk w.heap.size).add 17) = some (.int .i64 co) ∧
 bif decide (co ≥ 0) then (
 ∃ (cc : Int), a0.cell? ((blk w.heap.size).add 17) = some (.int .i64 cc) ∧
 bif decide (cc < 8) then (
 ∃ (d5 : Option Addr) (d6 : Nat) (cz : Nat), a0.cell? ((blk w.heap.size).add 18) = some (.slice d5 d6 cz) ∧
 Calls Try.prog 72 #[.slice d5 d6 cz] a0 fun dk c0 => ∃ (az : Bool), dk = .returned (.bool az) ∧
 bif az then (
 ∃ (bl : Int), c0.cell? ((blk w.heap.size).add 0) = some (.int .i64 bl) ∧
 bif bl == 3 then (
 R (.bool true) c0) else (
 ∃ (cg : Int), c0.cell? ((blk w.heap.size).add 19) = some (.int .u64 cg) ∧
 R (.bool (cg == 0)) c0)) else (
 R (.bool false) c0)) else (
 R (.bool false) a0)) else (
 R (.bool false) a0))) else (
 ∃ (cq : Int), a0.cell? ((blk w.heap.size).add 17) = some (.int .i64 cq) ∧
 bif decide (cq ≥ 0) then (
 ∃ (ck : Int), a0.cell? ((blk w.heap.size).add 17) = some (.int .i64 ck) ∧
 bif decide (ck < 8) then (
 ∃ (cj : Option Addr) (cm : Nat) (cr : Nat), a0.cell? ((blk w.heap.size).add 18) = some (.slice cj cm cr) ∧
 Calls Try.prog 72 #[.slice cj cm cr] a0 fun d8 ah => ∃ (ag : Bool), d8 = .returned (.bool ag) ∧
 bif ag then (
 ∃ (aw : Int), ah.cell? ((blk w.heap.size).add 0) = some (.int .i64 aw) ∧
 bif aw == 3 then (
 R (.bool true) ah) else (
 ∃ (bj : Int), ah.cell? ((blk w.heap.size).add 19) = some (.int .u64 bj) ∧
 R (.bool (bj == 0)) ah)) else (
 R (.bool false) ah)) else (
 R (.bool false) a0)) else (
 R (.bool false) a0)))))))

theorem frame_Right.eq (fKind1 : Int) (fEWriter2 : Int) (fEIndex3 : Int) (fEPrev4 : Int) (fEAtT5 : Int) (fEAtW6 : Int) (fEEpoch7 : Int) (fEBody8a : Option Addr) (fEBody8n : Nat) (fEBody8c : Nat) (fESig9 : Int) (fFWriter10 : Int) (fFIndex11 : Int) (fFPrev12 : Int) (fFAtT13 : Int) (fFAtW14 : Int) (fFEpoch15 : Int) (fFBody16a : Option Addr) (fFBody16n : Nat) (fFBody16c : Nat) (fFSig17 : Int) (fWho18 : Int) (fV19a : Option Addr) (fV19n : Nat) (fV19c : Nat) (fSig20 : Int) (R : Value → World → Prop) (w : World) : mfunc Try.prog [] 56 [.agg #[.int .i64 fKind1, .int .i64 fEWriter2, .int .i64 fEIndex3, .int .u64 fEPrev4, .int .i64 fEAtT5, .int .i64 fEAtW6, .int .i64 fEEpoch7, .slice fEBody8a fEBody8n fEBody8c, .int .u64 fESig9, .int .i64 fFWriter10, .int .i64 fFIndex11, .int .u64 fFPrev12, .int .i64 fFAtT13, .int .i64 fFAtW14, .int .i64 fFEpoch15, .slice fFBody16a fFBody16n fFBody16c, .int .u64 fFSig17, .int .i64 fWho18, .slice fV19a fV19n fV19c, .int .u64 fSig20]] R w = frame_Right.M fKind1 fEWriter2 fEIndex3 fEPrev4 fEAtT5 fEAtW6 fEEpoch7 fEBody8a fEBody8n fEBody8c fESig9 fFWriter10 fFIndex11 fFPrev12 fFAtT13 fFAtW14 fFEpoch15 fFBody16a fFBody16n fFBody16c fFSig17 fWho18 fV19a fV19n fV19c fSig20 R w := by kernel_rfl
theorem frame_Right.ok (al : Int) (a4 : Int) (a9 : Int) (af : Int) (ak : Int) (ai : Int) (ab : Int) (a8 : Option Addr) (aa : Nat) (a7 : Nat) (aj : Int) (a0 : Int) (a3 : Int) (ac : Int) (ad : Int) (ag : Int) (a5 : Int) (a1 : Option Addr) (a2 : Nat) (a6 : Nat) (ae : Int) (ah : Int) (an : Option Addr) (ap : Nat) (ao : Nat) (am : Int) {R : Value → World → Prop} {w : World} (h : frame_Right.M al a4 a9 af ak ai ab a8 aa a7 aj a0 a3 ac ad ag a5 a1 a2 a6 ae ah an ap ao am R w) : Calls Try.prog 56 #[.agg #[.int .i64 al, .int .i64 a4, .int .i64 a9, .int .u64 af, .int .i64 ak, .int .i64 ai, .int .i64 ab, .slice a8 aa a7, .int .u64 aj, .int .i64 a0, .int .i64 a3, .int .u64 ac, .int .i64 ad, .int .i64 ag, .int .i64 a5, .slice a1 a2 a6, .int .u64 ae, .int .i64 ah, .slice an ap ao, .int .u64 am]] w fun e w' => ∃ v, e = .returned v ∧ R v w' :=
  mfunc_ok follows (H := []) (args := [.agg #[.int .i64 al, .int .i64 a4, .int .i64 a9, .int .u64 af, .int .i64 ak, .int .i64 ai, .int .i64 ab, .slice a8 aa a7, .int .u64 aj, .int .i64 a0, .int .i64 a3, .int .u64 ac, .int .i64 ad, .int .i64 ag, .int .i64 a5, .slice a1 a2 a6, .int .u64 ae, .int .i64 ah, .slice an ap ao, .int .u64 am]]) (by rw [frame_Right.eq]; exact h)

def frame_Right.N (a0 : Int) (a9 : Int) (ag : Int) (ar : Int) (ay : Int) (aw : Int) (ai : Int) (af : Option Addr) (ah : Nat) (ae : Nat) (ax : Int) (a4 : Int) (a7 : Int) (aj : Int) (ap : Int) (au : Int) (aa : Int) (a5 : Option Addr) (a6 : Nat) (ab : Nat) (aq : Int) (a1 : Int) (b1 : Option Addr) (a8 : Nat) (b2 : Nat) (am : Int) (R : Value → World → Prop) (w : World) : Prop :=
 (a0 < 1 →
 ∀ (a2 : World), Ext no w a2 →
 R (.bool false) a2) ∧
 ((1 : Int) ≤ a0 →
 (a0 > 4 →
 ∀ (a2 : World), Ext no w a2 →
 R (.bool false) a2) ∧
 (a0 ≤ 4 →
 (a0 = 1 →
 ∀ (a2 : World) (ba : Nat), Ext no w a2 → Priv w a2 [ba] →
 Calls Try.prog 75 #[.agg #[.int .i64 a9, .int .i64 ag, .int .u64 ar, .int .i64 ay, .int .i64 aw, .int .i64 ai, .slice af ah ae, .int .u64 ax], .bool true] a2 fun bb az => ∃ (ao : Bool), bb = .returned (.bool ao) ∧
 Keep [ba] a2 az ∧
 (ao = false →
 R (.bool false) az) ∧
 (ao = true →
 Calls Try.prog 75 #[.agg #[.int .i64 a4, .int .i64 a7, .int .u64 aj, .int .i64 ap, .int .i64 au, .int .i64 aa, .slice a5 a6 ab, .int .u64 aq], .bool (a0 == 4)] az fun b9 av => ∃ (al : Bool), b9 = .returned (.bool al) ∧
 Keep [ba] az av ∧
 (al = false →
 R (.bool false) av) ∧
 (al = true →
 (a1 = 0 →
 ((a8 : Int) = 0 →
 R (.bool (am == 0)) av) ∧
 ((a8 : Int) ≠ 0 →
 R (.bool false) av)) ∧
 (a1 ≠ 0 →
 R (.bool false) av)))) ∧
 (a0 ≠ 1 →
 ∀ (a2 : World) (b5 : Nat), Ext no w a2 → Priv w a2 [b5] →
 Calls Try.prog 75 #[.agg #[.int .i64 a9, .int .i64 ag, .int .u64 ar, .int .i64 ay, .int .i64 aw, .int .i64 ai, .slice af ah ae, .int .u64 ax], .bool (a0 == 4)] a2 fun b6 b0 => ∃ (an : Bool), b6 = .returned (.bool an) ∧
 Keep [b5] a2 b0 ∧
 (an = false →
 R (.bool false) b0) ∧
 (an = true →
 Calls Try.prog 75 #[.agg #[.int .i64 a4, .int .i64 a7, .int .u64 aj, .int .i64 ap, .int .i64 au, .int .i64 aa, .slice a5 a6 ab, .int .u64 aq], .bool (a0 == 4)] b0 fun b8 a3 => ∃ (ak : Bool), b8 = .returned (.bool ak) ∧
 Keep [b5] b0 a3 ∧
 (ak = false →
 R (.bool false) a3) ∧
 (ak = true →
 (a0 ≠ 2 →
 (a0 ≠ 3 →
 (a1 = 0 →
 ((a8 : Int) = 0 →
 R (.bool (am == 0)) a3) ∧
 ((a8 : Int) ≠ 0 →
 R (.bool false) a3)) ∧
 (a1 ≠ 0 →
 R (.bool false) a3)) ∧
 (a0 = 3 →
 (a1 ≥ 0 →
 (a1 < 8 →
 Calls Try.prog 72 #[.slice b1 a8 b2] a3 fun b7 b3 => ∃ (ac : Bool), b7 = .returned (.bool ac) ∧
 Keep [b5] a3 b3 ∧
 (ac = true →
 R (.bool true) b3) ∧
 (ac = false →
 R (.bool false) b3)) ∧
 ((8 : Int) ≤ a1 →
 R (.bool false) a3)) ∧
 (a1 < 0 →
 R (.bool false) a3))) ∧
 (a0 = 2 →
 (a1 ≥ 0 →
 (a1 < 8 →
 Calls Try.prog 72 #[.slice b1 a8 b2] a3 fun bc b4 => ∃ (ad : Bool), bc = .returned (.bool ad) ∧
 Keep [b5] a3 b4 ∧
 (ad = true →
 R (.bool (am == 0)) b4) ∧
 (ad = false →
 R (.bool false) b4)) ∧
 ((8 : Int) ≤ a1 →
 R (.bool false) a3)) ∧
 (a1 < 0 →
 R (.bool false) a3)))))))

theorem frame_Right.up (a1 : Int) (aa : Int) (ag : Int) (an : Int) (aq : Int) (ao : Int) (aj : Int) (af : Option Addr) (ah : Nat) (ae : Nat) (ap : Int) (a2 : Int) (a6 : Int) (a9 : Int) (ab : Int) (ad : Int) (a7 : Int) (a4 : Option Addr) (a5 : Nat) (a8 : Nat) (ac : Int) (a3 : Int) (ak : Option Addr) (am : Nat) (al : Nat) (ai : Int) {R : Value → World → Prop} {w : World} (h : frame_Right.N a1 aa ag an aq ao aj af ah ae ap a2 a6 a9 ab ad a7 a4 a5 a8 ac a3 ak am al ai R w) : frame_Right.M a1 aa ag an aq ao aj af ah ae ap a2 a6 a9 ab ad a7 a4 a5 a8 ac a3 ak am al ai R w := by
  unfold frame_Right.M
  unfold frame_Right.N at h
  refine thenW_in fun ar bl => ?_
  have a0 := Blk.of_new bl
  have bk := ((Ext.refl no w)).size
  have au := (Ext.refl no w).x_alloc bl
  refine ⟨a1, a0.celli 0 rfl rfl, ?_⟩
  refine bif_of (fun b6 => ?_) (fun b6 => ?_)
  · have h := h.1 (of_decide_eq_true b6)
    have h := h ar au
    exact h
  · have h := h.2 (Int.not_lt.1 (of_decide_eq_false b6))
    refine ⟨a1, a0.celli 0 rfl rfl, ?_⟩
    refine bif_of (fun bg => ?_) (fun bg => ?_)
    · have h := h.1 (of_decide_eq_true bg)
      have h := h ar au
      exact h
    · have h := h.2 (Int.not_lt.1 (of_decide_eq_false bg))
      refine ⟨aa, ag, an, aq, ao, aj, af, ah, ae, ap, ⟨a0.celli 1 rfl rfl, a0.celli 2 rfl rfl, a0.celli 3 rfl rfl, a0.celli 4 rfl rfl, a0.celli 5 rfl rfl, a0.celli 6 rfl rfl, a0.celli 7 rfl rfl, a0.celli 8 rfl rfl, trivial⟩, ?_⟩
      refine ⟨a1, a0.celli 0 rfl rfl, ?_⟩
      refine bif_of (fun b1 => ?_) (fun b1 => ?_)
      · have h := h.1 (beq_t b1)
        have h := h ar (w.heap.size) au (Priv.cons bk a0.lt Priv.nil)
        refine h.mono fun bv bp h => ?_
        obtain ⟨ay, he, hk, h⟩ := h
        refine ⟨ay, he, ?_⟩
        have a0 := hk.blk a0 (by simp)
        refine bif_of (fun bb => ?_) (fun bb => ?_)
        · have h := h.1 (not_t bb)
          exact h
        · have h := h.2 (not_f bb)
          refine ⟨a2, a6, a9, ab, ad, a7, a4, a5, a8, ac, ⟨a0.celli 9 rfl rfl, a0.celli 10 rfl rfl, a0.celli 11 rfl rfl, a0.celli 12 rfl rfl, a0.celli 13 rfl rfl, a0.celli 14 rfl rfl, a0.celli 15 rfl rfl, a0.celli 16 rfl rfl, trivial⟩, ?_⟩
          refine ⟨a1, a0.celli 0 rfl rfl, ?_⟩
          refine h.mono fun bt bo h => ?_
          obtain ⟨az, he, hk, h⟩ := h
          refine ⟨az, he, ?_⟩
          have a0 := hk.blk a0 (by simp)
          refine bif_of (fun b8 => ?_) (fun b8 => ?_)
          · have h := h.1 (not_t b8)
            exact h
          · have h := h.2 (not_f b8)
            refine ⟨a1, a0.celli 0 rfl rfl, ?_⟩
            refine bif_tt (cong1 (r := true) (fun z => z != 2) (beq_t b1) (by decide)) ?_
            refine ⟨a1, a0.celli 0 rfl rfl, ?_⟩
            refine bif_tt (cong1 (r := true) (fun z => z != 3) (beq_t b1) (by decide)) ?_
            refine ⟨a3, a0.celli 17 rfl rfl, ?_⟩
            refine bif_of (fun b7 => ?_) (fun b7 => ?_)
            · have h := h.1 (beq_t b7)
              refine ⟨ak, am, al, a0.celli 18 rfl rfl, ?_⟩
              refine bif_of (fun b5 => ?_) (fun b5 => ?_)
              · have h := h.1 (beq_t b5)
                refine ⟨ai, a0.celli 19 rfl rfl, ?_⟩
                exact h
              · have h := h.2 (beq_f b5)
                exact h
            · have h := h.2 (beq_f b7)
              exact h
      · have h := h.2 (beq_f b1)
        refine ⟨a1, a0.celli 0 rfl rfl, ?_⟩
        have h := h ar (w.heap.size) au (Priv.cons bk a0.lt Priv.nil)
        refine h.mono fun bm bw h => ?_
        obtain ⟨b0, he, hk, h⟩ := h
        refine ⟨b0, he, ?_⟩
        have a0 := hk.blk a0 (by simp)
        refine bif_of (fun bf => ?_) (fun bf => ?_)
        · have h := h.1 (not_t bf)
          exact h
        · have h := h.2 (not_f bf)
          refine ⟨a2, a6, a9, ab, ad, a7, a4, a5, a8, ac, ⟨a0.celli 9 rfl rfl, a0.celli 10 rfl rfl, a0.celli 11 rfl rfl, a0.celli 12 rfl rfl, a0.celli 13 rfl rfl, a0.celli 14 rfl rfl, a0.celli 15 rfl rfl, a0.celli 16 rfl rfl, trivial⟩, ?_⟩
          refine ⟨a1, a0.celli 0 rfl rfl, ?_⟩
          refine h.mono fun bs br h => ?_
          obtain ⟨ax, he, hk, h⟩ := h
          refine ⟨ax, he, ?_⟩
          have a0 := hk.blk a0 (by simp)
          refine bif_of (fun bi => ?_) (fun bi => ?_)
          · have h := h.1 (not_t bi)
            exact h
          · have h := h.2 (not_f bi)
            refine ⟨a1, a0.celli 0 rfl rfl, ?_⟩
            refine bif_of (fun b2 => ?_) (fun b2 => ?_)
            · have h := h.1 (bne_t b2)
              refine ⟨a1, a0.celli 0 rfl rfl, ?_⟩
              refine bif_of (fun b3 => ?_) (fun b3 => ?_)
              · have h := h.1 (bne_t b3)
                refine ⟨a3, a0.celli 17 rfl rfl, ?_⟩
                refine bif_of (fun be => ?_) (fun be => ?_)
                · have h := h.1 (beq_t be)
                  refine ⟨ak, am, al, a0.celli 18 rfl rfl, ?_⟩
                  refine bif_of (fun bh => ?_) (fun bh => ?_)
                  · have h := h.1 (beq_t bh)
                    refine ⟨ai, a0.celli 19 rfl rfl, ?_⟩
                    exact h
                  · have h := h.2 (beq_f bh)
                    exact h
                · have h := h.2 (beq_f be)
                  exact h
              · have h := h.2 (bne_f b3)
                refine ⟨a3, a0.celli 17 rfl rfl, ?_⟩
                refine bif_of (fun b9 => ?_) (fun b9 => ?_)
                · have h := h.1 (of_decide_eq_true b9)
                  refine ⟨a3, a0.celli 17 rfl rfl, ?_⟩
                  refine bif_of (fun ba => ?_) (fun ba => ?_)
                  · have h := h.1 (of_decide_eq_true ba)
                    refine ⟨ak, am, al, a0.celli 18 rfl rfl, ?_⟩
                    refine h.mono fun bn bq h => ?_
                    obtain ⟨av, he, hk, h⟩ := h
                    refine ⟨av, he, ?_⟩
                    have a0 := hk.blk a0 (by simp)
                    refine bif_of (fun bj => ?_) (fun bj => ?_)
                    · have h := h.1 bj
                      refine ⟨a1, a0.celli 0 rfl rfl, ?_⟩
                      refine bif_tt (cong1 (r := true) (fun z => z == 3) (bne_f b3) (by decide)) ?_
                      exact h
                    · have h := h.2 bj
                      exact h
                  · have h := h.2 (Int.not_lt.1 (of_decide_eq_false ba))
                    exact h
                · have h := h.2 (Int.not_le.1 (of_decide_eq_false b9))
                  exact h
            · have h := h.2 (bne_f b2)
              refine ⟨a3, a0.celli 17 rfl rfl, ?_⟩
              refine bif_of (fun bc => ?_) (fun bc => ?_)
              · have h := h.1 (of_decide_eq_true bc)
                refine ⟨a3, a0.celli 17 rfl rfl, ?_⟩
                refine bif_of (fun bd => ?_) (fun bd => ?_)
                · have h := h.1 (of_decide_eq_true bd)
                  refine ⟨ak, am, al, a0.celli 18 rfl rfl, ?_⟩
                  refine h.mono fun bx bu h => ?_
                  obtain ⟨aw, he, hk, h⟩ := h
                  refine ⟨aw, he, ?_⟩
                  have a0 := hk.blk a0 (by simp)
                  refine bif_of (fun b4 => ?_) (fun b4 => ?_)
                  · have h := h.1 b4
                    refine ⟨a1, a0.celli 0 rfl rfl, ?_⟩
                    refine bif_ff (cong1 (r := false) (fun z => z == 3) (bne_f b2) (by decide)) ?_
                    refine ⟨ai, a0.celli 19 rfl rfl, ?_⟩
                    exact h
                  · have h := h.2 b4
                    exact h
                · have h := h.2 (Int.not_lt.1 (of_decide_eq_false bd))
                  exact h
              · have h := h.2 (Int.not_le.1 (of_decide_eq_false bc))
                exact h

theorem frame_Right.go (al : Int) (a4 : Int) (a9 : Int) (af : Int) (ak : Int) (ai : Int) (ab : Int) (a8 : Option Addr) (aa : Nat) (a7 : Nat) (aj : Int) (a0 : Int) (a3 : Int) (ac : Int) (ad : Int) (ag : Int) (a5 : Int) (a1 : Option Addr) (a2 : Nat) (a6 : Nat) (ae : Int) (ah : Int) (an : Option Addr) (ap : Nat) (ao : Nat) (am : Int) {R : Value → World → Prop} {w : World} (h : frame_Right.N al a4 a9 af ak ai ab a8 aa a7 aj a0 a3 ac ad ag a5 a1 a2 a6 ae ah an ap ao am R w) : Calls Try.prog 56 #[.agg #[.int .i64 al, .int .i64 a4, .int .i64 a9, .int .u64 af, .int .i64 ak, .int .i64 ai, .int .i64 ab, .slice a8 aa a7, .int .u64 aj, .int .i64 a0, .int .i64 a3, .int .u64 ac, .int .i64 ad, .int .i64 ag, .int .i64 a5, .slice a1 a2 a6, .int .u64 ae, .int .i64 ah, .slice an ap ao, .int .u64 am]] w fun e w' => ∃ v, e = .returned v ∧ R v w' := frame_Right.ok al a4 a9 af ak ai ab a8 aa a7 aj a0 a3 ac ad ag a5 a1 a2 a6 ae ah an ap ao am (frame_Right.up al a4 a9 af ak ai ab a8 aa a7 aj a0 a3 ac ad ag a5 a1 a2 a6 ae ah an ap ao am h)
theorem frame_Right.run (al : Int) (a4 : Int) (a9 : Int) (af : Int) (ak : Int) (ai : Int) (ab : Int) (a8 : Option Addr) (aa : Nat) (a7 : Nat) (aj : Int) (a0 : Int) (a3 : Int) (ac : Int) (ad : Int) (ag : Int) (a5 : Int) (a1 : Option Addr) (a2 : Nat) (a6 : Nat) (ae : Int) (ah : Int) (an : Option Addr) (ap : Nat) (ao : Nat) (am : Int) {V : Value} {Q : World → Prop} {w : World} (h : frame_Right.N al a4 a9 af ak ai ab a8 aa a7 aj a0 a3 ac ad ag a5 a1 a2 a6 ae ah an ap ao am (fun v w' => v = V ∧ Q w') w) : Calls Try.prog 56 #[.agg #[.int .i64 al, .int .i64 a4, .int .i64 a9, .int .u64 af, .int .i64 ak, .int .i64 ai, .int .i64 ab, .slice a8 aa a7, .int .u64 aj, .int .i64 a0, .int .i64 a3, .int .u64 ac, .int .i64 ad, .int .i64 ag, .int .i64 a5, .slice a1 a2 a6, .int .u64 ae, .int .i64 ah, .slice an ap ao, .int .u64 am]] w (Ret V Q) := (frame_Right.go al a4 a9 af ak ai ab a8 aa a7 aj a0 a3 ac ad ag a5 a1 a2 a6 ae ah an ap ao am h).mono fun e w' ⟨v, he, hv, hq⟩ => ⟨by rw [he, hv], hq⟩

/-- cachetteref21.none -/
def cachetteref21_none.M (aa : Int) (ag : Int) (ah : Int) (ai : Int) (aj : Int) (ae : Int) (af : Option Addr) (ad : Nat) (ac : Nat) (ak : Int) (R : Value → World → Prop) (w : World) : Prop :=
 thenW (w.alloc (.cells #[.int .i64 aa, .int .i64 ag, .int .u64 ah, .int .i64 ai, .int .i64 aj, .int .i64 ae, .slice af ad ac, .int .u64 ak] 29)) fun an =>
 ∃ (a0 : Int) (a1 : Int) (a6 : Int) (a9 : Int) (a7 : Int) (a3 : Int) (a4 : Option Addr) (a2 : Nat) (a5 : Nat) (ab : Int), cellsAt an (blk w.heap.size) [.int .i64 a0, .int .i64 a1, .int .u64 a6, .int .i64 a9, .int .i64 a7, .int .i64 a3, .slice a4 a2 a5, .int .u64 ab] 0 ∧
 Calls Try.prog 46 #[.agg #[.int .i64 a0, .int .i64 a1, .int .u64 a6, .int .i64 a9, .int .i64 a7, .int .i64 a3, .slice a4 a2 a5, .int .u64 ab], .agg #[.int .i64 0, .int .i64 0, .int .u64 0, .int .i64 0, .int .i64 0, .int .i64 0, .slice none 0 0, .int .u64 0]] an fun al am => ∃ (a8 : Bool), al = .returned (.bool a8) ∧
 R (.bool a8) am

theorem cachetteref21_none.eq (eWriter1 : Int) (eIndex2 : Int) (ePrev3 : Int) (eAtT4 : Int) (eAtW5 : Int) (eEpoch6 : Int) (eBody7a : Option Addr) (eBody7n : Nat) (eBody7c : Nat) (eSig8 : Int) (R : Value → World → Prop) (w : World) : mfunc Try.prog [] 77 [.agg #[.int .i64 eWriter1, .int .i64 eIndex2, .int .u64 ePrev3, .int .i64 eAtT4, .int .i64 eAtW5, .int .i64 eEpoch6, .slice eBody7a eBody7n eBody7c, .int .u64 eSig8]] R w = cachetteref21_none.M eWriter1 eIndex2 ePrev3 eAtT4 eAtW5 eEpoch6 eBody7a eBody7n eBody7c eSig8 R w := by kernel_rfl
theorem cachetteref21_none.ok (a0 : Int) (a4 : Int) (a6 : Int) (a7 : Int) (a8 : Int) (a1 : Int) (a3 : Option Addr) (a2 : Nat) (a5 : Nat) (a9 : Int) {R : Value → World → Prop} {w : World} (h : cachetteref21_none.M a0 a4 a6 a7 a8 a1 a3 a2 a5 a9 R w) : Calls Try.prog 77 #[.agg #[.int .i64 a0, .int .i64 a4, .int .u64 a6, .int .i64 a7, .int .i64 a8, .int .i64 a1, .slice a3 a2 a5, .int .u64 a9]] w fun e w' => ∃ v, e = .returned v ∧ R v w' :=
  mfunc_ok follows (H := []) (args := [.agg #[.int .i64 a0, .int .i64 a4, .int .u64 a6, .int .i64 a7, .int .i64 a8, .int .i64 a1, .slice a3 a2 a5, .int .u64 a9]]) (by rw [cachetteref21_none.eq]; exact h)

def cachetteref21_none.N (a0 : Int) (a5 : Int) (a7 : Int) (a8 : Int) (a9 : Int) (a2 : Int) (a4 : Option Addr) (a3 : Nat) (a6 : Nat) (aa : Int) (R : Value → World → Prop) (w : World) : Prop :=
 ∀ (ad : World), Ext no w ad →
 Calls Try.prog 46 #[.agg #[.int .i64 a0, .int .i64 a5, .int .u64 a7, .int .i64 a8, .int .i64 a9, .int .i64 a2, .slice a4 a3 a6, .int .u64 aa], .agg #[.int .i64 0, .int .i64 0, .int .u64 0, .int .i64 0, .int .i64 0, .int .i64 0, .slice none 0 0, .int .u64 0]] ad fun ab ac => ∃ (a1 : Bool), ab = .returned (.bool a1) ∧
 R (.bool a1) ac

theorem cachetteref21_none.up (a0 : Int) (a4 : Int) (a6 : Int) (a7 : Int) (a8 : Int) (a1 : Int) (a3 : Option Addr) (a2 : Nat) (a5 : Nat) (a9 : Int) {R : Value → World → Prop} {w : World} (h : cachetteref21_none.N a0 a4 a6 a7 a8 a1 a3 a2 a5 a9 R w) : cachetteref21_none.M a0 a4 a6 a7 a8 a1 a3 a2 a5 a9 R w := by
  unfold cachetteref21_none.M
  unfold cachetteref21_none.N at h
  refine thenW_in fun ae e9 => ?_
  have aa := Blk.of_new e9
  have ag := ((Ext.refl no w)).size
  have ad := (Ext.refl no w).x_alloc e9
  refine ⟨a0, a4, a6, a7, a8, a1, a3, a2, a5, a9, ⟨aa.celli 0 rfl rfl, aa.celli 1 rfl rfl, aa.celli 2 rfl rfl, aa.celli 3 rfl rfl, aa.celli 4 rfl rfl, aa.celli 5 rfl rfl, aa.celli 6 rfl rfl, aa.celli 7 rfl rfl, trivial⟩, ?_⟩
  have h := h ae ad
  refine h.mono fun ac af h => ?_
  obtain ⟨ab, he, h⟩ := h
  refine ⟨ab, he, ?_⟩
  exact h

theorem cachetteref21_none.go (a0 : Int) (a4 : Int) (a6 : Int) (a7 : Int) (a8 : Int) (a1 : Int) (a3 : Option Addr) (a2 : Nat) (a5 : Nat) (a9 : Int) {R : Value → World → Prop} {w : World} (h : cachetteref21_none.N a0 a4 a6 a7 a8 a1 a3 a2 a5 a9 R w) : Calls Try.prog 77 #[.agg #[.int .i64 a0, .int .i64 a4, .int .u64 a6, .int .i64 a7, .int .i64 a8, .int .i64 a1, .slice a3 a2 a5, .int .u64 a9]] w fun e w' => ∃ v, e = .returned v ∧ R v w' := cachetteref21_none.ok a0 a4 a6 a7 a8 a1 a3 a2 a5 a9 (cachetteref21_none.up a0 a4 a6 a7 a8 a1 a3 a2 a5 a9 h)
theorem cachetteref21_none.run (a0 : Int) (a4 : Int) (a6 : Int) (a7 : Int) (a8 : Int) (a1 : Int) (a3 : Option Addr) (a2 : Nat) (a5 : Nat) (a9 : Int) {V : Value} {Q : World → Prop} {w : World} (h : cachetteref21_none.N a0 a4 a6 a7 a8 a1 a3 a2 a5 a9 (fun v w' => v = V ∧ Q w') w) : Calls Try.prog 77 #[.agg #[.int .i64 a0, .int .i64 a4, .int .u64 a6, .int .i64 a7, .int .i64 a8, .int .i64 a1, .slice a3 a2 a5, .int .u64 a9]] w (Ret V Q) := (cachetteref21_none.go a0 a4 a6 a7 a8 a1 a3 a2 a5 a9 h).mono fun e w' ⟨v, he, hv, hq⟩ => ⟨by rw [he, hv], hq⟩

/-- cachetteref21.Right -/
def cachetteref21_Right.M (am9 : Int) (u0 : Int) (vj : Int) (a66 : Int) (am6 : Int) (am7 : Int) (a32 : Int) (x3 : Option Addr) (xu : Nat) (vh : Nat) (an0 : Int) (mq : Int) (u3 : Int) (zc : Int) (a64 : Int) (a63 : Int) (u4 : Int) (u2 : Option Addr) (u1 : Nat) (u5 : Nat) (a65 : Int) (am8 : Int) (b25 : Option Addr) (b12 : Nat) (az1 : Nat) (an1 : Int) (R : Value → World → Prop) (w : World) : Prop :=
 thenW (w.alloc (.cells #[.int .i64 am9, .int .i64 u0, .int .i64 vj, .int .u64 a66, .int .i64 am6, .int .i64 am7, .int .i64 a32, .slice x3 xu vh, .int .u64 an0, .int .i64 mq, .int .i64 u3, .int .u64 zc, .int .i64 a64, .int .i64 a63, .int .i64 u4, .slice u2 u1 u5, .int .u64 a65, .int .i64 am8, .slice b25 b12 az1, .int .u64 an1] 58)) fun b43 =>
 thenW (b43.drew) fun a1 =>
 ∃ (x6 : Int), a1.cell? ((blk w.heap.size).add 0) = some (.int .i64 x6) ∧
 bif x6 == 1 then (
 ∃ (bd : Int), a1.cell? ((blk w.heap.size).add 0) = some (.int .i64 bd) ∧
 ∃ (xj : Int), a1.cell? ((blk w.heap.size).add 0) = some (.int .i64 xj) ∧
 bif xj == 2 then (
 ∃ (yi : Int), a1.cell? ((blk w.heap.size).add 0) = some (.int .i64 yi) ∧
 bif decide (yi < 1) then (
 R (.bool false) a1) else (
 ∃ (a46 : Int), a1.cell? ((blk w.heap.size).add 0) = some (.int .i64 a46) ∧
 bif decide (a46 > 4) then (
 R (.bool false) a1) else (
 ∃ (gq : Int) (k7 : Int) (sh : Int) (a02 : Int) (a58 : Int) (l0 : Int) (ke : Option Addr) (k1 : Nat) (jv : Nat) (ur : Int), cellsAt a1 ((blk w.heap.size).add 1) [.int .i64 gq, .int .i64 k7, .int .u64 sh, .int .i64 a02, .int .i64 a58, .int .i64 l0, .slice ke k1 jv, .int .u64 ur] 0 ∧
 Calls Try.prog 76 #[.agg #[.int .i64 gq, .int .i64 k7, .int .u64 sh, .int .i64 a02, .int .i64 a58, .int .i64 l0, .slice ke k1 jv, .int .u64 ur]] a1 fun b41 co => ∃ (qr : Bool), b41 = .returned (.bool qr) ∧
 bif !qr then (
 R (.bool false) co) else (
 bif bd == 4 then (
 ∃ (ep : Int) (mj : Int) (tb : Int) (uq : Int) (yk : Int) (j9 : Int) (mo : Option Addr) (ko : Nat) (l8 : Nat) (xc : Int), cellsAt co ((blk w.heap.size).add 9) [.int .i64 ep, .int .i64 mj, .int .u64 tb, .int .i64 uq, .int .i64 yk, .int .i64 j9, .slice mo ko l8, .int .u64 xc] 0 ∧
 Calls Try.prog 76 #[.agg #[.int .i64 ep, .int .i64 mj, .int .u64 tb, .int .i64 uq, .int .i64 yk, .int .i64 j9, .slice mo ko l8, .int .u64 xc]] co fun b42 iq => ∃ (tz : Bool), b42 = .returned (.bool tz) ∧
 bif !tz then (
 R (.bool false) iq) else (
 bif !(bd == 4) then (
 ∃ (e3 : Int) (jx : Int) (ps : Int) (yp : Int) (vn : Int) (jl : Int) (jo : Option Addr) (kz : Nat) (iu : Nat) (yz : Int), cellsAt iq ((blk w.heap.size).add 9) [.int .i64 e3, .int .i64 jx, .int .u64 ps, .int .i64 yp, .int .i64 vn, .int .i64 jl, .slice jo kz iu, .int .u64 yz] 0 ∧
 Calls Try.prog 77 #[.agg #[.int .i64 e3, .int .i64 jx, .int .u64 ps, .int .i64 yp, .int .i64 vn, .int .i64 jl, .slice jo kz iu, .int .u64 yz]] iq fun b40 mr => ∃ (n0 : Bool), b40 = .returned (.bool n0) ∧
 bif !n0 then (
 R (.bool false) mr) else (
 ∃ (ai1 : Int), mr.cell? ((blk w.heap.size).add 17) = some (.int .i64 ai1) ∧
 bif decide (ai1 < 0) then (
 R (.bool false) mr) else (
 ∃ (am2 : Int), mr.cell? ((blk w.heap.size).add 17) = some (.int .i64 am2) ∧
 bif decide (am2 ≥ 8) then (
 R (.bool false) mr) else (
 ∃ (aw9 : Option Addr) (ay7 : Nat) (at6 : Nat), mr.cell? ((blk w.heap.size).add 18) = some (.slice aw9 ay7 at6) ∧
 Calls Try.prog 73 #[.slice aw9 ay7 at6] mr fun b38 xi => ∃ (t6 : Bool), b38 = .returned (.bool t6) ∧
 bif !t6 then (
 R (.bool false) xi) else (
 ∃ (ue : Int), xi.cell? ((blk w.heap.size).add 0) = some (.int .i64 ue) ∧
 bif ue == 3 then (
 R (.bool true) xi) else (
 ∃ (ab1 : Int), xi.cell? ((blk w.heap.size).add 19) = some (.int .u64 ab1) ∧
 R (.bool (ab1 == 0)) xi)))))) else (
 ∃ (a75 : Int), iq.cell? ((blk w.heap.size).add 17) = some (.int .i64 a75) ∧
 bif decide (a75 < 0) then (
 R (.bool false) iq) else (
 ∃ (a74 : Int), iq.cell? ((blk w.heap.size).add 17) = some (.int .i64 a74) ∧
 bif decide (a74 ≥ 8) then (
 R (.bool false) iq) else (
 ∃ (b37 : Option Addr) (au2 : Nat) (ao7 : Nat), iq.cell? ((blk w.heap.size).add 18) = some (.slice b37 au2 ao7) ∧
 Calls Try.prog 73 #[.slice b37 au2 ao7] iq fun b44 a29 => ∃ (ns : Bool), b44 = .returned (.bool ns) ∧
 bif !ns then (
 R (.bool false) a29) else (
 ∃ (xt : Int), a29.cell? ((blk w.heap.size).add 0) = some (.int .i64 xt) ∧
 bif xt == 3 then (
 R (.bool true) a29) else (
 ∃ (ah1 : Int), a29.cell? ((blk w.heap.size).add 19) = some (.int .u64 ah1) ∧
 R (.bool (ah1 == 0)) a29))))))) else (
 bif !(bd == 4) then (
 ∃ (ei : Int) (ks : Int) (st : Int) (uf : Int) (vd : Int) (mf : Int) (k8 : Option Addr) (j3 : Nat) (lk : Nat) (a04 : Int), cellsAt co ((blk w.heap.size).add 9) [.int .i64 ei, .int .i64 ks, .int .u64 st, .int .i64 uf, .int .i64 vd, .int .i64 mf, .slice k8 j3 lk, .int .u64 a04] 0 ∧
 Calls Try.prog 77 #[.agg #[.int .i64 ei, .int .i64 ks, .int .u64 st, .int .i64 uf, .int .i64 vd, .int .i64 mf, .slice k8 j3 lk, .int .u64 a04]] co fun b45 mp => ∃ (sw : Bool), b45 = .returned (.bool sw) ∧
 bif !sw then (
 R (.bool false) mp) else (
 ∃ (ak1 : Int), mp.cell? ((blk w.heap.size).add 17) = some (.int .i64 ak1) ∧
 bif decide (ak1 < 0) then (
 R (.bool false) mp) else (
 ∃ (ah4 : Int), mp.cell? ((blk w.heap.size).add 17) = some (.int .i64 ah4) ∧
 bif decide (ah4 ≥ 8) then (
 R (.bool false) mp) else (
 ∃ (ay2 : Option Addr) (av2 : Nat) (av9 : Nat), mp.cell? ((blk w.heap.size).add 18) = some (.slice ay2 av2 av9) ∧
 Calls Try.prog 73 #[.slice ay2 av2 av9] mp fun b39 zg => ∃ (s1 : Bool), b39 = .returned (.bool s1) ∧
 bif !s1 then (
 R (.bool false) zg) else (
 ∃ (a42 : Int), zg.cell? ((blk w.heap.size).add 0) = some (.int .i64 a42) ∧
 bif a42 == 3 then (
 R (.bool true) zg) else (
 ∃ (ac0 : Int), zg.cell? ((blk w.heap.size).add 19) = some (.int .u64 ac0) ∧
 R (.bool (ac0 == 0)) zg)))))) else (
 ∃ (ac1 : Int), co.cell? ((blk w.heap.size).add 17) = some (.int .i64 ac1) ∧
 bif decide (ac1 < 0) then (
 R (.bool false) co) else (
 ∃ (ae9 : Int), co.cell? ((blk w.heap.size).add 17) = some (.int .i64 ae9) ∧
 bif decide (ae9 ≥ 8) then (
 R (.bool false) co) else (
 ∃ (aq6 : Option Addr) (ao4 : Nat) (b05 : Nat), co.cell? ((blk w.heap.size).add 18) = some (.slice aq6 ao4 b05) ∧
 Calls Try.prog 73 #[.slice aq6 ao4 b05] co fun b33 lu => ∃ (ny : Bool), b33 = .returned (.bool ny) ∧
 bif !ny then (
 R (.bool false) lu) else (
 ∃ (si : Int), lu.cell? ((blk w.heap.size).add 0) = some (.int .i64 si) ∧
 bif si == 3 then (
 R (.bool true) lu) else (
 ∃ (ya : Int), lu.cell? ((blk w.heap.size).add 19) = some (.int .u64 ya) ∧
 R (.bool (ya == 0)) lu)))))))))) else (
 ∃ (a7 : Int), a1.cell? ((blk w.heap.size).add 0) = some (.int .i64 a7) ∧
 ∃ (pw : Int), a1.cell? ((blk w.heap.size).add 0) = some (.int .i64 pw) ∧
 bif decide (pw < 1) then (
 R (.bool false) a1) else (
 ∃ (ok : Int), a1.cell? ((blk w.heap.size).add 0) = some (.int .i64 ok) ∧
 bif decide (ok > 4) then (
 R (.bool false) a1) else (
 ∃ (cd : Int) (eb : Int) (k5 : Int) (q2 : Int) (op : Int) (dn : Int) (gx : Option Addr) (e4 : Nat) (gf : Nat) (ms : Int), cellsAt a1 ((blk w.heap.size).add 1) [.int .i64 cd, .int .i64 eb, .int .u64 k5, .int .i64 q2, .int .i64 op, .int .i64 dn, .slice gx e4 gf, .int .u64 ms] 0 ∧
 Calls Try.prog 76 #[.agg #[.int .i64 cd, .int .i64 eb, .int .u64 k5, .int .i64 q2, .int .i64 op, .int .i64 dn, .slice gx e4 gf, .int .u64 ms]] a1 fun aq9 a6 => ∃ (ir : Bool), aq9 = .returned (.bool ir) ∧
 bif !ir then (
 R (.bool false) a6) else (
 bif bd == 4 then (
 ∃ (c0 : Int) (g4 : Int) (me : Int) (t8 : Int) (pj : Int) (il : Int) (dp : Option Addr) (d1 : Nat) (da : Nat) (qq : Int), cellsAt a6 ((blk w.heap.size).add 9) [.int .i64 c0, .int .i64 g4, .int .u64 me, .int .i64 t8, .int .i64 pj, .int .i64 il, .slice dp d1 da, .int .u64 qq] 0 ∧
 Calls Try.prog 76 #[.agg #[.int .i64 c0, .int .i64 g4, .int .u64 me, .int .i64 t8, .int .i64 pj, .int .i64 il, .slice dp d1 da, .int .u64 qq]] a6 fun b11 aa => ∃ (ix : Bool), b11 = .returned (.bool ix) ∧
 bif !ix then (
 R (.bool false) aa) else (
 bif !(bd == 4) then (
 ∃ (cb : Int) (fx : Int) (lx : Int) (sk : Int) (su : Int) (f2 : Int) (dg : Option Addr) (dz : Nat) (gg : Nat) (sd : Int), cellsAt aa ((blk w.heap.size).add 9) [.int .i64 cb, .int .i64 fx, .int .u64 lx, .int .i64 sk, .int .i64 su, .int .i64 f2, .slice dg dz gg, .int .u64 sd] 0 ∧
 Calls Try.prog 77 #[.agg #[.int .i64 cb, .int .i64 fx, .int .u64 lx, .int .i64 sk, .int .i64 su, .int .i64 f2, .slice dg dz gg, .int .u64 sd]] aa fun as3 ag => ∃ (le : Bool), as3 = .returned (.bool le) ∧
 bif !le then (
 R (.bool false) ag) else (
 bif a7 == 3 then (
 ∃ (a33 : Int), ag.cell? ((blk w.heap.size).add 17) = some (.int .i64 a33) ∧
 bif decide (a33 < 0) then (
 R (.bool false) ag) else (
 ∃ (x5 : Int), ag.cell? ((blk w.heap.size).add 17) = some (.int .i64 x5) ∧
 bif decide (x5 ≥ 8) then (
 R (.bool false) ag) else (
 ∃ (aj2 : Option Addr) (a90 : Nat) (a79 : Nat), ag.cell? ((blk w.heap.size).add 18) = some (.slice aj2 a90 a79) ∧
 Calls Try.prog 73 #[.slice aj2 a90 a79] ag fun au5 b7 => ∃ (ju : Bool), au5 = .returned (.bool ju) ∧
 bif !ju then (
 R (.bool false) b7) else (
 bif !(a7 == 3) then (
 ∃ (y8 : Int), b7.cell? ((blk w.heap.size).add 17) = some (.int .i64 y8) ∧
 bif y8 != 0 then (
 R (.bool false) b7) else (
 ∃ (aq7 : Option Addr) (af0 : Nat) (az2 : Nat), b7.cell? ((blk w.heap.size).add 18) = some (.slice aq7 af0 az2) ∧
 bif decide ((af0 : Int) > 0) then (
 R (.bool false) b7) else (
 ∃ (nl : Int), b7.cell? ((blk w.heap.size).add 0) = some (.int .i64 nl) ∧
 bif nl == 3 then (
 R (.bool true) b7) else (
 ∃ (uu : Int), b7.cell? ((blk w.heap.size).add 19) = some (.int .u64 uu) ∧
 R (.bool (uu == 0)) b7)))) else (
 ∃ (qu : Int), b7.cell? ((blk w.heap.size).add 0) = some (.int .i64 qu) ∧
 bif qu == 3 then (
 R (.bool true) b7) else (
 ∃ (zm : Int), b7.cell? ((blk w.heap.size).add 19) = some (.int .u64 zm) ∧
 R (.bool (zm == 0)) b7)))))) else (
 bif !(a7 == 3) then (
 ∃ (a06 : Int), ag.cell? ((blk w.heap.size).add 17) = some (.int .i64 a06) ∧
 bif a06 != 0 then (
 R (.bool false) ag) else (
 ∃ (ay6 : Option Addr) (af2 : Nat) (az0 : Nat), ag.cell? ((blk w.heap.size).add 18) = some (.slice ay6 af2 az0) ∧
 bif decide ((af2 : Int) > 0) then (
 R (.bool false) ag) else (
 ∃ (nc : Int), ag.cell? ((blk w.heap.size).add 0) = some (.int .i64 nc) ∧
 bif nc == 3 then (
 R (.bool true) ag) else (
 ∃ (a10 : Int), ag.cell? ((blk w.heap.size).add 19) = some (.int .u64 a10) ∧
 R (.bool (a10 == 0)) ag)))) else (
 ∃ (qs : Int), ag.cell? ((blk w.heap.size).add 0) = some (.int .i64 qs) ∧
 bif qs == 3 then (
 R (.bool true) ag) else (
 ∃ (a41 : Int), ag.cell? ((blk w.heap.size).add 19) = some (.int .u64 a41) ∧
 R (.bool (a41 == 0)) ag))))) else (
 bif a7 == 3 then (
 ∃ (vr : Int), aa.cell? ((blk w.heap.size).add 17) = some (.int .i64 vr) ∧
 bif decide (vr < 0) then (
 R (.bool false) aa) else (
 ∃ (uv : Int), aa.cell? ((blk w.heap.size).add 17) = some (.int .i64 uv) ∧
 bif decide (uv ≥ 8) then (
 R (.bool false) aa) else (
 ∃ (ae1 : Option Addr) (aj8 : Nat) (ac5 : Nat), aa.cell? ((blk w.heap.size).add 18) = some (.slice ae1 aj8 ac5) ∧
 Calls Try.prog 73 #[.slice ae1 aj8 ac5] aa fun ap1 an => ∃ (k6 : Bool), ap1 = .returned (.bool k6) ∧
 bif !k6 then (
 R (.bool false) an) else (
 bif !(a7 == 3) then (
 ∃ (vo : Int), an.cell? ((blk w.heap.size).add 17) = some (.int .i64 vo) ∧
 bif vo != 0 then (
 R (.bool false) an) else (
 ∃ (au6 : Option Addr) (aj9 : Nat) (ay9 : Nat), an.cell? ((blk w.heap.size).add 18) = some (.slice au6 aj9 ay9) ∧
 bif decide ((aj9 : Int) > 0) then (
 R (.bool false) an) else (
 ∃ (mz : Int), an.cell? ((blk w.heap.size).add 0) = some (.int .i64 mz) ∧
 bif mz == 3 then (
 R (.bool true) an) else (
 ∃ (vx : Int), an.cell? ((blk w.heap.size).add 19) = some (.int .u64 vx) ∧
 R (.bool (vx == 0)) an)))) else (
 ∃ (tm : Int), an.cell? ((blk w.heap.size).add 0) = some (.int .i64 tm) ∧
 bif tm == 3 then (
 R (.bool true) an) else (
 ∃ (xz : Int), an.cell? ((blk w.heap.size).add 19) = some (.int .u64 xz) ∧
 R (.bool (xz == 0)) an)))))) else (
 bif !(a7 == 3) then (
 ∃ (x7 : Int), aa.cell? ((blk w.heap.size).add 17) = some (.int .i64 x7) ∧
 bif x7 != 0 then (
 R (.bool false) aa) else (
 ∃ (au4 : Option Addr) (al0 : Nat) (an7 : Nat), aa.cell? ((blk w.heap.size).add 18) = some (.slice au4 al0 an7) ∧
 bif decide ((al0 : Int) > 0) then (
 R (.bool false) aa) else (
 ∃ (s3 : Int), aa.cell? ((blk w.heap.size).add 0) = some (.int .i64 s3) ∧
 bif s3 == 3 then (
 R (.bool true) aa) else (
 ∃ (ub : Int), aa.cell? ((blk w.heap.size).add 19) = some (.int .u64 ub) ∧
 R (.bool (ub == 0)) aa)))) else (
 ∃ (pz : Int), aa.cell? ((blk w.heap.size).add 0) = some (.int .i64 pz) ∧
 bif pz == 3 then (
 R (.bool true) aa) else (
 ∃ (y3 : Int), aa.cell? ((blk w.heap.size).add 19) = some (.int .u64 y3) ∧
 R (.bool (y3 == 0)) aa)))))) else (
 bif !(bd == 4) then (
 ∃ (bk : Int) (ft : Int) (kx : Int) (pm : Int) (nh : Int) (ic : Int) (eo : Option Addr) (ey : Nat) (f1 : Nat) (t7 : Int), cellsAt a6 ((blk w.heap.size).add 9) [.int .i64 bk, .int .i64 ft, .int .u64 kx, .int .i64 pm, .int .i64 nh, .int .i64 ic, .slice eo ey f1, .int .u64 t7] 0 ∧
 Calls Try.prog 77 #[.agg #[.int .i64 bk, .int .i64 ft, .int .u64 kx, .int .i64 pm, .int .i64 nh, .int .i64 ic, .slice eo ey f1, .int .u64 t7]] a6 fun b29 al => ∃ (j1 : Bool), b29 = .returned (.bool j1) ∧
 bif !j1 then (
 R (.bool false) al) else (
 bif a7 == 3 then (
 ∃ (zo : Int), al.cell? ((blk w.heap.size).add 17) = some (.int .i64 zo) ∧
 bif decide (zo < 0) then (
 R (.bool false) al) else (
 ∃ (vu : Int), al.cell? ((blk w.heap.size).add 17) = some (.int .i64 vu) ∧
 bif decide (vu ≥ 8) then (
 R (.bool false) al) else (
 ∃ (ak7 : Option Addr) (a87 : Nat) (aa2 : Nat), al.cell? ((blk w.heap.size).add 18) = some (.slice ak7 a87 aa2) ∧
 Calls Try.prog 73 #[.slice ak7 a87 aa2] al fun b15 b4 => ∃ (kg : Bool), b15 = .returned (.bool kg) ∧
 bif !kg then (
 R (.bool false) b4) else (
 bif !(a7 == 3) then (
 ∃ (a22 : Int), b4.cell? ((blk w.heap.size).add 17) = some (.int .i64 a22) ∧
 bif a22 != 0 then (
 R (.bool false) b4) else (
 ∃ (b01 : Option Addr) (a67 : Nat) (ax3 : Nat), b4.cell? ((blk w.heap.size).add 18) = some (.slice b01 a67 ax3) ∧
 bif decide ((a67 : Int) > 0) then (
 R (.bool false) b4) else (
 ∃ (q4 : Int), b4.cell? ((blk w.heap.size).add 0) = some (.int .i64 q4) ∧
 bif q4 == 3 then (
 R (.bool true) b4) else (
 ∃ (yn : Int), b4.cell? ((blk w.heap.size).add 19) = some (.int .u64 yn) ∧
 R (.bool (yn == 0)) b4)))) else (
 ∃ (t4 : Int), b4.cell? ((blk w.heap.size).add 0) = some (.int .i64 t4) ∧
 bif t4 == 3 then (
 R (.bool true) b4) else (
 ∃ (vl : Int), b4.cell? ((blk w.heap.size).add 19) = some (.int .u64 vl) ∧
 R (.bool (vl == 0)) b4)))))) else (
 bif !(a7 == 3) then (
 ∃ (z0 : Int), al.cell? ((blk w.heap.size).add 17) = some (.int .i64 z0) ∧
 bif z0 != 0 then (
 R (.bool false) al) else (
 ∃ (ao6 : Option Addr) (aa4 : Nat) (ar2 : Nat), al.cell? ((blk w.heap.size).add 18) = some (.slice ao6 aa4 ar2) ∧
 bif decide ((aa4 : Int) > 0) then (
 R (.bool false) al) else (
 ∃ (sf : Int), al.cell? ((blk w.heap.size).add 0) = some (.int .i64 sf) ∧
 bif sf == 3 then (
 R (.bool true) al) else (
 ∃ (zk : Int), al.cell? ((blk w.heap.size).add 19) = some (.int .u64 zk) ∧
 R (.bool (zk == 0)) al)))) else (
 ∃ (mx : Int), al.cell? ((blk w.heap.size).add 0) = some (.int .i64 mx) ∧
 bif mx == 3 then (
 R (.bool true) al) else (
 ∃ (ye : Int), al.cell? ((blk w.heap.size).add 19) = some (.int .u64 ye) ∧
 R (.bool (ye == 0)) al))))) else (
 bif a7 == 3 then (
 ∃ (a05 : Int), a6.cell? ((blk w.heap.size).add 17) = some (.int .i64 a05) ∧
 bif decide (a05 < 0) then (
 R (.bool false) a6) else (
 ∃ (y5 : Int), a6.cell? ((blk w.heap.size).add 17) = some (.int .i64 y5) ∧
 bif decide (y5 ≥ 8) then (
 R (.bool false) a6) else (
 ∃ (ah8 : Option Addr) (ae3 : Nat) (af1 : Nat), a6.cell? ((blk w.heap.size).add 18) = some (.slice ah8 ae3 af1) ∧
 Calls Try.prog 73 #[.slice ah8 ae3 af1] a6 fun b16 ap => ∃ (js : Bool), b16 = .returned (.bool js) ∧
 bif !js then (
 R (.bool false) ap) else (
 bif !(a7 == 3) then (
 ∃ (a36 : Int), ap.cell? ((blk w.heap.size).add 17) = some (.int .i64 a36) ∧
 bif a36 != 0 then (
 R (.bool false) ap) else (
 ∃ (at1 : Option Addr) (ag4 : Nat) (ao1 : Nat), ap.cell? ((blk w.heap.size).add 18) = some (.slice at1 ag4 ao1) ∧
 bif decide ((ag4 : Int) > 0) then (
 R (.bool false) ap) else (
 ∃ (qe : Int), ap.cell? ((blk w.heap.size).add 0) = some (.int .i64 qe) ∧
 bif qe == 3 then (
 R (.bool true) ap) else (
 ∃ (a26 : Int), ap.cell? ((blk w.heap.size).add 19) = some (.int .u64 a26) ∧
 R (.bool (a26 == 0)) ap)))) else (
 ∃ (pt : Int), ap.cell? ((blk w.heap.size).add 0) = some (.int .i64 pt) ∧
 bif pt == 3 then (
 R (.bool true) ap) else (
 ∃ (a56 : Int), ap.cell? ((blk w.heap.size).add 19) = some (.int .u64 a56) ∧
 R (.bool (a56 == 0)) ap)))))) else (
 bif !(a7 == 3) then (
 ∃ (y6 : Int), a6.cell? ((blk w.heap.size).add 17) = some (.int .i64 y6) ∧
 bif y6 != 0 then (
 R (.bool false) a6) else (
 ∃ (b30 : Option Addr) (ad2 : Nat) (ax7 : Nat), a6.cell? ((blk w.heap.size).add 18) = some (.slice b30 ad2 ax7) ∧
 bif decide ((ad2 : Int) > 0) then (
 R (.bool false) a6) else (
 ∃ (t0 : Int), a6.cell? ((blk w.heap.size).add 0) = some (.int .i64 t0) ∧
 bif t0 == 3 then (
 R (.bool true) a6) else (
 ∃ (y0 : Int), a6.cell? ((blk w.heap.size).add 19) = some (.int .u64 y0) ∧
 R (.bool (y0 == 0)) a6)))) else (
 ∃ (o8 : Int), a6.cell? ((blk w.heap.size).add 0) = some (.int .i64 o8) ∧
 bif o8 == 3 then (
 R (.bool true) a6) else (
 ∃ (a45 : Int), a6.cell? ((blk w.heap.size).add 19) = some (.int .u64 a45) ∧
 R (.bool (a45 == 0)) a6)))))))))) else (
 ∃ (ba : Int), a1.cell? ((blk w.heap.size).add 0) = some (.int .i64 ba) ∧
 ∃ (a2 : Int), a1.cell? ((blk w.heap.size).add 0) = some (.int .i64 a2) ∧
 ∃ (ti : Int), a1.cell? ((blk w.heap.size).add 0) = some (.int .i64 ti) ∧
 bif ti == 2 then (
 ∃ (ss : Int), a1.cell? ((blk w.heap.size).add 0) = some (.int .i64 ss) ∧
 bif decide (ss < 1) then (
 R (.bool false) a1) else (
 ∃ (s4 : Int), a1.cell? ((blk w.heap.size).add 0) = some (.int .i64 s4) ∧
 bif decide (s4 > 4) then (
 R (.bool false) a1) else (
 bif ba == 4 then (
 ∃ (c3 : Int) (du : Int) (jh : Int) (nz : Int) (qt : Int) (i4 : Int) (de : Option Addr) (eh : Nat) (d6 : Nat) (pn : Int), cellsAt a1 ((blk w.heap.size).add 1) [.int .i64 c3, .int .i64 du, .int .u64 jh, .int .i64 nz, .int .i64 qt, .int .i64 i4, .slice de eh d6, .int .u64 pn] 0 ∧
 Calls Try.prog 76 #[.agg #[.int .i64 c3, .int .i64 du, .int .u64 jh, .int .i64 nz, .int .i64 qt, .int .i64 i4, .slice de eh d6, .int .u64 pn]] a1 fun at8 aq => ∃ (ml : Bool), at8 = .returned (.bool ml) ∧
 bif !ml then (
 R (.bool false) aq) else (
 bif !(ba == 4) then (
 ∃ (c7 : Int) (er : Int) (mc : Int) (th : Int) (p4 : Int) (ij : Int) (i3 : Option Addr) (g3 : Nat) (dd : Nat) (qa : Int), cellsAt aq ((blk w.heap.size).add 1) [.int .i64 c7, .int .i64 er, .int .u64 mc, .int .i64 th, .int .i64 p4, .int .i64 ij, .slice i3 g3 dd, .int .u64 qa] 0 ∧
 Calls Try.prog 77 #[.agg #[.int .i64 c7, .int .i64 er, .int .u64 mc, .int .i64 th, .int .i64 p4, .int .i64 ij, .slice i3 g3 dd, .int .u64 qa]] aq fun aw8 bb => ∃ (m9 : Bool), aw8 = .returned (.bool m9) ∧
 bif !m9 then (
 R (.bool false) bb) else (
 bif a2 == 4 then (
 ∃ (cj : Int) (i1 : Int) (lr : Int) (qm : Int) (oy : Int) (ge : Int) (i0 : Option Addr) (cx : Nat) (gv : Nat) (p1 : Int), cellsAt bb ((blk w.heap.size).add 9) [.int .i64 cj, .int .i64 i1, .int .u64 lr, .int .i64 qm, .int .i64 oy, .int .i64 ge, .slice i0 cx gv, .int .u64 p1] 0 ∧
 Calls Try.prog 76 #[.agg #[.int .i64 cj, .int .i64 i1, .int .u64 lr, .int .i64 qm, .int .i64 oy, .int .i64 ge, .slice i0 cx gv, .int .u64 p1]] bb fun ap0 bf => ∃ (km : Bool), ap0 = .returned (.bool km) ∧
 bif !km then (
 R (.bool false) bf) else (
 bif !(a2 == 4) then (
 ∃ (c2 : Int) (eq : Int) (mi : Int) (ty : Int) (sv : Int) (gh : Int) (ef : Option Addr) (fw : Nat) (fe : Nat) (ng : Int), cellsAt bf ((blk w.heap.size).add 9) [.int .i64 c2, .int .i64 eq, .int .u64 mi, .int .i64 ty, .int .i64 sv, .int .i64 gh, .slice ef fw fe, .int .u64 ng] 0 ∧
 Calls Try.prog 77 #[.agg #[.int .i64 c2, .int .i64 eq, .int .u64 mi, .int .i64 ty, .int .i64 sv, .int .i64 gh, .slice ef fw fe, .int .u64 ng]] bf fun as2 c9 => ∃ (m7 : Bool), as2 = .returned (.bool m7) ∧
 bif !m7 then (
 R (.bool false) c9) else (
 ∃ (us : Int), c9.cell? ((blk w.heap.size).add 17) = some (.int .i64 us) ∧
 bif decide (us < 0) then (
 R (.bool false) c9) else (
 ∃ (v0 : Int), c9.cell? ((blk w.heap.size).add 17) = some (.int .i64 v0) ∧
 bif decide (v0 ≥ 8) then (
 R (.bool false) c9) else (
 ∃ (aa9 : Option Addr) (aj4 : Nat) (ac9 : Nat), c9.cell? ((blk w.heap.size).add 18) = some (.slice aa9 aj4 ac9) ∧
 Calls Try.prog 73 #[.slice aa9 aj4 ac9] c9 fun az5 it => ∃ (l7 : Bool), az5 = .returned (.bool l7) ∧
 bif !l7 then (
 R (.bool false) it) else (
 ∃ (n8 : Int), it.cell? ((blk w.heap.size).add 0) = some (.int .i64 n8) ∧
 bif n8 == 3 then (
 R (.bool true) it) else (
 ∃ (a44 : Int), it.cell? ((blk w.heap.size).add 19) = some (.int .u64 a44) ∧
 R (.bool (a44 == 0)) it)))))) else (
 ∃ (x4 : Int), bf.cell? ((blk w.heap.size).add 17) = some (.int .i64 x4) ∧
 bif decide (x4 < 0) then (
 R (.bool false) bf) else (
 ∃ (vs : Int), bf.cell? ((blk w.heap.size).add 17) = some (.int .i64 vs) ∧
 bif decide (vs ≥ 8) then (
 R (.bool false) bf) else (
 ∃ (ak2 : Option Addr) (ag6 : Nat) (al4 : Nat), bf.cell? ((blk w.heap.size).add 18) = some (.slice ak2 ag6 al4) ∧
 Calls Try.prog 73 #[.slice ak2 ag6 al4] bf fun az7 jd => ∃ (kp : Bool), az7 = .returned (.bool kp) ∧
 bif !kp then (
 R (.bool false) jd) else (
 ∃ (pp : Int), jd.cell? ((blk w.heap.size).add 0) = some (.int .i64 pp) ∧
 bif pp == 3 then (
 R (.bool true) jd) else (
 ∃ (uh : Int), jd.cell? ((blk w.heap.size).add 19) = some (.int .u64 uh) ∧
 R (.bool (uh == 0)) jd))))))) else (
 bif !(a2 == 4) then (
 ∃ (cn : Int) (fo : Int) (jc : Int) (oz : Int) (s9 : Int) (et : Int) (f3 : Option Addr) (ee : Nat) (ex : Nat) (ph : Int), cellsAt bb ((blk w.heap.size).add 9) [.int .i64 cn, .int .i64 fo, .int .u64 jc, .int .i64 oz, .int .i64 s9, .int .i64 et, .slice f3 ee ex, .int .u64 ph] 0 ∧
 Calls Try.prog 77 #[.agg #[.int .i64 cn, .int .i64 fo, .int .u64 jc, .int .i64 oz, .int .i64 s9, .int .i64 et, .slice f3 ee ex, .int .u64 ph]] bb fun b19 cg => ∃ (ln : Bool), b19 = .returned (.bool ln) ∧
 bif !ln then (
 R (.bool false) cg) else (
 ∃ (zi : Int), cg.cell? ((blk w.heap.size).add 17) = some (.int .i64 zi) ∧
 bif decide (zi < 0) then (
 R (.bool false) cg) else (
 ∃ (xl : Int), cg.cell? ((blk w.heap.size).add 17) = some (.int .i64 xl) ∧
 bif decide (xl ≥ 8) then (
 R (.bool false) cg) else (
 ∃ (ag1 : Option Addr) (ak0 : Nat) (a86 : Nat), cg.cell? ((blk w.heap.size).add 18) = some (.slice ag1 ak0 a86) ∧
 Calls Try.prog 73 #[.slice ag1 ak0 a86] cg fun az3 ma => ∃ (l9 : Bool), az3 = .returned (.bool l9) ∧
 bif !l9 then (
 R (.bool false) ma) else (
 ∃ (n2 : Int), ma.cell? ((blk w.heap.size).add 0) = some (.int .i64 n2) ∧
 bif n2 == 3 then (
 R (.bool true) ma) else (
 ∃ (yc : Int), ma.cell? ((blk w.heap.size).add 19) = some (.int .u64 yc) ∧
 R (.bool (yc == 0)) ma)))))) else (
 ∃ (yg : Int), bb.cell? ((blk w.heap.size).add 17) = some (.int .i64 yg) ∧
 bif decide (yg < 0) then (
 R (.bool false) bb) else (
 ∃ (z5 : Int), bb.cell? ((blk w.heap.size).add 17) = some (.int .i64 z5) ∧
 bif decide (z5 ≥ 8) then (
 R (.bool false) bb) else (
 ∃ (aj3 : Option Addr) (a82 : Nat) (ag8 : Nat), bb.cell? ((blk w.heap.size).add 18) = some (.slice aj3 a82 ag8) ∧
 Calls Try.prog 73 #[.slice aj3 a82 ag8] bb fun as6 kq => ∃ (ld : Bool), as6 = .returned (.bool ld) ∧
 bif !ld then (
 R (.bool false) kq) else (
 ∃ (p7 : Int), kq.cell? ((blk w.heap.size).add 0) = some (.int .i64 p7) ∧
 bif p7 == 3 then (
 R (.bool true) kq) else (
 ∃ (vv : Int), kq.cell? ((blk w.heap.size).add 19) = some (.int .u64 vv) ∧
 R (.bool (vv == 0)) kq)))))))) else (
 bif a2 == 4 then (
 ∃ (c8 : Int) (cr : Int) (l4 : Int) (ta : Int) (sp : Int) (ea : Int) (ec : Option Addr) (gt : Nat) (cv : Nat) (oh : Int), cellsAt aq ((blk w.heap.size).add 9) [.int .i64 c8, .int .i64 cr, .int .u64 l4, .int .i64 ta, .int .i64 sp, .int .i64 ea, .slice ec gt cv, .int .u64 oh] 0 ∧
 Calls Try.prog 76 #[.agg #[.int .i64 c8, .int .i64 cr, .int .u64 l4, .int .i64 ta, .int .i64 sp, .int .i64 ea, .slice ec gt cv, .int .u64 oh]] aq fun b27 bh => ∃ (jg : Bool), b27 = .returned (.bool jg) ∧
 bif !jg then (
 R (.bool false) bh) else (
 bif !(a2 == 4) then (
 ∃ (cm : Int) (ff : Int) (k3 : Int) (ts : Int) (pe : Int) (db : Int) (fc : Option Addr) (f9 : Nat) (fv : Nat) (mu : Int), cellsAt bh ((blk w.heap.size).add 9) [.int .i64 cm, .int .i64 ff, .int .u64 k3, .int .i64 ts, .int .i64 pe, .int .i64 db, .slice fc f9 fv, .int .u64 mu] 0 ∧
 Calls Try.prog 77 #[.agg #[.int .i64 cm, .int .i64 ff, .int .u64 k3, .int .i64 ts, .int .i64 pe, .int .i64 db, .slice fc f9 fv, .int .u64 mu]] bh fun b14 bl => ∃ (ji : Bool), b14 = .returned (.bool ji) ∧
 bif !ji then (
 R (.bool false) bl) else (
 ∃ (yu : Int), bl.cell? ((blk w.heap.size).add 17) = some (.int .i64 yu) ∧
 bif decide (yu < 0) then (
 R (.bool false) bl) else (
 ∃ (v6 : Int), bl.cell? ((blk w.heap.size).add 17) = some (.int .i64 v6) ∧
 bif decide (v6 ≥ 8) then (
 R (.bool false) bl) else (
 ∃ (ah0 : Option Addr) (am1 : Nat) (ae2 : Nat), bl.cell? ((blk w.heap.size).add 18) = some (.slice ah0 am1 ae2) ∧
 Calls Try.prog 73 #[.slice ah0 am1 ae2] bl fun b34 kt => ∃ (lb : Bool), b34 = .returned (.bool lb) ∧
 bif !lb then (
 R (.bool false) kt) else (
 ∃ (og : Int), kt.cell? ((blk w.heap.size).add 0) = some (.int .i64 og) ∧
 bif og == 3 then (
 R (.bool true) kt) else (
 ∃ (vb : Int), kt.cell? ((blk w.heap.size).add 19) = some (.int .u64 vb) ∧
 R (.bool (vb == 0)) kt)))))) else (
 ∃ (x1 : Int), bh.cell? ((blk w.heap.size).add 17) = some (.int .i64 x1) ∧
 bif decide (x1 < 0) then (
 R (.bool false) bh) else (
 ∃ (a51 : Int), bh.cell? ((blk w.heap.size).add 17) = some (.int .i64 a51) ∧
 bif decide (a51 ≥ 8) then (
 R (.bool false) bh) else (
 ∃ (a89 : Option Addr) (al7 : Nat) (af5 : Nat), bh.cell? ((blk w.heap.size).add 18) = some (.slice a89 al7 af5) ∧
 Calls Try.prog 73 #[.slice a89 al7 af5] bh fun aq4 mb => ∃ (la : Bool), aq4 = .returned (.bool la) ∧
 bif !la then (
 R (.bool false) mb) else (
 ∃ (oq : Int), mb.cell? ((blk w.heap.size).add 0) = some (.int .i64 oq) ∧
 bif oq == 3 then (
 R (.bool true) mb) else (
 ∃ (zz : Int), mb.cell? ((blk w.heap.size).add 19) = some (.int .u64 zz) ∧
 R (.bool (zz == 0)) mb))))))) else (
 bif !(a2 == 4) then (
 ∃ (cf : Int) (ew : Int) (lt : Int) (nx : Int) (tv : Int) (fy : Int) (gp : Option Addr) (d4 : Nat) (gi : Nat) (tr : Int), cellsAt aq ((blk w.heap.size).add 9) [.int .i64 cf, .int .i64 ew, .int .u64 lt, .int .i64 nx, .int .i64 tv, .int .i64 fy, .slice gp d4 gi, .int .u64 tr] 0 ∧
 Calls Try.prog 77 #[.agg #[.int .i64 cf, .int .i64 ew, .int .u64 lt, .int .i64 nx, .int .i64 tv, .int .i64 fy, .slice gp d4 gi, .int .u64 tr]] aq fun au0 ce => ∃ (k9 : Bool), au0 = .returned (.bool k9) ∧
 bif !k9 then (
 R (.bool false) ce) else (
 ∃ (vg : Int), ce.cell? ((blk w.heap.size).add 17) = some (.int .i64 vg) ∧
 bif decide (vg < 0) then (
 R (.bool false) ce) else (
 ∃ (x8 : Int), ce.cell? ((blk w.heap.size).add 17) = some (.int .i64 x8) ∧
 bif decide (x8 ≥ 8) then (
 R (.bool false) ce) else (
 ∃ (ab8 : Option Addr) (af3 : Nat) (a92 : Nat), ce.cell? ((blk w.heap.size).add 18) = some (.slice ab8 af3 a92) ∧
 Calls Try.prog 73 #[.slice ab8 af3 a92] ce fun ax2 jw => ∃ (ls : Bool), ax2 = .returned (.bool ls) ∧
 bif !ls then (
 R (.bool false) jw) else (
 ∃ (s0 : Int), jw.cell? ((blk w.heap.size).add 0) = some (.int .i64 s0) ∧
 bif s0 == 3 then (
 R (.bool true) jw) else (
 ∃ (xe : Int), jw.cell? ((blk w.heap.size).add 19) = some (.int .u64 xe) ∧
 R (.bool (xe == 0)) jw)))))) else (
 ∃ (vw : Int), aq.cell? ((blk w.heap.size).add 17) = some (.int .i64 vw) ∧
 bif decide (vw < 0) then (
 R (.bool false) aq) else (
 ∃ (a30 : Int), aq.cell? ((blk w.heap.size).add 17) = some (.int .i64 a30) ∧
 bif decide (a30 ≥ 8) then (
 R (.bool false) aq) else (
 ∃ (ah5 : Option Addr) (ai6 : Nat) (ad0 : Nat), aq.cell? ((blk w.heap.size).add 18) = some (.slice ah5 ai6 ad0) ∧
 Calls Try.prog 73 #[.slice ah5 ai6 ad0] aq fun ax5 kj => ∃ (ja : Bool), ax5 = .returned (.bool ja) ∧
 bif !ja then (
 R (.bool false) kj) else (
 ∃ (pf : Int), kj.cell? ((blk w.heap.size).add 0) = some (.int .i64 pf) ∧
 bif pf == 3 then (
 R (.bool true) kj) else (
 ∃ (y4 : Int), kj.cell? ((blk w.heap.size).add 19) = some (.int .u64 y4) ∧
 R (.bool (y4 == 0)) kj))))))))) else (
 bif !(ba == 4) then (
 ∃ (c6 : Int) (fg : Int) (l2 : Int) (q0 : Int) (qc : Int) (dv : Int) (ez : Option Addr) (cy : Nat) (fk : Nat) (tk : Int), cellsAt a1 ((blk w.heap.size).add 1) [.int .i64 c6, .int .i64 fg, .int .u64 l2, .int .i64 q0, .int .i64 qc, .int .i64 dv, .slice ez cy fk, .int .u64 tk] 0 ∧
 Calls Try.prog 77 #[.agg #[.int .i64 c6, .int .i64 fg, .int .u64 l2, .int .i64 q0, .int .i64 qc, .int .i64 dv, .slice ez cy fk, .int .u64 tk]] a1 fun at4 bc => ∃ (k4 : Bool), at4 = .returned (.bool k4) ∧
 bif !k4 then (
 R (.bool false) bc) else (
 bif a2 == 4 then (
 ∃ (ck : Int) (d0 : Int) (m1 : Int) (o4 : Int) (oo : Int) (f5 : Int) (cz : Option Addr) (ek : Nat) (gm : Nat) (ni : Int), cellsAt bc ((blk w.heap.size).add 9) [.int .i64 ck, .int .i64 d0, .int .u64 m1, .int .i64 o4, .int .i64 oo, .int .i64 f5, .slice cz ek gm, .int .u64 ni] 0 ∧
 Calls Try.prog 76 #[.agg #[.int .i64 ck, .int .i64 d0, .int .u64 m1, .int .i64 o4, .int .i64 oo, .int .i64 f5, .slice cz ek gm, .int .u64 ni]] bc fun b21 be => ∃ (lq : Bool), b21 = .returned (.bool lq) ∧
 bif !lq then (
 R (.bool false) be) else (
 bif !(a2 == 4) then (
 ∃ (ci : Int) (ga : Int) (j7 : Int) (qk : Int) (oj : Int) (ct : Int) (fi : Option Addr) (dx : Nat) (dm : Nat) (s5 : Int), cellsAt be ((blk w.heap.size).add 9) [.int .i64 ci, .int .i64 ga, .int .u64 j7, .int .i64 qk, .int .i64 oj, .int .i64 ct, .slice fi dx dm, .int .u64 s5] 0 ∧
 Calls Try.prog 77 #[.agg #[.int .i64 ci, .int .i64 ga, .int .u64 j7, .int .i64 qk, .int .i64 oj, .int .i64 ct, .slice fi dx dm, .int .u64 s5]] be fun as1 c1 => ∃ (ku : Bool), as1 = .returned (.bool ku) ∧
 bif !ku then (
 R (.bool false) c1) else (
 ∃ (yr : Int), c1.cell? ((blk w.heap.size).add 17) = some (.int .i64 yr) ∧
 bif decide (yr < 0) then (
 R (.bool false) c1) else (
 ∃ (zt : Int), c1.cell? ((blk w.heap.size).add 17) = some (.int .i64 zt) ∧
 bif decide (zt ≥ 8) then (
 R (.bool false) c1) else (
 ∃ (ac3 : Option Addr) (ai2 : Nat) (aa1 : Nat), c1.cell? ((blk w.heap.size).add 18) = some (.slice ac3 ai2 aa1) ∧
 Calls Try.prog 73 #[.slice ac3 ai2 aa1] c1 fun ap8 jf => ∃ (jr : Bool), ap8 = .returned (.bool jr) ∧
 bif !jr then (
 R (.bool false) jf) else (
 ∃ (n6 : Int), jf.cell? ((blk w.heap.size).add 0) = some (.int .i64 n6) ∧
 bif n6 == 3 then (
 R (.bool true) jf) else (
 ∃ (yf : Int), jf.cell? ((blk w.heap.size).add 19) = some (.int .u64 yf) ∧
 R (.bool (yf == 0)) jf)))))) else (
 ∃ (uc : Int), be.cell? ((blk w.heap.size).add 17) = some (.int .i64 uc) ∧
 bif decide (uc < 0) then (
 R (.bool false) be) else (
 ∃ (a16 : Int), be.cell? ((blk w.heap.size).add 17) = some (.int .i64 a16) ∧
 bif decide (a16 ≥ 8) then (
 R (.bool false) be) else (
 ∃ (a71 : Option Addr) (ac8 : Nat) (af7 : Nat), be.cell? ((blk w.heap.size).add 18) = some (.slice a71 ac8 af7) ∧
 Calls Try.prog 73 #[.slice a71 ac8 af7] be fun b31 kk => ∃ (m3 : Bool), b31 = .returned (.bool m3) ∧
 bif !m3 then (
 R (.bool false) kk) else (
 ∃ (tt : Int), kk.cell? ((blk w.heap.size).add 0) = some (.int .i64 tt) ∧
 bif tt == 3 then (
 R (.bool true) kk) else (
 ∃ (zj : Int), kk.cell? ((blk w.heap.size).add 19) = some (.int .u64 zj) ∧
 R (.bool (zj == 0)) kk))))))) else (
 bif !(a2 == 4) then (
 ∃ (bs : Int) (d9 : Int) (j2 : Int) (td : Int) (qd : Int) (d7 : Int) (cu : Option Addr) (g2 : Nat) (g9 : Nat) (qz : Int), cellsAt bc ((blk w.heap.size).add 9) [.int .i64 bs, .int .i64 d9, .int .u64 j2, .int .i64 td, .int .i64 qd, .int .i64 d7, .slice cu g2 g9, .int .u64 qz] 0 ∧
 Calls Try.prog 77 #[.agg #[.int .i64 bs, .int .i64 d9, .int .u64 j2, .int .i64 td, .int .i64 qd, .int .i64 d7, .slice cu g2 g9, .int .u64 qz]] bc fun aw7 bp => ∃ (ky : Bool), aw7 = .returned (.bool ky) ∧
 bif !ky then (
 R (.bool false) bp) else (
 ∃ (yb : Int), bp.cell? ((blk w.heap.size).add 17) = some (.int .i64 yb) ∧
 bif decide (yb < 0) then (
 R (.bool false) bp) else (
 ∃ (xo : Int), bp.cell? ((blk w.heap.size).add 17) = some (.int .i64 xo) ∧
 bif decide (xo ≥ 8) then (
 R (.bool false) bp) else (
 ∃ (aj1 : Option Addr) (aj5 : Nat) (a68 : Nat), bp.cell? ((blk w.heap.size).add 18) = some (.slice aj1 aj5 a68) ∧
 Calls Try.prog 73 #[.slice aj1 aj5 a68] bp fun au8 iz => ∃ (lf : Bool), au8 = .returned (.bool lf) ∧
 bif !lf then (
 R (.bool false) iz) else (
 ∃ (os : Int), iz.cell? ((blk w.heap.size).add 0) = some (.int .i64 os) ∧
 bif os == 3 then (
 R (.bool true) iz) else (
 ∃ (xp : Int), iz.cell? ((blk w.heap.size).add 19) = some (.int .u64 xp) ∧
 R (.bool (xp == 0)) iz)))))) else (
 ∃ (ve : Int), bc.cell? ((blk w.heap.size).add 17) = some (.int .i64 ve) ∧
 bif decide (ve < 0) then (
 R (.bool false) bc) else (
 ∃ (uo : Int), bc.cell? ((blk w.heap.size).add 17) = some (.int .i64 uo) ∧
 bif decide (uo ≥ 8) then (
 R (.bool false) bc) else (
 ∃ (a93 : Option Addr) (ad6 : Nat) (a77 : Nat), bc.cell? ((blk w.heap.size).add 18) = some (.slice a93 ad6 a77) ∧
 Calls Try.prog 73 #[.slice a93 ad6 a77] bc fun b23 jq => ∃ (ka : Bool), b23 = .returned (.bool ka) ∧
 bif !ka then (
 R (.bool false) jq) else (
 ∃ (n5 : Int), jq.cell? ((blk w.heap.size).add 0) = some (.int .i64 n5) ∧
 bif n5 == 3 then (
 R (.bool true) jq) else (
 ∃ (zr : Int), jq.cell? ((blk w.heap.size).add 19) = some (.int .u64 zr) ∧
 R (.bool (zr == 0)) jq)))))))) else (
 bif a2 == 4 then (
 ∃ (bz : Int) (ib : Int) (lp : Int) (t1 : Int) (pl : Int) (i8 : Int) (f7 : Option Addr) (ii : Nat) (cw : Nat) (pc : Int), cellsAt a1 ((blk w.heap.size).add 9) [.int .i64 bz, .int .i64 ib, .int .u64 lp, .int .i64 t1, .int .i64 pl, .int .i64 i8, .slice f7 ii cw, .int .u64 pc] 0 ∧
 Calls Try.prog 76 #[.agg #[.int .i64 bz, .int .i64 ib, .int .u64 lp, .int .i64 t1, .int .i64 pl, .int .i64 i8, .slice f7 ii cw, .int .u64 pc]] a1 fun ap9 bg => ∃ (m2 : Bool), ap9 = .returned (.bool m2) ∧
 bif !m2 then (
 R (.bool false) bg) else (
 bif !(a2 == 4) then (
 ∃ (bx : Int) (gu : Int) (mg : Int) (np : Int) (q6 : Int) (gz : Int) (el : Option Addr) (dy : Nat) (es : Nat) (p3 : Int), cellsAt bg ((blk w.heap.size).add 9) [.int .i64 bx, .int .i64 gu, .int .u64 mg, .int .i64 np, .int .i64 q6, .int .i64 gz, .slice el dy es, .int .u64 p3] 0 ∧
 Calls Try.prog 77 #[.agg #[.int .i64 bx, .int .i64 gu, .int .u64 mg, .int .i64 np, .int .i64 q6, .int .i64 gz, .slice el dy es, .int .u64 p3]] bg fun ax6 cp => ∃ (li : Bool), ax6 = .returned (.bool li) ∧
 bif !li then (
 R (.bool false) cp) else (
 ∃ (u8 : Int), cp.cell? ((blk w.heap.size).add 17) = some (.int .i64 u8) ∧
 bif decide (u8 < 0) then (
 R (.bool false) cp) else (
 ∃ (ut : Int), cp.cell? ((blk w.heap.size).add 17) = some (.int .i64 ut) ∧
 bif decide (ut ≥ 8) then (
 R (.bool false) cp) else (
 ∃ (ae5 : Option Addr) (aa8 : Nat) (ac7 : Nat), cp.cell? ((blk w.heap.size).add 18) = some (.slice ae5 aa8 ac7) ∧
 Calls Try.prog 73 #[.slice ae5 aa8 ac7] cp fun b24 l1 => ∃ (kf : Bool), b24 = .returned (.bool kf) ∧
 bif !kf then (
 R (.bool false) l1) else (
 ∃ (my : Int), l1.cell? ((blk w.heap.size).add 0) = some (.int .i64 my) ∧
 bif my == 3 then (
 R (.bool true) l1) else (
 ∃ (vm : Int), l1.cell? ((blk w.heap.size).add 19) = some (.int .u64 vm) ∧
 R (.bool (vm == 0)) l1)))))) else (
 ∃ (vi : Int), bg.cell? ((blk w.heap.size).add 17) = some (.int .i64 vi) ∧
 bif decide (vi < 0) then (
 R (.bool false) bg) else (
 ∃ (zl : Int), bg.cell? ((blk w.heap.size).add 17) = some (.int .i64 zl) ∧
 bif decide (zl ≥ 8) then (
 R (.bool false) bg) else (
 ∃ (ae4 : Option Addr) (ac2 : Nat) (al9 : Nat), bg.cell? ((blk w.heap.size).add 18) = some (.slice ae4 ac2 al9) ∧
 Calls Try.prog 73 #[.slice ae4 ac2 al9] bg fun b35 lh => ∃ (kd : Bool), b35 = .returned (.bool kd) ∧
 bif !kd then (
 R (.bool false) lh) else (
 ∃ (n3 : Int), lh.cell? ((blk w.heap.size).add 0) = some (.int .i64 n3) ∧
 bif n3 == 3 then (
 R (.bool true) lh) else (
 ∃ (yq : Int), lh.cell? ((blk w.heap.size).add 19) = some (.int .u64 yq) ∧
 R (.bool (yq == 0)) lh))))))) else (
 bif !(a2 == 4) then (
 ∃ (bv : Int) (e9 : Int) (j4 : Int) (sc : Int) (ne : Int) (gl : Int) (gs : Option Addr) (ik : Nat) (g0 : Nat) (sm : Int), cellsAt a1 ((blk w.heap.size).add 9) [.int .i64 bv, .int .i64 e9, .int .u64 j4, .int .i64 sc, .int .i64 ne, .int .i64 gl, .slice gs ik g0, .int .u64 sm] 0 ∧
 Calls Try.prog 77 #[.agg #[.int .i64 bv, .int .i64 e9, .int .u64 j4, .int .i64 sc, .int .i64 ne, .int .i64 gl, .slice gs ik g0, .int .u64 sm]] a1 fun ay4 bj => ∃ (k2 : Bool), ay4 = .returned (.bool k2) ∧
 bif !k2 then (
 R (.bool false) bj) else (
 ∃ (a21 : Int), bj.cell? ((blk w.heap.size).add 17) = some (.int .i64 a21) ∧
 bif decide (a21 < 0) then (
 R (.bool false) bj) else (
 ∃ (ua : Int), bj.cell? ((blk w.heap.size).add 17) = some (.int .i64 ua) ∧
 bif decide (ua ≥ 8) then (
 R (.bool false) bj) else (
 ∃ (ag7 : Option Addr) (ab3 : Nat) (al8 : Nat), bj.cell? ((blk w.heap.size).add 18) = some (.slice ag7 ab3 al8) ∧
 Calls Try.prog 73 #[.slice ag7 ab3 al8] bj fun ax8 je => ∃ (m5 : Bool), ax8 = .returned (.bool m5) ∧
 bif !m5 then (
 R (.bool false) je) else (
 ∃ (t3 : Int), je.cell? ((blk w.heap.size).add 0) = some (.int .i64 t3) ∧
 bif t3 == 3 then (
 R (.bool true) je) else (
 ∃ (vc : Int), je.cell? ((blk w.heap.size).add 19) = some (.int .u64 vc) ∧
 R (.bool (vc == 0)) je)))))) else (
 ∃ (ym : Int), a1.cell? ((blk w.heap.size).add 17) = some (.int .i64 ym) ∧
 bif decide (ym < 0) then (
 R (.bool false) a1) else (
 ∃ (a57 : Int), a1.cell? ((blk w.heap.size).add 17) = some (.int .i64 a57) ∧
 bif decide (a57 ≥ 8) then (
 R (.bool false) a1) else (
 ∃ (ak3 : Option Addr) (ag5 : Nat) (a94 : Nat), a1.cell? ((blk w.heap.size).add 18) = some (.slice ak3 ag5 a94) ∧
 Calls Try.prog 73 #[.slice ak3 ag5 a94] a1 fun av7 jp => ∃ (mh : Bool), av7 = .returned (.bool mh) ∧
 bif !mh then (
 R (.bool false) jp) else (
 ∃ (s6 : Int), jp.cell? ((blk w.heap.size).add 0) = some (.int .i64 s6) ∧
 bif s6 == 3 then (
 R (.bool true) jp) else (
 ∃ (uz : Int), jp.cell? ((blk w.heap.size).add 19) = some (.int .u64 uz) ∧
 R (.bool (uz == 0)) jp))))))))))) else (
 ∃ (a0 : Int), a1.cell? ((blk w.heap.size).add 0) = some (.int .i64 a0) ∧
 ∃ (nr : Int), a1.cell? ((blk w.heap.size).add 0) = some (.int .i64 nr) ∧
 bif decide (nr < 1) then (
 R (.bool false) a1) else (
 ∃ (qh : Int), a1.cell? ((blk w.heap.size).add 0) = some (.int .i64 qh) ∧
 bif decide (qh > 4) then (
 R (.bool false) a1) else (
 bif ba == 4 then (
 ∃ (cc : Int) (gj : Int) (j6 : Int) (pu : Int) (q5 : Int) (fz : Int) (i6 : Option Addr) (en : Nat) (i2 : Nat) (qb : Int), cellsAt a1 ((blk w.heap.size).add 1) [.int .i64 cc, .int .i64 gj, .int .u64 j6, .int .i64 pu, .int .i64 q5, .int .i64 fz, .slice i6 en i2, .int .u64 qb] 0 ∧
 Calls Try.prog 76 #[.agg #[.int .i64 cc, .int .i64 gj, .int .u64 j6, .int .i64 pu, .int .i64 q5, .int .i64 fz, .slice i6 en i2, .int .u64 qb]] a1 fun av4 a3 => ∃ (mk : Bool), av4 = .returned (.bool mk) ∧
 bif !mk then (
 R (.bool false) a3) else (
 bif !(ba == 4) then (
 ∃ (bo : Int) (dc : Int) (l5 : Int) (pg : Int) (px : Int) (e1 : Int) (d2 : Option Addr) (g1 : Nat) (di : Nat) (nm : Int), cellsAt a3 ((blk w.heap.size).add 1) [.int .i64 bo, .int .i64 dc, .int .u64 l5, .int .i64 pg, .int .i64 px, .int .i64 e1, .slice d2 g1 di, .int .u64 nm] 0 ∧
 Calls Try.prog 77 #[.agg #[.int .i64 bo, .int .i64 dc, .int .u64 l5, .int .i64 pg, .int .i64 px, .int .i64 e1, .slice d2 g1 di, .int .u64 nm]] a3 fun at3 a5 => ∃ (lc : Bool), at3 = .returned (.bool lc) ∧
 bif !lc then (
 R (.bool false) a5) else (
 bif a2 == 4 then (
 ∃ (br : Int) (g8 : Int) (kv : Int) (po : Int) (pq : Int) (fp : Int) (e2 : Option Addr) (fb : Nat) (gk : Nat) (o7 : Int), cellsAt a5 ((blk w.heap.size).add 9) [.int .i64 br, .int .i64 g8, .int .u64 kv, .int .i64 po, .int .i64 pq, .int .i64 fp, .slice e2 fb gk, .int .u64 o7] 0 ∧
 Calls Try.prog 76 #[.agg #[.int .i64 br, .int .i64 g8, .int .u64 kv, .int .i64 po, .int .i64 pq, .int .i64 fp, .slice e2 fb gk, .int .u64 o7]] a5 fun aq2 ac => ∃ (ll : Bool), aq2 = .returned (.bool ll) ∧
 bif !ll then (
 R (.bool false) ac) else (
 bif !(a2 == 4) then (
 ∃ (bn : Int) (gd : Int) (kc : Int) (te : Int) (s8 : Int) (e7 : Int) (ej : Option Addr) (f4 : Nat) (fa : Nat) (na : Int), cellsAt ac ((blk w.heap.size).add 9) [.int .i64 bn, .int .i64 gd, .int .u64 kc, .int .i64 te, .int .i64 s8, .int .i64 e7, .slice ej f4 fa, .int .u64 na] 0 ∧
 Calls Try.prog 77 #[.agg #[.int .i64 bn, .int .i64 gd, .int .u64 kc, .int .i64 te, .int .i64 s8, .int .i64 e7, .slice ej f4 fa, .int .u64 na]] ac fun ar5 ah => ∃ (lg : Bool), ar5 = .returned (.bool lg) ∧
 bif !lg then (
 R (.bool false) ah) else (
 bif a0 == 3 then (
 ∃ (v3 : Int), ah.cell? ((blk w.heap.size).add 17) = some (.int .i64 v3) ∧
 bif decide (v3 < 0) then (
 R (.bool false) ah) else (
 ∃ (zd : Int), ah.cell? ((blk w.heap.size).add 17) = some (.int .i64 zd) ∧
 bif decide (zd ≥ 8) then (
 R (.bool false) ah) else (
 ∃ (a91 : Option Addr) (aj7 : Nat) (ad7 : Nat), ah.cell? ((blk w.heap.size).add 18) = some (.slice a91 aj7 ad7) ∧
 Calls Try.prog 73 #[.slice a91 aj7 ad7] ah fun aw4 aw => ∃ (kb : Bool), aw4 = .returned (.bool kb) ∧
 bif !kb then (
 R (.bool false) aw) else (
 bif !(a0 == 3) then (
 ∃ (z8 : Int), aw.cell? ((blk w.heap.size).add 17) = some (.int .i64 z8) ∧
 bif z8 != 0 then (
 R (.bool false) aw) else (
 ∃ (ao8 : Option Addr) (ah6 : Nat) (ao0 : Nat), aw.cell? ((blk w.heap.size).add 18) = some (.slice ao8 ah6 ao0) ∧
 bif decide ((ah6 : Int) > 0) then (
 R (.bool false) aw) else (
 ∃ (tn : Int), aw.cell? ((blk w.heap.size).add 0) = some (.int .i64 tn) ∧
 bif tn == 3 then (
 R (.bool true) aw) else (
 ∃ (ys : Int), aw.cell? ((blk w.heap.size).add 19) = some (.int .u64 ys) ∧
 R (.bool (ys == 0)) aw)))) else (
 ∃ (q1 : Int), aw.cell? ((blk w.heap.size).add 0) = some (.int .i64 q1) ∧
 bif q1 == 3 then (
 R (.bool true) aw) else (
 ∃ (y7 : Int), aw.cell? ((blk w.heap.size).add 19) = some (.int .u64 y7) ∧
 R (.bool (y7 == 0)) aw)))))) else (
 bif !(a0 == 3) then (
 ∃ (a55 : Int), ah.cell? ((blk w.heap.size).add 17) = some (.int .i64 a55) ∧
 bif a55 != 0 then (
 R (.bool false) ah) else (
 ∃ (aq3 : Option Addr) (a76 : Nat) (ap3 : Nat), ah.cell? ((blk w.heap.size).add 18) = some (.slice aq3 a76 ap3) ∧
 bif decide ((a76 : Int) > 0) then (
 R (.bool false) ah) else (
 ∃ (sz : Int), ah.cell? ((blk w.heap.size).add 0) = some (.int .i64 sz) ∧
 bif sz == 3 then (
 R (.bool true) ah) else (
 ∃ (xq : Int), ah.cell? ((blk w.heap.size).add 19) = some (.int .u64 xq) ∧
 R (.bool (xq == 0)) ah)))) else (
 ∃ (o9 : Int), ah.cell? ((blk w.heap.size).add 0) = some (.int .i64 o9) ∧
 bif o9 == 3 then (
 R (.bool true) ah) else (
 ∃ (x0 : Int), ah.cell? ((blk w.heap.size).add 19) = some (.int .u64 x0) ∧
 R (.bool (x0 == 0)) ah))))) else (
 bif a0 == 3 then (
 ∃ (yv : Int), ac.cell? ((blk w.heap.size).add 17) = some (.int .i64 yv) ∧
 bif decide (yv < 0) then (
 R (.bool false) ac) else (
 ∃ (a03 : Int), ac.cell? ((blk w.heap.size).add 17) = some (.int .i64 a03) ∧
 bif decide (a03 ≥ 8) then (
 R (.bool false) ac) else (
 ∃ (al6 : Option Addr) (ai7 : Nat) (al2 : Nat), ac.cell? ((blk w.heap.size).add 18) = some (.slice al6 ai7 al2) ∧
 Calls Try.prog 73 #[.slice al6 ai7 al2] ac fun ar9 ay => ∃ (m8 : Bool), ar9 = .returned (.bool m8) ∧
 bif !m8 then (
 R (.bool false) ay) else (
 bif !(a0 == 3) then (
 ∃ (a54 : Int), ay.cell? ((blk w.heap.size).add 17) = some (.int .i64 a54) ∧
 bif a54 != 0 then (
 R (.bool false) ay) else (
 ∃ (as4 : Option Addr) (ab4 : Nat) (at0 : Nat), ay.cell? ((blk w.heap.size).add 18) = some (.slice as4 ab4 at0) ∧
 bif decide ((ab4 : Int) > 0) then (
 R (.bool false) ay) else (
 ∃ (sx : Int), ay.cell? ((blk w.heap.size).add 0) = some (.int .i64 sx) ∧
 bif sx == 3 then (
 R (.bool true) ay) else (
 ∃ (va : Int), ay.cell? ((blk w.heap.size).add 19) = some (.int .u64 va) ∧
 R (.bool (va == 0)) ay)))) else (
 ∃ (nq : Int), ay.cell? ((blk w.heap.size).add 0) = some (.int .i64 nq) ∧
 bif nq == 3 then (
 R (.bool true) ay) else (
 ∃ (yh : Int), ay.cell? ((blk w.heap.size).add 19) = some (.int .u64 yh) ∧
 R (.bool (yh == 0)) ay)))))) else (
 bif !(a0 == 3) then (
 ∃ (zx : Int), ac.cell? ((blk w.heap.size).add 17) = some (.int .i64 zx) ∧
 bif zx != 0 then (
 R (.bool false) ac) else (
 ∃ (ap6 : Option Addr) (al1 : Nat) (av5 : Nat), ac.cell? ((blk w.heap.size).add 18) = some (.slice ap6 al1 av5) ∧
 bif decide ((al1 : Int) > 0) then (
 R (.bool false) ac) else (
 ∃ (sn : Int), ac.cell? ((blk w.heap.size).add 0) = some (.int .i64 sn) ∧
 bif sn == 3 then (
 R (.bool true) ac) else (
 ∃ (xk : Int), ac.cell? ((blk w.heap.size).add 19) = some (.int .u64 xk) ∧
 R (.bool (xk == 0)) ac)))) else (
 ∃ (p9 : Int), ac.cell? ((blk w.heap.size).add 0) = some (.int .i64 p9) ∧
 bif p9 == 3 then (
 R (.bool true) ac) else (
 ∃ (a20 : Int), ac.cell? ((blk w.heap.size).add 19) = some (.int .u64 a20) ∧
 R (.bool (a20 == 0)) ac)))))) else (
 bif !(a2 == 4) then (
 ∃ (bm : Int) (fj : Int) (kw : Int) (ow : Int) (oc : Int) (e6 : Int) (im : Option Addr) (ia : Nat) (dq : Nat) (n7 : Int), cellsAt a5 ((blk w.heap.size).add 9) [.int .i64 bm, .int .i64 fj, .int .u64 kw, .int .i64 ow, .int .i64 oc, .int .i64 e6, .slice im ia dq, .int .u64 n7] 0 ∧
 Calls Try.prog 77 #[.agg #[.int .i64 bm, .int .i64 fj, .int .u64 kw, .int .i64 ow, .int .i64 oc, .int .i64 e6, .slice im ia dq, .int .u64 n7]] a5 fun ar7 ai => ∃ (jk : Bool), ar7 = .returned (.bool jk) ∧
 bif !jk then (
 R (.bool false) ai) else (
 bif a0 == 3 then (
 ∃ (yw : Int), ai.cell? ((blk w.heap.size).add 17) = some (.int .i64 yw) ∧
 bif decide (yw < 0) then (
 R (.bool false) ai) else (
 ∃ (zh : Int), ai.cell? ((blk w.heap.size).add 17) = some (.int .i64 zh) ∧
 bif decide (zh ≥ 8) then (
 R (.bool false) ai) else (
 ∃ (a85 : Option Addr) (ak8 : Nat) (a73 : Nat), ai.cell? ((blk w.heap.size).add 18) = some (.slice a85 ak8 a73) ∧
 Calls Try.prog 73 #[.slice a85 ak8 a73] ai fun ay3 ao => ∃ (jj : Bool), ay3 = .returned (.bool jj) ∧
 bif !jj then (
 R (.bool false) ao) else (
 bif !(a0 == 3) then (
 ∃ (a17 : Int), ao.cell? ((blk w.heap.size).add 17) = some (.int .i64 a17) ∧
 bif a17 != 0 then (
 R (.bool false) ao) else (
 ∃ (b02 : Option Addr) (ah7 : Nat) (av1 : Nat), ao.cell? ((blk w.heap.size).add 18) = some (.slice b02 ah7 av1) ∧
 bif decide ((ah7 : Int) > 0) then (
 R (.bool false) ao) else (
 ∃ (qx : Int), ao.cell? ((blk w.heap.size).add 0) = some (.int .i64 qx) ∧
 bif qx == 3 then (
 R (.bool true) ao) else (
 ∃ (zq : Int), ao.cell? ((blk w.heap.size).add 19) = some (.int .u64 zq) ∧
 R (.bool (zq == 0)) ao)))) else (
 ∃ (p8 : Int), ao.cell? ((blk w.heap.size).add 0) = some (.int .i64 p8) ∧
 bif p8 == 3 then (
 R (.bool true) ao) else (
 ∃ (y9 : Int), ao.cell? ((blk w.heap.size).add 19) = some (.int .u64 y9) ∧
 R (.bool (y9 == 0)) ao)))))) else (
 bif !(a0 == 3) then (
 ∃ (a09 : Int), ai.cell? ((blk w.heap.size).add 17) = some (.int .i64 a09) ∧
 bif a09 != 0 then (
 R (.bool false) ai) else (
 ∃ (av6 : Option Addr) (ad4 : Nat) (an8 : Nat), ai.cell? ((blk w.heap.size).add 18) = some (.slice av6 ad4 an8) ∧
 bif decide ((ad4 : Int) > 0) then (
 R (.bool false) ai) else (
 ∃ (om : Int), ai.cell? ((blk w.heap.size).add 0) = some (.int .i64 om) ∧
 bif om == 3 then (
 R (.bool true) ai) else (
 ∃ (zp : Int), ai.cell? ((blk w.heap.size).add 19) = some (.int .u64 zp) ∧
 R (.bool (zp == 0)) ai)))) else (
 ∃ (qf : Int), ai.cell? ((blk w.heap.size).add 0) = some (.int .i64 qf) ∧
 bif qf == 3 then (
 R (.bool true) ai) else (
 ∃ (a08 : Int), ai.cell? ((blk w.heap.size).add 19) = some (.int .u64 a08) ∧
 R (.bool (a08 == 0)) ai))))) else (
 bif a0 == 3 then (
 ∃ (xn : Int), a5.cell? ((blk w.heap.size).add 17) = some (.int .i64 xn) ∧
 bif decide (xn < 0) then (
 R (.bool false) a5) else (
 ∃ (a52 : Int), a5.cell? ((blk w.heap.size).add 17) = some (.int .i64 a52) ∧
 bif decide (a52 ≥ 8) then (
 R (.bool false) a5) else (
 ∃ (a99 : Option Addr) (ai4 : Nat) (a80 : Nat), a5.cell? ((blk w.heap.size).add 18) = some (.slice a99 ai4 a80) ∧
 Calls Try.prog 73 #[.slice a99 ai4 a80] a5 fun aw0 b2 => ∃ (lj : Bool), aw0 = .returned (.bool lj) ∧
 bif !lj then (
 R (.bool false) b2) else (
 bif !(a0 == 3) then (
 ∃ (zf : Int), b2.cell? ((blk w.heap.size).add 17) = some (.int .i64 zf) ∧
 bif zf != 0 then (
 R (.bool false) b2) else (
 ∃ (as0 : Option Addr) (ac4 : Nat) (at7 : Nat), b2.cell? ((blk w.heap.size).add 18) = some (.slice as0 ac4 at7) ∧
 bif decide ((ac4 : Int) > 0) then (
 R (.bool false) b2) else (
 ∃ (n9 : Int), b2.cell? ((blk w.heap.size).add 0) = some (.int .i64 n9) ∧
 bif n9 == 3 then (
 R (.bool true) b2) else (
 ∃ (xs : Int), b2.cell? ((blk w.heap.size).add 19) = some (.int .u64 xs) ∧
 R (.bool (xs == 0)) b2)))) else (
 ∃ (oe : Int), b2.cell? ((blk w.heap.size).add 0) = some (.int .i64 oe) ∧
 bif oe == 3 then (
 R (.bool true) b2) else (
 ∃ (z3 : Int), b2.cell? ((blk w.heap.size).add 19) = some (.int .u64 z3) ∧
 R (.bool (z3 == 0)) b2)))))) else (
 bif !(a0 == 3) then (
 ∃ (z4 : Int), a5.cell? ((blk w.heap.size).add 17) = some (.int .i64 z4) ∧
 bif z4 != 0 then (
 R (.bool false) a5) else (
 ∃ (b32 : Option Addr) (ag0 : Nat) (av3 : Nat), a5.cell? ((blk w.heap.size).add 18) = some (.slice b32 ag0 av3) ∧
 bif decide ((ag0 : Int) > 0) then (
 R (.bool false) a5) else (
 ∃ (pk : Int), a5.cell? ((blk w.heap.size).add 0) = some (.int .i64 pk) ∧
 bif pk == 3 then (
 R (.bool true) a5) else (
 ∃ (ud : Int), a5.cell? ((blk w.heap.size).add 19) = some (.int .u64 ud) ∧
 R (.bool (ud == 0)) a5)))) else (
 ∃ (tw : Int), a5.cell? ((blk w.heap.size).add 0) = some (.int .i64 tw) ∧
 bif tw == 3 then (
 R (.bool true) a5) else (
 ∃ (z7 : Int), a5.cell? ((blk w.heap.size).add 19) = some (.int .u64 z7) ∧
 R (.bool (z7 == 0)) a5))))))) else (
 bif a2 == 4 then (
 ∃ (ca : Int) (fm : Int) (lo : Int) (nb : Int) (oa : Int) (em : Int) (df : Option Addr) (f0 : Nat) (e5 : Nat) (tx : Int), cellsAt a3 ((blk w.heap.size).add 9) [.int .i64 ca, .int .i64 fm, .int .u64 lo, .int .i64 nb, .int .i64 oa, .int .i64 em, .slice df f0 e5, .int .u64 tx] 0 ∧
 Calls Try.prog 76 #[.agg #[.int .i64 ca, .int .i64 fm, .int .u64 lo, .int .i64 nb, .int .i64 oa, .int .i64 em, .slice df f0 e5, .int .u64 tx]] a3 fun au3 ab => ∃ (ki : Bool), au3 = .returned (.bool ki) ∧
 bif !ki then (
 R (.bool false) ab) else (
 bif !(a2 == 4) then (
 ∃ (bu : Int) (e0 : Int) (md : Int) (tp : Int) (sb : Int) (g5 : Int) (e8 : Option Addr) (d3 : Nat) (io : Nat) (tf : Int), cellsAt ab ((blk w.heap.size).add 9) [.int .i64 bu, .int .i64 e0, .int .u64 md, .int .i64 tp, .int .i64 sb, .int .i64 g5, .slice e8 d3 io, .int .u64 tf] 0 ∧
 Calls Try.prog 77 #[.agg #[.int .i64 bu, .int .i64 e0, .int .u64 md, .int .i64 tp, .int .i64 sb, .int .i64 g5, .slice e8 d3 io, .int .u64 tf]] ab fun b09 ak => ∃ (iy : Bool), b09 = .returned (.bool iy) ∧
 bif !iy then (
 R (.bool false) ak) else (
 bif a0 == 3 then (
 ∃ (vk : Int), ak.cell? ((blk w.heap.size).add 17) = some (.int .i64 vk) ∧
 bif decide (vk < 0) then (
 R (.bool false) ak) else (
 ∃ (z9 : Int), ak.cell? ((blk w.heap.size).add 17) = some (.int .i64 z9) ∧
 bif decide (z9 ≥ 8) then (
 R (.bool false) ak) else (
 ∃ (al3 : Option Addr) (a98 : Nat) (ae7 : Nat), ak.cell? ((blk w.heap.size).add 18) = some (.slice al3 a98 ae7) ∧
 Calls Try.prog 73 #[.slice al3 a98 ae7] ak fun aw3 b3 => ∃ (kr : Bool), aw3 = .returned (.bool kr) ∧
 bif !kr then (
 R (.bool false) b3) else (
 bif !(a0 == 3) then (
 ∃ (zv : Int), b3.cell? ((blk w.heap.size).add 17) = some (.int .i64 zv) ∧
 bif zv != 0 then (
 R (.bool false) b3) else (
 ∃ (an3 : Option Addr) (af8 : Nat) (b03 : Nat), b3.cell? ((blk w.heap.size).add 18) = some (.slice an3 af8 b03) ∧
 bif decide ((af8 : Int) > 0) then (
 R (.bool false) b3) else (
 ∃ (pd : Int), b3.cell? ((blk w.heap.size).add 0) = some (.int .i64 pd) ∧
 bif pd == 3 then (
 R (.bool true) b3) else (
 ∃ (v7 : Int), b3.cell? ((blk w.heap.size).add 19) = some (.int .u64 v7) ∧
 R (.bool (v7 == 0)) b3)))) else (
 ∃ (ov : Int), b3.cell? ((blk w.heap.size).add 0) = some (.int .i64 ov) ∧
 bif ov == 3 then (
 R (.bool true) b3) else (
 ∃ (zn : Int), b3.cell? ((blk w.heap.size).add 19) = some (.int .u64 zn) ∧
 R (.bool (zn == 0)) b3)))))) else (
 bif !(a0 == 3) then (
 ∃ (v1 : Int), ak.cell? ((blk w.heap.size).add 17) = some (.int .i64 v1) ∧
 bif v1 != 0 then (
 R (.bool false) ak) else (
 ∃ (aw1 : Option Addr) (af6 : Nat) (au1 : Nat), ak.cell? ((blk w.heap.size).add 18) = some (.slice aw1 af6 au1) ∧
 bif decide ((af6 : Int) > 0) then (
 R (.bool false) ak) else (
 ∃ (q7 : Int), ak.cell? ((blk w.heap.size).add 0) = some (.int .i64 q7) ∧
 bif q7 == 3 then (
 R (.bool true) ak) else (
 ∃ (a18 : Int), ak.cell? ((blk w.heap.size).add 19) = some (.int .u64 a18) ∧
 R (.bool (a18 == 0)) ak)))) else (
 ∃ (q3 : Int), ak.cell? ((blk w.heap.size).add 0) = some (.int .i64 q3) ∧
 bif q3 == 3 then (
 R (.bool true) ak) else (
 ∃ (um : Int), ak.cell? ((blk w.heap.size).add 19) = some (.int .u64 um) ∧
 R (.bool (um == 0)) ak))))) else (
 bif a0 == 3 then (
 ∃ (a39 : Int), ab.cell? ((blk w.heap.size).add 17) = some (.int .i64 a39) ∧
 bif decide (a39 < 0) then (
 R (.bool false) ab) else (
 ∃ (a47 : Int), ab.cell? ((blk w.heap.size).add 17) = some (.int .i64 a47) ∧
 bif decide (a47 ≥ 8) then (
 R (.bool false) ab) else (
 ∃ (ab2 : Option Addr) (ah3 : Nat) (am0 : Nat), ab.cell? ((blk w.heap.size).add 18) = some (.slice ab2 ah3 am0) ∧
 Calls Try.prog 73 #[.slice ab2 ah3 am0] ab fun ao3 ar => ∃ (mm : Bool), ao3 = .returned (.bool mm) ∧
 bif !mm then (
 R (.bool false) ar) else (
 bif !(a0 == 3) then (
 ∃ (a00 : Int), ar.cell? ((blk w.heap.size).add 17) = some (.int .i64 a00) ∧
 bif a00 != 0 then (
 R (.bool false) ar) else (
 ∃ (ay5 : Option Addr) (a81 : Nat) (ay1 : Nat), ar.cell? ((blk w.heap.size).add 18) = some (.slice ay5 a81 ay1) ∧
 bif decide ((a81 : Int) > 0) then (
 R (.bool false) ar) else (
 ∃ (nt : Int), ar.cell? ((blk w.heap.size).add 0) = some (.int .i64 nt) ∧
 bif nt == 3 then (
 R (.bool true) ar) else (
 ∃ (xb : Int), ar.cell? ((blk w.heap.size).add 19) = some (.int .u64 xb) ∧
 R (.bool (xb == 0)) ar)))) else (
 ∃ (nv : Int), ar.cell? ((blk w.heap.size).add 0) = some (.int .i64 nv) ∧
 bif nv == 3 then (
 R (.bool true) ar) else (
 ∃ (a14 : Int), ar.cell? ((blk w.heap.size).add 19) = some (.int .u64 a14) ∧
 R (.bool (a14 == 0)) ar)))))) else (
 bif !(a0 == 3) then (
 ∃ (a49 : Int), ab.cell? ((blk w.heap.size).add 17) = some (.int .i64 a49) ∧
 bif a49 != 0 then (
 R (.bool false) ab) else (
 ∃ (az6 : Option Addr) (ai9 : Nat) (b26 : Nat), ab.cell? ((blk w.heap.size).add 18) = some (.slice az6 ai9 b26) ∧
 bif decide ((ai9 : Int) > 0) then (
 R (.bool false) ab) else (
 ∃ (tc : Int), ab.cell? ((blk w.heap.size).add 0) = some (.int .i64 tc) ∧
 bif tc == 3 then (
 R (.bool true) ab) else (
 ∃ (xy : Int), ab.cell? ((blk w.heap.size).add 19) = some (.int .u64 xy) ∧
 R (.bool (xy == 0)) ab)))) else (
 ∃ (tj : Int), ab.cell? ((blk w.heap.size).add 0) = some (.int .i64 tj) ∧
 bif tj == 3 then (
 R (.bool true) ab) else (
 ∃ (a53 : Int), ab.cell? ((blk w.heap.size).add 19) = some (.int .u64 a53) ∧
 R (.bool (a53 == 0)) ab)))))) else (
 bif !(a2 == 4) then (
 ∃ (bq : Int) (d8 : Int) (jn : Int) (ot : Int) (py : Int) (dk : Int) (gr : Option Addr) (dw : Nat) (i5 : Nat) (qw : Int), cellsAt a3 ((blk w.heap.size).add 9) [.int .i64 bq, .int .i64 d8, .int .u64 jn, .int .i64 ot, .int .i64 py, .int .i64 dk, .slice gr dw i5, .int .u64 qw] 0 ∧
 Calls Try.prog 77 #[.agg #[.int .i64 bq, .int .i64 d8, .int .u64 jn, .int .i64 ot, .int .i64 py, .int .i64 dk, .slice gr dw i5, .int .u64 qw]] a3 fun b00 ae => ∃ (j5 : Bool), b00 = .returned (.bool j5) ∧
 bif !j5 then (
 R (.bool false) ae) else (
 bif a0 == 3 then (
 ∃ (yo : Int), ae.cell? ((blk w.heap.size).add 17) = some (.int .i64 yo) ∧
 bif decide (yo < 0) then (
 R (.bool false) ae) else (
 ∃ (ui : Int), ae.cell? ((blk w.heap.size).add 17) = some (.int .i64 ui) ∧
 bif decide (ui ≥ 8) then (
 R (.bool false) ae) else (
 ∃ (a97 : Option Addr) (ag3 : Nat) (ah2 : Nat), ae.cell? ((blk w.heap.size).add 18) = some (.slice a97 ag3 ah2) ∧
 Calls Try.prog 73 #[.slice a97 ag3 ah2] ae fun ar0 b1 => ∃ (jb : Bool), ar0 = .returned (.bool jb) ∧
 bif !jb then (
 R (.bool false) b1) else (
 bif !(a0 == 3) then (
 ∃ (zu : Int), b1.cell? ((blk w.heap.size).add 17) = some (.int .i64 zu) ∧
 bif zu != 0 then (
 R (.bool false) b1) else (
 ∃ (ar4 : Option Addr) (ak6 : Nat) (az4 : Nat), b1.cell? ((blk w.heap.size).add 18) = some (.slice ar4 ak6 az4) ∧
 bif decide ((ak6 : Int) > 0) then (
 R (.bool false) b1) else (
 ∃ (qo : Int), b1.cell? ((blk w.heap.size).add 0) = some (.int .i64 qo) ∧
 bif qo == 3 then (
 R (.bool true) b1) else (
 ∃ (a19 : Int), b1.cell? ((blk w.heap.size).add 19) = some (.int .u64 a19) ∧
 R (.bool (a19 == 0)) b1)))) else (
 ∃ (p5 : Int), b1.cell? ((blk w.heap.size).add 0) = some (.int .i64 p5) ∧
 bif p5 == 3 then (
 R (.bool true) b1) else (
 ∃ (zb : Int), b1.cell? ((blk w.heap.size).add 19) = some (.int .u64 zb) ∧
 R (.bool (zb == 0)) b1)))))) else (
 bif !(a0 == 3) then (
 ∃ (xw : Int), ae.cell? ((blk w.heap.size).add 17) = some (.int .i64 xw) ∧
 bif xw != 0 then (
 R (.bool false) ae) else (
 ∃ (as9 : Option Addr) (ah9 : Nat) (an4 : Nat), ae.cell? ((blk w.heap.size).add 18) = some (.slice as9 ah9 an4) ∧
 bif decide ((ah9 : Int) > 0) then (
 R (.bool false) ae) else (
 ∃ (p0 : Int), ae.cell? ((blk w.heap.size).add 0) = some (.int .i64 p0) ∧
 bif p0 == 3 then (
 R (.bool true) ae) else (
 ∃ (a24 : Int), ae.cell? ((blk w.heap.size).add 19) = some (.int .u64 a24) ∧
 R (.bool (a24 == 0)) ae)))) else (
 ∃ (qy : Int), ae.cell? ((blk w.heap.size).add 0) = some (.int .i64 qy) ∧
 bif qy == 3 then (
 R (.bool true) ae) else (
 ∃ (v8 : Int), ae.cell? ((blk w.heap.size).add 19) = some (.int .u64 v8) ∧
 R (.bool (v8 == 0)) ae))))) else (
 bif a0 == 3 then (
 ∃ (z6 : Int), a3.cell? ((blk w.heap.size).add 17) = some (.int .i64 z6) ∧
 bif decide (z6 < 0) then (
 R (.bool false) a3) else (
 ∃ (a27 : Int), a3.cell? ((blk w.heap.size).add 17) = some (.int .i64 a27) ∧
 bif decide (a27 ≥ 8) then (
 R (.bool false) a3) else (
 ∃ (ad3 : Option Addr) (ae0 : Nat) (aa7 : Nat), a3.cell? ((blk w.heap.size).add 18) = some (.slice ad3 ae0 aa7) ∧
 Calls Try.prog 73 #[.slice ad3 ae0 aa7] a3 fun as5 b8 => ∃ (kl : Bool), as5 = .returned (.bool kl) ∧
 bif !kl then (
 R (.bool false) b8) else (
 bif !(a0 == 3) then (
 ∃ (yx : Int), b8.cell? ((blk w.heap.size).add 17) = some (.int .i64 yx) ∧
 bif yx != 0 then (
 R (.bool false) b8) else (
 ∃ (ar1 : Option Addr) (a95 : Nat) (ap2 : Nat), b8.cell? ((blk w.heap.size).add 18) = some (.slice ar1 a95 ap2) ∧
 bif decide ((a95 : Int) > 0) then (
 R (.bool false) b8) else (
 ∃ (o1 : Int), b8.cell? ((blk w.heap.size).add 0) = some (.int .i64 o1) ∧
 bif o1 == 3 then (
 R (.bool true) b8) else (
 ∃ (v2 : Int), b8.cell? ((blk w.heap.size).add 19) = some (.int .u64 v2) ∧
 R (.bool (v2 == 0)) b8)))) else (
 ∃ (o3 : Int), b8.cell? ((blk w.heap.size).add 0) = some (.int .i64 o3) ∧
 bif o3 == 3 then (
 R (.bool true) b8) else (
 ∃ (a25 : Int), b8.cell? ((blk w.heap.size).add 19) = some (.int .u64 a25) ∧
 R (.bool (a25 == 0)) b8)))))) else (
 bif !(a0 == 3) then (
 ∃ (un : Int), a3.cell? ((blk w.heap.size).add 17) = some (.int .i64 un) ∧
 bif un != 0 then (
 R (.bool false) a3) else (
 ∃ (aq0 : Option Addr) (am3 : Nat) (b13 : Nat), a3.cell? ((blk w.heap.size).add 18) = some (.slice aq0 am3 b13) ∧
 bif decide ((am3 : Int) > 0) then (
 R (.bool false) a3) else (
 ∃ (s2 : Int), a3.cell? ((blk w.heap.size).add 0) = some (.int .i64 s2) ∧
 bif s2 == 3 then (
 R (.bool true) a3) else (
 ∃ (a38 : Int), a3.cell? ((blk w.heap.size).add 19) = some (.int .u64 a38) ∧
 R (.bool (a38 == 0)) a3)))) else (
 ∃ (nn : Int), a3.cell? ((blk w.heap.size).add 0) = some (.int .i64 nn) ∧
 bif nn == 3 then (
 R (.bool true) a3) else (
 ∃ (a50 : Int), a3.cell? ((blk w.heap.size).add 19) = some (.int .u64 a50) ∧
 R (.bool (a50 == 0)) a3)))))))) else (
 bif !(ba == 4) then (
 ∃ (bw : Int) (i9 : Int) (iv : Int) (sy : Int) (o0 : Int) (fq : Int) (f8 : Option Addr) (gb : Nat) (gy : Nat) (qv : Int), cellsAt a1 ((blk w.heap.size).add 1) [.int .i64 bw, .int .i64 i9, .int .u64 iv, .int .i64 sy, .int .i64 o0, .int .i64 fq, .slice f8 gb gy, .int .u64 qv] 0 ∧
 Calls Try.prog 77 #[.agg #[.int .i64 bw, .int .i64 i9, .int .u64 iv, .int .i64 sy, .int .i64 o0, .int .i64 fq, .slice f8 gb gy, .int .u64 qv]] a1 fun an6 a4 => ∃ (m4 : Bool), an6 = .returned (.bool m4) ∧
 bif !m4 then (
 R (.bool false) a4) else (
 bif a2 == 4 then (
 ∃ (c5 : Int) (gw : Int) (lm : Int) (q9 : Int) (t5 : Int) (dl : Int) (dh : Option Addr) (eg : Nat) (i7 : Nat) (ob : Int), cellsAt a4 ((blk w.heap.size).add 9) [.int .i64 c5, .int .i64 gw, .int .u64 lm, .int .i64 q9, .int .i64 t5, .int .i64 dl, .slice dh eg i7, .int .u64 ob] 0 ∧
 Calls Try.prog 76 #[.agg #[.int .i64 c5, .int .i64 gw, .int .u64 lm, .int .i64 q9, .int .i64 t5, .int .i64 dl, .slice dh eg i7, .int .u64 ob]] a4 fun b36 a9 => ∃ (lw : Bool), b36 = .returned (.bool lw) ∧
 bif !lw then (
 R (.bool false) a9) else (
 bif !(a2 == 4) then (
 ∃ (c4 : Int) (fl : Int) (m6 : Int) (tl : Int) (mw : Int) (cq : Int) (fd : Option Addr) (g7 : Nat) (gc : Nat) (sg : Int), cellsAt a9 ((blk w.heap.size).add 9) [.int .i64 c4, .int .i64 fl, .int .u64 m6, .int .i64 tl, .int .i64 mw, .int .i64 cq, .slice fd g7 gc, .int .u64 sg] 0 ∧
 Calls Try.prog 77 #[.agg #[.int .i64 c4, .int .i64 fl, .int .u64 m6, .int .i64 tl, .int .i64 mw, .int .i64 cq, .slice fd g7 gc, .int .u64 sg]] a9 fun ar3 am => ∃ (l6 : Bool), ar3 = .returned (.bool l6) ∧
 bif !l6 then (
 R (.bool false) am) else (
 bif a0 == 3 then (
 ∃ (uj : Int), am.cell? ((blk w.heap.size).add 17) = some (.int .i64 uj) ∧
 bif decide (uj < 0) then (
 R (.bool false) am) else (
 ∃ (a61 : Int), am.cell? ((blk w.heap.size).add 17) = some (.int .i64 a61) ∧
 bif decide (a61 ≥ 8) then (
 R (.bool false) am) else (
 ∃ (ad5 : Option Addr) (aa3 : Nat) (ak4 : Nat), am.cell? ((blk w.heap.size).add 18) = some (.slice ad5 aa3 ak4) ∧
 Calls Try.prog 73 #[.slice ad5 aa3 ak4] am fun az8 au => ∃ (kn : Bool), az8 = .returned (.bool kn) ∧
 bif !kn then (
 R (.bool false) au) else (
 bif !(a0 == 3) then (
 ∃ (z1 : Int), au.cell? ((blk w.heap.size).add 17) = some (.int .i64 z1) ∧
 bif z1 != 0 then (
 R (.bool false) au) else (
 ∃ (an9 : Option Addr) (ae8 : Nat) (as7 : Nat), au.cell? ((blk w.heap.size).add 18) = some (.slice an9 ae8 as7) ∧
 bif decide ((ae8 : Int) > 0) then (
 R (.bool false) au) else (
 ∃ (pi : Int), au.cell? ((blk w.heap.size).add 0) = some (.int .i64 pi) ∧
 bif pi == 3 then (
 R (.bool true) au) else (
 ∃ (yd : Int), au.cell? ((blk w.heap.size).add 19) = some (.int .u64 yd) ∧
 R (.bool (yd == 0)) au)))) else (
 ∃ (t2 : Int), au.cell? ((blk w.heap.size).add 0) = some (.int .i64 t2) ∧
 bif t2 == 3 then (
 R (.bool true) au) else (
 ∃ (uw : Int), au.cell? ((blk w.heap.size).add 19) = some (.int .u64 uw) ∧
 R (.bool (uw == 0)) au)))))) else (
 bif !(a0 == 3) then (
 ∃ (yj : Int), am.cell? ((blk w.heap.size).add 17) = some (.int .i64 yj) ∧
 bif yj != 0 then (
 R (.bool false) am) else (
 ∃ (aq8 : Option Addr) (a72 : Nat) (b08 : Nat), am.cell? ((blk w.heap.size).add 18) = some (.slice aq8 a72 b08) ∧
 bif decide ((a72 : Int) > 0) then (
 R (.bool false) am) else (
 ∃ (o2 : Int), am.cell? ((blk w.heap.size).add 0) = some (.int .i64 o2) ∧
 bif o2 == 3 then (
 R (.bool true) am) else (
 ∃ (vy : Int), am.cell? ((blk w.heap.size).add 19) = some (.int .u64 vy) ∧
 R (.bool (vy == 0)) am)))) else (
 ∃ (sr : Int), am.cell? ((blk w.heap.size).add 0) = some (.int .i64 sr) ∧
 bif sr == 3 then (
 R (.bool true) am) else (
 ∃ (vp : Int), am.cell? ((blk w.heap.size).add 19) = some (.int .u64 vp) ∧
 R (.bool (vp == 0)) am))))) else (
 bif a0 == 3 then (
 ∃ (yy : Int), a9.cell? ((blk w.heap.size).add 17) = some (.int .i64 yy) ∧
 bif decide (yy < 0) then (
 R (.bool false) a9) else (
 ∃ (vf : Int), a9.cell? ((blk w.heap.size).add 17) = some (.int .i64 vf) ∧
 bif decide (vf ≥ 8) then (
 R (.bool false) a9) else (
 ∃ (ab9 : Option Addr) (ad8 : Nat) (aa5 : Nat), a9.cell? ((blk w.heap.size).add 18) = some (.slice ab9 ad8 aa5) ∧
 Calls Try.prog 73 #[.slice ab9 ad8 aa5] a9 fun ao2 b0 => ∃ (jy : Bool), ao2 = .returned (.bool jy) ∧
 bif !jy then (
 R (.bool false) b0) else (
 bif !(a0 == 3) then (
 ∃ (up : Int), b0.cell? ((blk w.heap.size).add 17) = some (.int .i64 up) ∧
 bif up != 0 then (
 R (.bool false) b0) else (
 ∃ (az9 : Option Addr) (ae6 : Nat) (an5 : Nat), b0.cell? ((blk w.heap.size).add 18) = some (.slice az9 ae6 an5) ∧
 bif decide ((ae6 : Int) > 0) then (
 R (.bool false) b0) else (
 ∃ (s7 : Int), b0.cell? ((blk w.heap.size).add 0) = some (.int .i64 s7) ∧
 bif s7 == 3 then (
 R (.bool true) b0) else (
 ∃ (a15 : Int), b0.cell? ((blk w.heap.size).add 19) = some (.int .u64 a15) ∧
 R (.bool (a15 == 0)) b0)))) else (
 ∃ (tq : Int), b0.cell? ((blk w.heap.size).add 0) = some (.int .i64 tq) ∧
 bif tq == 3 then (
 R (.bool true) b0) else (
 ∃ (u6 : Int), b0.cell? ((blk w.heap.size).add 19) = some (.int .u64 u6) ∧
 R (.bool (u6 == 0)) b0)))))) else (
 bif !(a0 == 3) then (
 ∃ (ux : Int), a9.cell? ((blk w.heap.size).add 17) = some (.int .i64 ux) ∧
 bif ux != 0 then (
 R (.bool false) a9) else (
 ∃ (av8 : Option Addr) (am5 : Nat) (aw2 : Nat), a9.cell? ((blk w.heap.size).add 18) = some (.slice av8 am5 aw2) ∧
 bif decide ((am5 : Int) > 0) then (
 R (.bool false) a9) else (
 ∃ (nw : Int), a9.cell? ((blk w.heap.size).add 0) = some (.int .i64 nw) ∧
 bif nw == 3 then (
 R (.bool true) a9) else (
 ∃ (a62 : Int), a9.cell? ((blk w.heap.size).add 19) = some (.int .u64 a62) ∧
 R (.bool (a62 == 0)) a9)))) else (
 ∃ (qi : Int), a9.cell? ((blk w.heap.size).add 0) = some (.int .i64 qi) ∧
 bif qi == 3 then (
 R (.bool true) a9) else (
 ∃ (ul : Int), a9.cell? ((blk w.heap.size).add 19) = some (.int .u64 ul) ∧
 R (.bool (ul == 0)) a9)))))) else (
 bif !(a2 == 4) then (
 ∃ (bt : Int) (cs : Int) (k0 : Int) (n1 : Int) (od : Int) (dj : Int) (g6 : Option Addr) (fu : Nat) (f6 : Nat) (p2 : Int), cellsAt a4 ((blk w.heap.size).add 9) [.int .i64 bt, .int .i64 cs, .int .u64 k0, .int .i64 n1, .int .i64 od, .int .i64 dj, .slice g6 fu f6, .int .u64 p2] 0 ∧
 Calls Try.prog 77 #[.agg #[.int .i64 bt, .int .i64 cs, .int .u64 k0, .int .i64 n1, .int .i64 od, .int .i64 dj, .slice g6 fu f6, .int .u64 p2]] a4 fun aq1 aj => ∃ (m0 : Bool), aq1 = .returned (.bool m0) ∧
 bif !m0 then (
 R (.bool false) aj) else (
 bif a0 == 3 then (
 ∃ (xx : Int), aj.cell? ((blk w.heap.size).add 17) = some (.int .i64 xx) ∧
 bif decide (xx < 0) then (
 R (.bool false) aj) else (
 ∃ (a01 : Int), aj.cell? ((blk w.heap.size).add 17) = some (.int .i64 a01) ∧
 bif decide (a01 ≥ 8) then (
 R (.bool false) aj) else (
 ∃ (ag2 : Option Addr) (al5 : Nat) (a84 : Nat), aj.cell? ((blk w.heap.size).add 18) = some (.slice ag2 al5 a84) ∧
 Calls Try.prog 73 #[.slice ag2 al5 a84] aj fun b17 ax => ∃ (jt : Bool), b17 = .returned (.bool jt) ∧
 bif !jt then (
 R (.bool false) ax) else (
 bif !(a0 == 3) then (
 ∃ (xm : Int), ax.cell? ((blk w.heap.size).add 17) = some (.int .i64 xm) ∧
 bif xm != 0 then (
 R (.bool false) ax) else (
 ∃ (ax9 : Option Addr) (aa6 : Nat) (b10 : Nat), ax.cell? ((blk w.heap.size).add 18) = some (.slice ax9 aa6 b10) ∧
 bif decide ((aa6 : Int) > 0) then (
 R (.bool false) ax) else (
 ∃ (o6 : Int), ax.cell? ((blk w.heap.size).add 0) = some (.int .i64 o6) ∧
 bif o6 == 3 then (
 R (.bool true) ax) else (
 ∃ (vz : Int), ax.cell? ((blk w.heap.size).add 19) = some (.int .u64 vz) ∧
 R (.bool (vz == 0)) ax)))) else (
 ∃ (pa : Int), ax.cell? ((blk w.heap.size).add 0) = some (.int .i64 pa) ∧
 bif pa == 3 then (
 R (.bool true) ax) else (
 ∃ (a37 : Int), ax.cell? ((blk w.heap.size).add 19) = some (.int .u64 a37) ∧
 R (.bool (a37 == 0)) ax)))))) else (
 bif !(a0 == 3) then (
 ∃ (zy : Int), aj.cell? ((blk w.heap.size).add 17) = some (.int .i64 zy) ∧
 bif zy != 0 then (
 R (.bool false) aj) else (
 ∃ (at5 : Option Addr) (a70 : Nat) (ax0 : Nat), aj.cell? ((blk w.heap.size).add 18) = some (.slice at5 a70 ax0) ∧
 bif decide ((a70 : Int) > 0) then (
 R (.bool false) aj) else (
 ∃ (p6 : Int), aj.cell? ((blk w.heap.size).add 0) = some (.int .i64 p6) ∧
 bif p6 == 3 then (
 R (.bool true) aj) else (
 ∃ (a31 : Int), aj.cell? ((blk w.heap.size).add 19) = some (.int .u64 a31) ∧
 R (.bool (a31 == 0)) aj)))) else (
 ∃ (pv : Int), aj.cell? ((blk w.heap.size).add 0) = some (.int .i64 pv) ∧
 bif pv == 3 then (
 R (.bool true) aj) else (
 ∃ (v9 : Int), aj.cell? ((blk w.heap.size).add 19) = some (.int .u64 v9) ∧
 R (.bool (v9 == 0)) aj))))) else (
 bif a0 == 3 then (
 ∃ (a07 : Int), a4.cell? ((blk w.heap.size).add 17) = some (.int .i64 a07) ∧
 bif decide (a07 < 0) then (
 R (.bool false) a4) else (
 ∃ (a23 : Int), a4.cell? ((blk w.heap.size).add 17) = some (.int .i64 a23) ∧
 bif decide (a23 ≥ 8) then (
 R (.bool false) a4) else (
 ∃ (ad9 : Option Addr) (ag9 : Nat) (aa0 : Nat), a4.cell? ((blk w.heap.size).add 18) = some (.slice ad9 ag9 aa0) ∧
 Calls Try.prog 73 #[.slice ad9 ag9 aa0] a4 fun b28 b5 => ∃ (kh : Bool), b28 = .returned (.bool kh) ∧
 bif !kh then (
 R (.bool false) b5) else (
 bif !(a0 == 3) then (
 ∃ (a48 : Int), b5.cell? ((blk w.heap.size).add 17) = some (.int .i64 a48) ∧
 bif a48 != 0 then (
 R (.bool false) b5) else (
 ∃ (au9 : Option Addr) (aj6 : Nat) (b22 : Nat), b5.cell? ((blk w.heap.size).add 18) = some (.slice au9 aj6 b22) ∧
 bif decide ((aj6 : Int) > 0) then (
 R (.bool false) b5) else (
 ∃ (nd : Int), b5.cell? ((blk w.heap.size).add 0) = some (.int .i64 nd) ∧
 bif nd == 3 then (
 R (.bool true) b5) else (
 ∃ (a28 : Int), b5.cell? ((blk w.heap.size).add 19) = some (.int .u64 a28) ∧
 R (.bool (a28 == 0)) b5)))) else (
 ∃ (nu : Int), b5.cell? ((blk w.heap.size).add 0) = some (.int .i64 nu) ∧
 bif nu == 3 then (
 R (.bool true) b5) else (
 ∃ (xd : Int), b5.cell? ((blk w.heap.size).add 19) = some (.int .u64 xd) ∧
 R (.bool (xd == 0)) b5)))))) else (
 bif !(a0 == 3) then (
 ∃ (zw : Int), a4.cell? ((blk w.heap.size).add 17) = some (.int .i64 zw) ∧
 bif zw != 0 then (
 R (.bool false) a4) else (
 ∃ (ao9 : Option Addr) (a69 : Nat) (av0 : Nat), a4.cell? ((blk w.heap.size).add 18) = some (.slice ao9 a69 av0) ∧
 bif decide ((a69 : Int) > 0) then (
 R (.bool false) a4) else (
 ∃ (sl : Int), a4.cell? ((blk w.heap.size).add 0) = some (.int .i64 sl) ∧
 bif sl == 3 then (
 R (.bool true) a4) else (
 ∃ (a11 : Int), a4.cell? ((blk w.heap.size).add 19) = some (.int .u64 a11) ∧
 R (.bool (a11 == 0)) a4)))) else (
 ∃ (nj : Int), a4.cell? ((blk w.heap.size).add 0) = some (.int .i64 nj) ∧
 bif nj == 3 then (
 R (.bool true) a4) else (
 ∃ (y1 : Int), a4.cell? ((blk w.heap.size).add 19) = some (.int .u64 y1) ∧
 R (.bool (y1 == 0)) a4))))))) else (
 bif a2 == 4 then (
 ∃ (bi : Int) (ig : Int) (ly : Int) (q8 : Int) (t9 : Int) (d5 : Int) (fr : Option Addr) (ds : Nat) (dr : Nat) (sa : Int), cellsAt a1 ((blk w.heap.size).add 9) [.int .i64 bi, .int .i64 ig, .int .u64 ly, .int .i64 q8, .int .i64 t9, .int .i64 d5, .slice fr ds dr, .int .u64 sa] 0 ∧
 Calls Try.prog 76 #[.agg #[.int .i64 bi, .int .i64 ig, .int .u64 ly, .int .i64 q8, .int .i64 t9, .int .i64 d5, .slice fr ds dr, .int .u64 sa]] a1 fun b07 a8 => ∃ (jz : Bool), b07 = .returned (.bool jz) ∧
 bif !jz then (
 R (.bool false) a8) else (
 bif !(a2 == 4) then (
 ∃ (ch : Int) (gn : Int) (lz : Int) (ox : Int) (se : Int) (ed : Int) (ip : Option Addr) (fs : Nat) (ev : Nat) (ou : Int), cellsAt a8 ((blk w.heap.size).add 9) [.int .i64 ch, .int .i64 gn, .int .u64 lz, .int .i64 ox, .int .i64 se, .int .i64 ed, .slice ip fs ev, .int .u64 ou] 0 ∧
 Calls Try.prog 77 #[.agg #[.int .i64 ch, .int .i64 gn, .int .u64 lz, .int .i64 ox, .int .i64 se, .int .i64 ed, .slice ip fs ev, .int .u64 ou]] a8 fun b04 ad => ∃ (l3 : Bool), b04 = .returned (.bool l3) ∧
 bif !l3 then (
 R (.bool false) ad) else (
 bif a0 == 3 then (
 ∃ (xr : Int), ad.cell? ((blk w.heap.size).add 17) = some (.int .i64 xr) ∧
 bif decide (xr < 0) then (
 R (.bool false) ad) else (
 ∃ (a59 : Int), ad.cell? ((blk w.heap.size).add 17) = some (.int .i64 a59) ∧
 bif decide (a59 ≥ 8) then (
 R (.bool false) ad) else (
 ∃ (a78 : Option Addr) (ai8 : Nat) (aj0 : Nat), ad.cell? ((blk w.heap.size).add 18) = some (.slice a78 ai8 aj0) ∧
 Calls Try.prog 73 #[.slice a78 ai8 aj0] ad fun ap7 b6 => ∃ (j8 : Bool), ap7 = .returned (.bool j8) ∧
 bif !j8 then (
 R (.bool false) b6) else (
 bif !(a0 == 3) then (
 ∃ (uy : Int), b6.cell? ((blk w.heap.size).add 17) = some (.int .i64 uy) ∧
 bif uy != 0 then (
 R (.bool false) b6) else (
 ∃ (an2 : Option Addr) (ac6 : Nat) (b06 : Nat), b6.cell? ((blk w.heap.size).add 18) = some (.slice an2 ac6 b06) ∧
 bif decide ((ac6 : Int) > 0) then (
 R (.bool false) b6) else (
 ∃ (qn : Int), b6.cell? ((blk w.heap.size).add 0) = some (.int .i64 qn) ∧
 bif qn == 3 then (
 R (.bool true) b6) else (
 ∃ (vq : Int), b6.cell? ((blk w.heap.size).add 19) = some (.int .u64 vq) ∧
 R (.bool (vq == 0)) b6)))) else (
 ∃ (qg : Int), b6.cell? ((blk w.heap.size).add 0) = some (.int .i64 qg) ∧
 bif qg == 3 then (
 R (.bool true) b6) else (
 ∃ (x2 : Int), b6.cell? ((blk w.heap.size).add 19) = some (.int .u64 x2) ∧
 R (.bool (x2 == 0)) b6)))))) else (
 bif !(a0 == 3) then (
 ∃ (a43 : Int), ad.cell? ((blk w.heap.size).add 17) = some (.int .i64 a43) ∧
 bif a43 != 0 then (
 R (.bool false) ad) else (
 ∃ (ao5 : Option Addr) (a88 : Nat) (aw6 : Nat), ad.cell? ((blk w.heap.size).add 18) = some (.slice ao5 a88 aw6) ∧
 bif decide ((a88 : Int) > 0) then (
 R (.bool false) ad) else (
 ∃ (ol : Int), ad.cell? ((blk w.heap.size).add 0) = some (.int .i64 ol) ∧
 bif ol == 3 then (
 R (.bool true) ad) else (
 ∃ (xh : Int), ad.cell? ((blk w.heap.size).add 19) = some (.int .u64 xh) ∧
 R (.bool (xh == 0)) ad)))) else (
 ∃ (tg : Int), ad.cell? ((blk w.heap.size).add 0) = some (.int .i64 tg) ∧
 bif tg == 3 then (
 R (.bool true) ad) else (
 ∃ (vt : Int), ad.cell? ((blk w.heap.size).add 19) = some (.int .u64 vt) ∧
 R (.bool (vt == 0)) ad))))) else (
 bif a0 == 3 then (
 ∃ (xf : Int), a8.cell? ((blk w.heap.size).add 17) = some (.int .i64 xf) ∧
 bif decide (xf < 0) then (
 R (.bool false) a8) else (
 ∃ (a60 : Int), a8.cell? ((blk w.heap.size).add 17) = some (.int .i64 a60) ∧
 bif decide (a60 ≥ 8) then (
 R (.bool false) a8) else (
 ∃ (af9 : Option Addr) (ai3 : Nat) (am4 : Nat), a8.cell? ((blk w.heap.size).add 18) = some (.slice af9 ai3 am4) ∧
 Calls Try.prog 73 #[.slice af9 ai3 am4] a8 fun b20 az => ∃ (jm : Bool), b20 = .returned (.bool jm) ∧
 bif !jm then (
 R (.bool false) az) else (
 bif !(a0 == 3) then (
 ∃ (a40 : Int), az.cell? ((blk w.heap.size).add 17) = some (.int .i64 a40) ∧
 bif a40 != 0 then (
 R (.bool false) az) else (
 ∃ (ar8 : Option Addr) (ab7 : Nat) (ay8 : Nat), az.cell? ((blk w.heap.size).add 18) = some (.slice ar8 ab7 ay8) ∧
 bif decide ((ab7 : Int) > 0) then (
 R (.bool false) az) else (
 ∃ (qp : Int), az.cell? ((blk w.heap.size).add 0) = some (.int .i64 qp) ∧
 bif qp == 3 then (
 R (.bool true) az) else (
 ∃ (yl : Int), az.cell? ((blk w.heap.size).add 19) = some (.int .u64 yl) ∧
 R (.bool (yl == 0)) az)))) else (
 ∃ (oi : Int), az.cell? ((blk w.heap.size).add 0) = some (.int .i64 oi) ∧
 bif oi == 3 then (
 R (.bool true) az) else (
 ∃ (xa : Int), az.cell? ((blk w.heap.size).add 19) = some (.int .u64 xa) ∧
 R (.bool (xa == 0)) az)))))) else (
 bif !(a0 == 3) then (
 ∃ (a12 : Int), a8.cell? ((blk w.heap.size).add 17) = some (.int .i64 a12) ∧
 bif a12 != 0 then (
 R (.bool false) a8) else (
 ∃ (aq5 : Option Addr) (ad1 : Nat) (ap5 : Nat), a8.cell? ((blk w.heap.size).add 18) = some (.slice aq5 ad1 ap5) ∧
 bif decide ((ad1 : Int) > 0) then (
 R (.bool false) a8) else (
 ∃ (mv : Int), a8.cell? ((blk w.heap.size).add 0) = some (.int .i64 mv) ∧
 bif mv == 3 then (
 R (.bool true) a8) else (
 ∃ (xg : Int), a8.cell? ((blk w.heap.size).add 19) = some (.int .u64 xg) ∧
 R (.bool (xg == 0)) a8)))) else (
 ∃ (pr : Int), a8.cell? ((blk w.heap.size).add 0) = some (.int .i64 pr) ∧
 bif pr == 3 then (
 R (.bool true) a8) else (
 ∃ (z2 : Int), a8.cell? ((blk w.heap.size).add 19) = some (.int .u64 z2) ∧
 R (.bool (z2 == 0)) a8)))))) else (
 bif !(a2 == 4) then (
 ∃ (cl : Int) (fh : Int) (lv : Int) (o5 : Int) (qj : Int) (ie : Int) (eu : Option Addr) (dt : Nat) (ih : Nat) (nf : Int), cellsAt a1 ((blk w.heap.size).add 9) [.int .i64 cl, .int .i64 fh, .int .u64 lv, .int .i64 o5, .int .i64 qj, .int .i64 ie, .slice eu dt ih, .int .u64 nf] 0 ∧
 Calls Try.prog 77 #[.agg #[.int .i64 cl, .int .i64 fh, .int .u64 lv, .int .i64 o5, .int .i64 qj, .int .i64 ie, .slice eu dt ih, .int .u64 nf]] a1 fun at9 af => ∃ (j0 : Bool), at9 = .returned (.bool j0) ∧
 bif !j0 then (
 R (.bool false) af) else (
 bif a0 == 3 then (
 ∃ (v5 : Int), af.cell? ((blk w.heap.size).add 17) = some (.int .i64 v5) ∧
 bif decide (v5 < 0) then (
 R (.bool false) af) else (
 ∃ (u7 : Int), af.cell? ((blk w.heap.size).add 17) = some (.int .i64 u7) ∧
 bif decide (u7 ≥ 8) then (
 R (.bool false) af) else (
 ∃ (af4 : Option Addr) (ai0 : Nat) (ab5 : Nat), af.cell? ((blk w.heap.size).add 18) = some (.slice af4 ai0 ab5) ∧
 Calls Try.prog 73 #[.slice af4 ai0 ab5] af fun ay0 b9 => ∃ (mn : Bool), ay0 = .returned (.bool mn) ∧
 bif !mn then (
 R (.bool false) b9) else (
 bif !(a0 == 3) then (
 ∃ (za : Int), b9.cell? ((blk w.heap.size).add 17) = some (.int .i64 za) ∧
 bif za != 0 then (
 R (.bool false) b9) else (
 ∃ (ar6 : Option Addr) (a83 : Nat) (ax4 : Nat), b9.cell? ((blk w.heap.size).add 18) = some (.slice ar6 a83 ax4) ∧
 bif decide ((a83 : Int) > 0) then (
 R (.bool false) b9) else (
 ∃ (n4 : Int), b9.cell? ((blk w.heap.size).add 0) = some (.int .i64 n4) ∧
 bif n4 == 3 then (
 R (.bool true) b9) else (
 ∃ (a34 : Int), b9.cell? ((blk w.heap.size).add 19) = some (.int .u64 a34) ∧
 R (.bool (a34 == 0)) b9)))) else (
 ∃ (tu : Int), b9.cell? ((blk w.heap.size).add 0) = some (.int .i64 tu) ∧
 bif tu == 3 then (
 R (.bool true) b9) else (
 ∃ (yt : Int), b9.cell? ((blk w.heap.size).add 19) = some (.int .u64 yt) ∧
 R (.bool (yt == 0)) b9)))))) else (
 bif !(a0 == 3) then (
 ∃ (x9 : Int), af.cell? ((blk w.heap.size).add 17) = some (.int .i64 x9) ∧
 bif x9 != 0 then (
 R (.bool false) af) else (
 ∃ (at2 : Option Addr) (ab0 : Nat) (b18 : Nat), af.cell? ((blk w.heap.size).add 18) = some (.slice at2 ab0 b18) ∧
 bif decide ((ab0 : Int) > 0) then (
 R (.bool false) af) else (
 ∃ (sj : Int), af.cell? ((blk w.heap.size).add 0) = some (.int .i64 sj) ∧
 bif sj == 3 then (
 R (.bool true) af) else (
 ∃ (a13 : Int), af.cell? ((blk w.heap.size).add 19) = some (.int .u64 a13) ∧
 R (.bool (a13 == 0)) af)))) else (
 ∃ (sq : Int), af.cell? ((blk w.heap.size).add 0) = some (.int .i64 sq) ∧
 bif sq == 3 then (
 R (.bool true) af) else (
 ∃ (zs : Int), af.cell? ((blk w.heap.size).add 19) = some (.int .u64 zs) ∧
 R (.bool (zs == 0)) af))))) else (
 bif a0 == 3 then (
 ∃ (uk : Int), a1.cell? ((blk w.heap.size).add 17) = some (.int .i64 uk) ∧
 bif decide (uk < 0) then (
 R (.bool false) a1) else (
 ∃ (ze : Int), a1.cell? ((blk w.heap.size).add 17) = some (.int .i64 ze) ∧
 bif decide (ze ≥ 8) then (
 R (.bool false) a1) else (
 ∃ (ak5 : Option Addr) (ak9 : Nat) (ab6 : Nat), a1.cell? ((blk w.heap.size).add 18) = some (.slice ak5 ak9 ab6) ∧
 Calls Try.prog 73 #[.slice ak5 ak9 ab6] a1 fun ap4 av => ∃ (iw : Bool), ap4 = .returned (.bool iw) ∧
 bif !iw then (
 R (.bool false) av) else (
 bif !(a0 == 3) then (
 ∃ (u9 : Int), av.cell? ((blk w.heap.size).add 17) = some (.int .i64 u9) ∧
 bif u9 != 0 then (
 R (.bool false) av) else (
 ∃ (aw5 : Option Addr) (ai5 : Nat) (ax1 : Nat), av.cell? ((blk w.heap.size).add 18) = some (.slice aw5 ai5 ax1) ∧
 bif decide ((ai5 : Int) > 0) then (
 R (.bool false) av) else (
 ∃ (ql : Int), av.cell? ((blk w.heap.size).add 0) = some (.int .i64 ql) ∧
 bif ql == 3 then (
 R (.bool true) av) else (
 ∃ (xv : Int), av.cell? ((blk w.heap.size).add 19) = some (.int .u64 xv) ∧
 R (.bool (xv == 0)) av)))) else (
 ∃ (mt : Int), av.cell? ((blk w.heap.size).add 0) = some (.int .i64 mt) ∧
 bif mt == 3 then (
 R (.bool true) av) else (
 ∃ (a35 : Int), av.cell? ((blk w.heap.size).add 19) = some (.int .u64 a35) ∧
 R (.bool (a35 == 0)) av)))))) else (
 bif !(a0 == 3) then (
 ∃ (y2 : Int), a1.cell? ((blk w.heap.size).add 17) = some (.int .i64 y2) ∧
 bif y2 != 0 then (
 R (.bool false) a1) else (
 ∃ (au7 : Option Addr) (a96 : Nat) (as8 : Nat), a1.cell? ((blk w.heap.size).add 18) = some (.slice au7 a96 as8) ∧
 bif decide ((a96 : Int) > 0) then (
 R (.bool false) a1) else (
 ∃ (pb : Int), a1.cell? ((blk w.heap.size).add 0) = some (.int .i64 pb) ∧
 bif pb == 3 then (
 R (.bool true) a1) else (
 ∃ (ug : Int), a1.cell? ((blk w.heap.size).add 19) = some (.int .u64 ug) ∧
 R (.bool (ug == 0)) a1)))) else (
 ∃ (nk : Int), a1.cell? ((blk w.heap.size).add 0) = some (.int .i64 nk) ∧
 bif nk == 3 then (
 R (.bool true) a1) else (
 ∃ (v4 : Int), a1.cell? ((blk w.heap.size).add 19) = some (.int .u64 v4) ∧
 R (.bool (v4 == 0)) a1)))))))))))

theorem cachetteref21_Right.eq (fKind1 : Int) (fEWriter2 : Int) (fEIndex3 : Int) (fEPrev4 : Int) (fEAtT5 : Int) (fEAtW6 : Int) (fEEpoch7 : Int) (fEBody8a : Option Addr) (fEBody8n : Nat) (fEBody8c : Nat) (fESig9 : Int) (fFWriter10 : Int) (fFIndex11 : Int) (fFPrev12 : Int) (fFAtT13 : Int) (fFAtW14 : Int) (fFEpoch15 : Int) (fFBody16a : Option Addr) (fFBody16n : Nat) (fFBody16c : Nat) (fFSig17 : Int) (fWho18 : Int) (fV19a : Option Addr) (fV19n : Nat) (fV19c : Nat) (fSig20 : Int) (R : Value → World → Prop) (w : World) : mfunc Try.prog [] 58 [.agg #[.int .i64 fKind1, .int .i64 fEWriter2, .int .i64 fEIndex3, .int .u64 fEPrev4, .int .i64 fEAtT5, .int .i64 fEAtW6, .int .i64 fEEpoch7, .slice fEBody8a fEBody8n fEBody8c, .int .u64 fESig9, .int .i64 fFWriter10, .int .i64 fFIndex11, .int .u64 fFPrev12, .int .i64 fFAtT13, .int .i64 fFAtW14, .int .i64 fFEpoch15, .slice fFBody16a fFBody16n fFBody16c, .int .u64 fFSig17, .int .i64 fWho18, .slice fV19a fV19n fV19c, .int .u64 fSig20]] R w = cachetteref21_Right.M fKind1 fEWriter2 fEIndex3 fEPrev4 fEAtT5 fEAtW6 fEEpoch7 fEBody8a fEBody8n fEBody8c fESig9 fFWriter10 fFIndex11 fFPrev12 fFAtT13 fFAtW14 fFEpoch15 fFBody16a fFBody16n fFBody16c fFSig17 fWho18 fV19a fV19n fV19c fSig20 R w := by kernel_rfl
theorem cachetteref21_Right.ok (al : Int) (a4 : Int) (a9 : Int) (af : Int) (ak : Int) (ai : Int) (ab : Int) (a8 : Option Addr) (aa : Nat) (a7 : Nat) (aj : Int) (a0 : Int) (a3 : Int) (ac : Int) (ad : Int) (ag : Int) (a5 : Int) (a1 : Option Addr) (a2 : Nat) (a6 : Nat) (ae : Int) (ah : Int) (an : Option Addr) (ap : Nat) (ao : Nat) (am : Int) {R : Value → World → Prop} {w : World} (h : cachetteref21_Right.M al a4 a9 af ak ai ab a8 aa a7 aj a0 a3 ac ad ag a5 a1 a2 a6 ae ah an ap ao am R w) : Calls Try.prog 58 #[.agg #[.int .i64 al, .int .i64 a4, .int .i64 a9, .int .u64 af, .int .i64 ak, .int .i64 ai, .int .i64 ab, .slice a8 aa a7, .int .u64 aj, .int .i64 a0, .int .i64 a3, .int .u64 ac, .int .i64 ad, .int .i64 ag, .int .i64 a5, .slice a1 a2 a6, .int .u64 ae, .int .i64 ah, .slice an ap ao, .int .u64 am]] w fun e w' => ∃ v, e = .returned v ∧ R v w' :=
  mfunc_ok follows (H := []) (args := [.agg #[.int .i64 al, .int .i64 a4, .int .i64 a9, .int .u64 af, .int .i64 ak, .int .i64 ai, .int .i64 ab, .slice a8 aa a7, .int .u64 aj, .int .i64 a0, .int .i64 a3, .int .u64 ac, .int .i64 ad, .int .i64 ag, .int .i64 a5, .slice a1 a2 a6, .int .u64 ae, .int .i64 ah, .slice an ap ao, .int .u64 am]]) (by rw [cachetteref21_Right.eq]; exact h)

def cachetteref21_Right.N (a1 : Int) (a2 : Int) (a7 : Int) (af : Int) (am : Int) (ak : Int) (ad : Int) (a5 : Option Addr) (aa : Nat) (a4 : Nat) (al : Int) (a3 : Int) (a9 : Int) (ae : Int) (ah : Int) (aj : Int) (ab : Int) (a6 : Option Addr) (a8 : Nat) (ac : Nat) (ai : Int) (a0 : Int) (b5 : Option Addr) (an : Nat) (b6 : Nat) (ay : Int) (R : Value → World → Prop) (w : World) : Prop :=
 (a1 = 1 →
 ((cachetteref06_Right.F a2 a7 af am ak ad a5 aa a4 al) = false →
 ∀ (b0 : World), Ext no w b0 →
 R (.bool false) b0) ∧
 ((cachetteref06_Right.F a2 a7 af am ak ad a5 aa a4 al) = true →
 ∀ (b0 : World) (bj : Nat), Ext no w b0 → Priv w b0 [bj] →
 Calls Try.prog 77 #[.agg #[.int .i64 a3, .int .i64 a9, .int .u64 ae, .int .i64 ah, .int .i64 aj, .int .i64 ab, .slice a6 a8 ac, .int .u64 ai]] b0 fun bg b2 => ∃ (ax : Bool), bg = .returned (.bool ax) ∧
 Keep [bj] b0 b2 ∧
 (ax = false →
 R (.bool false) b2) ∧
 (ax = true →
 (a0 ≠ 0 →
 R (.bool false) b2) ∧
 (a0 = 0 →
 ((an : Int) > 0 →
 R (.bool false) b2) ∧
 ((an : Int) ≤ 0 →
 R (.bool (ay == 0)) b2))))) ∧
 (a1 ≠ 1 →
 (a1 = 2 →
 ∀ (ag : World) (bb : Nat), Ext no w ag → Priv w ag [bb] →
 Calls Try.prog 77 #[.agg #[.int .i64 a2, .int .i64 a7, .int .u64 af, .int .i64 am, .int .i64 ak, .int .i64 ad, .slice a5 aa a4, .int .u64 al]] ag fun be b4 => ∃ (ap : Bool), be = .returned (.bool ap) ∧
 Keep [bb] ag b4 ∧
 (ap = false →
 R (.bool false) b4) ∧
 (ap = true →
 Calls Try.prog 77 #[.agg #[.int .i64 a3, .int .i64 a9, .int .u64 ae, .int .i64 ah, .int .i64 aj, .int .i64 ab, .slice a6 a8 ac, .int .u64 ai]] b4 fun bf b1 => ∃ (ar : Bool), bf = .returned (.bool ar) ∧
 Keep [bb] b4 b1 ∧
 (ar = false →
 R (.bool false) b1) ∧
 (ar = true →
 (a0 < 0 →
 R (.bool false) b1) ∧
 ((0 : Int) ≤ a0 →
 (a0 ≥ 8 →
 R (.bool false) b1) ∧
 (a0 < 8 →
 Calls Try.prog 73 #[.slice b5 an b6] b1 fun bc b8 => ∃ (au : Bool), bc = .returned (.bool au) ∧
 Keep [bb] b1 b8 ∧
 (au = false →
 R (.bool false) b8) ∧
 (au = true →
 R (.bool (ay == 0)) b8)))))) ∧
 (a1 ≠ 2 →
 (a1 < 1 →
 ∀ (ag : World), Ext no w ag →
 R (.bool false) ag) ∧
 ((1 : Int) ≤ a1 →
 (a1 > 4 →
 ∀ (ag : World), Ext no w ag →
 R (.bool false) ag) ∧
 (a1 ≤ 4 →
 (a1 = 4 →
 ((cachetteref06_Right.F a2 a7 af am ak ad a5 aa a4 al) = false →
 ∀ (b9 : World), Ext no w b9 →
 R (.bool false) b9) ∧
 ((cachetteref06_Right.F a2 a7 af am ak ad a5 aa a4 al) = true →
 ((cachetteref06_Right.F a3 a9 ae ah aj ab a6 a8 ac ai) = false →
 ∀ (ao : World), Ext no w ao →
 R (.bool false) ao) ∧
 ((cachetteref06_Right.F a3 a9 ae ah aj ab a6 a8 ac ai) = true →
 (a0 ≠ 0 →
 ∀ (ao : World), Ext no w ao →
 R (.bool false) ao) ∧
 (a0 = 0 →
 ((an : Int) > 0 →
 ∀ (ao : World), Ext no w ao →
 R (.bool false) ao) ∧
 ((an : Int) ≤ 0 →
 ∀ (ao : World), Ext no w ao →
 R (.bool (ay == 0)) ao))))) ∧
 (a1 ≠ 4 →
 ∀ (ag : World) (ba : Nat), Ext no w ag → Priv w ag [ba] →
 Calls Try.prog 77 #[.agg #[.int .i64 a2, .int .i64 a7, .int .u64 af, .int .i64 am, .int .i64 ak, .int .i64 ad, .slice a5 aa a4, .int .u64 al]] ag fun bi b3 => ∃ (aw : Bool), bi = .returned (.bool aw) ∧
 Keep [ba] ag b3 ∧
 (aw = false →
 R (.bool false) b3) ∧
 (aw = true →
 Calls Try.prog 77 #[.agg #[.int .i64 a3, .int .i64 a9, .int .u64 ae, .int .i64 ah, .int .i64 aj, .int .i64 ab, .slice a6 a8 ac, .int .u64 ai]] b3 fun bd az => ∃ (aq : Bool), bd = .returned (.bool aq) ∧
 Keep [ba] b3 az ∧
 (aq = false →
 R (.bool false) az) ∧
 (aq = true →
 (a1 = 3 →
 (a0 < 0 →
 R (.bool false) az) ∧
 ((0 : Int) ≤ a0 →
 (a0 ≥ 8 →
 R (.bool false) az) ∧
 (a0 < 8 →
 Calls Try.prog 73 #[.slice b5 an b6] az fun bh b7 => ∃ (av : Bool), bh = .returned (.bool av) ∧
 Keep [ba] az b7 ∧
 (av = false →
 R (.bool false) b7) ∧
 (av = true →
 R (.bool true) b7)))) ∧
 (a1 ≠ 3 →
 (a0 ≠ 0 →
 R (.bool false) az) ∧
 (a0 = 0 →
 ((an : Int) > 0 →
 R (.bool false) az) ∧
 ((an : Int) ≤ 0 →
 R (.bool (ay == 0)) az))))))))))

theorem cachetteref21_Right.up (a1 : Int) (a2 : Int) (a8 : Int) (ae : Int) (aj : Int) (ak : Int) (a6 : Int) (a4 : Option Addr) (a5 : Nat) (a7 : Nat) (al : Int) (a3 : Int) (aa : Int) (af : Int) (ag : Int) (ai : Int) (ac : Int) (a9 : Option Addr) (ab : Nat) (ad : Nat) (ah : Int) (am : Int) (aq : Option Addr) (ao : Nat) (ap : Nat) (an : Int) {R : Value → World → Prop} {w : World} (h : cachetteref21_Right.N a1 a2 a8 ae aj ak a6 a4 a5 a7 al a3 aa af ag ai ac a9 ab ad ah am aq ao ap an R w) : cachetteref21_Right.M a1 a2 a8 ae aj ak a6 a4 a5 a7 al a3 aa af ag ai ac a9 ab ad ah am aq ao ap an R w := by
  unfold cachetteref21_Right.M
  unfold cachetteref21_Right.N at h
  refine thenW_in fun cd bz => ?_
  have a0 := Blk.of_new bz
  have bp := ((Ext.refl no w)).size
  have bb := (Ext.refl no w).x_alloc bz
  refine thenW_in fun b2 bx => ?_
  have ar := bb.x_drew bx
  have a0 := a0.x_drew bx
  refine ⟨a1, a0.celli 0 rfl rfl, ?_⟩
  refine bif_of (fun av => ?_) (fun av => ?_)
  · have h := h.1 (beq_t av)
    refine ⟨a1, a0.celli 0 rfl rfl, ?_⟩
    refine ⟨a1, a0.celli 0 rfl rfl, ?_⟩
    refine bif_ff (cong1 (r := false) (fun z => z == 2) (beq_t av) (by decide)) ?_
    refine ⟨a1, a0.celli 0 rfl rfl, ?_⟩
    refine ⟨a1, a0.celli 0 rfl rfl, ?_⟩
    refine bif_ff (cong1 (r := false) (fun z => decide (z < 1)) (beq_t av) (by decide)) ?_
    refine ⟨a1, a0.celli 0 rfl rfl, ?_⟩
    refine bif_ff (cong1 (r := false) (fun z => decide (z > 4)) (beq_t av) (by decide)) ?_
    refine ⟨a2, a8, ae, aj, ak, a6, a4, a5, a7, al, ⟨a0.celli 1 rfl rfl, a0.celli 2 rfl rfl, a0.celli 3 rfl rfl, a0.celli 4 rfl rfl, a0.celli 5 rfl rfl, a0.celli 6 rfl rfl, a0.celli 7 rfl rfl, a0.celli 8 rfl rfl, trivial⟩, ?_⟩
    refine (cachetteref06_Right.pure a2 a8 ae aj ak a6 a4 a5 a7 al).mono fun ee ww24 ⟨he, hxx⟩ => ⟨(cachetteref06_Right.F a2 a8 ae aj ak a6 a4 a5 a7 al), he, ?_⟩
    have b8 := ar.trans hxx
    have a0 := a0.ext hxx id
    refine bif_of (fun bq => ?_) (fun bq => ?_)
    · have h := h.1 (not_t bq)
      have h := h ww24 b8
      exact h
    · have h := h.2 (not_f bq)
      refine bif_ff (cong1 (r := false) (fun z => z == 4) (beq_t av) (by decide)) ?_
      refine bif_tt (by rw [(cong1 (r := false) (fun z => z == 4) (beq_t av) (by decide))]; rfl) ?_
      refine ⟨a3, aa, af, ag, ai, ac, a9, ab, ad, ah, ⟨a0.celli 9 rfl rfl, a0.celli 10 rfl rfl, a0.celli 11 rfl rfl, a0.celli 12 rfl rfl, a0.celli 13 rfl rfl, a0.celli 14 rfl rfl, a0.celli 15 rfl rfl, a0.celli 16 rfl rfl, trivial⟩, ?_⟩
      have h := h ww24 (w.heap.size) b8 (Priv.cons bp a0.lt Priv.nil)
      refine h.mono fun c0 c3 h => ?_
      obtain ⟨b1, he, hk, h⟩ := h
      refine ⟨b1, he, ?_⟩
      have a0 := hk.blk a0 (by simp)
      refine bif_of (fun bd => ?_) (fun bd => ?_)
      · have h := h.1 (not_t bd)
        exact h
      · have h := h.2 (not_f bd)
        refine bif_ff (cong1 (r := false) (fun z => z == 3) (beq_t av) (by decide)) ?_
        refine bif_tt (by rw [(cong1 (r := false) (fun z => z == 3) (beq_t av) (by decide))]; rfl) ?_
        refine ⟨am, a0.celli 17 rfl rfl, ?_⟩
        refine bif_of (fun bs => ?_) (fun bs => ?_)
        · have h := h.1 (bne_t bs)
          exact h
        · have h := h.2 (bne_f bs)
          refine ⟨aq, ao, ap, a0.celli 18 rfl rfl, ?_⟩
          refine bif_of (fun b9 => ?_) (fun b9 => ?_)
          · have h := h.1 (of_decide_eq_true b9)
            exact h
          · have h := h.2 (Int.not_lt.1 (of_decide_eq_false b9))
            refine ⟨a1, a0.celli 0 rfl rfl, ?_⟩
            refine bif_ff (cong1 (r := false) (fun z => z == 3) (beq_t av) (by decide)) ?_
            refine ⟨an, a0.celli 19 rfl rfl, ?_⟩
            exact h
  · have h := h.2 (beq_f av)
    refine ⟨a1, a0.celli 0 rfl rfl, ?_⟩
    refine ⟨a1, a0.celli 0 rfl rfl, ?_⟩
    refine ⟨a1, a0.celli 0 rfl rfl, ?_⟩
    refine bif_of (fun aw => ?_) (fun aw => ?_)
    · have h := h.1 (beq_t aw)
      refine ⟨a1, a0.celli 0 rfl rfl, ?_⟩
      refine bif_ff (cong1 (r := false) (fun z => decide (z < 1)) (beq_t aw) (by decide)) ?_
      refine ⟨a1, a0.celli 0 rfl rfl, ?_⟩
      refine bif_ff (cong1 (r := false) (fun z => decide (z > 4)) (beq_t aw) (by decide)) ?_
      refine bif_ff (cong1 (r := false) (fun z => z == 4) (beq_t aw) (by decide)) ?_
      refine bif_tt (by rw [(cong1 (r := false) (fun z => z == 4) (beq_t aw) (by decide))]; rfl) ?_
      refine ⟨a2, a8, ae, aj, ak, a6, a4, a5, a7, al, ⟨a0.celli 1 rfl rfl, a0.celli 2 rfl rfl, a0.celli 3 rfl rfl, a0.celli 4 rfl rfl, a0.celli 5 rfl rfl, a0.celli 6 rfl rfl, a0.celli 7 rfl rfl, a0.celli 8 rfl rfl, trivial⟩, ?_⟩
      have h := h b2 (w.heap.size) ar (Priv.cons bp a0.lt Priv.nil)
      refine h.mono fun ca ce h => ?_
      obtain ⟨b3, he, hk, h⟩ := h
      refine ⟨b3, he, ?_⟩
      have a0 := hk.blk a0 (by simp)
      refine bif_of (fun bj => ?_) (fun bj => ?_)
      · have h := h.1 (not_t bj)
        exact h
      · have h := h.2 (not_f bj)
        refine bif_ff (cong1 (r := false) (fun z => z == 4) (beq_t aw) (by decide)) ?_
        refine bif_tt (by rw [(cong1 (r := false) (fun z => z == 4) (beq_t aw) (by decide))]; rfl) ?_
        refine ⟨a3, aa, af, ag, ai, ac, a9, ab, ad, ah, ⟨a0.celli 9 rfl rfl, a0.celli 10 rfl rfl, a0.celli 11 rfl rfl, a0.celli 12 rfl rfl, a0.celli 13 rfl rfl, a0.celli 14 rfl rfl, a0.celli 15 rfl rfl, a0.celli 16 rfl rfl, trivial⟩, ?_⟩
        refine h.mono fun c4 c2 h => ?_
        obtain ⟨b0, he, hk, h⟩ := h
        refine ⟨b0, he, ?_⟩
        have a0 := hk.blk a0 (by simp)
        refine bif_of (fun bu => ?_) (fun bu => ?_)
        · have h := h.1 (not_t bu)
          exact h
        · have h := h.2 (not_f bu)
          refine ⟨am, a0.celli 17 rfl rfl, ?_⟩
          refine bif_of (fun bh => ?_) (fun bh => ?_)
          · have h := h.1 (of_decide_eq_true bh)
            exact h
          · have h := h.2 (Int.not_lt.1 (of_decide_eq_false bh))
            refine ⟨am, a0.celli 17 rfl rfl, ?_⟩
            refine bif_of (fun bl => ?_) (fun bl => ?_)
            · have h := h.1 (of_decide_eq_true bl)
              exact h
            · have h := h.2 (Int.not_le.1 (of_decide_eq_false bl))
              refine ⟨aq, ao, ap, a0.celli 18 rfl rfl, ?_⟩
              refine h.mono fun c8 c1 h => ?_
              obtain ⟨ay, he, hk, h⟩ := h
              refine ⟨ay, he, ?_⟩
              have a0 := hk.blk a0 (by simp)
              refine bif_of (fun bm => ?_) (fun bm => ?_)
              · have h := h.1 (not_t bm)
                exact h
              · have h := h.2 (not_f bm)
                refine ⟨a1, a0.celli 0 rfl rfl, ?_⟩
                refine bif_ff (cong1 (r := false) (fun z => z == 3) (beq_t aw) (by decide)) ?_
                refine ⟨an, a0.celli 19 rfl rfl, ?_⟩
                exact h
    · have h := h.2 (beq_f aw)
      refine ⟨a1, a0.celli 0 rfl rfl, ?_⟩
      refine ⟨a1, a0.celli 0 rfl rfl, ?_⟩
      refine bif_of (fun bw => ?_) (fun bw => ?_)
      · have h := h.1 (of_decide_eq_true bw)
        have h := h b2 ar
        exact h
      · have h := h.2 (Int.not_lt.1 (of_decide_eq_false bw))
        refine ⟨a1, a0.celli 0 rfl rfl, ?_⟩
        refine bif_of (fun bc => ?_) (fun bc => ?_)
        · have h := h.1 (of_decide_eq_true bc)
          have h := h b2 ar
          exact h
        · have h := h.2 (Int.not_lt.1 (of_decide_eq_false bc))
          refine bif_of (fun au => ?_) (fun au => ?_)
          · have h := h.1 (beq_t au)
            refine ⟨a2, a8, ae, aj, ak, a6, a4, a5, a7, al, ⟨a0.celli 1 rfl rfl, a0.celli 2 rfl rfl, a0.celli 3 rfl rfl, a0.celli 4 rfl rfl, a0.celli 5 rfl rfl, a0.celli 6 rfl rfl, a0.celli 7 rfl rfl, a0.celli 8 rfl rfl, trivial⟩, ?_⟩
            refine (cachetteref06_Right.pure a2 a8 ae aj ak a6 a4 a5 a7 al).mono fun ee ww55 ⟨he, hxx⟩ => ⟨(cachetteref06_Right.F a2 a8 ae aj ak a6 a4 a5 a7 al), he, ?_⟩
            have b7 := ar.trans hxx
            have a0 := a0.ext hxx id
            refine bif_of (fun bg => ?_) (fun bg => ?_)
            · have h := h.1 (not_t bg)
              have h := h ww55 b7
              exact h
            · have h := h.2 (not_f bg)
              refine bif_ff (by rw [au]; rfl) ?_
              refine bif_tt au ?_
              refine ⟨a3, aa, af, ag, ai, ac, a9, ab, ad, ah, ⟨a0.celli 9 rfl rfl, a0.celli 10 rfl rfl, a0.celli 11 rfl rfl, a0.celli 12 rfl rfl, a0.celli 13 rfl rfl, a0.celli 14 rfl rfl, a0.celli 15 rfl rfl, a0.celli 16 rfl rfl, trivial⟩, ?_⟩
              refine (cachetteref06_Right.pure a3 aa af ag ai ac a9 ab ad ah).mono fun ee ww58 ⟨he, hxx⟩ => ⟨(cachetteref06_Right.F a3 aa af ag ai ac a9 ab ad ah), he, ?_⟩
              have b5 := b7.trans hxx
              have a0 := a0.ext hxx id
              refine bif_of (fun bv => ?_) (fun bv => ?_)
              · have h := h.1 (not_t bv)
                have h := h ww58 b5
                exact h
              · have h := h.2 (not_f bv)
                refine bif_ff (by rw [au]; rfl) ?_
                refine bif_ff (cong1 (r := false) (fun z => z == 3) (beq_t au) (by decide)) ?_
                refine bif_tt (by rw [(cong1 (r := false) (fun z => z == 3) (beq_t au) (by decide))]; rfl) ?_
                refine ⟨am, a0.celli 17 rfl rfl, ?_⟩
                refine bif_of (fun bk => ?_) (fun bk => ?_)
                · have h := h.1 (bne_t bk)
                  have h := h ww58 b5
                  exact h
                · have h := h.2 (bne_f bk)
                  refine ⟨aq, ao, ap, a0.celli 18 rfl rfl, ?_⟩
                  refine bif_of (fun bf => ?_) (fun bf => ?_)
                  · have h := h.1 (of_decide_eq_true bf)
                    have h := h ww58 b5
                    exact h
                  · have h := h.2 (Int.not_lt.1 (of_decide_eq_false bf))
                    refine ⟨a1, a0.celli 0 rfl rfl, ?_⟩
                    refine bif_ff (cong1 (r := false) (fun z => z == 3) (beq_t au) (by decide)) ?_
                    refine ⟨an, a0.celli 19 rfl rfl, ?_⟩
                    have h := h ww58 b5
                    exact h
          · have h := h.2 (beq_f au)
            refine bif_tt (by rw [au]; rfl) ?_
            refine ⟨a2, a8, ae, aj, ak, a6, a4, a5, a7, al, ⟨a0.celli 1 rfl rfl, a0.celli 2 rfl rfl, a0.celli 3 rfl rfl, a0.celli 4 rfl rfl, a0.celli 5 rfl rfl, a0.celli 6 rfl rfl, a0.celli 7 rfl rfl, a0.celli 8 rfl rfl, trivial⟩, ?_⟩
            have h := h b2 (w.heap.size) ar (Priv.cons bp a0.lt Priv.nil)
            refine h.mono fun c6 cb h => ?_
            obtain ⟨az, he, hk, h⟩ := h
            refine ⟨az, he, ?_⟩
            have a0 := hk.blk a0 (by simp)
            refine bif_of (fun bi => ?_) (fun bi => ?_)
            · have h := h.1 (not_t bi)
              exact h
            · have h := h.2 (not_f bi)
              refine bif_ff au ?_
              refine bif_tt (by rw [au]; rfl) ?_
              refine ⟨a3, aa, af, ag, ai, ac, a9, ab, ad, ah, ⟨a0.celli 9 rfl rfl, a0.celli 10 rfl rfl, a0.celli 11 rfl rfl, a0.celli 12 rfl rfl, a0.celli 13 rfl rfl, a0.celli 14 rfl rfl, a0.celli 15 rfl rfl, a0.celli 16 rfl rfl, trivial⟩, ?_⟩
              refine h.mono fun cc c7 h => ?_
              obtain ⟨ax, he, hk, h⟩ := h
              refine ⟨ax, he, ?_⟩
              have a0 := hk.blk a0 (by simp)
              refine bif_of (fun be => ?_) (fun be => ?_)
              · have h := h.1 (not_t be)
                exact h
              · have h := h.2 (not_f be)
                refine bif_of (fun b6 => ?_) (fun b6 => ?_)
                · have h := h.1 (beq_t b6)
                  refine ⟨am, a0.celli 17 rfl rfl, ?_⟩
                  refine bif_of (fun bt => ?_) (fun bt => ?_)
                  · have h := h.1 (of_decide_eq_true bt)
                    exact h
                  · have h := h.2 (Int.not_lt.1 (of_decide_eq_false bt))
                    refine ⟨am, a0.celli 17 rfl rfl, ?_⟩
                    refine bif_of (fun bn => ?_) (fun bn => ?_)
                    · have h := h.1 (of_decide_eq_true bn)
                      exact h
                    · have h := h.2 (Int.not_le.1 (of_decide_eq_false bn))
                      refine ⟨aq, ao, ap, a0.celli 18 rfl rfl, ?_⟩
                      refine h.mono fun c5 c9 h => ?_
                      obtain ⟨b4, he, hk, h⟩ := h
                      refine ⟨b4, he, ?_⟩
                      have a0 := hk.blk a0 (by simp)
                      refine bif_of (fun br => ?_) (fun br => ?_)
                      · have h := h.1 (not_t br)
                        exact h
                      · have h := h.2 (not_f br)
                        refine bif_ff (by rw [b6]; rfl) ?_
                        refine ⟨a1, a0.celli 0 rfl rfl, ?_⟩
                        refine bif_tt b6 ?_
                        exact h
                · have h := h.2 (beq_f b6)
                  refine bif_tt (by rw [b6]; rfl) ?_
                  refine ⟨am, a0.celli 17 rfl rfl, ?_⟩
                  refine bif_of (fun ba => ?_) (fun ba => ?_)
                  · have h := h.1 (bne_t ba)
                    exact h
                  · have h := h.2 (bne_f ba)
                    refine ⟨aq, ao, ap, a0.celli 18 rfl rfl, ?_⟩
                    refine bif_of (fun bo => ?_) (fun bo => ?_)
                    · have h := h.1 (of_decide_eq_true bo)
                      exact h
                    · have h := h.2 (Int.not_lt.1 (of_decide_eq_false bo))
                      refine ⟨a1, a0.celli 0 rfl rfl, ?_⟩
                      refine bif_ff b6 ?_
                      refine ⟨an, a0.celli 19 rfl rfl, ?_⟩
                      exact h

theorem cachetteref21_Right.go (al : Int) (a4 : Int) (a9 : Int) (af : Int) (ak : Int) (ai : Int) (ab : Int) (a8 : Option Addr) (aa : Nat) (a7 : Nat) (aj : Int) (a0 : Int) (a3 : Int) (ac : Int) (ad : Int) (ag : Int) (a5 : Int) (a1 : Option Addr) (a2 : Nat) (a6 : Nat) (ae : Int) (ah : Int) (an : Option Addr) (ap : Nat) (ao : Nat) (am : Int) {R : Value → World → Prop} {w : World} (h : cachetteref21_Right.N al a4 a9 af ak ai ab a8 aa a7 aj a0 a3 ac ad ag a5 a1 a2 a6 ae ah an ap ao am R w) : Calls Try.prog 58 #[.agg #[.int .i64 al, .int .i64 a4, .int .i64 a9, .int .u64 af, .int .i64 ak, .int .i64 ai, .int .i64 ab, .slice a8 aa a7, .int .u64 aj, .int .i64 a0, .int .i64 a3, .int .u64 ac, .int .i64 ad, .int .i64 ag, .int .i64 a5, .slice a1 a2 a6, .int .u64 ae, .int .i64 ah, .slice an ap ao, .int .u64 am]] w fun e w' => ∃ v, e = .returned v ∧ R v w' := cachetteref21_Right.ok al a4 a9 af ak ai ab a8 aa a7 aj a0 a3 ac ad ag a5 a1 a2 a6 ae ah an ap ao am (cachetteref21_Right.up al a4 a9 af ak ai ab a8 aa a7 aj a0 a3 ac ad ag a5 a1 a2 a6 ae ah an ap ao am h)
theorem cachetteref21_Right.run (al : Int) (a4 : Int) (a9 : Int) (af : Int) (ak : Int) (ai : Int) (ab : Int) (a8 : Option Addr) (aa : Nat) (a7 : Nat) (aj : Int) (a0 : Int) (a3 : Int) (ac : Int) (ad : Int) (ag : Int) (a5 : Int) (a1 : Option Addr) (a2 : Nat) (a6 : Nat) (ae : Int) (ah : Int) (an : Option Addr) (ap : Nat) (ao : Nat) (am : Int) {V : Value} {Q : World → Prop} {w : World} (h : cachetteref21_Right.N al a4 a9 af ak ai ab a8 aa a7 aj a0 a3 ac ad ag a5 a1 a2 a6 ae ah an ap ao am (fun v w' => v = V ∧ Q w') w) : Calls Try.prog 58 #[.agg #[.int .i64 al, .int .i64 a4, .int .i64 a9, .int .u64 af, .int .i64 ak, .int .i64 ai, .int .i64 ab, .slice a8 aa a7, .int .u64 aj, .int .i64 a0, .int .i64 a3, .int .u64 ac, .int .i64 ad, .int .i64 ag, .int .i64 a5, .slice a1 a2 a6, .int .u64 ae, .int .i64 ah, .slice an ap ao, .int .u64 am]] w (Ret V Q) := (cachetteref21_Right.go al a4 a9 af ak ai ab a8 aa a7 aj a0 a3 ac ad ag a5 a1 a2 a6 ae ah an ap ao am h).mono fun e w' ⟨v, he, hv, hq⟩ => ⟨by rw [he, hv], hq⟩

/-- cachetteref21.Same -/
def cachetteref21_Same.M (cq : Int) (b7 : Int) (c0 : Int) (cd : Int) (cn : Int) (cr : Int) (bt : Int) (bh : Option Addr) (bs : Nat) (bz : Nat) (cs : Int) (ar : Int) (b5 : Int) (bu : Int) (c5 : Int) (c9 : Int) (bc : Int) (b0 : Option Addr) (ba : Nat) (bd : Nat) (c7 : Int) (cm : Int) (d5 : Option Addr) (cy : Nat) (d0 : Nat) (ct : Int) (cf : Int) (au : Int) (b1 : Int) (bj : Int) (cb : Int) (cg : Int) (b8 : Int) (b6 : Option Addr) (b3 : Nat) (b2 : Nat) (ce : Int) (aq : Int) (be : Int) (c4 : Int) (c8 : Int) (ch : Int) (az : Int) (bb : Option Addr) (b4 : Nat) (b9 : Nat) (cc : Int) (co : Int) (cw : Option Addr) (d2 : Nat) (cu : Nat) (cp : Int) (R : Value → World → Prop) (w : World) : Prop :=
 thenW (w.alloc (.cells #[.int .i64 cq, .int .i64 b7, .int .i64 c0, .int .u64 cd, .int .i64 cn, .int .i64 cr, .int .i64 bt, .slice bh bs bz, .int .u64 cs, .int .i64 ar, .int .i64 b5, .int .u64 bu, .int .i64 c5, .int .i64 c9, .int .i64 bc, .slice b0 ba bd, .int .u64 c7, .int .i64 cm, .slice d5 cy d0, .int .u64 ct] 58)) fun ap =>
 thenW (ap.alloc (.cells #[.int .i64 cf, .int .i64 au, .int .i64 b1, .int .u64 bj, .int .i64 cb, .int .i64 cg, .int .i64 b8, .slice b6 b3 b2, .int .u64 ce, .int .i64 aq, .int .i64 be, .int .u64 c4, .int .i64 c8, .int .i64 ch, .int .i64 az, .slice bb b4 b9, .int .u64 cc, .int .i64 co, .slice cw d2 cu, .int .u64 cp] 58)) fun a0 =>
 ∃ (bp : Int), a0.cell? ((blk w.heap.size).add 0) = some (.int .i64 bp) ∧
 ∃ (bw : Int), a0.cell? ((blk ap.heap.size).add 0) = some (.int .i64 bw) ∧
 bif bp == bw then (
 ∃ (ci : Int), a0.cell? ((blk w.heap.size).add 17) = some (.int .i64 ci) ∧
 ∃ (ck : Int), a0.cell? ((blk ap.heap.size).add 17) = some (.int .i64 ck) ∧
 bif ci == ck then (
 ∃ (cl : Int), a0.cell? ((blk w.heap.size).add 19) = some (.int .u64 cl) ∧
 ∃ (cj : Int), a0.cell? ((blk ap.heap.size).add 19) = some (.int .u64 cj) ∧
 bif cl == cj then (
 ∃ (a2 : Int) (al : Int) (av : Int) (bm : Int) (bi : Int) (ah : Int) (a8 : Option Addr) (ai : Nat) (ag : Nat) (c2 : Int), cellsAt a0 ((blk w.heap.size).add 1) [.int .i64 a2, .int .i64 al, .int .u64 av, .int .i64 bm, .int .i64 bi, .int .i64 ah, .slice a8 ai ag, .int .u64 c2] 0 ∧
 ∃ (a4 : Int) (ae : Int) (ay : Int) (bx : Int) (c3 : Int) (a6 : Int) (a9 : Option Addr) (aa : Nat) (ac : Nat) (bf : Int), cellsAt a0 ((blk ap.heap.size).add 1) [.int .i64 a4, .int .i64 ae, .int .u64 ay, .int .i64 bx, .int .i64 c3, .int .i64 a6, .slice a9 aa ac, .int .u64 bf] 0 ∧
 Calls Try.prog 46 #[.agg #[.int .i64 a2, .int .i64 al, .int .u64 av, .int .i64 bm, .int .i64 bi, .int .i64 ah, .slice a8 ai ag, .int .u64 c2], .agg #[.int .i64 a4, .int .i64 ae, .int .u64 ay, .int .i64 bx, .int .i64 c3, .int .i64 a6, .slice a9 aa ac, .int .u64 bf]] a0 fun d9 c6 => ∃ (bn : Bool), d9 = .returned (.bool bn) ∧
 bif bn then (
 ∃ (a3 : Int) (aj : Int) (ax : Int) (bk : Int) (bo : Int) (ao : Int) (ab : Option Addr) (am : Nat) (a5 : Nat) (bq : Int), cellsAt c6 ((blk w.heap.size).add 9) [.int .i64 a3, .int .i64 aj, .int .u64 ax, .int .i64 bk, .int .i64 bo, .int .i64 ao, .slice ab am a5, .int .u64 bq] 0 ∧
 ∃ (a1 : Int) (a7 : Int) (aw : Int) (br : Int) (bg : Int) (ak : Int) (an : Option Addr) (af : Nat) (ad : Nat) (c1 : Int), cellsAt c6 ((blk ap.heap.size).add 9) [.int .i64 a1, .int .i64 a7, .int .u64 aw, .int .i64 br, .int .i64 bg, .int .i64 ak, .slice an af ad, .int .u64 c1] 0 ∧
 Calls Try.prog 46 #[.agg #[.int .i64 a3, .int .i64 aj, .int .u64 ax, .int .i64 bk, .int .i64 bo, .int .i64 ao, .slice ab am a5, .int .u64 bq], .agg #[.int .i64 a1, .int .i64 a7, .int .u64 aw, .int .i64 br, .int .i64 bg, .int .i64 ak, .slice an af ad, .int .u64 c1]] c6 fun d7 ca => ∃ (bl : Bool), d7 = .returned (.bool bl) ∧
 bif bl then (
 ∃ (cx : Option Addr) (cv : Nat) (d3 : Nat), ca.cell? ((blk w.heap.size).add 18) = some (.slice cx cv d3) ∧
 ∃ (d4 : Option Addr) (d1 : Nat) (cz : Nat), ca.cell? ((blk ap.heap.size).add 18) = some (.slice d4 d1 cz) ∧
 Calls Try.prog 55 #[.slice cx cv d3, .slice d4 d1 cz] ca fun d8 d6 => ∃ (bv : Bool), d8 = .returned (.bool bv) ∧
 R (.bool bv) d6) else (
 R (.bool false) ca)) else (
 R (.bool false) c6)) else (
 R (.bool false) a0)) else (
 R (.bool false) a0)) else (
 R (.bool false) a0)

theorem cachetteref21_Same.eq (fKind1 : Int) (fEWriter2 : Int) (fEIndex3 : Int) (fEPrev4 : Int) (fEAtT5 : Int) (fEAtW6 : Int) (fEEpoch7 : Int) (fEBody8a : Option Addr) (fEBody8n : Nat) (fEBody8c : Nat) (fESig9 : Int) (fFWriter10 : Int) (fFIndex11 : Int) (fFPrev12 : Int) (fFAtT13 : Int) (fFAtW14 : Int) (fFEpoch15 : Int) (fFBody16a : Option Addr) (fFBody16n : Nat) (fFBody16c : Nat) (fFSig17 : Int) (fWho18 : Int) (fV19a : Option Addr) (fV19n : Nat) (fV19c : Nat) (fSig20 : Int) (gKind21 : Int) (gEWriter22 : Int) (gEIndex23 : Int) (gEPrev24 : Int) (gEAtT25 : Int) (gEAtW26 : Int) (gEEpoch27 : Int) (gEBody28a : Option Addr) (gEBody28n : Nat) (gEBody28c : Nat) (gESig29 : Int) (gFWriter30 : Int) (gFIndex31 : Int) (gFPrev32 : Int) (gFAtT33 : Int) (gFAtW34 : Int) (gFEpoch35 : Int) (gFBody36a : Option Addr) (gFBody36n : Nat) (gFBody36c : Nat) (gFSig37 : Int) (gWho38 : Int) (gV39a : Option Addr) (gV39n : Nat) (gV39c : Nat) (gSig40 : Int) (R : Value → World → Prop) (w : World) : mfunc Try.prog [] 23 [.agg #[.int .i64 fKind1, .int .i64 fEWriter2, .int .i64 fEIndex3, .int .u64 fEPrev4, .int .i64 fEAtT5, .int .i64 fEAtW6, .int .i64 fEEpoch7, .slice fEBody8a fEBody8n fEBody8c, .int .u64 fESig9, .int .i64 fFWriter10, .int .i64 fFIndex11, .int .u64 fFPrev12, .int .i64 fFAtT13, .int .i64 fFAtW14, .int .i64 fFEpoch15, .slice fFBody16a fFBody16n fFBody16c, .int .u64 fFSig17, .int .i64 fWho18, .slice fV19a fV19n fV19c, .int .u64 fSig20], .agg #[.int .i64 gKind21, .int .i64 gEWriter22, .int .i64 gEIndex23, .int .u64 gEPrev24, .int .i64 gEAtT25, .int .i64 gEAtW26, .int .i64 gEEpoch27, .slice gEBody28a gEBody28n gEBody28c, .int .u64 gESig29, .int .i64 gFWriter30, .int .i64 gFIndex31, .int .u64 gFPrev32, .int .i64 gFAtT33, .int .i64 gFAtW34, .int .i64 gFEpoch35, .slice gFBody36a gFBody36n gFBody36c, .int .u64 gFSig37, .int .i64 gWho38, .slice gV39a gV39n gV39c, .int .u64 gSig40]] R w = cachetteref21_Same.M fKind1 fEWriter2 fEIndex3 fEPrev4 fEAtT5 fEAtW6 fEEpoch7 fEBody8a fEBody8n fEBody8c fESig9 fFWriter10 fFIndex11 fFPrev12 fFAtT13 fFAtW14 fFEpoch15 fFBody16a fFBody16n fFBody16c fFSig17 fWho18 fV19a fV19n fV19c fSig20 gKind21 gEWriter22 gEIndex23 gEPrev24 gEAtT25 gEAtW26 gEEpoch27 gEBody28a gEBody28n gEBody28c gESig29 gFWriter30 gFIndex31 gFPrev32 gFAtT33 gFAtW34 gFEpoch35 gFBody36a gFBody36n gFBody36c gFSig37 gWho38 gV39a gV39n gV39c gSig40 R w := by kernel_rfl
theorem cachetteref21_Same.ok (ba : Int) (af : Int) (al : Int) (b0 : Int) (b7 : Int) (b5 : Int) (ap : Int) (ak : Option Addr) (am : Nat) (aj : Nat) (b6 : Int) (a2 : Int) (ab : Int) (aq : Int) (av : Int) (b3 : Int) (ag : Int) (a6 : Option Addr) (a8 : Nat) (ai : Nat) (aw : Int) (b4 : Int) (be : Option Addr) (bh : Nat) (bf : Nat) (bb : Int) (ar : Int) (a0 : Int) (a9 : Int) (an : Int) (ay : Int) (au : Int) (a5 : Int) (ac : Option Addr) (ad : Nat) (aa : Nat) (b2 : Int) (a1 : Int) (a3 : Int) (ao : Int) (ax : Int) (b1 : Int) (a4 : Int) (ae : Option Addr) (ah : Nat) (a7 : Nat) (az : Int) (b8 : Int) (bd : Option Addr) (bg : Nat) (bc : Nat) (b9 : Int) {R : Value → World → Prop} {w : World} (h : cachetteref21_Same.M ba af al b0 b7 b5 ap ak am aj b6 a2 ab aq av b3 ag a6 a8 ai aw b4 be bh bf bb ar a0 a9 an ay au a5 ac ad aa b2 a1 a3 ao ax b1 a4 ae ah a7 az b8 bd bg bc b9 R w) : Calls Try.prog 23 #[.agg #[.int .i64 ba, .int .i64 af, .int .i64 al, .int .u64 b0, .int .i64 b7, .int .i64 b5, .int .i64 ap, .slice ak am aj, .int .u64 b6, .int .i64 a2, .int .i64 ab, .int .u64 aq, .int .i64 av, .int .i64 b3, .int .i64 ag, .slice a6 a8 ai, .int .u64 aw, .int .i64 b4, .slice be bh bf, .int .u64 bb], .agg #[.int .i64 ar, .int .i64 a0, .int .i64 a9, .int .u64 an, .int .i64 ay, .int .i64 au, .int .i64 a5, .slice ac ad aa, .int .u64 b2, .int .i64 a1, .int .i64 a3, .int .u64 ao, .int .i64 ax, .int .i64 b1, .int .i64 a4, .slice ae ah a7, .int .u64 az, .int .i64 b8, .slice bd bg bc, .int .u64 b9]] w fun e w' => ∃ v, e = .returned v ∧ R v w' :=
  mfunc_ok follows (H := []) (args := [.agg #[.int .i64 ba, .int .i64 af, .int .i64 al, .int .u64 b0, .int .i64 b7, .int .i64 b5, .int .i64 ap, .slice ak am aj, .int .u64 b6, .int .i64 a2, .int .i64 ab, .int .u64 aq, .int .i64 av, .int .i64 b3, .int .i64 ag, .slice a6 a8 ai, .int .u64 aw, .int .i64 b4, .slice be bh bf, .int .u64 bb], .agg #[.int .i64 ar, .int .i64 a0, .int .i64 a9, .int .u64 an, .int .i64 ay, .int .i64 au, .int .i64 a5, .slice ac ad aa, .int .u64 b2, .int .i64 a1, .int .i64 a3, .int .u64 ao, .int .i64 ax, .int .i64 b1, .int .i64 a4, .slice ae ah a7, .int .u64 az, .int .i64 b8, .slice bd bg bc, .int .u64 b9]]) (by rw [cachetteref21_Same.eq]; exact h)

def cachetteref21_Same.N (az : Int) (aj : Int) (ar : Int) (ba : Int) (bh : Int) (bf : Int) (b1 : Int) (ao : Option Addr) (au : Nat) (an : Nat) (bg : Int) (a4 : Int) (af : Int) (b2 : Int) (b4 : Int) (bd : Int) (ak : Int) (aa : Option Addr) (ac : Nat) (am : Nat) (b5 : Int) (ap : Int) (bj : Option Addr) (bn : Nat) (bl : Nat) (b0 : Int) (a6 : Int) (a1 : Int) (ad : Int) (aw : Int) (b7 : Int) (b3 : Int) (a9 : Int) (ag : Option Addr) (ah : Nat) (ae : Nat) (bc : Int) (a2 : Int) (a7 : Int) (ay : Int) (b6 : Int) (bb : Int) (a8 : Int) (ai : Option Addr) (al : Nat) (ab : Nat) (b9 : Int) (av : Int) (bk : Option Addr) (bm : Nat) (bi : Nat) (ax : Int) (R : Value → World → Prop) (w : World) : Prop :=
 (az = a6 →
 (ap = av →
 (b0 = ax →
 ∀ (a0 : World) (bt : Nat) (bo : Nat), Ext no w a0 → Priv w a0 [bt, bo] →
 Calls Try.prog 46 #[.agg #[.int .i64 aj, .int .i64 ar, .int .u64 ba, .int .i64 bh, .int .i64 bf, .int .i64 b1, .slice ao au an, .int .u64 bg], .agg #[.int .i64 a1, .int .i64 ad, .int .u64 aw, .int .i64 b7, .int .i64 b3, .int .i64 a9, .slice ag ah ae, .int .u64 bc]] a0 fun br b8 => ∃ (a5 : Bool), br = .returned (.bool a5) ∧
 Keep [bt, bo] a0 b8 ∧
 (a5 = true →
 Calls Try.prog 46 #[.agg #[.int .i64 a4, .int .i64 af, .int .u64 b2, .int .i64 b4, .int .i64 bd, .int .i64 ak, .slice aa ac am, .int .u64 b5], .agg #[.int .i64 a2, .int .i64 a7, .int .u64 ay, .int .i64 b6, .int .i64 bb, .int .i64 a8, .slice ai al ab, .int .u64 b9]] b8 fun bp be => ∃ (a3 : Bool), bp = .returned (.bool a3) ∧
 Keep [bt, bo] b8 be ∧
 (a3 = true →
 Calls Try.prog 55 #[.slice bj bn bl, .slice bk bm bi] be fun bs bq => ∃ (aq : Bool), bs = .returned (.bool aq) ∧
 R (.bool aq) bq) ∧
 (a3 = false →
 R (.bool false) be)) ∧
 (a5 = false →
 R (.bool false) b8)) ∧
 (b0 ≠ ax →
 ∀ (a0 : World), Ext no w a0 →
 R (.bool false) a0)) ∧
 (ap ≠ av →
 ∀ (a0 : World), Ext no w a0 →
 R (.bool false) a0)) ∧
 (az ≠ a6 →
 ∀ (a0 : World), Ext no w a0 →
 R (.bool false) a0)

theorem cachetteref21_Same.up (ba : Int) (ac : Int) (ar : Int) (b1 : Int) (b7 : Int) (bb : Int) (ao : Int) (al : Option Addr) (an : Nat) (aq : Nat) (bc : Int) (a1 : Int) (aa : Int) (ap : Int) (av : Int) (ay : Int) (ah : Int) (a5 : Option Addr) (af : Nat) (ai : Nat) (aw : Int) (b6 : Int) (bj : Option Addr) (bg : Nat) (bh : Nat) (bd : Int) (b3 : Int) (a2 : Int) (a6 : Int) (am : Int) (az : Int) (b4 : Int) (ad : Int) (ab : Option Addr) (a8 : Nat) (a7 : Nat) (b2 : Int) (a0 : Int) (aj : Int) (au : Int) (ax : Int) (b5 : Int) (a4 : Int) (ag : Option Addr) (a9 : Nat) (ae : Nat) (b0 : Int) (b8 : Int) (bf : Option Addr) (bi : Nat) (be : Nat) (b9 : Int) {R : Value → World → Prop} {w : World} (h : cachetteref21_Same.N ba ac ar b1 b7 bb ao al an aq bc a1 aa ap av ay ah a5 af ai aw b6 bj bg bh bd b3 a2 a6 am az b4 ad ab a8 a7 b2 a0 aj au ax b5 a4 ag a9 ae b0 b8 bf bi be b9 R w) : cachetteref21_Same.M ba ac ar b1 b7 bb ao al an aq bc a1 aa ap av ay ah a5 af ai aw b6 bj bg bh bd b3 a2 a6 am az b4 ad ab a8 a7 b2 a0 aj au ax b5 a4 ag a9 ae b0 b8 bf bi be b9 R w := by
  unfold cachetteref21_Same.M
  unfold cachetteref21_Same.N at h
  refine thenW_in fun bq bx => ?_
  have a3 := Blk.of_new bx
  have c6 := ((Ext.refl no w)).size
  have bp := (Ext.refl no w).x_alloc bx
  refine thenW_in fun bk bt => ?_
  have ak := Blk.of_new bt
  have c4 := (bp).size
  have bz := Nat.ne_of_lt a3.lt
  have a3 := a3.x_alloc bt
  have bl := bp.x_alloc bt
  refine ⟨ba, a3.celli 0 rfl rfl, ?_⟩
  refine ⟨b3, ak.celli 0 rfl rfl, ?_⟩
  refine bif_of (fun bw => ?_) (fun bw => ?_)
  · have h := h.1 (beq_t bw)
    refine ⟨b6, a3.celli 17 rfl rfl, ?_⟩
    refine ⟨b8, ak.celli 17 rfl rfl, ?_⟩
    refine bif_of (fun br => ?_) (fun br => ?_)
    · have h := h.1 (beq_t br)
      refine ⟨bd, a3.celli 19 rfl rfl, ?_⟩
      refine ⟨b9, ak.celli 19 rfl rfl, ?_⟩
      refine bif_of (fun bv => ?_) (fun bv => ?_)
      · have h := h.1 (beq_t bv)
        refine ⟨ac, ar, b1, b7, bb, ao, al, an, aq, bc, ⟨a3.celli 1 rfl rfl, a3.celli 2 rfl rfl, a3.celli 3 rfl rfl, a3.celli 4 rfl rfl, a3.celli 5 rfl rfl, a3.celli 6 rfl rfl, a3.celli 7 rfl rfl, a3.celli 8 rfl rfl, trivial⟩, ?_⟩
        refine ⟨a2, a6, am, az, b4, ad, ab, a8, a7, b2, ⟨ak.celli 1 rfl rfl, ak.celli 2 rfl rfl, ak.celli 3 rfl rfl, ak.celli 4 rfl rfl, ak.celli 5 rfl rfl, ak.celli 6 rfl rfl, ak.celli 7 rfl rfl, ak.celli 8 rfl rfl, trivial⟩, ?_⟩
        have h := h bk (w.heap.size) (bq.heap.size) bl (Priv.cons c6 a3.lt (Priv.cons c4 ak.lt Priv.nil))
        refine h.mono fun c7 c1 h => ?_
        obtain ⟨bo, he, hk, h⟩ := h
        refine ⟨bo, he, ?_⟩
        have a3 := hk.blk a3 (by simp)
        have ak := hk.blk ak (by simp)
        refine bif_of (fun bs => ?_) (fun bs => ?_)
        · have h := h.1 bs
          refine ⟨a1, aa, ap, av, ay, ah, a5, af, ai, aw, ⟨a3.celli 9 rfl rfl, a3.celli 10 rfl rfl, a3.celli 11 rfl rfl, a3.celli 12 rfl rfl, a3.celli 13 rfl rfl, a3.celli 14 rfl rfl, a3.celli 15 rfl rfl, a3.celli 16 rfl rfl, trivial⟩, ?_⟩
          refine ⟨a0, aj, au, ax, b5, a4, ag, a9, ae, b0, ⟨ak.celli 9 rfl rfl, ak.celli 10 rfl rfl, ak.celli 11 rfl rfl, ak.celli 12 rfl rfl, ak.celli 13 rfl rfl, ak.celli 14 rfl rfl, ak.celli 15 rfl rfl, ak.celli 16 rfl rfl, trivial⟩, ?_⟩
          refine h.mono fun c5 c0 h => ?_
          obtain ⟨bn, he, hk, h⟩ := h
          refine ⟨bn, he, ?_⟩
          have a3 := hk.blk a3 (by simp)
          have ak := hk.blk ak (by simp)
          refine bif_of (fun bu => ?_) (fun bu => ?_)
          · have h := h.1 bu
            refine ⟨bj, bg, bh, a3.celli 18 rfl rfl, ?_⟩
            refine ⟨bf, bi, be, ak.celli 18 rfl rfl, ?_⟩
            refine h.mono fun c3 c2 h => ?_
            obtain ⟨bm, he, h⟩ := h
            refine ⟨bm, he, ?_⟩
            exact h
          · have h := h.2 bu
            exact h
        · have h := h.2 bs
          exact h
      · have h := h.2 (beq_f bv)
        have h := h bk bl
        exact h
    · have h := h.2 (beq_f br)
      have h := h bk bl
      exact h
  · have h := h.2 (beq_f bw)
    have h := h bk bl
    exact h

theorem cachetteref21_Same.go (ba : Int) (af : Int) (al : Int) (b0 : Int) (b7 : Int) (b5 : Int) (ap : Int) (ak : Option Addr) (am : Nat) (aj : Nat) (b6 : Int) (a2 : Int) (ab : Int) (aq : Int) (av : Int) (b3 : Int) (ag : Int) (a6 : Option Addr) (a8 : Nat) (ai : Nat) (aw : Int) (b4 : Int) (be : Option Addr) (bh : Nat) (bf : Nat) (bb : Int) (ar : Int) (a0 : Int) (a9 : Int) (an : Int) (ay : Int) (au : Int) (a5 : Int) (ac : Option Addr) (ad : Nat) (aa : Nat) (b2 : Int) (a1 : Int) (a3 : Int) (ao : Int) (ax : Int) (b1 : Int) (a4 : Int) (ae : Option Addr) (ah : Nat) (a7 : Nat) (az : Int) (b8 : Int) (bd : Option Addr) (bg : Nat) (bc : Nat) (b9 : Int) {R : Value → World → Prop} {w : World} (h : cachetteref21_Same.N ba af al b0 b7 b5 ap ak am aj b6 a2 ab aq av b3 ag a6 a8 ai aw b4 be bh bf bb ar a0 a9 an ay au a5 ac ad aa b2 a1 a3 ao ax b1 a4 ae ah a7 az b8 bd bg bc b9 R w) : Calls Try.prog 23 #[.agg #[.int .i64 ba, .int .i64 af, .int .i64 al, .int .u64 b0, .int .i64 b7, .int .i64 b5, .int .i64 ap, .slice ak am aj, .int .u64 b6, .int .i64 a2, .int .i64 ab, .int .u64 aq, .int .i64 av, .int .i64 b3, .int .i64 ag, .slice a6 a8 ai, .int .u64 aw, .int .i64 b4, .slice be bh bf, .int .u64 bb], .agg #[.int .i64 ar, .int .i64 a0, .int .i64 a9, .int .u64 an, .int .i64 ay, .int .i64 au, .int .i64 a5, .slice ac ad aa, .int .u64 b2, .int .i64 a1, .int .i64 a3, .int .u64 ao, .int .i64 ax, .int .i64 b1, .int .i64 a4, .slice ae ah a7, .int .u64 az, .int .i64 b8, .slice bd bg bc, .int .u64 b9]] w fun e w' => ∃ v, e = .returned v ∧ R v w' := cachetteref21_Same.ok ba af al b0 b7 b5 ap ak am aj b6 a2 ab aq av b3 ag a6 a8 ai aw b4 be bh bf bb ar a0 a9 an ay au a5 ac ad aa b2 a1 a3 ao ax b1 a4 ae ah a7 az b8 bd bg bc b9 (cachetteref21_Same.up ba af al b0 b7 b5 ap ak am aj b6 a2 ab aq av b3 ag a6 a8 ai aw b4 be bh bf bb ar a0 a9 an ay au a5 ac ad aa b2 a1 a3 ao ax b1 a4 ae ah a7 az b8 bd bg bc b9 h)
theorem cachetteref21_Same.run (ba : Int) (af : Int) (al : Int) (b0 : Int) (b7 : Int) (b5 : Int) (ap : Int) (ak : Option Addr) (am : Nat) (aj : Nat) (b6 : Int) (a2 : Int) (ab : Int) (aq : Int) (av : Int) (b3 : Int) (ag : Int) (a6 : Option Addr) (a8 : Nat) (ai : Nat) (aw : Int) (b4 : Int) (be : Option Addr) (bh : Nat) (bf : Nat) (bb : Int) (ar : Int) (a0 : Int) (a9 : Int) (an : Int) (ay : Int) (au : Int) (a5 : Int) (ac : Option Addr) (ad : Nat) (aa : Nat) (b2 : Int) (a1 : Int) (a3 : Int) (ao : Int) (ax : Int) (b1 : Int) (a4 : Int) (ae : Option Addr) (ah : Nat) (a7 : Nat) (az : Int) (b8 : Int) (bd : Option Addr) (bg : Nat) (bc : Nat) (b9 : Int) {V : Value} {Q : World → Prop} {w : World} (h : cachetteref21_Same.N ba af al b0 b7 b5 ap ak am aj b6 a2 ab aq av b3 ag a6 a8 ai aw b4 be bh bf bb ar a0 a9 an ay au a5 ac ad aa b2 a1 a3 ao ax b1 a4 ae ah a7 az b8 bd bg bc b9 (fun v w' => v = V ∧ Q w') w) : Calls Try.prog 23 #[.agg #[.int .i64 ba, .int .i64 af, .int .i64 al, .int .u64 b0, .int .i64 b7, .int .i64 b5, .int .i64 ap, .slice ak am aj, .int .u64 b6, .int .i64 a2, .int .i64 ab, .int .u64 aq, .int .i64 av, .int .i64 b3, .int .i64 ag, .slice a6 a8 ai, .int .u64 aw, .int .i64 b4, .slice be bh bf, .int .u64 bb], .agg #[.int .i64 ar, .int .i64 a0, .int .i64 a9, .int .u64 an, .int .i64 ay, .int .i64 au, .int .i64 a5, .slice ac ad aa, .int .u64 b2, .int .i64 a1, .int .i64 a3, .int .u64 ao, .int .i64 ax, .int .i64 b1, .int .i64 a4, .slice ae ah a7, .int .u64 az, .int .i64 b8, .slice bd bg bc, .int .u64 b9]] w (Ret V Q) := (cachetteref21_Same.go ba af al b0 b7 b5 ap ak am aj b6 a2 ab aq av b3 ag a6 a8 ai aw b4 be bh bf bb ar a0 a9 an ay au a5 ac ad aa b2 a1 a3 ao ax b1 a4 ae ah a7 az b8 bd bg bc b9 h).mono fun e w' ⟨v, he, hv, hq⟩ => ⟨by rw [he, hv], hq⟩

structure Fr where
  kd : Int
  e : Ent
  f : Ent
  who : Int
  v : List Hd
  sg : Int
deriving DecidableEq
def Fr.zero : Fr := ⟨0, Ent.zero, Ent.zero, 0, [], 0⟩
/-- a frame, and where its bytes and heads lie. -/
structure FP where
  r : Fr
  ea : Option Addr
  ec : Nat
  fa : Option Addr
  fc : Nat
  va : Option Addr
  vc : Nat
def FP.C (x : FP) : List Value := [.int .i64 x.r.kd, .int .i64 x.r.e.w, .int .i64 x.r.e.i, .int .u64 x.r.e.pv, .int .i64 x.r.e.t, .int .i64 x.r.e.tw, .int .i64 x.r.e.ep, .slice x.ea x.r.e.body.length x.ec, .int .u64 x.r.e.sg,
  .int .i64 x.r.f.w, .int .i64 x.r.f.i, .int .u64 x.r.f.pv, .int .i64 x.r.f.t, .int .i64 x.r.f.tw, .int .i64 x.r.f.ep, .slice x.fa x.r.f.body.length x.fc, .int .u64 x.r.f.sg, .int .i64 x.r.who, .slice x.va x.r.v.length x.vc, .int .u64 x.r.sg]
def FP.V (x : FP) : Value := .agg #[.int .i64 x.r.kd, .int .i64 x.r.e.w, .int .i64 x.r.e.i, .int .u64 x.r.e.pv, .int .i64 x.r.e.t, .int .i64 x.r.e.tw, .int .i64 x.r.e.ep, .slice x.ea x.r.e.body.length x.ec, .int .u64 x.r.e.sg,
  .int .i64 x.r.f.w, .int .i64 x.r.f.i, .int .u64 x.r.f.pv, .int .i64 x.r.f.t, .int .i64 x.r.f.tw, .int .i64 x.r.f.ep, .slice x.fa x.r.f.body.length x.fc, .int .u64 x.r.f.sg, .int .i64 x.r.who, .slice x.va x.r.v.length x.vc, .int .u64 x.r.sg]
structure FP.at (w : World) (x : FP) : Prop where
  e : RowAt w x.ea (bytesV x.r.e.body)
  f : RowAt w x.fa (bytesV x.r.f.body)
  v : RowAt w x.va (hsC x.r.v)
/-- .. of nobody's. -/
structure FP.ok (w : World) (o : Own) (x : FP) : Prop where
  e : Row w o x.ea (bytesV x.r.e.body)
  f : Row w o x.fa (bytesV x.r.f.body)
  v : Row w o x.va (hsC x.r.v)
  el : x.r.e.body.length ≤ x.ec
  fl : x.r.f.body.length ≤ x.fc
  vl : x.r.v.length ≤ x.vc
def frOK (x : Fr) : Bool :=
  if x.kd = 1 then entRight x.e && (decide (x.f = Ent.zero) && (decide (x.who = 0) && (decide (x.v.length = 0) && decide (x.sg = 0))))
  else if x.kd = 2 then decide (x.e = Ent.zero) && (decide (x.f = Ent.zero) && (decide (0 ≤ x.who) && (decide (x.who < 8) && (rightV x.v && decide (x.sg = 0)))))
  else if x.kd = 3 then decide (x.e = Ent.zero) && (decide (x.f = Ent.zero) && (decide (0 ≤ x.who) && (decide (x.who < 8) && rightV x.v)))
  else if x.kd = 4 then entRight x.e && (entRight x.f && (decide (x.who = 0) && (decide (x.v.length = 0) && decide (x.sg = 0))))
  else false
def frSame (x y : Fr) : Bool := decide (x = y)
section
variable {w w' : World} {o o' : Own} {K : Nat → Prop} {x y : FP} {e f : Ent} {a : Option Addr} {c : Nat}
theorem FP.ok.at (h : x.ok w o) : x.at w := ⟨h.e.1, h.f.1, h.v.1⟩
theorem FP.ok.step (h : x.ok w o) (s : Step K w o w' o') : x.ok w' o' := ⟨h.e.step s, h.f.step s, h.v.step s, h.el, h.fl, h.vl⟩
theorem FP.at.no (h : x.at w) (X : Ext no w w') : x.at w' := ⟨h.e.no X, h.f.no X, h.v.no X⟩
theorem beq_dz (s : Int) : (s == 0) = decide (s = 0) := by rw [Bool.eq_iff_iff]; simp
theorem fits_spec (ha : RowAt w a (bytesV e.body)) (b : Bool) :
    Calls Try.prog 75 #[entV e a c, .bool b] w (Ret (.bool (if b then entRight e else decide (e = Ent.zero))) fun w' => Ext no w w') := by
  refine frame_fits.run e.w e.i e.pv e.t e.tw e.ep a e.body.length c e.sg b ?_
  unfold frame_fits.N
  rw [entRight_F]
  refine ⟨fun h w2 X => ⟨by rw [h]; rfl, X⟩, fun h w2 X => ?_⟩
  refine (ESame_spec (e := e) (f := Ent.zero) (b := none) (d := 0) (ha.no X) (RowAt.nil _ _)).mono fun v w3 ⟨hx, X3⟩ => ⟨_, hx, by rw [h]; rfl, X.trans X3⟩
theorem fRight_spec (h : x.at w) (hl : x.r.v.length < 1000000) : Calls Try.prog 56 #[x.V] w (Ret (.bool (frOK x.r)) fun w' => Ext no w w') := by
  obtain ⟨⟨kd, e, f, who, v, sg⟩, ea, ec, fa, fc, va, vc⟩ := x
  obtain ⟨he, hf, hv⟩ := h
  refine frame_Right.run kd e.w e.i e.pv e.t e.tw e.ep ea e.body.length ec e.sg f.w f.i f.pv f.t f.tw f.ep fa f.body.length fc f.sg who va v.length vc sg ?_
  unfold frame_Right.N
  have leaf : ∀ {b : Bool} {w2 : World}, b = frOK ⟨kd, e, f, who, v, sg⟩ → Ext no w w2 → Value.bool b = Value.bool (frOK ⟨kd, e, f, who, v, sg⟩) ∧ Ext no w w2 := fun h X => ⟨by rw [h], X⟩
  refine ⟨fun h1 w2 X => leaf ?_ X, fun h1 => ⟨fun h4 w2 X => leaf ?_ X, fun h4 => ⟨fun k1 w2 p X hp => ?_, fun k1 w2 p X hp => ?_⟩⟩⟩
  · unfold frOK; simp only []; rw [if_neg (by omega), if_neg (by omega), if_neg (by omega), if_neg (by omega)]
  · unfold frOK; simp only []; rw [if_neg (by omega), if_neg (by omega), if_neg (by omega), if_neg (by omega)]
  · subst k1
    refine (fits_spec (he.no X) true).mono fun u w3 ⟨hx, X3⟩ => ⟨_, hx, X3.kept, fun h => leaf ?_ (X.trans X3), fun h => ?_⟩
    · have h' : entRight e = false := h
      simp [frOK, h']
    have h' : entRight e = true := h
    have X3 := X.trans X3
    refine (fits_spec (hf.no X3) _).mono fun u w4 ⟨hx, X4⟩ => ⟨_, hx, X4.kept, fun hh => leaf ?_ (X3.trans X4), fun hh => ?_⟩
    all_goals simp at hh
    · simp [frOK, hh]
    have X4 := X3.trans X4
    refine ⟨fun hw => ⟨fun hn => leaf ?_ X4, fun hn => leaf ?_ X4⟩, fun hw => leaf ?_ X4⟩
    · have hn' : v.length = 0 := by omega
      simp [frOK, h', hh, hw, List.length_eq_zero_iff.1 hn', beq_dz]
    · have hn' : v ≠ [] := fun h => hn (by rw [h]; rfl)
      simp [frOK, hn']
    · simp [frOK, hw]
  · refine (fits_spec (he.no X) _).mono fun u w3 ⟨hx, X3⟩ => ⟨_, hx, X3.kept, fun h => leaf ?_ (X.trans X3), fun h => ?_⟩
    · by_cases k4 : kd = 4
      · subst k4; simp at h; simp [frOK, h]
      · rw [beq_false_of_ne k4] at h; simp at h; simp [frOK, h, k1, k4]
    have X3 := X.trans X3
    refine (fits_spec (hf.no X3) _).mono fun u w4 ⟨hx, X4⟩ => ⟨_, hx, X4.kept, fun hh => leaf ?_ (X3.trans X4), fun hh => ?_⟩
    · by_cases k4 : kd = 4
      · subst k4; simp at hh; simp [frOK, hh]
      · rw [beq_false_of_ne k4] at hh; simp at hh; simp [frOK, hh, k1, k4]
    have X4 := X3.trans X4
    refine ⟨fun k2 => ⟨fun k3 => ?_, fun k3 => ?_⟩, fun k2 => ?_⟩
    · obtain rfl : kd = 4 := by omega
      simp at h hh
      refine ⟨fun hw => ⟨fun hn => leaf ?_ X4, fun hn => leaf ?_ X4⟩, fun hw => leaf ?_ X4⟩
      · have hn' : v.length = 0 := by omega
        simp [frOK, h, hh, hw, List.length_eq_zero_iff.1 hn', beq_dz]
      · have hn' : v ≠ [] := fun h => hn (by rw [h]; rfl)
        simp [frOK, hn']
      · simp [frOK, hw]
    · subst k3
      simp at h hh
      refine ⟨fun hw => ⟨fun hn => ?_, fun hn => leaf ?_ X4⟩, fun hw => leaf ?_ X4⟩
      · refine (Right_spec (hv.no X4) hl).mono fun u w5 ⟨hx, X5⟩ => ⟨_, hx, X5.kept, fun hv => leaf ?_ (X4.trans X5), fun hv => leaf ?_ (X4.trans X5)⟩
        · have hv' : rightV v = true := hv
          have hw' : 0 ≤ who := hw
          simp [frOK, h, hh, hw', hn, hv']
        · have hv' : rightV v = false := hv
          simp [frOK, hv']
      · have : ¬ who < 8 := by omega
        simp [frOK, this]
      · have : ¬ 0 ≤ who := by omega
        simp [frOK, this]
    · subst k2
      simp at h hh
      refine ⟨fun hw => ⟨fun hn => ?_, fun hn => leaf ?_ X4⟩, fun hw => leaf ?_ X4⟩
      · refine (Right_spec (hv.no X4) hl).mono fun u w5 ⟨hx, X5⟩ => ⟨_, hx, X5.kept, fun hv => leaf ?_ (X4.trans X5), fun hv => leaf ?_ (X4.trans X5)⟩
        · have hv' : rightV v = true := hv
          have hw' : 0 ≤ who := hw
          simp [frOK, h, hh, hw', hn, hv', beq_dz]
        · have hv' : rightV v = false := hv
          simp [frOK, hv']
      · have : ¬ who < 8 := by omega
        simp [frOK, this]
      · have : ¬ 0 ≤ who := by omega
        simp [frOK, this]
theorem rNone_spec (ha : RowAt w a (bytesV e.body)) (hl : e.body.length < 1000000) :
    Calls Try.prog 77 #[entV e a c] w (Ret (.bool (decide (e = Ent.zero))) fun w' => Ext no w w') := by
  refine cachetteref21_none.run e.w e.i e.pv e.t e.tw e.ep a e.body.length c e.sg ?_
  unfold cachetteref21_none.N
  intro w2 X
  exact (rESame_spec (e := e) (f := Ent.zero) (b := none) (d := 0) (ha.no X) (RowAt.nil _ _) hl).mono fun v w3 ⟨hx, X3⟩ => ⟨_, hx, rfl, X.trans X3⟩
theorem rfRight_spec (h : x.at w) (hl : x.r.v.length < 1000000) (hle : x.r.e.body.length < 1000000) (hlf : x.r.f.body.length < 1000000) : Calls Try.prog 58 #[x.V] w (Ret (.bool (frOK x.r)) fun w' => Ext no w w') := by
  obtain ⟨⟨kd, e, f, who, v, sg⟩, ea, ec, fa, fc, va, vc⟩ := x
  obtain ⟨he, hf, hv⟩ := h
  refine cachetteref21_Right.run kd e.w e.i e.pv e.t e.tw e.ep ea e.body.length ec e.sg f.w f.i f.pv f.t f.tw f.ep fa f.body.length fc f.sg who va v.length vc sg ?_
  unfold cachetteref21_Right.N
  rw [refRight_F, refRight_F]
  have leaf : ∀ {b : Bool} {w2 : World}, b = frOK ⟨kd, e, f, who, v, sg⟩ → Ext no w w2 → Value.bool b = Value.bool (frOK ⟨kd, e, f, who, v, sg⟩) ∧ Ext no w w2 := fun h X => ⟨by rw [h], X⟩
  refine ⟨fun k1 => ⟨fun h w2 X => leaf ?_ X, fun h w2 p X hp => ?_⟩, fun k1 => ⟨fun k2 w2 p X hp => ?_, fun k2 => ⟨fun h1 w2 X => leaf ?_ X, fun h1 => ⟨fun h4 w2 X => leaf ?_ X, fun h4 => ?_⟩⟩⟩⟩
  · subst k1; simp [frOK, h]
  · subst k1
    refine (rNone_spec (hf.no X) hlf).mono fun u w3 ⟨hx, X3⟩ => ⟨_, hx, X3.kept, fun hh => leaf ?_ (X.trans X3), fun hh => ?_⟩
    all_goals simp at hh
    · simp [frOK, hh]
    have X3 := X.trans X3
    refine ⟨fun hw => leaf ?_ X3, fun hw => ⟨fun hn => leaf ?_ X3, fun hn => leaf ?_ X3⟩⟩
    · simp [frOK, hw]
    · have hn' : v ≠ [] := fun h => by rw [h] at hn; simp at hn
      simp [frOK, hn']
    · have hn' : v.length = 0 := by omega
      simp [frOK, h, hh, hw, List.length_eq_zero_iff.1 hn', beq_dz]
  · subst k2
    refine (rNone_spec (he.no X) hle).mono fun u w3 ⟨hx, X3⟩ => ⟨_, hx, X3.kept, fun h => leaf ?_ (X.trans X3), fun h => ?_⟩
    all_goals simp at h
    · simp [frOK, h]
    have X3 := X.trans X3
    refine (rNone_spec (hf.no X3) hlf).mono fun u w4 ⟨hx, X4⟩ => ⟨_, hx, X4.kept, fun hh => leaf ?_ (X3.trans X4), fun hh => ?_⟩
    all_goals simp at hh
    · simp [frOK, hh]
    have X4 := X3.trans X4
    refine ⟨fun hw => leaf ?_ X4, fun hw => ⟨fun hn => leaf ?_ X4, fun hn => ?_⟩⟩
    · have : ¬ 0 ≤ who := by omega
      simp [frOK, this]
    · have : ¬ who < 8 := by omega
      simp [frOK, this]
    · refine (rRight_spec (hv.no X4) hl).mono fun u w5 ⟨hx, X5⟩ => ⟨_, hx, X5.kept, fun hv => leaf ?_ (X4.trans X5), fun hv => leaf ?_ (X4.trans X5)⟩
      · have hv' : rightV v = false := hv
        simp [frOK, hv']
      · have hv' : rightV v = true := hv
        simp [frOK, h, hh, hw, hn, hv', beq_dz]
  · unfold frOK; simp only []; rw [if_neg (by omega), if_neg (by omega), if_neg (by omega), if_neg (by omega)]
  · unfold frOK; simp only []; rw [if_neg (by omega), if_neg (by omega), if_neg (by omega), if_neg (by omega)]
  · refine ⟨fun k4 => ⟨fun h w2 X => leaf ?_ X, fun h => ⟨fun hh w2 X => leaf ?_ X, fun hh => ⟨fun hw w2 X => leaf ?_ X, fun hw => ⟨fun hn w2 X => leaf ?_ X, fun hn w2 X => leaf ?_ X⟩⟩⟩⟩, fun k4 w2 p X hp => ?_⟩
    · subst k4; simp [frOK, h]
    · subst k4; simp [frOK, hh]
    · subst k4; simp [frOK, hw]
    · subst k4
      have hn' : v ≠ [] := fun h => by rw [h] at hn; simp at hn
      simp [frOK, hn']
    · subst k4
      have hn' : v.length = 0 := by omega
      simp [frOK, h, hh, hw, List.length_eq_zero_iff.1 hn', beq_dz]
    · obtain rfl : kd = 3 := by omega
      refine (rNone_spec (he.no X) hle).mono fun u w3 ⟨hx, X3⟩ => ⟨_, hx, X3.kept, fun h => leaf ?_ (X.trans X3), fun h => ?_⟩
      all_goals simp at h
      · simp [frOK, h]
      have X3 := X.trans X3
      refine (rNone_spec (hf.no X3) hlf).mono fun u w4 ⟨hx, X4⟩ => ⟨_, hx, X4.kept, fun hh => leaf ?_ (X3.trans X4), fun hh => ?_⟩
      all_goals simp at hh
      · simp [frOK, hh]
      have X4 := X3.trans X4
      refine ⟨fun _ => ⟨fun hw => leaf ?_ X4, fun hw => ⟨fun hn => leaf ?_ X4, fun hn => ?_⟩⟩, fun h => absurd rfl h⟩
      · have : ¬ 0 ≤ who := by omega
        simp [frOK, this]
      · have : ¬ who < 8 := by omega
        simp [frOK, this]
      · refine (rRight_spec (hv.no X4) hl).mono fun u w5 ⟨hx, X5⟩ => ⟨_, hx, X5.kept, fun hv => leaf ?_ (X4.trans X5), fun hv => leaf ?_ (X4.trans X5)⟩
        · have hv' : rightV v = false := hv
          simp [frOK, hv']
        · have hv' : rightV v = true := hv
          simp [frOK, h, hh, hw, hn, hv']
theorem rfSame_spec (hx : x.at w) (hy : y.at w) (hle : x.r.e.body.length < 1000000) (hlf : x.r.f.body.length < 1000000) (hlv : x.r.v.length < 1000000) : Calls Try.prog 23 #[x.V, y.V] w (Ret (.bool (frSame x.r y.r)) fun w' => Ext no w w') := by
  obtain ⟨⟨kd, e, f, who, v, sg⟩, ea, ec, fa, fc, va, vc⟩ := x
  obtain ⟨⟨kd', e', f', who', v', sg'⟩, ea', ec', fa', fc', va', vc'⟩ := y
  refine cachetteref21_Same.run kd e.w e.i e.pv e.t e.tw e.ep ea e.body.length ec e.sg f.w f.i f.pv f.t f.tw f.ep fa f.body.length fc f.sg who va v.length vc sg kd' e'.w e'.i e'.pv e'.t e'.tw e'.ep ea' e'.body.length ec' e'.sg f'.w f'.i f'.pv f'.t f'.tw f'.ep fa' f'.body.length fc' f'.sg who' va' v'.length vc' sg' ?_
  unfold cachetteref21_Same.N
  have leaf : ∀ {b : Bool} {w2 : World}, (b = true ↔ (Fr.mk kd e f who v sg) = ⟨kd', e', f', who', v', sg'⟩) → Ext no w w2 → Value.bool b = Value.bool (frSame ⟨kd, e, f, who, v, sg⟩ ⟨kd', e', f', who', v', sg'⟩) ∧ Ext no w w2 := fun {b} {w2} h X => ⟨by
    congr 1
    rw [Bool.eq_iff_iff, h]
    unfold frSame; rw [decide_eq_true_eq], X⟩
  refine ⟨fun h1 => ⟨fun h2 => ⟨fun h3 w2 p46 p47 X hp => ?_, fun h w2 X => leaf (by simp [h]) X⟩, fun h w2 X => leaf (by simp [h]) X⟩, fun h w2 X => leaf (by simp [h]) X⟩
  refine (rESame_spec (e := e) (f := e') (hx.e.no X) (hy.e.no X) hle).mono fun u w3 ⟨hx3, X3⟩ => ⟨_, hx3, X3.kept, fun h4 => ?_, fun h => leaf ?_ (X.trans X3)⟩
  · have X3 := X.trans X3
    refine (rESame_spec (e := f) (f := f') (hx.f.no X3) (hy.f.no X3) hlf).mono fun u w4 ⟨hx4, X4⟩ => ⟨_, hx4, X4.kept, fun h5 => ?_, fun h => leaf ?_ (X3.trans X4)⟩
    · have X4 := X3.trans X4
      refine (same5_spec (hx.v.no X4) (hy.v.no X4) hlv).mono fun u w5 ⟨hx5, X5⟩ => ⟨_, hx5, leaf ?_ (X4.trans X5)⟩
      rw [decide_eq_true_eq] at h4 h5 ⊢
      rw [Fr.mk.injEq]
      exact ⟨fun h => ⟨h1, h4, h5, h2, h, h3⟩, fun h => h.2.2.2.2.1⟩
    · simp at h; simp [h]
  · simp at h; simp [h]
end
end Go.Proofs.Ytfmdpjhkojbocaa

