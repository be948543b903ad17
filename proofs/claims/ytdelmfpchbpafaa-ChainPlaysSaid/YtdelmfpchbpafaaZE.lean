/- The reference's entries with its oracle. -/
import Derived.Test.YtdelmfpchbpafaaZD
import Derived.Test.YtdelmfpchbpafaaZC
import Derived.Test.YtdelmfpchbpafaaZB
set_option linter.unusedVariables false
set_option linter.unusedSimpArgs false
set_option maxRecDepth 20000
namespace Go.Proofs.Ytdelmfpchbpafaa
open Go Go.Mx Go.Proofs
open W (OwnB GivesW numR countR doneR zig unzig intR)
section
variable {w w' : World} {o o' : Own} {k n : Nat} {K : Nat → Prop} {S : OS} {d : List Int} {L : List RRow}
theorem bytesL_le' {e : Ent} (hr : entRight e = true) : (bytesL e).length ≤ 1200 := by have := bytesK_le e; unfold bytesK at this; rw [if_pos hr] at this; exact this
theorem textL_le' {e : Ent} (hr : entRight e = true) : (textL e).length ≤ 1200 := by have := textK_le e; unfold textK at this; rw [if_pos hr] at this; exact this
/-- cachetteref06.Sum -/
def cachetteref06_Sum.M (o1 : Option Addr) (af : Int) (ag : Int) (al : Int) (ao : Int) (am : Int) (ah : Int) (ai : Option Addr) (aj : Nat) (ak : Nat) (aq : Int) (R : Value → World → Prop) (w : World) : Prop :=
 thenW (w.alloc (.cells #[.int .i64 af, .int .i64 ag, .int .u64 al, .int .i64 ao, .int .i64 am, .int .i64 ah, .slice ai aj ak, .int .u64 aq] 47)) fun an =>
 ∃ (a0 : Int) (a4 : Int) (aa : Int) (ad : Int) (ae : Int) (a5 : Int) (a6 : Option Addr) (a8 : Nat) (a7 : Nat) (ac : Int), cellsAt an (blk w.heap.size) [.int .i64 a0, .int .i64 a4, .int .u64 aa, .int .i64 ad, .int .i64 ae, .int .i64 a5, .slice a6 a8 a7, .int .u64 ac] 0 ∧
 Calls Try.prog 66 #[.agg #[.int .i64 a0, .int .i64 a4, .int .u64 aa, .int .i64 ad, .int .i64 ae, .int .i64 a5, .slice a6 a8 a7, .int .u64 ac]] an fun av ap => ∃ (a3 : Option Addr) (a9 : Nat) (a2 : Nat) (a1 : Int), av = .returned (.tuple #[.slice a3 a9 a2, .int .i64 a1]) ∧
 bif a1 != 0 then (
 R (.tuple #[.int .u64 0, .int .i64 a1]) ap) else (
 Calls Try.prog 67 #[.pointer o1, .slice a3 a9 a2] ap fun au ar => ∃ (ab : Int), au = .returned (.int .u64 ab) ∧
 R (.tuple #[.int .u64 ab, .int .i64 0]) ar)

theorem cachetteref06_Sum.eq (o1 : Option Addr) (eWriter2 : Int) (eIndex3 : Int) (ePrev4 : Int) (eAtT5 : Int) (eAtW6 : Int) (eEpoch7 : Int) (eBody8a : Option Addr) (eBody8n : Nat) (eBody8c : Nat) (eSig9 : Int) (R : Value → World → Prop) (w : World) : mfunc Try.prog [] 49 [.pointer o1, .agg #[.int .i64 eWriter2, .int .i64 eIndex3, .int .u64 ePrev4, .int .i64 eAtT5, .int .i64 eAtW6, .int .i64 eEpoch7, .slice eBody8a eBody8n eBody8c, .int .u64 eSig9]] R w = cachetteref06_Sum.M o1 eWriter2 eIndex3 ePrev4 eAtT5 eAtW6 eEpoch7 eBody8a eBody8n eBody8c eSig9 R w := by kernel_rfl
theorem cachetteref06_Sum.ok (o1 : Option Addr) (a0 : Int) (a1 : Int) (a6 : Int) (a7 : Int) (a8 : Int) (a2 : Int) (a4 : Option Addr) (a3 : Nat) (a5 : Nat) (a9 : Int) {R : Value → World → Prop} {w : World} (h : cachetteref06_Sum.M o1 a0 a1 a6 a7 a8 a2 a4 a3 a5 a9 R w) : Calls Try.prog 49 #[.pointer o1, .agg #[.int .i64 a0, .int .i64 a1, .int .u64 a6, .int .i64 a7, .int .i64 a8, .int .i64 a2, .slice a4 a3 a5, .int .u64 a9]] w fun e w' => ∃ v, e = .returned v ∧ R v w' :=
  mfunc_ok follows (H := []) (args := [.pointer o1, .agg #[.int .i64 a0, .int .i64 a1, .int .u64 a6, .int .i64 a7, .int .i64 a8, .int .i64 a2, .slice a4 a3 a5, .int .u64 a9]]) (by rw [cachetteref06_Sum.eq]; exact h)

def cachetteref06_Sum.N (o1 : Option Addr) (a5 : Int) (a6 : Int) (ab : Int) (af : Int) (ad : Int) (a7 : Int) (a8 : Option Addr) (a9 : Nat) (aa : Nat) (ag : Int) (R : Value → World → Prop) (w : World) : Prop :=
 ∀ (ae : World), Ext no w ae →
 Calls Try.prog 66 #[.agg #[.int .i64 a5, .int .i64 a6, .int .u64 ab, .int .i64 af, .int .i64 ad, .int .i64 a7, .slice a8 a9 aa, .int .u64 ag]] ae fun ai ac => ∃ (a2 : Option Addr) (a1 : Nat) (a3 : Nat) (a0 : Int), ai = .returned (.tuple #[.slice a2 a1 a3, .int .i64 a0]) ∧
 (a0 ≠ 0 →
 R (.tuple #[.int .u64 0, .int .i64 a0]) ac) ∧
 (a0 = 0 →
 Calls Try.prog 67 #[.pointer o1, .slice a2 a1 a3] ac fun ah aj => ∃ (a4 : Int), ah = .returned (.int .u64 a4) ∧
 R (.tuple #[.int .u64 a4, .int .i64 0]) aj)

theorem cachetteref06_Sum.up (o1 : Option Addr) (a0 : Int) (a1 : Int) (a6 : Int) (a9 : Int) (a8 : Int) (a2 : Int) (a3 : Option Addr) (a4 : Nat) (a5 : Nat) (aa : Int) {R : Value → World → Prop} {w : World} (h : cachetteref06_Sum.N o1 a0 a1 a6 a9 a8 a2 a3 a4 a5 aa R w) : cachetteref06_Sum.M o1 a0 a1 a6 a9 a8 a2 a3 a4 a5 aa R w := by
  unfold cachetteref06_Sum.M
  unfold cachetteref06_Sum.N at h
  refine thenW_in fun ag aj => ?_
  have ae := Blk.of_new aj
  have ao := ((Ext.refl no w)).size
  have ai := (Ext.refl no w).x_alloc aj
  refine ⟨a0, a1, a6, a9, a8, a2, a3, a4, a5, aa, ⟨ae.celli 0 rfl rfl, ae.celli 1 rfl rfl, ae.celli 2 rfl rfl, ae.celli 3 rfl rfl, ae.celli 4 rfl rfl, ae.celli 5 rfl rfl, ae.celli 6 rfl rfl, ae.celli 7 rfl rfl, trivial⟩, ?_⟩
  have h := h ag ai
  refine h.mono fun am ak h => ?_
  obtain ⟨ab, a7, ac, ad, he, h⟩ := h
  refine ⟨ab, a7, ac, ad, he, ?_⟩
  refine bif_of (fun ah => ?_) (fun ah => ?_)
  · have h := h.1 (bne_t ah)
    exact h
  · have h := h.2 (bne_f ah)
    refine h.mono fun al an h => ?_
    obtain ⟨af, he, h⟩ := h
    refine ⟨af, he, ?_⟩
    exact h

theorem cachetteref06_Sum.go (o1 : Option Addr) (a0 : Int) (a1 : Int) (a6 : Int) (a7 : Int) (a8 : Int) (a2 : Int) (a4 : Option Addr) (a3 : Nat) (a5 : Nat) (a9 : Int) {R : Value → World → Prop} {w : World} (h : cachetteref06_Sum.N o1 a0 a1 a6 a7 a8 a2 a4 a3 a5 a9 R w) : Calls Try.prog 49 #[.pointer o1, .agg #[.int .i64 a0, .int .i64 a1, .int .u64 a6, .int .i64 a7, .int .i64 a8, .int .i64 a2, .slice a4 a3 a5, .int .u64 a9]] w fun e w' => ∃ v, e = .returned v ∧ R v w' := cachetteref06_Sum.ok o1 a0 a1 a6 a7 a8 a2 a4 a3 a5 a9 (cachetteref06_Sum.up o1 a0 a1 a6 a7 a8 a2 a4 a3 a5 a9 h)
def sumR (d : List Int) (L : List RRow) (e : Ent) : (Int × Int) × List Int × List RRow := if entRight e = true then (((hashR d L (bytesL e)).1, 0), (hashR d L (bytesL e)).2) else ((0, 1), d, L)
theorem rSum_spec (h : ROrc w o k d L) (ok : ROk w o d L) {e : Ent} (hf : entRight e = true → e.fit) {ba : Option Addr} {bc : Nat} (hb : RowAt w ba (bytesV e.body)) :
    Calls Try.prog 49 #[.pointer (some (blk k)), entV e ba bc] w (Gs (fun j => j = k) w o (.tuple #[u64V (sumR d L e).1.1, .int .i64 (sumR d L e).1.2]) fun w' o' => ROrc w' o' k (sumR d L e).2.1 (sumR d L e).2.2) := by
  refine (cachetteref06_Sum.go (some (blk k)) e.w e.i e.pv e.t e.tw e.ep ba e.body.length bc e.sg (R := fun v w' => ∃ o', v = (.tuple #[u64V (sumR d L e).1.1, .int .i64 (sumR d L e).1.2]) ∧ Step (fun j => j = k) w o w' o' ∧ ROrc w' o' k (sumR d L e).2.1 (sumR d L e).2.2) ?_).mono fun x w' ⟨v, he, o', hv, hw⟩ => ⟨o', by rw [he, hv], hw⟩
  unfold cachetteref06_Sum.N
  intro w10 X10
  have s10 := Step.of_no X10 ok.tags
  refine (rEBytesK_spec hf (hb.no X10)).mono fun x w15 ⟨a, c, he, hO, X⟩ => ⟨_, _, _, _, he, ?_⟩
  have s15 := Step.of_no X s10.ok
  have s := s10.trans s15
  have h15 := h.step s id
  have ok15 : ROk w15 _ d L := ⟨s.ok, ok.draws, ok.short, ok.bytes⟩
  unfold bytesK sumR at *
  by_cases hr : entRight e = true
  · rw [if_pos hr] at hO ⊢
    rw [if_pos hr]
    refine ⟨fun h => absurd rfl h, fun _ => ?_⟩
    refine (rHash_spec h15 ok15 (OwnB.tight hO (Nat.le_refl _)) hO.le).mono fun x w20 ⟨o20, he, s20, h20⟩ => ⟨_, he, o20, rfl, s.none.trans s20, h20⟩
  · rw [if_neg hr]
    rw [if_neg hr]
    exact ⟨fun _ => ⟨_, rfl, s.none, h15⟩, fun h => absurd h (by decide)⟩
theorem sum_sim (h : Sim S d L) (e : Ent) : (sumR d L e).1 = (sumE S e).1 ∧ Sim (sumE S e).2 (sumR d L e).2.1 (sumR d L e).2.2 := by
  unfold sumR sumE
  by_cases hr : entRight e = true
  · rw [if_pos hr, if_pos hr]
    obtain ⟨h1, h2⟩ := hash_sim h (bytesL e)
    exact ⟨by rw [h1], h2⟩
  · rw [if_neg hr, if_neg hr]
    exact ⟨rfl, h⟩
theorem RFine.sum (h : RFine n d L) (e : Ent) : RFine (n + 1) (sumR d L e).2.1 (sumR d L e).2.2 := by
  unfold sumR
  split
  · rename_i hr; exact h.hash (by have := bytesL_le' hr; omega)
  · exact h.more
theorem sum_inv (h : OInv S) (e : Ent) : OInv (sumE S e).2 := by
  unfold sumE
  split
  · exact (hash_inv h _).1
  · exact h
/-- cachetteref06.Sign -/
def cachetteref06_Sign.M (o1 : Option Addr) (bt : Int) (bi : Int) (bp : Int) (bw : Int) (cd : Int) (cq : Int) (bo : Int) (br : Option Addr) (bq : Nat) (bu : Nat) (bz : Int) (R : Value → World → Prop) (w : World) : Prop :=
 thenW (w.alloc (.cells #[.int .i64 bi, .int .i64 bp, .int .u64 bw, .int .i64 cd, .int .i64 cq, .int .i64 bo, .slice br bq bu, .int .u64 bz] 47)) fun a0 =>
 thenW (a0.alloc (.cells #[.int .i64 0, .int .i64 0, .int .u64 0, .int .i64 0, .int .i64 0, .int .i64 0, .slice none 0 0, .int .u64 0] 47)) fun c4 =>
 ∃ (ak : Int) (ay : Int) (bc : Int) (bl : Int) (bm : Int) (b8 : Int) (b6 : Option Addr) (av : Nat) (b5 : Nat) (bj : Int), cellsAt c4 (blk w.heap.size) [.int .i64 ak, .int .i64 ay, .int .u64 bc, .int .i64 bl, .int .i64 bm, .int .i64 b8, .slice b6 av b5, .int .u64 bj] 0 ∧
 Calls Try.prog 59 #[.agg #[.int .i64 ak, .int .i64 ay, .int .u64 bc, .int .i64 bl, .int .i64 bm, .int .i64 b8, .slice b6 av b5, .int .u64 bj]] c4 fun cs bx => ∃ (be : Option Addr) (bf : Nat) (bd : Nat) (b9 : Int), cs = .returned (.tuple #[.slice be bf bd, .int .i64 b9]) ∧
 bif b9 != 0 then (
 canStore bx ((blk a0.heap.size).add 0) ∧
 thenW (bx.setCell ((blk a0.heap.size).add 0) (.int .i64 0)) fun c1 =>
 canStore c1 ((blk a0.heap.size).add 1) ∧
 thenW (c1.setCell ((blk a0.heap.size).add 1) (.int .i64 0)) fun c7 =>
 canStore c7 ((blk a0.heap.size).add 2) ∧
 thenW (c7.setCell ((blk a0.heap.size).add 2) (.int .u64 0)) fun ch =>
 canStore ch ((blk a0.heap.size).add 3) ∧
 thenW (ch.setCell ((blk a0.heap.size).add 3) (.int .i64 0)) fun c9 =>
 canStore c9 ((blk a0.heap.size).add 4) ∧
 thenW (c9.setCell ((blk a0.heap.size).add 4) (.int .i64 0)) fun co =>
 canStore co ((blk a0.heap.size).add 5) ∧
 thenW (co.setCell ((blk a0.heap.size).add 5) (.int .i64 0)) fun ca =>
 canStore ca ((blk a0.heap.size).add 6) ∧
 thenW (ca.setCell ((blk a0.heap.size).add 6) (.slice none 0 0)) fun cc =>
 canStore cc ((blk a0.heap.size).add 7) ∧
 thenW (cc.setCell ((blk a0.heap.size).add 7) (.int .u64 0)) fun cn =>
 ∃ (a1 : Int) (ad : Int) (aj : Int) (ap : Int) (b7 : Int) (a7 : Int) (ac : Option Addr) (ab : Nat) (a6 : Nat) (aq : Int), cellsAt cn (blk a0.heap.size) [.int .i64 a1, .int .i64 ad, .int .u64 aj, .int .i64 ap, .int .i64 b7, .int .i64 a7, .slice ac ab a6, .int .u64 aq] 0 ∧
 R (.tuple #[.agg #[.int .i64 a1, .int .i64 ad, .int .u64 aj, .int .i64 ap, .int .i64 b7, .int .i64 a7, .slice ac ab a6, .int .u64 aq], .int .i64 b9]) cn) else (
 Calls Try.prog 60 #[.pointer o1, .int .u64 bt, .slice be bf bd] bx fun cr bs => ∃ (bh : Int) (ba : Int), cr = .returned (.tuple #[.int .u64 bh, .int .i64 ba]) ∧
 bif ba != 0 then (
 canStore bs ((blk a0.heap.size).add 0) ∧
 thenW (bs.setCell ((blk a0.heap.size).add 0) (.int .i64 0)) fun c0 =>
 canStore c0 ((blk a0.heap.size).add 1) ∧
 thenW (c0.setCell ((blk a0.heap.size).add 1) (.int .i64 0)) fun cj =>
 canStore cj ((blk a0.heap.size).add 2) ∧
 thenW (cj.setCell ((blk a0.heap.size).add 2) (.int .u64 0)) fun ci =>
 canStore ci ((blk a0.heap.size).add 3) ∧
 thenW (ci.setCell ((blk a0.heap.size).add 3) (.int .i64 0)) fun c5 =>
 canStore c5 ((blk a0.heap.size).add 4) ∧
 thenW (c5.setCell ((blk a0.heap.size).add 4) (.int .i64 0)) fun c8 =>
 canStore c8 ((blk a0.heap.size).add 5) ∧
 thenW (c8.setCell ((blk a0.heap.size).add 5) (.int .i64 0)) fun c2 =>
 canStore c2 ((blk a0.heap.size).add 6) ∧
 thenW (c2.setCell ((blk a0.heap.size).add 6) (.slice none 0 0)) fun ck =>
 canStore ck ((blk a0.heap.size).add 7) ∧
 thenW (ck.setCell ((blk a0.heap.size).add 7) (.int .u64 0)) fun c3 =>
 ∃ (a2 : Int) (a8 : Int) (al : Int) (b1 : Int) (b0 : Int) (ag : Int) (ai : Option Addr) (af : Nat) (a5 : Nat) (aw : Int), cellsAt c3 (blk a0.heap.size) [.int .i64 a2, .int .i64 a8, .int .u64 al, .int .i64 b1, .int .i64 b0, .int .i64 ag, .slice ai af a5, .int .u64 aw] 0 ∧
 R (.tuple #[.agg #[.int .i64 a2, .int .i64 a8, .int .u64 al, .int .i64 b1, .int .i64 b0, .int .i64 ag, .slice ai af a5, .int .u64 aw], .int .i64 ba]) c3) else (
 canStore bs (((blk w.heap.size).add 7).add 0) ∧
 thenW (bs.setCell (((blk w.heap.size).add 7).add 0) (.int .u64 bh)) fun bv =>
 ∃ (an : Int) (b4 : Int) (bb : Int) (bk : Int) (bg : Int) (b3 : Int) (ao : Option Addr) (az : Nat) (ar : Nat) (bn : Int), cellsAt bv (blk w.heap.size) [.int .i64 an, .int .i64 b4, .int .u64 bb, .int .i64 bk, .int .i64 bg, .int .i64 b3, .slice ao az ar, .int .u64 bn] 0 ∧
 canStore bv ((blk a0.heap.size).add 0) ∧
 thenW (bv.setCell ((blk a0.heap.size).add 0) (.int .i64 an)) fun cg =>
 canStore cg ((blk a0.heap.size).add 1) ∧
 thenW (cg.setCell ((blk a0.heap.size).add 1) (.int .i64 b4)) fun cl =>
 canStore cl ((blk a0.heap.size).add 2) ∧
 thenW (cl.setCell ((blk a0.heap.size).add 2) (.int .u64 bb)) fun c6 =>
 canStore c6 ((blk a0.heap.size).add 3) ∧
 thenW (c6.setCell ((blk a0.heap.size).add 3) (.int .i64 bk)) fun cm =>
 canStore cm ((blk a0.heap.size).add 4) ∧
 thenW (cm.setCell ((blk a0.heap.size).add 4) (.int .i64 bg)) fun cb =>
 canStore cb ((blk a0.heap.size).add 5) ∧
 thenW (cb.setCell ((blk a0.heap.size).add 5) (.int .i64 b3)) fun cp =>
 canStore cp ((blk a0.heap.size).add 6) ∧
 thenW (cp.setCell ((blk a0.heap.size).add 6) (.slice ao az ar)) fun cf =>
 canStore cf ((blk a0.heap.size).add 7) ∧
 thenW (cf.setCell ((blk a0.heap.size).add 7) (.int .u64 bn)) fun ce =>
 ∃ (a3 : Int) (ae : Int) (am : Int) (b2 : Int) (au : Int) (a9 : Int) (aa : Option Addr) (a4 : Nat) (ah : Nat) (ax : Int), cellsAt ce (blk a0.heap.size) [.int .i64 a3, .int .i64 ae, .int .u64 am, .int .i64 b2, .int .i64 au, .int .i64 a9, .slice aa a4 ah, .int .u64 ax] 0 ∧
 R (.tuple #[.agg #[.int .i64 a3, .int .i64 ae, .int .u64 am, .int .i64 b2, .int .i64 au, .int .i64 a9, .slice aa a4 ah, .int .u64 ax], .int .i64 0]) ce))

theorem cachetteref06_Sign.eq (o1 : Option Addr) (secret2 : Int) (eWriter3 : Int) (eIndex4 : Int) (ePrev5 : Int) (eAtT6 : Int) (eAtW7 : Int) (eEpoch8 : Int) (eBody9a : Option Addr) (eBody9n : Nat) (eBody9c : Nat) (eSig10 : Int) (R : Value → World → Prop) (w : World) : mfunc Try.prog [] 40 [.pointer o1, .int .u64 secret2, .agg #[.int .i64 eWriter3, .int .i64 eIndex4, .int .u64 ePrev5, .int .i64 eAtT6, .int .i64 eAtW7, .int .i64 eEpoch8, .slice eBody9a eBody9n eBody9c, .int .u64 eSig10]] R w = cachetteref06_Sign.M o1 secret2 eWriter3 eIndex4 ePrev5 eAtT6 eAtW7 eEpoch8 eBody9a eBody9n eBody9c eSig10 R w := by kernel_rfl
theorem cachetteref06_Sign.ok (o1 : Option Addr) (a3 : Int) (a0 : Int) (a2 : Int) (a7 : Int) (aa : Int) (a9 : Int) (a4 : Int) (a1 : Option Addr) (a6 : Nat) (a5 : Nat) (a8 : Int) {R : Value → World → Prop} {w : World} (h : cachetteref06_Sign.M o1 a3 a0 a2 a7 aa a9 a4 a1 a6 a5 a8 R w) : Calls Try.prog 40 #[.pointer o1, .int .u64 a3, .agg #[.int .i64 a0, .int .i64 a2, .int .u64 a7, .int .i64 aa, .int .i64 a9, .int .i64 a4, .slice a1 a6 a5, .int .u64 a8]] w fun e w' => ∃ v, e = .returned v ∧ R v w' :=
  mfunc_ok follows (H := []) (args := [.pointer o1, .int .u64 a3, .agg #[.int .i64 a0, .int .i64 a2, .int .u64 a7, .int .i64 aa, .int .i64 a9, .int .i64 a4, .slice a1 a6 a5, .int .u64 a8]]) (by rw [cachetteref06_Sign.eq]; exact h)

def cachetteref06_Sign.N (o1 : Option Addr) (af : Int) (a2 : Int) (a4 : Int) (ab : Int) (ag : Int) (ah : Int) (a5 : Int) (a8 : Option Addr) (a6 : Nat) (aa : Nat) (aj : Int) (R : Value → World → Prop) (w : World) : Prop :=
 ∀ (ad : World) (ao : Nat) (ak : Nat), Ext no w ad → Priv w ad [ao, ak] →
 Calls Try.prog 59 #[.agg #[.int .i64 a2, .int .i64 a4, .int .u64 ab, .int .i64 ag, .int .i64 ah, .int .i64 a5, .slice a8 a6 aa, .int .u64 aj]] ad fun aq ae => ∃ (a3 : Option Addr) (a7 : Nat) (a9 : Nat) (a0 : Int), aq = .returned (.tuple #[.slice a3 a7 a9, .int .i64 a0]) ∧
 Keep [ao, ak] ad ae ∧
 (a0 ≠ 0 →
 ∀ (an : World), Ext (fun b => b = ak) ae an →
 R (.tuple #[.agg #[.int .i64 0, .int .i64 0, .int .u64 0, .int .i64 0, .int .i64 0, .int .i64 0, .slice none 0 0, .int .u64 0], .int .i64 a0]) an) ∧
 (a0 = 0 →
 Calls Try.prog 60 #[.pointer o1, .int .u64 af, .slice a3 a7 a9] ae fun ap ai => ∃ (ac : Int) (a1 : Int), ap = .returned (.tuple #[.int .u64 ac, .int .i64 a1]) ∧
 Keep [ao, ak] ae ai ∧
 (a1 ≠ 0 →
 ∀ (al : World), Ext (fun b => b = ak) ai al →
 R (.tuple #[.agg #[.int .i64 0, .int .i64 0, .int .u64 0, .int .i64 0, .int .i64 0, .int .i64 0, .slice none 0 0, .int .u64 0], .int .i64 a1]) al) ∧
 (a1 = 0 →
 ∀ (am : World), Ext (fun b => b = ak ∨ b = ao) ai am →
 R (.tuple #[.agg #[.int .i64 a2, .int .i64 a4, .int .u64 ab, .int .i64 ag, .int .i64 ah, .int .i64 a5, .slice a8 a6 aa, .int .u64 ac], .int .i64 0]) am))

theorem cachetteref06_Sign.up (o1 : Option Addr) (af : Int) (a2 : Int) (a3 : Int) (a4 : Int) (a9 : Int) (aa : Int) (a5 : Int) (a7 : Option Addr) (a6 : Nat) (a8 : Nat) (ae : Int) {R : Value → World → Prop} {w : World} (h : cachetteref06_Sign.N o1 af a2 a3 a4 a9 aa a5 a7 a6 a8 ae R w) : cachetteref06_Sign.M o1 af a2 a3 a4 a9 aa a5 a7 a6 a8 ae R w := by
  unfold cachetteref06_Sign.M
  unfold cachetteref06_Sign.N at h
  refine thenW_in fun a0 cm => ?_
  have ab := Blk.of_new cm
  have d6 := ((Ext.refl no w)).size
  have am := (Ext.refl no w).x_alloc cm
  refine thenW_in fun aw bh => ?_
  have a1 := Blk.of_new bh
  have d5 := (am).size
  have ar := Nat.ne_of_lt ab.lt
  have ab := ab.x_alloc bh
  have b3 := am.x_alloc bh
  refine ⟨a2, a3, a4, a9, aa, a5, a7, a6, a8, ae, ⟨ab.celli 0 rfl rfl, ab.celli 1 rfl rfl, ab.celli 2 rfl rfl, ab.celli 3 rfl rfl, ab.celli 4 rfl rfl, ab.celli 5 rfl rfl, ab.celli 6 rfl rfl, ab.celli 7 rfl rfl, trivial⟩, ?_⟩
  have h := h aw (w.heap.size) (a0.heap.size) b3 (Priv.cons d6 ab.lt (Priv.cons d5 a1.lt Priv.nil))
  refine h.mono fun d7 ak h => ?_
  obtain ⟨ah, ai, ag, aj, he, hk, h⟩ := h
  refine ⟨ah, ai, ag, aj, he, ?_⟩
  have ab := hk.blk ab (by simp)
  have a1 := hk.blk a1 (by simp)
  refine bif_of (fun bl => ?_) (fun bl => ?_)
  · have h := h.1 (bne_t bl)
    have ce : Ext (fun b => b = a0.heap.size) ak ak := ((Ext.refl no ak)).none
    refine ⟨a1.cani 0 rfl rfl, thenW_in fun b6 cy => ?_⟩
    have bb := ce.x_set (q := a0.heap.size) (i := 0) rfl (.inl rfl) cy
    have a1 : Blk b6 a0.heap.size 47 [.int .i64 0, .int .i64 0, .int .u64 0, .int .i64 0, .int .i64 0, .int .i64 0, .slice none 0 0, .int .u64 0] := a1.seti 0 rfl cy
    refine ⟨a1.cani 1 rfl rfl, thenW_in fun b9 cn => ?_⟩
    have c2 := bb.x_set (q := a0.heap.size) (i := 1) rfl (.inl rfl) cn
    have a1 : Blk b9 a0.heap.size 47 [.int .i64 0, .int .i64 0, .int .u64 0, .int .i64 0, .int .i64 0, .int .i64 0, .slice none 0 0, .int .u64 0] := a1.seti 1 rfl cn
    refine ⟨a1.cani 2 rfl rfl, thenW_in fun bm d3 => ?_⟩
    have c7 := c2.x_set (q := a0.heap.size) (i := 2) rfl (.inl rfl) d3
    have a1 : Blk bm a0.heap.size 47 [.int .i64 0, .int .i64 0, .int .u64 0, .int .i64 0, .int .i64 0, .int .i64 0, .slice none 0 0, .int .u64 0] := a1.seti 2 rfl d3
    refine ⟨a1.cani 3 rfl rfl, thenW_in fun c0 ct => ?_⟩
    have b7 := c7.x_set (q := a0.heap.size) (i := 3) rfl (.inl rfl) ct
    have a1 : Blk c0 a0.heap.size 47 [.int .i64 0, .int .i64 0, .int .u64 0, .int .i64 0, .int .i64 0, .int .i64 0, .slice none 0 0, .int .u64 0] := a1.seti 3 rfl ct
    refine ⟨a1.cani 4 rfl rfl, thenW_in fun c9 cu => ?_⟩
    have ay := b7.x_set (q := a0.heap.size) (i := 4) rfl (.inl rfl) cu
    have a1 : Blk c9 a0.heap.size 47 [.int .i64 0, .int .i64 0, .int .u64 0, .int .i64 0, .int .i64 0, .int .i64 0, .slice none 0 0, .int .u64 0] := a1.seti 4 rfl cu
    refine ⟨a1.cani 5 rfl rfl, thenW_in fun av cg => ?_⟩
    have b8 := ay.x_set (q := a0.heap.size) (i := 5) rfl (.inl rfl) cg
    have a1 : Blk av a0.heap.size 47 [.int .i64 0, .int .i64 0, .int .u64 0, .int .i64 0, .int .i64 0, .int .i64 0, .slice none 0 0, .int .u64 0] := a1.seti 5 rfl cg
    refine ⟨a1.cani 6 rfl rfl, thenW_in fun b4 d2 => ?_⟩
    have c5 := b8.x_set (q := a0.heap.size) (i := 6) rfl (.inl rfl) d2
    have a1 : Blk b4 a0.heap.size 47 [.int .i64 0, .int .i64 0, .int .u64 0, .int .i64 0, .int .i64 0, .int .i64 0, .slice none 0 0, .int .u64 0] := a1.seti 6 rfl d2
    refine ⟨a1.cani 7 rfl rfl, thenW_in fun ap cs => ?_⟩
    have be := c5.x_set (q := a0.heap.size) (i := 7) rfl (.inl rfl) cs
    have a1 : Blk ap a0.heap.size 47 [.int .i64 0, .int .i64 0, .int .u64 0, .int .i64 0, .int .i64 0, .int .i64 0, .slice none 0 0, .int .u64 0] := a1.seti 7 rfl cs
    refine ⟨0, 0, 0, 0, 0, 0, none, 0, 0, 0, ⟨a1.celli 0 rfl rfl, a1.celli 1 rfl rfl, a1.celli 2 rfl rfl, a1.celli 3 rfl rfl, a1.celli 4 rfl rfl, a1.celli 5 rfl rfl, a1.celli 6 rfl rfl, a1.celli 7 rfl rfl, trivial⟩, ?_⟩
    have h := h ap be
    exact h
  · have h := h.2 (bne_f bl)
    refine h.mono fun d4 ad h => ?_
    obtain ⟨ac, al, he, hk, h⟩ := h
    refine ⟨ac, al, he, ?_⟩
    have ab := hk.blk ab (by simp)
    have a1 := hk.blk a1 (by simp)
    refine bif_of (fun bv => ?_) (fun bv => ?_)
    · have h := h.1 (bne_t bv)
      have bc : Ext (fun b => b = a0.heap.size) ad ad := ((Ext.refl no ad)).none
      refine ⟨a1.cani 0 rfl rfl, thenW_in fun bx cv => ?_⟩
      have b2 := bc.x_set (q := a0.heap.size) (i := 0) rfl (.inl rfl) cv
      have a1 : Blk bx a0.heap.size 47 [.int .i64 0, .int .i64 0, .int .u64 0, .int .i64 0, .int .i64 0, .int .i64 0, .slice none 0 0, .int .u64 0] := a1.seti 0 rfl cv
      refine ⟨a1.cani 1 rfl rfl, thenW_in fun c4 ci => ?_⟩
      have az := b2.x_set (q := a0.heap.size) (i := 1) rfl (.inl rfl) ci
      have a1 : Blk c4 a0.heap.size 47 [.int .i64 0, .int .i64 0, .int .u64 0, .int .i64 0, .int .i64 0, .int .i64 0, .slice none 0 0, .int .u64 0] := a1.seti 1 rfl ci
      refine ⟨a1.cani 2 rfl rfl, thenW_in fun bj cr => ?_⟩
      have c1 := az.x_set (q := a0.heap.size) (i := 2) rfl (.inl rfl) cr
      have a1 : Blk bj a0.heap.size 47 [.int .i64 0, .int .i64 0, .int .u64 0, .int .i64 0, .int .i64 0, .int .i64 0, .slice none 0 0, .int .u64 0] := a1.seti 2 rfl cr
      refine ⟨a1.cani 3 rfl rfl, thenW_in fun bf cw => ?_⟩
      have bg := c1.x_set (q := a0.heap.size) (i := 3) rfl (.inl rfl) cw
      have a1 : Blk bf a0.heap.size 47 [.int .i64 0, .int .i64 0, .int .u64 0, .int .i64 0, .int .i64 0, .int .i64 0, .slice none 0 0, .int .u64 0] := a1.seti 3 rfl cw
      refine ⟨a1.cani 4 rfl rfl, thenW_in fun ba d1 => ?_⟩
      have b0 := bg.x_set (q := a0.heap.size) (i := 4) rfl (.inl rfl) d1
      have a1 : Blk ba a0.heap.size 47 [.int .i64 0, .int .i64 0, .int .u64 0, .int .i64 0, .int .i64 0, .int .i64 0, .slice none 0 0, .int .u64 0] := a1.seti 4 rfl d1
      refine ⟨a1.cani 5 rfl rfl, thenW_in fun bt cl => ?_⟩
      have br := b0.x_set (q := a0.heap.size) (i := 5) rfl (.inl rfl) cl
      have a1 : Blk bt a0.heap.size 47 [.int .i64 0, .int .i64 0, .int .u64 0, .int .i64 0, .int .i64 0, .int .i64 0, .slice none 0 0, .int .u64 0] := a1.seti 5 rfl cl
      refine ⟨a1.cani 6 rfl rfl, thenW_in fun bi cf => ?_⟩
      have c6 := br.x_set (q := a0.heap.size) (i := 6) rfl (.inl rfl) cf
      have a1 : Blk bi a0.heap.size 47 [.int .i64 0, .int .i64 0, .int .u64 0, .int .i64 0, .int .i64 0, .int .i64 0, .slice none 0 0, .int .u64 0] := a1.seti 6 rfl cf
      refine ⟨a1.cani 7 rfl rfl, thenW_in fun ao ch => ?_⟩
      have c8 := c6.x_set (q := a0.heap.size) (i := 7) rfl (.inl rfl) ch
      have a1 : Blk ao a0.heap.size 47 [.int .i64 0, .int .i64 0, .int .u64 0, .int .i64 0, .int .i64 0, .int .i64 0, .slice none 0 0, .int .u64 0] := a1.seti 7 rfl ch
      refine ⟨0, 0, 0, 0, 0, 0, none, 0, 0, 0, ⟨a1.celli 0 rfl rfl, a1.celli 1 rfl rfl, a1.celli 2 rfl rfl, a1.celli 3 rfl rfl, a1.celli 4 rfl rfl, a1.celli 5 rfl rfl, a1.celli 6 rfl rfl, a1.celli 7 rfl rfl, trivial⟩, ?_⟩
      have h := h ao c8
      exact h
    · have h := h.2 (bne_f bv)
      have cd : Ext (fun b => b = w.heap.size) ad ad := ((Ext.refl no ad)).none
      refine ⟨ab.cani 7 rfl rfl, thenW_in fun aq bu => ?_⟩
      have bp := cd.x_set (q := w.heap.size) (i := 7) rfl (.inl rfl) bu
      have ab : Blk aq w.heap.size 47 [.int .i64 a2, .int .i64 a3, .int .u64 a4, .int .i64 a9, .int .i64 aa, .int .i64 a5, .slice a7 a6 a8, .int .u64 ac] := ab.seti 7 rfl bu
      have a1 := a1.oth (q := w.heap.size) (i := 7) rfl (Ne.symm ar) bu
      refine ⟨a2, a3, a4, a9, aa, a5, a7, a6, a8, ac, ⟨ab.celli 0 rfl rfl, ab.celli 1 rfl rfl, ab.celli 2 rfl rfl, ab.celli 3 rfl rfl, ab.celli 4 rfl rfl, ab.celli 5 rfl rfl, ab.celli 6 rfl rfl, ab.celli 7 rfl rfl, trivial⟩, ?_⟩
      have cb : Ext (fun b => b = a0.heap.size ∨ b = w.heap.size) ad aq := (bp).mono fun _ h _ => .inr h
      refine ⟨a1.cani 0 rfl rfl, thenW_in fun ca d0 => ?_⟩
      have bo := cb.x_set (q := a0.heap.size) (i := 0) rfl (.inl (.inl rfl)) d0
      have a1 : Blk ca a0.heap.size 47 [.int .i64 a2, .int .i64 0, .int .u64 0, .int .i64 0, .int .i64 0, .int .i64 0, .slice none 0 0, .int .u64 0] := a1.seti 0 rfl d0
      refine ⟨a1.cani 1 rfl rfl, thenW_in fun bk cp => ?_⟩
      have c3 := bo.x_set (q := a0.heap.size) (i := 1) rfl (.inl (.inl rfl)) cp
      have a1 : Blk bk a0.heap.size 47 [.int .i64 a2, .int .i64 a3, .int .u64 0, .int .i64 0, .int .i64 0, .int .i64 0, .slice none 0 0, .int .u64 0] := a1.seti 1 rfl cp
      refine ⟨a1.cani 2 rfl rfl, thenW_in fun bw cj => ?_⟩
      have bz := c3.x_set (q := a0.heap.size) (i := 2) rfl (.inl (.inl rfl)) cj
      have a1 : Blk bw a0.heap.size 47 [.int .i64 a2, .int .i64 a3, .int .u64 a4, .int .i64 0, .int .i64 0, .int .i64 0, .slice none 0 0, .int .u64 0] := a1.seti 2 rfl cj
      refine ⟨a1.cani 3 rfl rfl, thenW_in fun au co => ?_⟩
      have bd := bz.x_set (q := a0.heap.size) (i := 3) rfl (.inl (.inl rfl)) co
      have a1 : Blk au a0.heap.size 47 [.int .i64 a2, .int .i64 a3, .int .u64 a4, .int .i64 a9, .int .i64 0, .int .i64 0, .slice none 0 0, .int .u64 0] := a1.seti 3 rfl co
      refine ⟨a1.cani 4 rfl rfl, thenW_in fun bs cx => ?_⟩
      have cc := bd.x_set (q := a0.heap.size) (i := 4) rfl (.inl (.inl rfl)) cx
      have a1 : Blk bs a0.heap.size 47 [.int .i64 a2, .int .i64 a3, .int .u64 a4, .int .i64 a9, .int .i64 aa, .int .i64 0, .slice none 0 0, .int .u64 0] := a1.seti 4 rfl cx
      refine ⟨a1.cani 5 rfl rfl, thenW_in fun bn ck => ?_⟩
      have b5 := cc.x_set (q := a0.heap.size) (i := 5) rfl (.inl (.inl rfl)) ck
      have a1 : Blk bn a0.heap.size 47 [.int .i64 a2, .int .i64 a3, .int .u64 a4, .int .i64 a9, .int .i64 aa, .int .i64 a5, .slice none 0 0, .int .u64 0] := a1.seti 5 rfl ck
      refine ⟨a1.cani 6 rfl rfl, thenW_in fun b1 cq => ?_⟩
      have ax := b5.x_set (q := a0.heap.size) (i := 6) rfl (.inl (.inl rfl)) cq
      have a1 : Blk b1 a0.heap.size 47 [.int .i64 a2, .int .i64 a3, .int .u64 a4, .int .i64 a9, .int .i64 aa, .int .i64 a5, .slice a7 a6 a8, .int .u64 0] := a1.seti 6 rfl cq
      refine ⟨a1.cani 7 rfl rfl, thenW_in fun an cz => ?_⟩
      have bq := ax.x_set (q := a0.heap.size) (i := 7) rfl (.inl (.inl rfl)) cz
      have a1 : Blk an a0.heap.size 47 [.int .i64 a2, .int .i64 a3, .int .u64 a4, .int .i64 a9, .int .i64 aa, .int .i64 a5, .slice a7 a6 a8, .int .u64 ac] := a1.seti 7 rfl cz
      refine ⟨a2, a3, a4, a9, aa, a5, a7, a6, a8, ac, ⟨a1.celli 0 rfl rfl, a1.celli 1 rfl rfl, a1.celli 2 rfl rfl, a1.celli 3 rfl rfl, a1.celli 4 rfl rfl, a1.celli 5 rfl rfl, a1.celli 6 rfl rfl, a1.celli 7 rfl rfl, trivial⟩, ?_⟩
      have h := h an bq
      exact h

theorem cachetteref06_Sign.go (o1 : Option Addr) (a3 : Int) (a0 : Int) (a2 : Int) (a7 : Int) (aa : Int) (a9 : Int) (a4 : Int) (a1 : Option Addr) (a6 : Nat) (a5 : Nat) (a8 : Int) {R : Value → World → Prop} {w : World} (h : cachetteref06_Sign.N o1 a3 a0 a2 a7 aa a9 a4 a1 a6 a5 a8 R w) : Calls Try.prog 40 #[.pointer o1, .int .u64 a3, .agg #[.int .i64 a0, .int .i64 a2, .int .u64 a7, .int .i64 aa, .int .i64 a9, .int .i64 a4, .slice a1 a6 a5, .int .u64 a8]] w fun e w' => ∃ v, e = .returned v ∧ R v w' := cachetteref06_Sign.ok o1 a3 a0 a2 a7 aa a9 a4 a1 a6 a5 a8 (cachetteref06_Sign.up o1 a3 a0 a2 a7 aa a9 a4 a1 a6 a5 a8 h)
def signRE (d : List Int) (L : List RRow) (s : Int) (e : Ent) : (Ent × Int) × List Int × List RRow :=
  if entRight e = true then (if (signR d L s (textL e)).1.2 = 0 then (({ e with sg := (signR d L s (textL e)).1.1 }, 0), (signR d L s (textL e)).2) else ((Ent.zero, (signR d L s (textL e)).1.2), (signR d L s (textL e)).2)) else ((Ent.zero, 1), d, L)
theorem rESign_spec (h : ROrc w o k d L) (ok : ROk w o d L) (s : Int) {e : Ent} (hf : entRight e = true → e.fit) {ba : Option Addr} {bc : Nat} (hb : Row w o ba (bytesV e.body)) (hbc : e.body.length ≤ bc) :
    Calls Try.prog 40 #[.pointer (some (blk k)), .int .u64 s, entV e ba bc] w (fun x w' => ∃ o' a' c', x = .returned (.tuple #[entV (signRE d L s e).1.1 a' c', .int .i64 (signRE d L s e).1.2]) ∧ Step (fun j => j = k) w o w' o' ∧ ROrc w' o' k (signRE d L s e).2.1 (signRE d L s e).2.2 ∧ Row w' o' a' (bytesV (signRE d L s e).1.1.body) ∧ (signRE d L s e).1.1.body.length ≤ c') := by
  refine (cachetteref06_Sign.go (some (blk k)) s e.w e.i e.pv e.t e.tw e.ep ba e.body.length bc e.sg (R := fun v w' => ∃ o' a' c', v = (.tuple #[entV (signRE d L s e).1.1 a' c', .int .i64 (signRE d L s e).1.2]) ∧ Step (fun j => j = k) w o w' o' ∧ ROrc w' o' k (signRE d L s e).2.1 (signRE d L s e).2.2 ∧ Row w' o' a' (bytesV (signRE d L s e).1.1.body) ∧ (signRE d L s e).1.1.body.length ≤ c') ?_).mono fun x w' ⟨v, he, o', a', c', hv, hw⟩ => ⟨o', a', c', by rw [he, hv], hw⟩
  unfold cachetteref06_Sign.N
  intro w12 p13 p14 X12 hp
  obtain ⟨s12, M12⟩ := Step.priv X12 hp ok.tags
  have hkl := h.lt
  have g13 := hp p13 (by simp)
  have g14 := hp p14 (by simp)
  refine (rTextK_spec hf (hb.step s12).1).mono fun x w18 ⟨a, c, he, hO, X⟩ => ⟨_, _, _, _, he, X.kept, ?_⟩
  have s18' := Step.of_no X s12.ok
  have s18 := s12.trans s18'
  have M18 := M12.step s18'
  have h18 := h.step s18 id
  have ok18 : ROk w18 _ d L := ⟨s18.ok, ok.draws, ok.short, ok.bytes⟩
  unfold textK signRE at *
  by_cases hr : entRight e = true
  · rw [if_pos hr] at hO ⊢
    rw [if_pos hr]
    refine ⟨fun h => absurd rfl h, fun _ => ?_⟩
    refine (rSign_spec h18 ok18 s (OwnB.tight hO (Nat.le_refl _)) hO.le).mono fun x w31 ⟨o31, he, s31', h31⟩ => ⟨_, _, he, M18.keep s31' (by simp; omega), fun hne w40 X40 => ?_, fun heq w49 X49 => ?_⟩
    · have s31 := s18.none.trans s31'
      have s40 := Step.stores X40 s31.ok (M18.step s31') (by simp)
      rw [if_neg hne]
      exact ⟨_, none, 0, rfl, s31.trans' s40 fun j hj => .inr (by simp at hj; omega), h31.step s40 (by simp; omega), Row.nil _ _ _, Nat.le_refl _⟩
    · have s31 := s18.none.trans s31'
      have s49 := Step.stores X49 s31.ok (M18.step s31') (by simp)
      have s := s31.trans' s49 fun j hj => .inr (by simp at hj; omega)
      rw [if_pos heq]
      exact ⟨_, ba, bc, rfl, s, h31.step s49 (by simp; omega), hb.step s, hbc⟩
  · rw [if_neg hr]
    rw [if_neg hr]
    refine ⟨fun _ w27 X27 => ?_, fun h => absurd h (by decide)⟩
    have s27 := Step.stores X27 s18.ok M18 (by simp)
    exact ⟨_, none, 0, rfl, s18.none.trans' s27 fun j hj => .inr (by simp at hj; omega), h18.step s27 (by simp; omega), Row.nil _ _ _, Nat.le_refl _⟩
theorem esign_sim (h : Sim S d L) (s : Int) (e : Ent) : (signRE d L s e).1 = (signE S s e).1 ∧ Sim (signE S s e).2 (signRE d L s e).2.1 (signRE d L s e).2.2 := by
  unfold signRE signE
  by_cases hr : entRight e = true
  · rw [if_pos hr, if_pos hr]
    obtain ⟨h1, h2⟩ := sign_sim h s (textL e)
    rw [h1]
    cases hs : (signOf S s (textL e)).1.2
    · exact ⟨rfl, h2⟩
    · exact ⟨rfl, h2⟩
  · rw [if_neg hr, if_neg hr]
    exact ⟨rfl, h⟩
theorem RFine.esign (h : RFine n d L) (s : Int) (e : Ent) : RFine (n + 1) (signRE d L s e).2.1 (signRE d L s e).2.2 := by
  unfold signRE
  split
  · rename_i hr
    have := h.sign s (b := textL e) (by have := textL_le' hr; omega)
    split <;> exact this
  · exact h.more
theorem esign_inv (h : OInv S) (s : Int) (e : Ent) : OInv (signE S s e).2 := by
  unfold signE
  split
  · split <;> exact (sign_inv' h s _).1
  · exact h
theorem esign_fit (h : OInv S) (hl : S.used.length < 1000000) (s : Int) {e : Ent} (he : e.fit) : (signE S s e).1.1.fit := by
  have z : Ent.zero.fit := ⟨by decide, by decide, by decide, by decide⟩
  unfold signE
  split
  · split
    · rename_i ht
      by_cases hk : s ∈ S.secrets
      · obtain ⟨a1, a2, a3, a4, _⟩ := sign_inv h hk (textL e)
        have hx := a1.fit (by have := (signOf_ok h.ok s (textL e)).2; omega) (a1.su _ _ a4)
        exact ⟨he.pv0, he.pv1, hx.1, hx.2⟩
      · rw [sign_no hk] at ht; cases ht
    · exact z
  · exact z
/-- cachetteref06.Holds -/
def cachetteref06_Holds.M (o1 : Option Addr) (ag : Int) (ae : Int) (ah : Int) (an : Int) (aq : Int) (au : Int) (ai : Int) (ak : Option Addr) (aj : Nat) (al : Nat) (ap : Int) (R : Value → World → Prop) (w : World) : Prop :=
 thenW (w.alloc (.cells #[.int .i64 ae, .int .i64 ah, .int .u64 an, .int .i64 aq, .int .i64 au, .int .i64 ai, .slice ak aj al, .int .u64 ap] 47)) fun ar =>
 ∃ (a0 : Int) (a2 : Int) (a9 : Int) (ac : Int) (af : Int) (a5 : Int) (a6 : Option Addr) (a4 : Nat) (a3 : Nat) (ad : Int), cellsAt ar (blk w.heap.size) [.int .i64 a0, .int .i64 a2, .int .u64 a9, .int .i64 ac, .int .i64 af, .int .i64 a5, .slice a6 a4 a3, .int .u64 ad] 0 ∧
 Calls Try.prog 59 #[.agg #[.int .i64 a0, .int .i64 a2, .int .u64 a9, .int .i64 ac, .int .i64 af, .int .i64 a5, .slice a6 a4 a3, .int .u64 ad]] ar fun ax ao => ∃ (a8 : Option Addr) (a7 : Nat) (aa : Nat) (ab : Int), ax = .returned (.tuple #[.slice a8 a7 aa, .int .i64 ab]) ∧
 bif ab == 0 then (
 ∃ (am : Int), ao.cell? ((blk w.heap.size).add 7) = some (.int .u64 am) ∧
 Calls Try.prog 63 #[.pointer o1, .int .u64 ag, .slice a8 a7 aa, .int .u64 am] ao fun av aw => ∃ (a1 : Bool), av = .returned (.bool a1) ∧
 R (.bool a1) aw) else (
 R (.bool false) ao)

theorem cachetteref06_Holds.eq (o1 : Option Addr) (publicv2 : Int) (eWriter3 : Int) (eIndex4 : Int) (ePrev5 : Int) (eAtT6 : Int) (eAtW7 : Int) (eEpoch8 : Int) (eBody9a : Option Addr) (eBody9n : Nat) (eBody9c : Nat) (eSig10 : Int) (R : Value → World → Prop) (w : World) : mfunc Try.prog [] 44 [.pointer o1, .int .u64 publicv2, .agg #[.int .i64 eWriter3, .int .i64 eIndex4, .int .u64 ePrev5, .int .i64 eAtT6, .int .i64 eAtW7, .int .i64 eEpoch8, .slice eBody9a eBody9n eBody9c, .int .u64 eSig10]] R w = cachetteref06_Holds.M o1 publicv2 eWriter3 eIndex4 ePrev5 eAtT6 eAtW7 eEpoch8 eBody9a eBody9n eBody9c eSig10 R w := by kernel_rfl
theorem cachetteref06_Holds.ok (o1 : Option Addr) (a1 : Int) (a0 : Int) (a3 : Int) (a7 : Int) (a9 : Int) (aa : Int) (a4 : Int) (a2 : Option Addr) (a6 : Nat) (a5 : Nat) (a8 : Int) {R : Value → World → Prop} {w : World} (h : cachetteref06_Holds.M o1 a1 a0 a3 a7 a9 aa a4 a2 a6 a5 a8 R w) : Calls Try.prog 44 #[.pointer o1, .int .u64 a1, .agg #[.int .i64 a0, .int .i64 a3, .int .u64 a7, .int .i64 a9, .int .i64 aa, .int .i64 a4, .slice a2 a6 a5, .int .u64 a8]] w fun e w' => ∃ v, e = .returned v ∧ R v w' :=
  mfunc_ok follows (H := []) (args := [.pointer o1, .int .u64 a1, .agg #[.int .i64 a0, .int .i64 a3, .int .u64 a7, .int .i64 a9, .int .i64 aa, .int .i64 a4, .slice a2 a6 a5, .int .u64 a8]]) (by rw [cachetteref06_Holds.eq]; exact h)

def cachetteref06_Holds.N (o1 : Option Addr) (a7 : Int) (a5 : Int) (a8 : Int) (ae : Int) (ag : Int) (ah : Int) (a9 : Int) (ac : Option Addr) (aa : Nat) (ad : Nat) (a6 : Int) (R : Value → World → Prop) (w : World) : Prop :=
 ∀ (ab : World) (al : Nat), Ext no w ab → Priv w ab [al] →
 Calls Try.prog 59 #[.agg #[.int .i64 a5, .int .i64 a8, .int .u64 ae, .int .i64 ag, .int .i64 ah, .int .i64 a9, .slice ac aa ad, .int .u64 a6]] ab fun aj af => ∃ (a3 : Option Addr) (a4 : Nat) (a2 : Nat) (a1 : Int), aj = .returned (.tuple #[.slice a3 a4 a2, .int .i64 a1]) ∧
 Keep [al] ab af ∧
 (a1 = 0 →
 Calls Try.prog 63 #[.pointer o1, .int .u64 a7, .slice a3 a4 a2, .int .u64 a6] af fun ai ak => ∃ (a0 : Bool), ai = .returned (.bool a0) ∧
 R (.bool a0) ak) ∧
 (a1 ≠ 0 →
 R (.bool false) af)

theorem cachetteref06_Holds.up (o1 : Option Addr) (a7 : Int) (a0 : Int) (a1 : Int) (a8 : Int) (aa : Int) (ac : Int) (a2 : Int) (a4 : Option Addr) (a3 : Nat) (a5 : Nat) (a6 : Int) {R : Value → World → Prop} {w : World} (h : cachetteref06_Holds.N o1 a7 a0 a1 a8 aa ac a2 a4 a3 a5 a6 R w) : cachetteref06_Holds.M o1 a7 a0 a1 a8 aa ac a2 a4 a3 a5 a6 R w := by
  unfold cachetteref06_Holds.M
  unfold cachetteref06_Holds.N at h
  refine thenW_in fun ai ak => ?_
  have a9 := Blk.of_new ak
  have ao := ((Ext.refl no w)).size
  have ah := (Ext.refl no w).x_alloc ak
  refine ⟨a0, a1, a8, aa, ac, a2, a4, a3, a5, a6, ⟨a9.celli 0 rfl rfl, a9.celli 1 rfl rfl, a9.celli 2 rfl rfl, a9.celli 3 rfl rfl, a9.celli 4 rfl rfl, a9.celli 5 rfl rfl, a9.celli 6 rfl rfl, a9.celli 7 rfl rfl, trivial⟩, ?_⟩
  have h := h ai (w.heap.size) ah (Priv.cons ao a9.lt Priv.nil)
  refine h.mono fun an am h => ?_
  obtain ⟨ae, af, ad, ag, he, hk, h⟩ := h
  refine ⟨ae, af, ad, ag, he, ?_⟩
  have a9 := hk.blk a9 (by simp)
  refine bif_of (fun aj => ?_) (fun aj => ?_)
  · have h := h.1 (beq_t aj)
    refine ⟨a6, a9.celli 7 rfl rfl, ?_⟩
    refine h.mono fun al ap h => ?_
    obtain ⟨ab, he, h⟩ := h
    refine ⟨ab, he, ?_⟩
    exact h
  · have h := h.2 (beq_f aj)
    exact h

theorem cachetteref06_Holds.go (o1 : Option Addr) (a1 : Int) (a0 : Int) (a3 : Int) (a7 : Int) (a9 : Int) (aa : Int) (a4 : Int) (a2 : Option Addr) (a6 : Nat) (a5 : Nat) (a8 : Int) {R : Value → World → Prop} {w : World} (h : cachetteref06_Holds.N o1 a1 a0 a3 a7 a9 aa a4 a2 a6 a5 a8 R w) : Calls Try.prog 44 #[.pointer o1, .int .u64 a1, .agg #[.int .i64 a0, .int .i64 a3, .int .u64 a7, .int .i64 a9, .int .i64 aa, .int .i64 a4, .slice a2 a6 a5, .int .u64 a8]] w fun e w' => ∃ v, e = .returned v ∧ R v w' := cachetteref06_Holds.ok o1 a1 a0 a3 a7 a9 aa a4 a2 a6 a5 a8 (cachetteref06_Holds.up o1 a1 a0 a3 a7 a9 aa a4 a2 a6 a5 a8 h)
theorem cachetteref06_Holds.run (o1 : Option Addr) (a1 : Int) (a0 : Int) (a3 : Int) (a7 : Int) (a9 : Int) (aa : Int) (a4 : Int) (a2 : Option Addr) (a6 : Nat) (a5 : Nat) (a8 : Int) {V : Value} {Q : World → Prop} {w : World} (h : cachetteref06_Holds.N o1 a1 a0 a3 a7 a9 aa a4 a2 a6 a5 a8 (fun v w' => v = V ∧ Q w') w) : Calls Try.prog 44 #[.pointer o1, .int .u64 a1, .agg #[.int .i64 a0, .int .i64 a3, .int .u64 a7, .int .i64 a9, .int .i64 aa, .int .i64 a4, .slice a2 a6 a5, .int .u64 a8]] w (Ret V Q) := (cachetteref06_Holds.go o1 a1 a0 a3 a7 a9 aa a4 a2 a6 a5 a8 h).mono fun e w' ⟨v, he, hv, hq⟩ => ⟨by rw [he, hv], hq⟩

def holdsR (L : List RRow) (p : Int) (e : Ent) : Bool := entRight e && verifyR L p (textL e) e.sg
theorem rHolds_spec (h : ROrc w o k d L) (ok : ROk w o d L) (p : Int) {e : Ent} (hf : entRight e = true → e.fit) {ba : Option Addr} {bc : Nat} (hb : RowAt w ba (bytesV e.body)) :
    Calls Try.prog 44 #[.pointer (some (blk k)), .int .u64 p, entV e ba bc] w (Ret (.bool (holdsR L p e)) fun w' => Ext no w w') := by
  refine cachetteref06_Holds.run (some (blk k)) p e.w e.i e.pv e.t e.tw e.ep ba e.body.length bc e.sg ?_
  unfold cachetteref06_Holds.N
  intro w11 p12 X11 hp
  refine (rTextK_spec hf (hb.no X11)).mono fun x w16 ⟨a, c, he, hO, X⟩ => ⟨_, _, _, _, he, X.kept, ?_⟩
  have s := (Step.of_no X11 ok.tags).trans (Step.of_no X (Step.of_no X11 ok.tags).ok)
  unfold textK holdsR at *
  by_cases hr : entRight e = true
  · rw [if_pos hr] at hO ⊢
    rw [hr, Bool.true_and]
    refine ⟨fun _ => ?_, fun h => absurd rfl h⟩
    exact (rVerify_spec (h.step s id) ⟨s.ok, ok.draws, ok.short, ok.bytes⟩ p e.sg (OwnB.tight hO (Nat.le_refl _))).mono fun x w20 ⟨he, X20⟩ => ⟨_, he, rfl, (X11.trans X).trans X20⟩
  · rw [if_neg hr]
    rw [show entRight e = false by simpa using hr, Bool.false_and]
    exact ⟨fun h => absurd h (by decide), fun _ => ⟨rfl, X11.trans X⟩⟩
theorem holds_sim (h : Sim S d L) (p : Int) (e : Ent) : holdsR L p e = holdsE S p e := by unfold holdsR holdsE; rw [verify_sim h]
end
end Go.Proofs.Ytdelmfpchbpafaa

/- Entries and a head that are handed in. -/
set_option linter.unusedVariables false
set_option linter.unusedSimpArgs false
set_option maxRecDepth 20000
namespace Go.Proofs.Ytdelmfpchbpafaa
open Go Go.Mx Go.Proofs
end Go.Proofs.Ytdelmfpchbpafaa

/- Chain's laws: what is handed in; the example; all entries held against each other. -/
set_option linter.unusedVariables false
set_option linter.unusedSimpArgs false
set_option maxRecDepth 20000
set_option maxHeartbeats 2000000
namespace Go.Proofs.Ytdelmfpchbpafaa
open Go Go.Mx Go.Proofs
open W (OwnB GivesW numR countR doneR zig unzig intR)
/-- cachettelaw07.light -/
def cachettelaw07_light.M (ac : Option Addr) (a2 : Nat) (ab : Nat) (ad : Option Addr) (aa : Nat) (af : Nat) (R : Value → World → Prop) (w : World) : Prop :=
 bif decide ((a2 : Int) > 50) then (
 R (.bool false) w) else (
 bif decide ((aa : Int) > 40) then (
 R (.bool false) w) else (
 ∃ (I0 : Nat → List Value → World → Prop) (m4 : Nat), I0 m4 [.int .i64 0] w ∧ ∀ (m5 : Nat) (a5 : World) (i3 : Int), I0 m5 [.int .i64 i3] a5 →
 bif decide (i3 < (aa : Int)) then (
 ad.elim False fun a7 =>
 0 ≤ (i3 : Int) ∧ (i3 : Int) < (aa : Int) ∧
 ∃ (a8 : Option Addr) (a1 : Nat) (a6 : Nat), a5.cell? ((a7.add (Int.toNat i3 * 14)).add 3) = some (.slice a8 a1 a6) ∧
 bif decide ((a1 : Int) > 1200) then (
 R (.bool false) a5) else (
 ad.elim False fun a9 =>
 0 ≤ (i3 : Int) ∧ (i3 : Int) < (aa : Int) ∧
 ∃ (a4 : Option Addr) (a0 : Nat) (a3 : Nat), a5.cell? (((a9.add (Int.toNat i3 * 14)).add 6).add 6) = some (.slice a4 a0 a3) ∧
 bif decide ((a0 : Int) > 1200) then (
 R (.bool false) a5) else (
 ∃ ae, ae < m5 ∧ I0 ae [.int .i64 (IntKind.i64.wrap (i3 + 1))] a5))) else (
 R (.bool true) a5)))

theorem cachettelaw07_light.eq (draws1a : Option Addr) (draws1n : Nat) (draws1c : Nat) (l2a : Option Addr) (l2n : Nat) (l2c : Nat) (R : Value → World → Prop) (w : World) : mfunc Try.prog [(0, [1], [(5, (.one (.int .i64)))])] 5 [.slice draws1a draws1n draws1c, .slice l2a l2n l2c] R w = cachettelaw07_light.M draws1a draws1n draws1c l2a l2n l2c R w := by kernel_rfl
theorem cachettelaw07_light.ok (a2 : Option Addr) (a0 : Nat) (a1 : Nat) (a3 : Option Addr) (a5 : Nat) (a4 : Nat) {R : Value → World → Prop} {w : World} (h : cachettelaw07_light.M a2 a0 a1 a3 a5 a4 R w) : Calls Try.prog 5 #[.slice a2 a0 a1, .slice a3 a5 a4] w fun e w' => ∃ v, e = .returned v ∧ R v w' :=
  mfunc_ok follows (H := [(0, [1], [(5, (.one (.int .i64)))])]) (args := [.slice a2 a0 a1, .slice a3 a5 a4]) (by rw [cachettelaw07_light.eq]; exact h)

def cachettelaw07_light.N (a9 : Option Addr) (a2 : Nat) (aa : Nat) (ad : Option Addr) (a8 : Nat) (ae : Nat) (R : Value → World → Prop) (w : World) : Prop :=
 ((a2 : Int) > 50 →
 R (.bool false) w) ∧
 ((a2 : Int) ≤ 50 →
 ((a8 : Int) > 40 →
 R (.bool false) w) ∧
 ((a8 : Int) ≤ 40 →
 ∃ (I0 : Nat → List Value → World → Prop) (m6 : Nat), I0 m6 [.int .i64 0] w ∧ ∀ (m7 : Nat) (a7 : World) (i5 : Int), I0 m7 [.int .i64 i5] a7 →
 (i5 < (a8 : Int) →
 ∃ ab : Addr, ad = some ab ∧
 0 ≤ (i5 : Int) ∧ (i5 : Int) < (a8 : Int) ∧
 ∃ (a4 : Option Addr) (a0 : Nat) (a5 : Nat), a7.cell? ((ab.add (Int.toNat i5 * 14)).add 3) = some (.slice a4 a0 a5) ∧
 ((a0 : Int) > 1200 →
 R (.bool false) a7) ∧
 ((a0 : Int) ≤ 1200 →
 0 ≤ (i5 : Int) ∧ (i5 : Int) < (a8 : Int) ∧
 ∃ (a6 : Option Addr) (a1 : Nat) (a3 : Nat), a7.cell? (((ab.add (Int.toNat i5 * 14)).add 6).add 6) = some (.slice a6 a1 a3) ∧
 ((a1 : Int) > 1200 →
 R (.bool false) a7) ∧
 ((a1 : Int) ≤ 1200 →
 (-9223372036854775808 : Int) ≤ (i5 + 1) ∧ (i5 + 1) < 9223372036854775808 ∧
 ∃ ac, ac < m7 ∧ I0 ac [.int .i64 (i5 + 1)] a7))) ∧
 ((a8 : Int) ≤ i5 →
 R (.bool true) a7)))

theorem cachettelaw07_light.up (a2 : Option Addr) (a0 : Nat) (a1 : Nat) (ai : Option Addr) (ah : Nat) (ag : Nat) {R : Value → World → Prop} {w : World} (h : cachettelaw07_light.N a2 a0 a1 ai ah ag R w) : cachettelaw07_light.M a2 a0 a1 ai ah ag R w := by
  unfold cachettelaw07_light.M
  unfold cachettelaw07_light.N at h
  refine bif_of (fun c3 => ?_) (fun c3 => ?_)
  · have h := h.1 (of_decide_eq_true c3)
    exact h
  · have h := h.2 (Int.not_lt.1 (of_decide_eq_false c3))
    refine bif_of (fun c4 => ?_) (fun c4 => ?_)
    · have h := h.1 (of_decide_eq_true c4)
      exact h
    · have h := h.2 (Int.not_lt.1 (of_decide_eq_false c4))
      obtain ⟨I0, m6, h0, h⟩ := h
      refine ⟨I0, m6, h0, fun m7 ak i5 hI => ?_⟩
      have h := h m7 ak i5 hI
      refine bif_of (fun c9 => ?_) (fun c9 => ?_)
      · have h := h.1 (of_decide_eq_true c9)
        obtain ⟨an, a9, h⟩ := h
        refine elim_some a9 ?_
        obtain ⟨aa, ab, h⟩ := h
        refine ⟨aa, ab, ?_⟩
        obtain ⟨a3, a4, a6, af, h⟩ := h
        refine ⟨a3, a4, a6, af, ?_⟩
        refine bif_of (fun ad => ?_) (fun ad => ?_)
        · have h := h.1 (of_decide_eq_true ad)
          exact h
        · have h := h.2 (Int.not_lt.1 (of_decide_eq_false ad))
          refine elim_some a9 ?_
          obtain ⟨aa, ab, h⟩ := h
          refine ⟨aa, ab, ?_⟩
          obtain ⟨a8, a7, a5, ac, h⟩ := h
          refine ⟨a8, a7, a5, ac, ?_⟩
          refine bif_of (fun ae => ?_) (fun ae => ?_)
          · have h := h.1 (of_decide_eq_true ae)
            exact h
          · have h := h.2 (Int.not_lt.1 (of_decide_eq_false ae))
            obtain ⟨aj, al, h⟩ := h
            try rw [w64 aj al]
            obtain ⟨am, hk, h⟩ := h
            exact ⟨am, hk, h⟩
      · have h := h.2 (Int.not_lt.1 (of_decide_eq_false c9))
        exact h

theorem cachettelaw07_light.go (a2 : Option Addr) (a0 : Nat) (a1 : Nat) (a3 : Option Addr) (a5 : Nat) (a4 : Nat) {R : Value → World → Prop} {w : World} (h : cachettelaw07_light.N a2 a0 a1 a3 a5 a4 R w) : Calls Try.prog 5 #[.slice a2 a0 a1, .slice a3 a5 a4] w fun e w' => ∃ v, e = .returned v ∧ R v w' := cachettelaw07_light.ok a2 a0 a1 a3 a5 a4 (cachettelaw07_light.up a2 a0 a1 a3 a5 a4 h)
theorem cachettelaw07_light.run (a2 : Option Addr) (a0 : Nat) (a1 : Nat) (a3 : Option Addr) (a5 : Nat) (a4 : Nat) {V : Value} {Q : World → Prop} {w : World} (h : cachettelaw07_light.N a2 a0 a1 a3 a5 a4 (fun v w' => v = V ∧ Q w') w) : Calls Try.prog 5 #[.slice a2 a0 a1, .slice a3 a5 a4] w (Ret V Q) := (cachettelaw07_light.go a2 a0 a1 a3 a5 a4 h).mono fun e w' ⟨v, he, hv, hq⟩ => ⟨by rw [he, hv], hq⟩

/-- cachettelaw07.alive -/
def cachettelaw07_alive.M  (R : Value → World → Prop) (w : World) : Prop :=
 Calls Try.prog 7 #[.slice none 0 0] w fun cf ch => ∃ (be : Option Addr), cf = .returned (.pointer be) ∧
 Calls Try.prog 8 #[.pointer be] ch fun cg ce => ∃ (au : Int) (b9 : Int), cg = .returned (.tuple #[.int .u64 au, .int .u64 b9]) ∧
 Calls Try.prog 10 #[.pointer be, .int .i64 1, .int .u64 b9] ce fun cd bq => ∃ (b1 : Option Addr) (bz : Int), cd = .returned (.tuple #[.pointer b1, .int .i64 bz]) ∧
 thenW (bq.alloc (.cells #[.int .u8 120] 5)) fun c5 =>
 ∃ (c0 : Option Addr) (bi : Nat) (c3 : Nat) (bn : World), (convert 43 43 (.slice (some (blk bq.heap.size)) 1 1)).run Try.prog c5 = .ok (.slice c0 bi c3) bn ∧
 Calls Try.prog 15 #[.pointer b1, .int .u64 au, .agg #[.int .i64 1, .int .i64 1], .int .i64 0, .slice c0 bi c3] bn fun c8 a1 => ∃ (a6 : Int) (am : Int) (ay : Int) (bd : Int) (b7 : Int) (ap : Int) (ag : Option Addr) (ak : Nat) (af : Nat) (ba : Int) (ad : Int), c8 = .returned (.tuple #[.agg #[.int .i64 a6, .int .i64 am, .int .u64 ay, .int .i64 bd, .int .i64 b7, .int .i64 ap, .slice ag ak af, .int .u64 ba], .int .i64 ad]) ∧
 thenW (a1.alloc (.cells #[.int .i64 0, .int .i64 0, .int .u64 0, .int .i64 0, .int .i64 0, .int .i64 0, .slice none 0 0, .int .u64 0] 47)) fun bk =>
 canStore bk ((blk a1.heap.size).add 0) ∧
 thenW (bk.setCell ((blk a1.heap.size).add 0) (.int .i64 a6)) fun bs =>
 canStore bs ((blk a1.heap.size).add 1) ∧
 thenW (bs.setCell ((blk a1.heap.size).add 1) (.int .i64 am)) fun bm =>
 canStore bm ((blk a1.heap.size).add 2) ∧
 thenW (bm.setCell ((blk a1.heap.size).add 2) (.int .u64 ay)) fun c4 =>
 canStore c4 ((blk a1.heap.size).add 3) ∧
 thenW (c4.setCell ((blk a1.heap.size).add 3) (.int .i64 bd)) fun bo =>
 canStore bo ((blk a1.heap.size).add 4) ∧
 thenW (bo.setCell ((blk a1.heap.size).add 4) (.int .i64 b7)) fun bp =>
 canStore bp ((blk a1.heap.size).add 5) ∧
 thenW (bp.setCell ((blk a1.heap.size).add 5) (.int .i64 ap)) fun c2 =>
 canStore c2 ((blk a1.heap.size).add 6) ∧
 thenW (c2.setCell ((blk a1.heap.size).add 6) (.slice ag ak af)) fun bx =>
 canStore bx ((blk a1.heap.size).add 7) ∧
 thenW (bx.setCell ((blk a1.heap.size).add 7) (.int .u64 ba)) fun cc =>
 Calls Try.prog 15 #[.pointer b1, .int .u64 au, .agg #[.int .i64 2, .int .i64 1], .int .i64 0, .slice none 0 0] cc fun ca a0 => ∃ (a7 : Int) (an : Int) (ax : Int) (bc : Int) (b4 : Int) (ao : Int) (ah : Option Addr) (al : Nat) (aq : Nat) (b8 : Int) (aj : Int), ca = .returned (.tuple #[.agg #[.int .i64 a7, .int .i64 an, .int .u64 ax, .int .i64 bc, .int .i64 b4, .int .i64 ao, .slice ah al aq, .int .u64 b8], .int .i64 aj]) ∧
 thenW (a0.alloc (.cells #[.int .i64 0, .int .i64 0, .int .u64 0, .int .i64 0, .int .i64 0, .int .i64 0, .slice none 0 0, .int .u64 0] 47)) fun bv =>
 canStore bv ((blk a0.heap.size).add 0) ∧
 thenW (bv.setCell ((blk a0.heap.size).add 0) (.int .i64 a7)) fun br =>
 canStore br ((blk a0.heap.size).add 1) ∧
 thenW (br.setCell ((blk a0.heap.size).add 1) (.int .i64 an)) fun bh =>
 canStore bh ((blk a0.heap.size).add 2) ∧
 thenW (bh.setCell ((blk a0.heap.size).add 2) (.int .u64 ax)) fun bl =>
 canStore bl ((blk a0.heap.size).add 3) ∧
 thenW (bl.setCell ((blk a0.heap.size).add 3) (.int .i64 bc)) fun bf =>
 canStore bf ((blk a0.heap.size).add 4) ∧
 thenW (bf.setCell ((blk a0.heap.size).add 4) (.int .i64 b4)) fun bw =>
 canStore bw ((blk a0.heap.size).add 5) ∧
 thenW (bw.setCell ((blk a0.heap.size).add 5) (.int .i64 ao)) fun bg =>
 canStore bg ((blk a0.heap.size).add 6) ∧
 thenW (bg.setCell ((blk a0.heap.size).add 6) (.slice ah al aq)) fun bj =>
 canStore bj ((blk a0.heap.size).add 7) ∧
 thenW (bj.setCell ((blk a0.heap.size).add 7) (.int .u64 b8)) fun c9 =>
 Calls Try.prog 25 #[.pointer b1] c9 fun cb a4 => ∃ (a9 : Int) (b6 : Int) (bb : Int), cb = .returned (.agg #[.int .i64 a9, .int .i64 b6, .int .u64 bb]) ∧
 thenW (a4.alloc (.cells #[.int .i64 0, .int .i64 0, .int .u64 0] 65)) fun c1 =>
 canStore c1 ((blk a4.heap.size).add 0) ∧
 thenW (c1.setCell ((blk a4.heap.size).add 0) (.int .i64 a9)) fun bt =>
 canStore bt ((blk a4.heap.size).add 1) ∧
 thenW (bt.setCell ((blk a4.heap.size).add 1) (.int .i64 b6)) fun bu =>
 canStore bu ((blk a4.heap.size).add 2) ∧
 thenW (bu.setCell ((blk a4.heap.size).add 2) (.int .u64 bb)) fun a2 =>
 bif bz == 0 then (
 bif ad == 0 then (
 bif aj == 0 then (
 ∃ (b0 : Int), a2.cell? ((blk a1.heap.size).add 2) = some (.int .u64 b0) ∧
 bif b0 == 0 then (
 ∃ (ar : Int), a2.cell? ((blk a0.heap.size).add 2) = some (.int .u64 ar) ∧
 bif ar != 0 then (
 ∃ (b5 : Int), a2.cell? ((blk a4.heap.size).add 1) = some (.int .i64 b5) ∧
 bif b5 == 2 then (
 ∃ (b3 : Int), a2.cell? ((blk a4.heap.size).add 2) = some (.int .u64 b3) ∧
 ∃ (b2 : Int), a2.cell? ((blk a0.heap.size).add 2) = some (.int .u64 b2) ∧
 bif b3 != b2 then (
 ∃ (a3 : Int) (a5 : Int) (ae : Int) (aw : Int) (az : Int) (ab : Int) (a8 : Option Addr) (ac : Nat) (aa : Nat) (av : Int), cellsAt a2 (blk a1.heap.size) [.int .i64 a3, .int .i64 a5, .int .u64 ae, .int .i64 aw, .int .i64 az, .int .i64 ab, .slice a8 ac aa, .int .u64 av] 0 ∧
 Calls Try.prog 19 #[.pointer b1, .agg #[.int .i64 a3, .int .i64 a5, .int .u64 ae, .int .i64 aw, .int .i64 az, .int .i64 ab, .slice a8 ac aa, .int .u64 av]] a2 fun c7 c6 => ∃ (ai : Int), c7 = .returned (.int .i64 ai) ∧
 R (.bool (ai == 8)) c6) else (
 R (.bool false) a2)) else (
 R (.bool false) a2)) else (
 R (.bool false) a2)) else (
 R (.bool false) a2)) else (
 R (.bool false) a2)) else (
 R (.bool false) a2)) else (
 R (.bool false) a2)

theorem cachettelaw07_alive.eq  (R : Value → World → Prop) (w : World) : mfunc Try.prog [] 6 [] R w = cachettelaw07_alive.M  R w := by kernel_rfl
theorem cachettelaw07_alive.ok  {R : Value → World → Prop} {w : World} (h : cachettelaw07_alive.M  R w) : Calls Try.prog 6 #[] w fun e w' => ∃ v, e = .returned v ∧ R v w' :=
  mfunc_ok follows (H := []) (args := []) (by rw [cachettelaw07_alive.eq]; exact h)

def cachettelaw07_alive.N  (R : Value → World → Prop) (w : World) : Prop :=
 Calls Try.prog 7 #[.slice none 0 0] w fun bl bk => ∃ (ay : Option Addr), bl = .returned (.pointer ay) ∧
 Calls Try.prog 8 #[.pointer ay] bk fun bj bi => ∃ (ad : Int) (aw : Int), bj = .returned (.tuple #[.int .u64 ad, .int .u64 aw]) ∧
 Calls Try.prog 10 #[.pointer ay, .int .i64 1, .int .u64 aw] bi fun bf b3 => ∃ (ah : Option Addr) (ax : Int), bf = .returned (.tuple #[.pointer ah, .int .i64 ax]) ∧
 ∀ (ak : World) (b9 : Nat), Ext no b3 ak → Blk ak b9 5 [.int .u8 120] → b3.heap.size ≤ b9 → b9 < ak.heap.size →
 ∃ (b4 : Option Addr) (b8 : Nat) (b7 : Nat) (b0 : World), (convert 43 43 (.slice (some (blk b9)) 1 1)).run Try.prog ak = .ok (.slice b4 b8 b7) b0 ∧
 Calls Try.prog 15 #[.pointer ah, .int .u64 ad, .agg #[.int .i64 1, .int .i64 1], .int .i64 0, .slice b4 b8 b7] b0 fun bd b6 => ∃ (a6 : Int) (a7 : Int) (a4 : Int) (ar : Int) (av : Int) (aa : Int) (ab : Option Addr) (a9 : Nat) (ac : Nat) (au : Int) (a5 : Int), bd = .returned (.tuple #[.agg #[.int .i64 a6, .int .i64 a7, .int .u64 a4, .int .i64 ar, .int .i64 av, .int .i64 aa, .slice ab a9 ac, .int .u64 au], .int .i64 a5]) ∧
 ∀ (ao : World) (ba : Nat), Ext no b6 ao → Priv b6 ao [ba] →
 Calls Try.prog 15 #[.pointer ah, .int .u64 ad, .agg #[.int .i64 2, .int .i64 1], .int .i64 0, .slice none 0 0] ao fun bc az => ∃ (ai : Int) (an : Int) (a1 : Int) (b1 : Int) (b5 : Int) (am : Int) (aq : Option Addr) (al : Nat) (ap : Nat) (b2 : Int) (a3 : Int), bc = .returned (.tuple #[.agg #[.int .i64 ai, .int .i64 an, .int .u64 a1, .int .i64 b1, .int .i64 b5, .int .i64 am, .slice aq al ap, .int .u64 b2], .int .i64 a3]) ∧
 Keep [ba] ao az ∧
 ∀ (aj : World) (bh : Nat), Ext no az aj → Priv az aj [bh] →
 Calls Try.prog 25 #[.pointer ah] aj fun be a2 => ∃ (af : Int) (ag : Int) (ae : Int), be = .returned (.agg #[.int .i64 af, .int .i64 ag, .int .u64 ae]) ∧
 Keep [ba, bh] aj a2 ∧
 (ax = 0 →
 (a5 = 0 →
 (a3 = 0 →
 (a4 = 0 →
 (a1 ≠ 0 →
 (ag = 2 →
 (ae ≠ a1 →
 ∀ (a0 : World), Ext no a2 a0 →
 Calls Try.prog 19 #[.pointer ah, .agg #[.int .i64 a6, .int .i64 a7, .int .u64 a4, .int .i64 ar, .int .i64 av, .int .i64 aa, .slice ab a9 ac, .int .u64 au]] a0 fun bb bg => ∃ (a8 : Int), bb = .returned (.int .i64 a8) ∧
 R (.bool (a8 == 8)) bg) ∧
 (ae = a1 →
 ∀ (a0 : World), Ext no a2 a0 →
 R (.bool false) a0)) ∧
 (ag ≠ 2 →
 ∀ (a0 : World), Ext no a2 a0 →
 R (.bool false) a0)) ∧
 (a1 = 0 →
 ∀ (a0 : World), Ext no a2 a0 →
 R (.bool false) a0)) ∧
 (a4 ≠ 0 →
 ∀ (a0 : World), Ext no a2 a0 →
 R (.bool false) a0)) ∧
 (a3 ≠ 0 →
 ∀ (a0 : World), Ext no a2 a0 →
 R (.bool false) a0)) ∧
 (a5 ≠ 0 →
 ∀ (a0 : World), Ext no a2 a0 →
 R (.bool false) a0)) ∧
 (ax ≠ 0 →
 ∀ (a0 : World), Ext no a2 a0 →
 R (.bool false) a0)

theorem cachettelaw07_alive.up  {R : Value → World → Prop} {w : World} (h : cachettelaw07_alive.N  R w) : cachettelaw07_alive.M  R w := by
  unfold cachettelaw07_alive.M
  unfold cachettelaw07_alive.N at h
  refine h.mono fun dq ds h => ?_
  obtain ⟨d0, he, h⟩ := h
  refine ⟨d0, he, ?_⟩
  refine h.mono fun dr dp h => ?_
  obtain ⟨b6, b8, he, h⟩ := h
  refine ⟨b6, b8, he, ?_⟩
  refine h.mono fun dn b5 h => ?_
  obtain ⟨cz, ci, he, h⟩ := h
  refine ⟨cz, ci, he, ?_⟩
  refine thenW_in fun bh c6 => ?_
  have h := h bh b5.heap.size ((Ext.refl no b5).x_alloc c6) (Blk.of_new c6) ((Ext.refl no b5)).size (size_lt_alloc c6)
  obtain ⟨c3, c8, d1, bw, hr, h⟩ := h
  refine ⟨c3, c8, d1, bw, hr, ?_⟩
  refine h.mono fun di a7 h => ?_
  obtain ⟨a1, a4, a8, ag, aj, aa, ad, ae, af, aq, b0, he, h⟩ := h
  refine ⟨a1, a4, a8, ag, aj, aa, ad, ae, af, aq, b0, he, ?_⟩
  refine thenW_in fun dk d9 => ?_
  have a0 := Blk.of_new d9
  have az := ((Ext.refl no a7)).size
  have c1 := (Ext.refl no a7).x_alloc d9
  refine ⟨a0.cani 0 rfl rfl, thenW_in fun bs da => ?_⟩
  have cl := c1.x_set (q := a7.heap.size) (i := 0) rfl (.inr az) da
  have a0 : Blk bs a7.heap.size 47 [.int .i64 a1, .int .i64 0, .int .u64 0, .int .i64 0, .int .i64 0, .int .i64 0, .slice none 0 0, .int .u64 0] := a0.seti 0 rfl da
  refine ⟨a0.cani 1 rfl rfl, thenW_in fun cy dc => ?_⟩
  have cr := cl.x_set (q := a7.heap.size) (i := 1) rfl (.inr az) dc
  have a0 : Blk cy a7.heap.size 47 [.int .i64 a1, .int .i64 a4, .int .u64 0, .int .i64 0, .int .i64 0, .int .i64 0, .slice none 0 0, .int .u64 0] := a0.seti 1 rfl dc
  refine ⟨a0.cani 2 rfl rfl, thenW_in fun bu d6 => ?_⟩
  have bt := cr.x_set (q := a7.heap.size) (i := 2) rfl (.inr az) d6
  have a0 : Blk bu a7.heap.size 47 [.int .i64 a1, .int .i64 a4, .int .u64 a8, .int .i64 0, .int .i64 0, .int .i64 0, .slice none 0 0, .int .u64 0] := a0.seti 2 rfl d6
  refine ⟨a0.cani 3 rfl rfl, thenW_in fun c0 d5 => ?_⟩
  have cs := bt.x_set (q := a7.heap.size) (i := 3) rfl (.inr az) d5
  have a0 : Blk c0 a7.heap.size 47 [.int .i64 a1, .int .i64 a4, .int .u64 a8, .int .i64 ag, .int .i64 0, .int .i64 0, .slice none 0 0, .int .u64 0] := a0.seti 3 rfl d5
  refine ⟨a0.cani 4 rfl rfl, thenW_in fun cx d7 => ?_⟩
  have ck := cs.x_set (q := a7.heap.size) (i := 4) rfl (.inr az) d7
  have a0 : Blk cx a7.heap.size 47 [.int .i64 a1, .int .i64 a4, .int .u64 a8, .int .i64 ag, .int .i64 aj, .int .i64 0, .slice none 0 0, .int .u64 0] := a0.seti 4 rfl d7
  refine ⟨a0.cani 5 rfl rfl, thenW_in fun cg db => ?_⟩
  have bo := ck.x_set (q := a7.heap.size) (i := 5) rfl (.inr az) db
  have a0 : Blk cg a7.heap.size 47 [.int .i64 a1, .int .i64 a4, .int .u64 a8, .int .i64 ag, .int .i64 aj, .int .i64 aa, .slice none 0 0, .int .u64 0] := a0.seti 5 rfl db
  refine ⟨a0.cani 6 rfl rfl, thenW_in fun ct d4 => ?_⟩
  have bj := bo.x_set (q := a7.heap.size) (i := 6) rfl (.inr az) d4
  have a0 : Blk ct a7.heap.size 47 [.int .i64 a1, .int .i64 a4, .int .u64 a8, .int .i64 ag, .int .i64 aj, .int .i64 aa, .slice ad ae af, .int .u64 0] := a0.seti 6 rfl d4
  refine ⟨a0.cani 7 rfl rfl, thenW_in fun b7 d8 => ?_⟩
  have cp := bj.x_set (q := a7.heap.size) (i := 7) rfl (.inr az) d8
  have a0 : Blk b7 a7.heap.size 47 [.int .i64 a1, .int .i64 a4, .int .u64 a8, .int .i64 ag, .int .i64 aj, .int .i64 aa, .slice ad ae af, .int .u64 aq] := a0.seti 7 rfl d8
  have h := h b7 (a7.heap.size) cp (Priv.cons az a0.lt Priv.nil)
  refine h.mono fun dl a3 h => ?_
  obtain ⟨a2, a5, a6, ai, ao, ac, al, ak, am, b4, b1, he, hk, h⟩ := h
  refine ⟨a2, a5, a6, ai, ao, ac, al, ak, am, b4, b1, he, ?_⟩
  have a0 := hk.blk a0 (by simp)
  refine thenW_in fun dd c5 => ?_
  have a9 := Blk.of_new c5
  have ay := ((Ext.refl no a3)).size
  have ab := Nat.ne_of_lt a0.lt
  have a0 := a0.x_alloc c5
  have bi := (Ext.refl no a3).x_alloc c5
  refine ⟨a9.cani 0 rfl rfl, thenW_in fun br cq => ?_⟩
  have ce := bi.x_set (q := a3.heap.size) (i := 0) rfl (.inr ay) cq
  have a0 := a0.oth (q := a3.heap.size) (i := 0) rfl ab cq
  have a9 : Blk br a3.heap.size 47 [.int .i64 a2, .int .i64 0, .int .u64 0, .int .i64 0, .int .i64 0, .int .i64 0, .slice none 0 0, .int .u64 0] := a9.seti 0 rfl cq
  refine ⟨a9.cani 1 rfl rfl, thenW_in fun bf cv => ?_⟩
  have bp := ce.x_set (q := a3.heap.size) (i := 1) rfl (.inr ay) cv
  have a0 := a0.oth (q := a3.heap.size) (i := 1) rfl ab cv
  have a9 : Blk bf a3.heap.size 47 [.int .i64 a2, .int .i64 a5, .int .u64 0, .int .i64 0, .int .i64 0, .int .i64 0, .slice none 0 0, .int .u64 0] := a9.seti 1 rfl cv
  refine ⟨a9.cani 2 rfl rfl, thenW_in fun cf c2 => ?_⟩
  have bk := bp.x_set (q := a3.heap.size) (i := 2) rfl (.inr ay) c2
  have a0 := a0.oth (q := a3.heap.size) (i := 2) rfl ab c2
  have a9 : Blk cf a3.heap.size 47 [.int .i64 a2, .int .i64 a5, .int .u64 a6, .int .i64 0, .int .i64 0, .int .i64 0, .slice none 0 0, .int .u64 0] := a9.seti 2 rfl c2
  refine ⟨a9.cani 3 rfl rfl, thenW_in fun bg cc => ?_⟩
  have bz := bk.x_set (q := a3.heap.size) (i := 3) rfl (.inr ay) cc
  have a0 := a0.oth (q := a3.heap.size) (i := 3) rfl ab cc
  have a9 : Blk bg a3.heap.size 47 [.int .i64 a2, .int .i64 a5, .int .u64 a6, .int .i64 ai, .int .i64 0, .int .i64 0, .slice none 0 0, .int .u64 0] := a9.seti 3 rfl cc
  refine ⟨a9.cani 4 rfl rfl, thenW_in fun bq bn => ?_⟩
  have cd := bz.x_set (q := a3.heap.size) (i := 4) rfl (.inr ay) bn
  have a0 := a0.oth (q := a3.heap.size) (i := 4) rfl ab bn
  have a9 : Blk bq a3.heap.size 47 [.int .i64 a2, .int .i64 a5, .int .u64 a6, .int .i64 ai, .int .i64 ao, .int .i64 0, .slice none 0 0, .int .u64 0] := a9.seti 4 rfl bn
  refine ⟨a9.cani 5 rfl rfl, thenW_in fun c7 bm => ?_⟩
  have cw := cd.x_set (q := a3.heap.size) (i := 5) rfl (.inr ay) bm
  have a0 := a0.oth (q := a3.heap.size) (i := 5) rfl ab bm
  have a9 : Blk c7 a3.heap.size 47 [.int .i64 a2, .int .i64 a5, .int .u64 a6, .int .i64 ai, .int .i64 ao, .int .i64 ac, .slice none 0 0, .int .u64 0] := a9.seti 5 rfl bm
  refine ⟨a9.cani 6 rfl rfl, thenW_in fun cu be => ?_⟩
  have cn := cw.x_set (q := a3.heap.size) (i := 6) rfl (.inr ay) be
  have a0 := a0.oth (q := a3.heap.size) (i := 6) rfl ab be
  have a9 : Blk cu a3.heap.size 47 [.int .i64 a2, .int .i64 a5, .int .u64 a6, .int .i64 ai, .int .i64 ao, .int .i64 ac, .slice al ak am, .int .u64 0] := a9.seti 6 rfl be
  refine ⟨a9.cani 7 rfl rfl, thenW_in fun b9 bx => ?_⟩
  have cb := cn.x_set (q := a3.heap.size) (i := 7) rfl (.inr ay) bx
  have a0 := a0.oth (q := a3.heap.size) (i := 7) rfl ab bx
  have a9 : Blk b9 a3.heap.size 47 [.int .i64 a2, .int .i64 a5, .int .u64 a6, .int .i64 ai, .int .i64 ao, .int .i64 ac, .slice al ak am, .int .u64 b4] := a9.seti 7 rfl bx
  have h := h b9 (a3.heap.size) cb (Priv.cons ay a9.lt Priv.nil)
  refine h.mono fun df ah h => ?_
  obtain ⟨au, b2, b3, he, hk, h⟩ := h
  refine ⟨au, b2, b3, he, ?_⟩
  have a0 := hk.blk a0 (by simp)
  have a9 := hk.blk a9 (by simp)
  refine thenW_in fun de bb => ?_
  have aw := Blk.of_new bb
  have cm := ((Ext.refl no ah)).size
  have av := Nat.ne_of_lt a0.lt
  have a0 := a0.x_alloc bb
  have ar := Nat.ne_of_lt a9.lt
  have a9 := a9.x_alloc bb
  have bl := (Ext.refl no ah).x_alloc bb
  refine ⟨aw.cani 0 rfl rfl, thenW_in fun dm bc => ?_⟩
  have c4 := bl.x_set (q := ah.heap.size) (i := 0) rfl (.inr cm) bc
  have a0 := a0.oth (q := ah.heap.size) (i := 0) rfl av bc
  have a9 := a9.oth (q := ah.heap.size) (i := 0) rfl ar bc
  have aw := aw.seti 0 rfl bc
  refine ⟨aw.cani 1 rfl rfl, thenW_in fun dg ba => ?_⟩
  have bv := c4.x_set (q := ah.heap.size) (i := 1) rfl (.inr cm) ba
  have a0 := a0.oth (q := ah.heap.size) (i := 1) rfl av ba
  have a9 := a9.oth (q := ah.heap.size) (i := 1) rfl ar ba
  have aw := aw.seti 1 rfl ba
  refine ⟨aw.cani 2 rfl rfl, thenW_in fun an bd => ?_⟩
  have ap := bv.x_set (q := ah.heap.size) (i := 2) rfl (.inr cm) bd
  have a0 := a0.oth (q := ah.heap.size) (i := 2) rfl av bd
  have a9 := a9.oth (q := ah.heap.size) (i := 2) rfl ar bd
  have aw := aw.seti 2 rfl bd
  refine bif_of (fun c9 => ?_) (fun c9 => ?_)
  · have h := h.1 (beq_t c9)
    refine bif_of (fun co => ?_) (fun co => ?_)
    · have h := h.1 (beq_t co)
      refine bif_of (fun ca => ?_) (fun ca => ?_)
      · have h := h.1 (beq_t ca)
        refine ⟨a8, a0.celli 2 rfl rfl, ?_⟩
        refine bif_of (fun d2 => ?_) (fun d2 => ?_)
        · have h := h.1 (beq_t d2)
          refine ⟨a6, a9.celli 2 rfl rfl, ?_⟩
          refine bif_of (fun ch => ?_) (fun ch => ?_)
          · have h := h.1 (bne_t ch)
            refine ⟨b2, aw.celli 1 rfl rfl, ?_⟩
            refine bif_of (fun d3 => ?_) (fun d3 => ?_)
            · have h := h.1 (beq_t d3)
              refine ⟨b3, aw.celli 2 rfl rfl, ?_⟩
              refine ⟨a6, a9.celli 2 rfl rfl, ?_⟩
              refine bif_of (fun cj => ?_) (fun cj => ?_)
              · have h := h.1 (bne_t cj)
                refine ⟨a1, a4, a8, ag, aj, aa, ad, ae, af, aq, ⟨a0.celli 0 rfl rfl, a0.celli 1 rfl rfl, a0.celli 2 rfl rfl, a0.celli 3 rfl rfl, a0.celli 4 rfl rfl, a0.celli 5 rfl rfl, a0.celli 6 rfl rfl, a0.celli 7 rfl rfl, trivial⟩, ?_⟩
                have h := h an ap
                refine h.mono fun dh dj h => ?_
                obtain ⟨ax, he, h⟩ := h
                refine ⟨ax, he, ?_⟩
                exact h
              · have h := h.2 (bne_f cj)
                have h := h an ap
                exact h
            · have h := h.2 (beq_f d3)
              have h := h an ap
              exact h
          · have h := h.2 (bne_f ch)
            have h := h an ap
            exact h
        · have h := h.2 (beq_f d2)
          have h := h an ap
          exact h
      · have h := h.2 (beq_f ca)
        have h := h an ap
        exact h
    · have h := h.2 (beq_f co)
      have h := h an ap
      exact h
  · have h := h.2 (beq_f c9)
    have h := h an ap
    exact h

theorem cachettelaw07_alive.go  {R : Value → World → Prop} {w : World} (h : cachettelaw07_alive.N  R w) : Calls Try.prog 6 #[] w fun e w' => ∃ v, e = .returned v ∧ R v w' := cachettelaw07_alive.ok  (cachettelaw07_alive.up  h)
theorem cachettelaw07_alive.run  {V : Value} {Q : World → Prop} {w : World} (h : cachettelaw07_alive.N  (fun v w' => v = V ∧ Q w') w) : Calls Try.prog 6 #[] w (Ret V Q) := (cachettelaw07_alive.go  h).mono fun e w' ⟨v, he, hv, hq⟩ => ⟨by rw [he, hv], hq⟩

/-- cachetteref06.All -/
def cachetteref06_All.M (ax : Option Addr) (an : Nat) (az : Nat) (aw : Option Addr) (au : Nat) (ay : Nat) (R : Value → World → Prop) (w : World) : Prop :=
 bif (an : Int) != (au : Int) then (
 R (.bool false) w) else (
 ∃ (I0 : Nat → List Value → World → Prop) (m4 : Nat), I0 m4 [.int .i64 0] w ∧ ∀ (m5 : Nat) (aq : World) (i3 : Int), I0 m5 [.int .i64 i3] aq →
 bif decide (i3 < (an : Int)) then (
 thenW (aq.drew) fun ao =>
 ax.elim False fun a8 =>
 0 ≤ (i3 : Int) ∧ (i3 : Int) < (an : Int) ∧
 ∃ (ac : Int) (a5 : Int) (ad : Int) (ak : Int) (ai : Int) (a9 : Int) (a3 : Option Addr) (a7 : Nat) (a6 : Nat) (af : Int), cellsAt ao (a8.add (Int.toNat i3 * 8)) [.int .i64 ac, .int .i64 a5, .int .u64 ad, .int .i64 ak, .int .i64 ai, .int .i64 a9, .slice a3 a7 a6, .int .u64 af] 0 ∧
 aw.elim False fun av =>
 0 ≤ (i3 : Int) ∧ (i3 : Int) < (au : Int) ∧
 ∃ (a0 : Int) (a2 : Int) (ae : Int) (aj : Int) (ag : Int) (a4 : Int) (aa : Option Addr) (a1 : Nat) (ab : Nat) (ah : Int), cellsAt ao (av.add (Int.toNat i3 * 8)) [.int .i64 a0, .int .i64 a2, .int .u64 ae, .int .i64 aj, .int .i64 ag, .int .i64 a4, .slice aa a1 ab, .int .u64 ah] 0 ∧
 Calls Try.prog 17 #[.agg #[.int .i64 ac, .int .i64 a5, .int .u64 ad, .int .i64 ak, .int .i64 ai, .int .i64 a9, .slice a3 a7 a6, .int .u64 af], .agg #[.int .i64 a0, .int .i64 a2, .int .u64 ae, .int .i64 aj, .int .i64 ag, .int .i64 a4, .slice aa a1 ab, .int .u64 ah]] ao fun ap am => ∃ (al : Bool), ap = .returned (.bool al) ∧
 bif !al then (
 R (.bool false) am) else (
 ∃ ar, ar < m5 ∧ I0 ar [.int .i64 (IntKind.i64.wrap (i3 + 1))] am)) else (
 R (.bool true) aq))

theorem cachetteref06_All.eq (a1a : Option Addr) (a1n : Nat) (a1c : Nat) (b2a : Option Addr) (b2n : Nat) (b2c : Nat) (R : Value → World → Prop) (w : World) : mfunc Try.prog [(0, [0, 1], [(5, (.one (.int .i64)))])] 11 [.slice a1a a1n a1c, .slice b2a b2n b2c] R w = cachetteref06_All.M a1a a1n a1c b2a b2n b2c R w := by kernel_rfl
theorem cachetteref06_All.ok (a3 : Option Addr) (a2 : Nat) (a4 : Nat) (a0 : Option Addr) (a5 : Nat) (a1 : Nat) {R : Value → World → Prop} {w : World} (h : cachetteref06_All.M a3 a2 a4 a0 a5 a1 R w) : Calls Try.prog 11 #[.slice a3 a2 a4, .slice a0 a5 a1] w fun e w' => ∃ v, e = .returned v ∧ R v w' :=
  mfunc_ok follows (H := [(0, [0, 1], [(5, (.one (.int .i64)))])]) (args := [.slice a3 a2 a4, .slice a0 a5 a1]) (by rw [cachetteref06_All.eq]; exact h)

def cachetteref06_All.N (ax : Option Addr) (al : Nat) (az : Nat) (aw : Option Addr) (ap : Nat) (ay : Nat) (R : Value → World → Prop) (w : World) : Prop :=
 ((al : Int) ≠ (ap : Int) →
 R (.bool false) w) ∧
 ((al : Int) = (ap : Int) →
 ∃ (I0 : Nat → List Value → World → Prop) (m5 : Nat), I0 m5 [.int .i64 0] w ∧ ∀ (m6 : Nat) (am : World) (i4 : Int), I0 m6 [.int .i64 i4] am →
 (i4 < (al : Int) →
 ∃ aq : Addr, ax = some aq ∧
 0 ≤ (i4 : Int) ∧ (i4 : Int) < (al : Int) ∧
 ∃ (a0 : Int) (a4 : Int) (ae : Int) (af : Int) (ai : Int) (a9 : Int) (ab : Option Addr) (a8 : Nat) (a7 : Nat) (ah : Int), cellsAt am (aq.add (Int.toNat i4 * 8)) [.int .i64 a0, .int .i64 a4, .int .u64 ae, .int .i64 af, .int .i64 ai, .int .i64 a9, .slice ab a8 a7, .int .u64 ah] 0 ∧
 ∃ au : Addr, aw = some au ∧
 0 ≤ (i4 : Int) ∧ (i4 : Int) < (ap : Int) ∧
 ∃ (a1 : Int) (a2 : Int) (ad : Int) (aj : Int) (ak : Int) (a6 : Int) (a5 : Option Addr) (a3 : Nat) (aa : Nat) (ag : Int), cellsAt am (au.add (Int.toNat i4 * 8)) [.int .i64 a1, .int .i64 a2, .int .u64 ad, .int .i64 aj, .int .i64 ak, .int .i64 a6, .slice a5 a3 aa, .int .u64 ag] 0 ∧
 ∀ (ar : World), Ext no am ar →
 Calls Try.prog 17 #[.agg #[.int .i64 a0, .int .i64 a4, .int .u64 ae, .int .i64 af, .int .i64 ai, .int .i64 a9, .slice ab a8 a7, .int .u64 ah], .agg #[.int .i64 a1, .int .i64 a2, .int .u64 ad, .int .i64 aj, .int .i64 ak, .int .i64 a6, .slice a5 a3 aa, .int .u64 ag]] ar fun ao an => ∃ (ac : Bool), ao = .returned (.bool ac) ∧
 (ac = false →
 R (.bool false) an) ∧
 (ac = true →
 (-9223372036854775808 : Int) ≤ (i4 + 1) ∧ (i4 + 1) < 9223372036854775808 ∧
 ∃ av, av < m6 ∧ I0 av [.int .i64 (i4 + 1)] an)) ∧
 ((al : Int) ≤ i4 →
 R (.bool true) am))

theorem cachetteref06_All.up (ay : Option Addr) (ax : Nat) (b1 : Nat) (av : Option Addr) (b0 : Nat) (aw : Nat) {R : Value → World → Prop} {w : World} (h : cachetteref06_All.N ay ax b1 av b0 aw R w) : cachetteref06_All.M ay ax b1 av b0 aw R w := by
  unfold cachetteref06_All.M
  unfold cachetteref06_All.N at h
  refine bif_of (fun c3 => ?_) (fun c3 => ?_)
  · have h := h.1 (bne_t c3)
    exact h
  · have h := h.2 (bne_f c3)
    obtain ⟨I0, m5, h0, h⟩ := h
    refine ⟨I0, m5, h0, fun m6 az i4 hI => ?_⟩
    have h := h m6 az i4 hI
    refine bif_of (fun c8 => ?_) (fun c8 => ?_)
    · have h := h.1 (of_decide_eq_true c8)
      refine thenW_in fun b6 e9 => ?_
      have ao := (Ext.refl no az).x_drew e9
      obtain ⟨b8, an, h⟩ := h
      refine elim_some an ?_
      obtain ⟨al, am, h⟩ := h
      refine ⟨al, am, ?_⟩
      obtain ⟨a0, a5, ad, ae, ai, aa, ab, a9, a8, ah, au, h⟩ := h
      refine ⟨a0, a5, ad, ae, ai, aa, ab, a9, a8, ah, cellsAt_no (ao) au, ?_⟩
      obtain ⟨b9, ar, h⟩ := h
      refine elim_some ar ?_
      obtain ⟨al, am, h⟩ := h
      refine ⟨al, am, ?_⟩
      obtain ⟨a1, a2, ac, aj, ak, a7, a6, a3, a4, af, ap, h⟩ := h
      refine ⟨a1, a2, ac, aj, ak, a7, a6, a3, a4, af, cellsAt_no (ao) ap, ?_⟩
      have h := h b6 ao
      refine h.mono fun b4 b5 h => ?_
      obtain ⟨ag, he, h⟩ := h
      refine ⟨ag, he, ?_⟩
      refine bif_of (fun aq => ?_) (fun aq => ?_)
      · have h := h.1 (not_t aq)
        exact h
      · have h := h.2 (not_f aq)
        obtain ⟨b2, b3, h⟩ := h
        try rw [w64 b2 b3]
        obtain ⟨b7, hk, h⟩ := h
        exact ⟨b7, hk, h⟩
    · have h := h.2 (Int.not_lt.1 (of_decide_eq_false c8))
      exact h

theorem cachetteref06_All.go (a3 : Option Addr) (a2 : Nat) (a4 : Nat) (a0 : Option Addr) (a5 : Nat) (a1 : Nat) {R : Value → World → Prop} {w : World} (h : cachetteref06_All.N a3 a2 a4 a0 a5 a1 R w) : Calls Try.prog 11 #[.slice a3 a2 a4, .slice a0 a5 a1] w fun e w' => ∃ v, e = .returned v ∧ R v w' := cachetteref06_All.ok a3 a2 a4 a0 a5 a1 (cachetteref06_All.up a3 a2 a4 a0 a5 a1 h)
theorem cachetteref06_All.run (a3 : Option Addr) (a2 : Nat) (a4 : Nat) (a0 : Option Addr) (a5 : Nat) (a1 : Nat) {V : Value} {Q : World → Prop} {w : World} (h : cachetteref06_All.N a3 a2 a4 a0 a5 a1 (fun v w' => v = V ∧ Q w') w) : Calls Try.prog 11 #[.slice a3 a2 a4, .slice a0 a5 a1] w (Ret V Q) := (cachetteref06_All.go a3 a2 a4 a0 a5 a1 h).mono fun e w' ⟨v, he, hv, hq⟩ => ⟨by rw [he, hv], hq⟩

/-- a step that is handed in. -/
structure CO where
  kd : Int
  t : Int
  ep : Int
  a : Option Addr
  c : Nat
  B : List UInt8
  n : Int
  fd : Int
  E : PE
def CO.C (p : CO) : List Value := [.int .i64 p.kd, .int .i64 p.t, .int .i64 p.ep, .slice p.a p.B.length p.c, .int .i64 p.n, .int .i64 p.fd] ++ p.E.C
theorem CO.len (p : CO) : p.C.length = 14 := rfl
structure CO.good (W : World) (p : CO) : Prop where
  t : -9223372036854775808 ≤ p.t ∧ p.t < 9223372036854775808
  ep : -9223372036854775808 ≤ p.ep ∧ p.ep < 9223372036854775808
  n : -9223372036854775808 ≤ p.n ∧ p.n < 9223372036854775808
  la : p.B.length ≤ p.c
  ra : RowAt W p.a (bytesV p.B)
  e : RowAt W p.E.a (bytesV p.E.e.body) ∧ p.E.e.body.length ≤ p.E.c ∧ p.E.e.fit ∧ p.E.e.wide
theorem opens_co : Opens Try.prog 49 fun W cs => ∃ p : CO, cs = p.C ∧ p.good W :=
  (opens_seq (qs := [(1, _), (1, _), (1, _), (1, _), (1, _), (1, _), (8, _)]) (size := 14) Try.underlying49 (by kernel_rfl)
    ⟨⟨rfl, by kernel_rfl, opens_int Try.underlying3⟩, ⟨rfl, by kernel_rfl, opens_int Try.underlying2⟩, ⟨rfl, by kernel_rfl, opens_int Try.underlying3⟩,
     ⟨rfl, by kernel_rfl, opens_bytes Try.underlying43 (by kernel_rfl) Try.underlying5⟩, ⟨rfl, by kernel_rfl, opens_int Try.underlying3⟩, ⟨rfl, by kernel_rfl, opens_int Try.underlying3⟩, ⟨rfl, by kernel_rfl, opens_entry⟩, rfl⟩).mono
    fun W cs ⟨_, _, e0, _, ⟨kd, q0, _⟩, _, _, e1, _, ⟨t, q1, ft⟩, _, _, e2, _, ⟨ep, q2, fe⟩, _, _, e3, _, ⟨aa, ac, A, q3, la, _, ra⟩, _, _, e4, _, ⟨n, q4, fn⟩, _, _, e5, _, ⟨fd, q5, _⟩, _, _, e6, _, ⟨e, ea, ec, q6, f1, f2, f3, _, f5⟩, q7⟩ => by
      subst q0; subst q1; subst q2; subst q3; subst q4; subst q5; subst q6; subst q7; subst e6; subst e5; subst e4; subst e3; subst e2; subst e1; subst e0
      exact ⟨⟨kd, t, ep, aa, ac, A, n, fd, ⟨e, ea, ec⟩⟩, rfl, wf_i64 ft, wf_i64 fe, wf_i64 fn, la, ra, f5, f3, f1, f2⟩
def COsQ (W : World) (cs : List Value) : Prop := ∃ (a : Option Addr) (c : Nat) (l : List CO), cs = [.slice a l.length c] ∧ l.length ≤ c ∧ c ≤ maxLen ∧ RowAt W a (l.flatMap CO.C) ∧ ∀ x ∈ l, x.good W
theorem opens_cos : Opens Try.prog 23 COsQ := opens_rows (size := 14) Try.underlying23 (by kernel_rfl) opens_co
def lightC (dn : Nat) (l : List CO) : Bool := decide (dn ≤ 50) && decide (l.length ≤ 40) && l.all fun p => decide (p.B.length ≤ 1200) && decide (p.E.e.body.length ≤ 1200)
section
variable {w W : World} {da la : Option Addr} {dn dc lc : Nat} {d : List Int} {l : List CO}
theorem light_spec (hl : RowAt w la (l.flatMap CO.C)) : Calls Try.prog 5 #[.slice da dn dc, .slice la l.length lc] w (Ret (.bool (lightC dn l)) fun w' => w' = w) := by
  refine cachettelaw07_light.run _ _ _ _ _ _ ?_
  unfold cachettelaw07_light.N
  refine ⟨fun h => ⟨by unfold lightC; rw [show decide (dn ≤ 50) = false by simp; omega]; rfl, rfl⟩, fun h1 => ⟨fun h => ⟨by unfold lightC; rw [show decide (l.length ≤ 40) = false by simp; omega]; simp, rfl⟩, fun h2 => ?_⟩⟩
  refine ⟨fun q vs w1 => ∃ t : Nat, vs = [.int .i64 t] ∧ q + t = l.length ∧ w1 = w ∧ (l.take t).all (fun p => decide (p.B.length ≤ 1200) && decide (p.E.e.body.length ≤ 1200)) = true, l.length, ⟨0, rfl, rfl, rfl, rfl⟩, ?_⟩
  rintro q w1 i ⟨t, hi, hq, rfl, hn⟩
  simp only [List.cons.injEq, Value.int.injEq, true_and, and_true] at hi
  subst hi
  refine ⟨fun ht => ?_, fun ht => ?_⟩
  · have htl : t < l.length := by omega
    have hg : l[t]? = some l[t] := List.getElem?_eq_getElem htl
    obtain ⟨ad, rfl⟩ := hl.faddr CO.len (by decide) htl
    have no : ¬ (l[t].B.length ≤ 1200 ∧ l[t].E.e.body.length ≤ 1200) → lightC dn l = false := fun h => by
      unfold lightC
      rw [show (l.all fun p => decide (p.B.length ≤ 1200) && decide (p.E.e.body.length ≤ 1200)) = false by rw [List.all_eq_false]; exact ⟨l[t], List.getElem_mem htl, by simpa using h⟩]; simp
    refine ⟨ad, rfl, by omega, by omega, _, _, _, by rw [Int.toNat_natCast]; exact hl.fcell CO.len hg 3 rfl, fun hA => ⟨by rw [no (by omega)], rfl⟩, fun hA => ⟨by omega, by omega, _, _, _, by rw [Int.toNat_natCast, add_add]; exact hl.fcell CO.len hg 12 rfl, fun hB => ⟨by rw [no (by omega)], rfl⟩, fun hB => ⟨by omega, by omega, q - 1, by omega, t + 1, rfl, by omega, rfl, ?_⟩⟩⟩
    rw [List.take_add_one, hg, List.all_append, hn]
    simp; omega
  · obtain rfl : t = l.length := by omega
    rw [List.take_length] at hn
    refine ⟨?_, rfl⟩
    unfold lightC
    rw [hn, decide_eq_true (show dn ≤ 50 by omega), decide_eq_true (show l.length ≤ 40 by omega)]
    rfl
theorem light_of (h : lightC dn l = true) : dn ≤ 50 ∧ l.length ≤ 40 ∧ ∀ p ∈ l, p.B.length ≤ 1200 ∧ p.E.e.body.length ≤ 1200 := by
  unfold lightC at h
  simp only [Bool.and_eq_true, decide_eq_true_eq, List.all_eq_true] at h
  exact ⟨h.1.1, h.1.2, h.2⟩
/-- all entries held against each other. -/
theorem refAll_spec {w : World} {a b : Option Addr} {ac bc : Nat} {l m : List PE} (ha : RowAt w a (PE.Cs l)) (hb : RowAt w b (PE.Cs m)) (hla : ∀ x ∈ l, RowAt w x.a (bytesV x.e.body) ∧ x.e.body.length < 1000000) (hlb : ∀ x ∈ m, RowAt w x.a (bytesV x.e.body)) (hl : l.length < 1000000) :
    Calls Try.prog 11 #[.slice a l.length ac, .slice b m.length bc] w (Ret (.bool (decide (l.map PE.e = m.map PE.e))) fun w' => Ext no w w') := by
  refine cachetteref06_All.run _ _ _ _ _ _ ?_
  unfold cachetteref06_All.N
  refine ⟨fun hne => ⟨?_, Ext.refl _ _⟩, fun heq => ?_⟩
  · congr 1
    rw [eq_comm, decide_eq_false_iff_not]
    intro h
    have := congrArg List.length h
    simp at this; omega
  refine ⟨fun q vs w1 => ∃ t : Nat, vs = [.int .i64 t] ∧ q + t = l.length ∧ Ext no w w1 ∧ (l.map PE.e).take t = (m.map PE.e).take t, l.length, ⟨0, rfl, rfl, Ext.refl _ _, rfl⟩, ?_⟩
  rintro q w1 i ⟨t, hi, hq, X1, hn⟩
  simp only [List.cons.injEq, Value.int.injEq, true_and, and_true] at hi
  subst hi
  refine ⟨fun ht => ?_, fun ht => ?_⟩
  · have htl : t < l.length := by omega
    have htm : t < m.length := by omega
    have hg : l[t]? = some l[t] := List.getElem?_eq_getElem htl
    have hgm : m[t]? = some m[t] := List.getElem?_eq_getElem htm
    have hx := hla _ (List.getElem_mem htl)
    have hy := hlb _ (List.getElem_mem htm)
    generalize l[t] = x at *
    generalize m[t] = y at *
    obtain ⟨ad, rfl⟩ := ha.faddr PE.len (by decide) htl
    obtain ⟨bd, rfl⟩ := hb.faddr PE.len (by decide) htm
    refine ⟨ad, rfl, by omega, by omega, x.e.w, x.e.i, x.e.pv, x.e.t, x.e.tw, x.e.ep, x.a, x.e.body.length, x.c, x.e.sg, by rw [Int.toNat_natCast]; exact PE.loads (ha.no X1) rfl hg, bd, rfl, by omega, by omega, y.e.w, y.e.i, y.e.pv, y.e.t, y.e.tw, y.e.ep, y.a, y.e.body.length, y.c, y.e.sg, by rw [Int.toNat_natCast]; exact PE.loads (hb.no X1) rfl hgm, fun w9 X9 => ?_⟩
    refine (rESame_spec (e := x.e) (f := y.e) ((hx.1.no X1).no X9) ((hy.no X1).no X9) hx.2).mono fun z w32 ⟨he, X32⟩ => ⟨_, he, fun h => ⟨?_, (X1.trans X9).trans X32⟩, fun h => ⟨by omega, by omega, q - 1, by omega, t + 1, rfl, by omega, (X1.trans X9).trans X32, ?_⟩⟩
    · congr 1
      rw [eq_comm, decide_eq_false_iff_not]
      intro h2
      have h3 := congrArg (fun l => l[t]?) h2
      simp only [List.getElem?_map, hg, hgm, Option.map_some, Option.some.injEq] at h3
      exact of_decide_eq_false h h3
    · rw [List.take_add_one, List.take_add_one, hn, List.getElem?_map, List.getElem?_map, hg, hgm, Option.map_some, Option.map_some, of_decide_eq_true h]
  · have : t = l.length := by omega
    subst this
    rw [List.take_of_length_le (by simp), List.take_of_length_le (by simp; omega)] at hn
    exact ⟨by rw [decide_eq_true hn], X1⟩
end
end Go.Proofs.Ytdelmfpchbpafaa

/- Chain: the chapter's example; a log that is none. -/
set_option linter.unusedVariables false
set_option linter.unusedSimpArgs false
set_option maxRecDepth 20000
set_option maxHeartbeats 2000000
namespace Go.Proofs.Ytdelmfpchbpafaa
open Go Go.Mx Go.Proofs
open W (OwnB GivesW numR countR doneR zig unzig intR)
theorem ex7_fact : ∃ S1 S2 S3 : OS, ∃ L1 L2 : CL, ∃ x y : Ent, pairOf (OS.init []) = ((1, 2), S1) ∧ issueC S1 ⟨1, 2, [], 0⟩ 1 1 1 0 [120] = ((x, 0), L1, S2) ∧ issueC S2 L1 1 2 1 0 [] = ((y, 0), L2, S3) ∧
    x.pv = 0 ∧ y.pv ≠ 0 ∧ L2.es.length = 2 ∧ L2.sum ≠ y.pv ∧ checkC S3 L2 x = 8 :=
  ⟨_, _, _, _, _, ⟨1, 0, 0, 1, 1, 0, [120], 3⟩, ⟨1, 1, 4, 2, 1, 0, [], 5⟩, rfl, rfl, rfl, rfl, by decide, rfl, by decide, rfl⟩
theorem alive7_spec (w : World) : Calls Try.prog 6 #[] w (Ret (.bool true) fun w' => Ext no w w') := by
  refine cachettelaw07_alive.run ?_
  unfold cachettelaw07_alive.N
  obtain ⟨S1, S2, S3, L1, L2, x, y, f1, f2, f3, f4, f5, f6, f7, f8⟩ := ex7_fact
  have ok0 : Tags w (fun _ => none) := fun b j _ h => by cases h
  refine (NewO (l := []) (c := 0) ok0 (RowAt.nil _ _) (by simp)).mono fun v w3 ⟨k, o3, hx, hk, s3, P3⟩ => ⟨_, hx, ?_⟩
  have i0 : OInv (OS.init []) := OInv.init (by simp)
  have nk : ∀ {w1 w2 : World} {o1 o2 : Own}, Step no w (fun _ => none) w1 o1 → Step (fun i => i = k) w1 o1 w2 o2 → Step no w (fun _ => none) w2 o2 := fun h1 h2 => h1.trans' h2 fun i hi => .inr (by omega)
  refine (PairO P3 s3.ok i0.ok (by decide)).mono fun v w7 ⟨o7, hx, s7', P7⟩ => ⟨_, _, hx, ?_⟩
  obtain ⟨i1, _, kp, ks, _⟩ := pair_inv i0
  have u1 := (pairOf_ok i0.ok).2
  rw [f1] at P7 i1 u1 kp ks ⊢
  dsimp only at u1 i1 kp ks P7
  have u0 : (OS.init []).used.length = 0 := rfl
  have hk1 : Keyed S1 1 2 := ⟨ks, kp⟩
  have s7 := nk s3 s7'
  refine (cNew_spec (k := k) s7.ok 1 2).mono fun v w11 h => ?_
  rcases h with ⟨h, _⟩ | ⟨_, q, o11, hx, hq, s11', PL⟩
  · exact absurd ⟨by decide, by decide⟩ h
  refine ⟨_, _, hx, ?_⟩
  have s11 := s7.trans s11'
  have l11 := PL.lt
  have hkl := P7.lt
  have hqk : q ≠ k := by omega
  have nkq : ∀ {w1 w2 : World} {o1 o2 : Own}, Step no w (fun _ => none) w1 o1 → Step (fun i => i = q ∨ i = k) w1 o1 w2 o2 → Step no w (fun _ => none) w2 o2 := fun h1 h2 => h1.trans' h2 fun i hi => .inr (by have := s7.size; omega)
  intro w12 q13 X12 hb12 hq12 hq12'
  obtain ⟨w15, hc15, hr15, X15⟩ := litB Try.underlying43 Try.underlying5 [120] X12 hb12 hq12
  refine ⟨_, _, _, w15, hc15, ?_⟩
  have s15' := Step.of_no X15 s11.ok
  have s15 := s11.trans s15'
  have rA : Row w15 (grow w11 o11) (some (blk q13)) (bytesV [120]) := Row.fresh hr15 fun ad ha => by cases ha; exact hq12
  have L0 : LOk S1 1 2 ⟨1, 2, [], 0⟩ := LOk.nil 1
  have n1 : S1.used.length + 1 < 1000000 := by omega
  have hi := L0.issue i1 hk1 (by omega) 1 1 0 [120]
  refine (cIssue_spec (PL.step s15' id) ((P7.step s11' id).step s15' id) s15.ok hqk i1.ok n1 ⟨by decide, by decide⟩ 1 1 1 0 (issue_sg i1 (by omega) _ hk1) rA).mono fun v w26 ⟨o26, xa, xc, hx, s26', PL26, P26, rx, lx⟩ => ⟨_, _, _, _, _, _, _, _, _, _, _, hx, ?_⟩
  rw [f2] at PL26 P26 rx lx hi ⊢
  obtain ⟨LO1, i2, le1, u2, _, _, _, _, xf⟩ := hi
  dsimp only at LO1 i2 le1 u2 PL26 P26
  have hk2 := hk1.le le1
  have s26 := nkq s15 s26'
  intro w35 p36 X35 hp36
  have g36 := hp36 p36 (by simp)
  have s35' := Step.of_no X35 s26.ok
  have F35 : Free [p36] w35 (grow w26 o26) := Free.of hp36
  have s35 := s26.trans s35'
  have n2 : S2.used.length + 1 < 1000000 := by omega
  have hi := LO1.issue i2 hk2 (by omega) 2 1 0 []
  refine (cIssue_spec (a := none) (c := 0) (PL26.step s35' id) (P26.step s35' id) s35.ok hqk i2.ok n2 (LO1.fit i2 (by omega)) 1 2 1 0 (issue_sg i2 (by omega) _ hk2) (body := []) (Row.nil _ _ _)).mono fun v w47 ⟨o47, ya, yc, hx, s47', PL47, P47, ry, ly⟩ => ⟨_, _, _, _, _, _, _, _, _, _, _, hx, F35.keep s47', fun w56 p57 X56 hp57 => ?_⟩
  rw [f3] at PL47 P47 ry ly hi ⊢
  have s47 := nkq s35 s47'
  have F47 := F35.step s47'
  have s56' := Step.of_no X56 s47.ok
  have s56 := s47.trans s56'
  have F56 : Free [p36, p57] w56 (grow w47 o47) := (F47.step s56').app (M := [p57]) (Free.of hp57)
  refine (cHead_spec (PL47.step s56' id)).mono fun v w62 ⟨hx, X62⟩ => ⟨_, _, _, hx, X62.kept, fun _ => ⟨fun _ => ⟨fun _ => ⟨fun _ => ⟨fun _ => ⟨fun _ => ⟨fun _ w66 X66 => ?_, fun h => absurd h f7⟩, fun h => absurd (by rw [f6]; rfl) h⟩, fun h => absurd h f5⟩, fun h => absurd f4 h⟩, fun h => absurd rfl h⟩, fun h => absurd rfl h⟩, fun h => absurd rfl h⟩
  have s66 := (Step.of_no X62 s56.ok).trans (Step.of_no X66 (Step.of_no X62 s56.ok).ok)
  have s66a := s56'.trans s66
  refine (cCheck_spec (e := x) ((PL47.step s56' id).step s66 id) ((P47.step s56' id).step s66 id) s66.ok (fun _ => xf) ((rx.step s35').step s47' |>.step s66a).1).mono fun v w77 ⟨hx, X77⟩ => ⟨_, hx, ?_, ?_⟩
  · rw [f8]; rfl
  · exact (s47.ext.mono fun b ⟨_, h, _⟩ _ => by cases h).trans ((X56.trans (X62.trans X66)).trans X77)
end Go.Proofs.Ytdelmfpchbpafaa

/- Logs that a law issues, and the list that it keeps of them. -/
set_option linter.unusedVariables false
set_option linter.unusedSimpArgs false
set_option maxRecDepth 20000
set_option maxHeartbeats 2000000
namespace Go.Proofs.Ytdelmfpchbpafaa
open Go Go.Mx Go.Proofs
open W (OwnB GivesW numR countR doneR zig unzig intR)
/-- an oracle and a log of it. -/
structure OneI (w : World) (o : Own) (q k : Nat) (s p : Int) (S : OS) (L : CL) (n : Nat) : Prop where
  log : PLog w o q k L
  orc : POrc w o k S
  ok : Tags w o
  inv : OInv S
  key : Keyed S s p
  lok : LOk S s p L
  len : S.used.length ≤ n
  ne : q ≠ k
section
variable {w w' w1 W0 : World} {o o' o1 : Own} {q k n N : Nat} {K : Nat → Prop} {s p : Int} {S : OS} {L : CL} {e : Ent} {a : Option Addr} {c : Nat} {l : List PE}
theorem OneI.step (h : OneI w o q k s p S L n) (t : Step K w o w' o') (hq : ¬ K q) (hk : ¬ K k) : OneI w' o' q k s p S L n :=
  ⟨h.log.step t hq, h.orc.step t hk, t.ok, h.inv, h.key, h.lok, h.len, h.ne⟩
theorem OneI.mono (h : OneI w o q k s p S L n) {m : Nat} (hm : n ≤ m) : OneI w o q k s p S L m := ⟨h.log, h.orc, h.ok, h.inv, h.key, h.lok, Nat.le_trans h.len hm, h.ne⟩
/-- an entry is issued. -/
theorem OneI.issue (h : OneI w o q k s p S L n) (hn : n + 2 < 1000000) (t tw ep : Int) {body : List UInt8} (hb : Row w o a (bytesV body)) :
    Calls Try.prog 15 #[.pointer (some (blk q)), .int .u64 s, .agg #[.int .i64 t, .int .i64 tw], .int .i64 ep, .slice a body.length c] w (fun x w' => ∃ (o' : Own) (S' : OS) (L' : CL) (e' : PE) (cd : Int), x = .returned (.tuple #[entV e'.e e'.a e'.c, .int .i64 cd]) ∧ Step (fun i => i = q ∨ i = k) w o w' o' ∧
      OneI w' o' q k s p S' L' (n + 2) ∧ e'.ok w' o' ∧ e'.e.body.length ≤ 1100 ∧ L'.wr = L.wr ∧ L'.es = (if cd = 0 then L.es ++ [e'.e] else L.es) ∧ (cd = 0 → OkAt S' L.wr s L.es e'.e) ∧ OS.le S S' ∧ issueC S L s t tw ep body = ((e'.e, cd), L', S')) := by
  have hu := h.len
  refine (cIssue_spec h.log h.orc h.ok h.ne h.inv.ok (by omega) (h.lok.fit h.inv (by omega)) s t tw ep (issue_sg h.inv (by omega) _ h.key) hb).mono fun x w' ⟨o', a', c', he, st, pl, po, r, lc⟩ => ?_
  obtain ⟨b1, b2, b3, b4, b5, b6, b7, b8, b9⟩ := h.lok.issue h.inv h.key (by omega) t tw ep body
  exact ⟨o', _, _, ⟨_, a', c'⟩, _, he, st, ⟨pl, po, st.ok, b2, h.key.le b3, b1, by omega, h.ne⟩, ⟨r, lc, b9⟩, b8, b5, b6, fun h => (b7 h).1, b3, rfl⟩
end
end Go.Proofs.Ytdelmfpchbpafaa

/- ChainAts. -/
set_option linter.unusedVariables false
set_option linter.unusedSimpArgs false
set_option maxRecDepth 20000
set_option maxHeartbeats 2000000
namespace Go.Proofs.Ytdelmfpchbpafaa
open Go Go.Mx Go.Proofs
open W (OwnB GivesW numR countR doneR zig unzig intR)
theorem eqT65 (x0 : Int) (x1 : Int) (x2 : Int) (y0 : Int) (y1 : Int) (y2 : Int) (w : World) : (Op.equalIn 10000 65 (.agg #[.int .i64 x0, .int .i64 x1, .int .u64 x2]) (.agg #[.int .i64 y0, .int .i64 y1, .int .u64 y2])).run Try.prog w = .ok (decide (x0 = y0 ∧ x1 = y1 ∧ x2 = y2)) w := by
  obtain ⟨f0, f1, f2, ht, n0, o0, p0, u0, n1, o1, p1, u1, n2, o2, p2, u2, hp⟩ : ∃ f0 f1 f2, Try.prog.underlying 65 = some (.struct #[f0, f1, f2]) ∧ f0.name ≠ "_" ∧ f0.offset = 0 ∧ Try.prog.plainKey f0.type = true ∧ Try.prog.underlying f0.type = some (.int .i64) ∧ f1.name ≠ "_" ∧ f1.offset = 1 ∧ Try.prog.plainKey f1.type = true ∧ Try.prog.underlying f1.type = some (.int .i64) ∧ f2.name ≠ "_" ∧ f2.offset = 2 ∧ Try.prog.plainKey f2.type = true ∧ Try.prog.underlying f2.type = some (.int .u64) ∧ Try.prog.stoodInHeld 65 = false :=
    ⟨_, _, _, Try.underlying65, by decide, rfl, by kernel_rfl, by kernel_rfl, by decide, rfl, by kernel_rfl, by kernel_rfl, by decide, rfl, by kernel_rfl, by kernel_rfl, by kernel_rfl⟩
  have hf : Try.prog.fieldsOf 65 = #[f0, f1, f2] := by simp [Program.fieldsOf, ht]
  rw [show (10000 : Nat) = 9998 + 1 + 1 from rfl, run_equalIn_struct w (9998 + 1) _ _ _ (by rw [hf]; exact ht) hp, hf]
  show (Op.eqFields (9998 + 1) _ _ [f0, f1, f2]).run Try.prog w = _
  rw [W.eqf_step n0 (run_part_plain w p0 (by rw [o0]; rfl)) (run_part_plain w p0 (by rw [o0]; rfl)) (run_equalIn_int w _ _ _ _ _ _ u0), W.eqf_step n1 (run_part_plain w p1 (by rw [o1]; rfl)) (run_part_plain w p1 (by rw [o1]; rfl)) (run_equalIn_int w _ _ _ _ _ _ u1), W.eqf_step n2 (run_part_plain w p2 (by rw [o2]; rfl)) (run_part_plain w p2 (by rw [o2]; rfl)) (run_equalIn_int w _ _ _ _ _ _ u2)]
  by_cases e0 : x0 = y0 <;> by_cases e1 : x1 = y1 <;> by_cases e2 : x2 = y2 <;> simp [e0, e1, e2, Op.eqFields]
theorem eqT65_eq (x0 : Int) (x1 : Int) (x2 : Int) (y0 : Int) (y1 : Int) (y2 : Int) (w : World) : (binOp .eql 65 (.agg #[.int .i64 x0, .int .i64 x1, .int .u64 x2]) (.agg #[.int .i64 y0, .int .i64 y1, .int .u64 y2])).run Try.prog w = .ok (.bool (decide (x0 = y0 ∧ x1 = y1 ∧ x2 = y2))) w := by rw [run_eql_struct, eqT65]; rfl
section
variable {w : World}
end
end Go.Proofs.Ytdelmfpchbpafaa

/- Two logs of one oracle; a log that is accepted whole; plain laws of all this. -/
set_option linter.unusedVariables false
set_option linter.unusedSimpArgs false
set_option maxRecDepth 20000
set_option maxHeartbeats 2000000
namespace Go.Proofs.Ytdelmfpchbpafaa
open Go Go.Mx Go.Proofs
open W (OwnB GivesW numR countR doneR zig unzig intR)
/-- two logs of one oracle. -/
structure DuoI (w : World) (o : Own) (qa qb k : Nat) (s p : Int) (S : OS) (La Lb : CL) (n : Nat) : Prop where
  a : OneI w o qa k s p S La n
  b : OneI w o qb k s p S Lb n
  ab : qa ≠ qb
section
variable {w w' w1 W0 : World} {o o' o1 : Own} {q qa qb k n n' N : Nat} {K : Nat → Prop} {s p : Int} {S S' : OS} {L L' La Lb La' Lb' : CL} {e : Ent} {a : Option Addr} {c : Nat} {l : List PE} {es es1 es2 : List Ent}
theorem DuoI.step (h : DuoI w o qa qb k s p S La Lb n) (t : Step K w o w' o') (ha : ¬ K qa) (hb : ¬ K qb) (hk : ¬ K k) : DuoI w' o' qa qb k s p S La Lb n := ⟨h.a.step t ha hk, h.b.step t hb hk, h.ab⟩
theorem DuoI.mono (h : DuoI w o qa qb k s p S La Lb n) (hm : n ≤ n') : DuoI w o qa qb k s p S La Lb n' := ⟨h.a.mono hm, h.b.mono hm, h.ab⟩
theorem DuoI.onA (h : DuoI w o qa qb k s p S La Lb n) (t : Step (fun i => i = qa ∨ i = k) w o w' o') (one : OneI w' o' qa k s p S' La' n') (le : OS.le S S') : DuoI w' o' qa qb k s p S' La' Lb n' :=
  ⟨one, ⟨h.b.log.step t (by have := h.ab; have := h.b.ne; omega), one.orc, one.ok, one.inv, one.key, h.b.lok.le le, one.len, h.b.ne⟩, h.ab⟩
theorem DuoI.onB (h : DuoI w o qa qb k s p S La Lb n) (t : Step (fun i => i = qb ∨ i = k) w o w' o') (one : OneI w' o' qb k s p S' Lb' n') (le : OS.le S S') : DuoI w' o' qa qb k s p S' La Lb' n' :=
  ⟨⟨h.a.log.step t (by have := h.ab; have := h.a.ne; omega), one.orc, one.ok, one.inv, one.key, h.a.lok.le le, one.len, h.a.ne⟩, one, h.ab⟩
/-- a second log of the same oracle. -/
theorem OneI.second (h : OneI w o q k s p S L n) : Calls Try.prog 10 #[.pointer (some (blk k)), .int .i64 1, .int .u64 p] w (fun x w' => ∃ qb o', x = .returned (.tuple #[.pointer (some (blk qb)), .int .i64 0]) ∧ w.heap.size ≤ qb ∧ Step no w o w' o' ∧ DuoI w' o' q qb k s p S L ⟨1, p, [], 0⟩ n) := by
  refine (cNew_spec (k := k) h.ok 1 p).mono fun v w20 hh => ?_
  rcases hh with ⟨h, _⟩ | ⟨_, qb, o20, hx, hq, s20, PL⟩
  · exact absurd ⟨by decide, by decide⟩ h
  have h20 := h.step s20 id id
  have l1 := h.log.lt
  have l2 := h.orc.lt
  exact ⟨qb, o20, hx, hq, s20, h20, ⟨PL, h20.orc, h20.ok, h20.inv, h20.key, LOk.nil 1, h20.len, by omega⟩, by omega⟩
theorem OneI.accept (h : OneI w o q k s p S L n) (hn : n + 2 < 1000000) (hf : entRight e = true → e.fit) (hb : Row w o a (bytesV e.body)) :
    Calls Try.prog 21 #[.pointer (some (blk q)), entV e a c] w (fun x w' => ∃ (o' : Own) (S' : OS) (L' : CL) (cd : Int), x = .returned (.int .i64 cd) ∧ Step (fun i => i = q ∨ i = k) w o w' o' ∧ OneI w' o' q k s p S' L' (n + 1) ∧ OS.le S S' ∧ L'.wr = L.wr ∧ L'.es = (if cd = 0 then L.es ++ [e] else L.es) ∧ acceptC S L e = (cd, L', S')) := by
  have hu := h.len
  refine (cAccept_spec h.log h.orc h.ok h.ne h.inv.ok (by omega) hf hb).mono fun x w' ⟨o', he, st, pl, po⟩ => ?_
  obtain ⟨b1, b2, b3, b4, b5, b6⟩ := h.lok.accept h.inv h.key hf
  exact ⟨o', _, _, _, he, st, ⟨pl, po, st.ok, b2, h.key.le b3, b1, by omega, h.ne⟩, b3, b5, b6, rfl⟩
/-- the next one of a log that is good. -/
theorem Good.next (g : Good S L.wr s es) (inv : OInv S) (hk : Keyed S s p) {t : Nat} (he : es[t]? = some e) (hL : L.es = es.take t) (hs : L.sum = sumS S L.es) (hp : L.pb = p) (hf : es.length ≤ 200) :
    acceptC S L e = (0, { L with es := es.take (t + 1), sum := sumS S (es.take (t + 1)) }, S) := by
  obtain ⟨h1, x, hx⟩ := g t e he
  have hlok : LOk S s p L := ⟨by rw [hL]; exact g.take t, hs, hp, by rw [hL, List.length_take]; omega⟩
  have hc := hlok.accepts hk (by rw [hL]; exact h1)
  unfold acceptC
  rw [if_pos hc]
  unfold putC
  rw [sumE_right h1.right, hash_eq hx, hL]
  have : es.take (t + 1) = es.take t ++ [e] := by rw [List.take_add_one, he]; rfl
  rw [this]
  have : sumS S (es.take t ++ [e]) = x := by unfold sumS; rw [List.getLast?_append]; simp [hv, hx]
  rw [this]
end
end Go.Proofs.Ytdelmfpchbpafaa
