/- Entries: sums, signatures, and whether they hold (the program's). -/
import Derived.Test.YtdelmfpchbpafaaZB
import Derived.Test.YtdelmfpchbpafaaZA
import Derived.ArgAppend
set_option linter.unusedVariables false
set_option linter.unusedSimpArgs false
set_option maxRecDepth 20000
namespace Go.Proofs.Ytdelmfpchbpafaa
open Go Go.Mx Go.Proofs
open W (OwnB GivesW numR countR doneR zig unzig intR)
/-- bytes.Clone -/
def bytes_Clone.M (a4 : Option Addr) (a5 : Nat) (a7 : Nat) (R : Value → World → Prop) (w : World) : Prop :=
 bif Option.isNone a4 then (
 R (.slice none 0 0) w) else (
 thenW (w.alloc (.cells #[] 5)) fun a6 =>
 ∃ (a2 : Option Addr) (a3 : Nat) (a1 : Nat) (a0 : World), (Builtin.append_ #[43, 43] 43 #[.slice (some (blk w.heap.size)) 0 0, .slice a4 a5 a7]).run Try.prog a6 = .ok (.slice a2 a3 a1) a0 ∧
 R (.slice a2 a3 a1) a0)

theorem bytes_Clone.eq (b1a : Option Addr) (b1n : Nat) (b1c : Nat) (R : Value → World → Prop) (w : World) : mfunc Try.prog [] 56 [.slice b1a b1n b1c] R w = bytes_Clone.M b1a b1n b1c R w := by kernel_rfl
theorem bytes_Clone.ok (a1 : Option Addr) (a0 : Nat) (a2 : Nat) {R : Value → World → Prop} {w : World} (h : bytes_Clone.M a1 a0 a2 R w) : Calls Try.prog 56 #[.slice a1 a0 a2] w fun e w' => ∃ v, e = .returned v ∧ R v w' :=
  mfunc_ok follows (H := []) (args := [.slice a1 a0 a2]) (by rw [bytes_Clone.eq]; exact h)

def bytes_Clone.N (a1 : Option Addr) (a6 : Nat) (a7 : Nat) (R : Value → World → Prop) (w : World) : Prop :=
 (a1 = none →
 R (.slice none 0 0) w) ∧
 (a1 ≠ none →
 ∀ (a0 : World) (q4 : Nat), Ext no w a0 → Blk a0 q4 5 [] → w.heap.size ≤ q4 → q4 < a0.heap.size →
 ∃ (a3 : Option Addr) (a4 : Nat) (a5 : Nat) (a2 : World), (Builtin.append_ #[43, 43] 43 #[.slice (some (blk q4)) 0 0, .slice a1 a6 a7]).run Try.prog a0 = .ok (.slice a3 a4 a5) a2 ∧
 R (.slice a3 a4 a5) a2)

theorem bytes_Clone.up (a2 : Option Addr) (a0 : Nat) (a1 : Nat) {R : Value → World → Prop} {w : World} (h : bytes_Clone.N a2 a0 a1 R w) : bytes_Clone.M a2 a0 a1 R w := by
  unfold bytes_Clone.M
  unfold bytes_Clone.N at h
  refine bif_of (fun c2 => ?_) (fun c2 => ?_)
  · have h := h.1 (isNone_t c2)
    exact h
  · have h := h.2 (isNone_f c2)
    refine thenW_in fun a7 e3 => ?_
    have h := h a7 w.heap.size ((Ext.refl no w).x_alloc e3) (Blk.of_new e3) ((Ext.refl no w)).size (size_lt_alloc e3)
    obtain ⟨a4, a5, a6, a3, hr, h⟩ := h
    refine ⟨a4, a5, a6, a3, hr, ?_⟩
    exact h

theorem bytes_Clone.go (a1 : Option Addr) (a0 : Nat) (a2 : Nat) {R : Value → World → Prop} {w : World} (h : bytes_Clone.N a1 a0 a2 R w) : Calls Try.prog 56 #[.slice a1 a0 a2] w fun e w' => ∃ v, e = .returned v ∧ R v w' := bytes_Clone.ok a1 a0 a2 (bytes_Clone.up a1 a0 a2 h)
/-- entry.Sum -/
def entry_Sum.M (o1 : Option Addr) (af : Int) (ag : Int) (al : Int) (ap : Int) (an : Int) (ah : Int) (ai : Option Addr) (aj : Nat) (ak : Nat) (aq : Int) (R : Value → World → Prop) (w : World) : Prop :=
 thenW (w.alloc (.cells #[.int .i64 af, .int .i64 ag, .int .u64 al, .int .i64 ap, .int .i64 an, .int .i64 ah, .slice ai aj ak, .int .u64 aq] 47)) fun ao =>
 ∃ (a0 : Int) (a4 : Int) (aa : Int) (ad : Int) (ae : Int) (a5 : Int) (a6 : Option Addr) (a8 : Nat) (a7 : Nat) (ac : Int), cellsAt ao (blk w.heap.size) [.int .i64 a0, .int .i64 a4, .int .u64 aa, .int .i64 ad, .int .i64 ae, .int .i64 a5, .slice a6 a8 a7, .int .u64 ac] 0 ∧
 Calls Try.prog 47 #[.agg #[.int .i64 a0, .int .i64 a4, .int .u64 aa, .int .i64 ad, .int .i64 ae, .int .i64 a5, .slice a6 a8 a7, .int .u64 ac]] ao fun av am => ∃ (a3 : Option Addr) (a9 : Nat) (a2 : Nat) (a1 : Int), av = .returned (.tuple #[.slice a3 a9 a2, .int .i64 a1]) ∧
 bif a1 != 0 then (
 R (.tuple #[.int .u64 0, .int .i64 a1]) am) else (
 bif Option.isNone o1 then (
 R (.tuple #[.int .u64 0, .int .i64 23]) am) else (
 Calls Try.prog 48 #[.pointer o1, .slice a3 a9 a2] am fun au ar => ∃ (ab : Int), au = .returned (.int .u64 ab) ∧
 R (.tuple #[.int .u64 ab, .int .i64 0]) ar))

theorem entry_Sum.eq (o1 : Option Addr) (eWriter2 : Int) (eIndex3 : Int) (ePrev4 : Int) (eAtT5 : Int) (eAtW6 : Int) (eEpoch7 : Int) (eBody8a : Option Addr) (eBody8n : Nat) (eBody8c : Nat) (eSig9 : Int) (R : Value → World → Prop) (w : World) : mfunc Try.prog [] 30 [.pointer o1, .agg #[.int .i64 eWriter2, .int .i64 eIndex3, .int .u64 ePrev4, .int .i64 eAtT5, .int .i64 eAtW6, .int .i64 eEpoch7, .slice eBody8a eBody8n eBody8c, .int .u64 eSig9]] R w = entry_Sum.M o1 eWriter2 eIndex3 ePrev4 eAtT5 eAtW6 eEpoch7 eBody8a eBody8n eBody8c eSig9 R w := by kernel_rfl
theorem entry_Sum.ok (o1 : Option Addr) (a0 : Int) (a1 : Int) (a6 : Int) (a7 : Int) (a8 : Int) (a2 : Int) (a4 : Option Addr) (a3 : Nat) (a5 : Nat) (a9 : Int) {R : Value → World → Prop} {w : World} (h : entry_Sum.M o1 a0 a1 a6 a7 a8 a2 a4 a3 a5 a9 R w) : Calls Try.prog 30 #[.pointer o1, .agg #[.int .i64 a0, .int .i64 a1, .int .u64 a6, .int .i64 a7, .int .i64 a8, .int .i64 a2, .slice a4 a3 a5, .int .u64 a9]] w fun e w' => ∃ v, e = .returned v ∧ R v w' :=
  mfunc_ok follows (H := []) (args := [.pointer o1, .agg #[.int .i64 a0, .int .i64 a1, .int .u64 a6, .int .i64 a7, .int .i64 a8, .int .i64 a2, .slice a4 a3 a5, .int .u64 a9]]) (by rw [entry_Sum.eq]; exact h)

def entry_Sum.N (o1 : Option Addr) (a4 : Int) (a6 : Int) (ac : Int) (af : Int) (ad : Int) (a7 : Int) (a8 : Option Addr) (a9 : Nat) (aa : Nat) (ag : Int) (R : Value → World → Prop) (w : World) : Prop :=
 ∀ (ae : World), Ext no w ae →
 Calls Try.prog 47 #[.agg #[.int .i64 a4, .int .i64 a6, .int .u64 ac, .int .i64 af, .int .i64 ad, .int .i64 a7, .slice a8 a9 aa, .int .u64 ag]] ae fun ai ab => ∃ (a2 : Option Addr) (a1 : Nat) (a3 : Nat) (a0 : Int), ai = .returned (.tuple #[.slice a2 a1 a3, .int .i64 a0]) ∧
 (a0 ≠ 0 →
 R (.tuple #[.int .u64 0, .int .i64 a0]) ab) ∧
 (a0 = 0 →
 (o1 = none →
 R (.tuple #[.int .u64 0, .int .i64 23]) ab) ∧
 (o1 ≠ none →
 Calls Try.prog 48 #[.pointer o1, .slice a2 a1 a3] ab fun ah aj => ∃ (a5 : Int), ah = .returned (.int .u64 a5) ∧
 R (.tuple #[.int .u64 a5, .int .i64 0]) aj))

theorem entry_Sum.up (o1 : Option Addr) (a0 : Int) (a1 : Int) (a6 : Int) (a9 : Int) (a8 : Int) (a2 : Int) (a3 : Option Addr) (a4 : Nat) (a5 : Nat) (aa : Int) {R : Value → World → Prop} {w : World} (h : entry_Sum.N o1 a0 a1 a6 a9 a8 a2 a3 a4 a5 aa R w) : entry_Sum.M o1 a0 a1 a6 a9 a8 a2 a3 a4 a5 aa R w := by
  unfold entry_Sum.M
  unfold entry_Sum.N at h
  refine thenW_in fun ah ak => ?_
  have ae := Blk.of_new ak
  have ap := ((Ext.refl no w)).size
  have aj := (Ext.refl no w).x_alloc ak
  refine ⟨a0, a1, a6, a9, a8, a2, a3, a4, a5, aa, ⟨ae.celli 0 rfl rfl, ae.celli 1 rfl rfl, ae.celli 2 rfl rfl, ae.celli 3 rfl rfl, ae.celli 4 rfl rfl, ae.celli 5 rfl rfl, ae.celli 6 rfl rfl, ae.celli 7 rfl rfl, trivial⟩, ?_⟩
  have h := h ah aj
  refine h.mono fun an al h => ?_
  obtain ⟨ab, a7, ac, ad, he, h⟩ := h
  refine ⟨ab, a7, ac, ad, he, ?_⟩
  refine bif_of (fun ai => ?_) (fun ai => ?_)
  · have h := h.1 (bne_t ai)
    exact h
  · have h := h.2 (bne_f ai)
    refine bif_of (fun ag => ?_) (fun ag => ?_)
    · have h := h.1 (isNone_t ag)
      exact h
    · have h := h.2 (isNone_f ag)
      refine h.mono fun am ao h => ?_
      obtain ⟨af, he, h⟩ := h
      refine ⟨af, he, ?_⟩
      exact h

theorem entry_Sum.go (o1 : Option Addr) (a0 : Int) (a1 : Int) (a6 : Int) (a7 : Int) (a8 : Int) (a2 : Int) (a4 : Option Addr) (a3 : Nat) (a5 : Nat) (a9 : Int) {R : Value → World → Prop} {w : World} (h : entry_Sum.N o1 a0 a1 a6 a7 a8 a2 a4 a3 a5 a9 R w) : Calls Try.prog 30 #[.pointer o1, .agg #[.int .i64 a0, .int .i64 a1, .int .u64 a6, .int .i64 a7, .int .i64 a8, .int .i64 a2, .slice a4 a3 a5, .int .u64 a9]] w fun e w' => ∃ v, e = .returned v ∧ R v w' := entry_Sum.ok o1 a0 a1 a6 a7 a8 a2 a4 a3 a5 a9 (entry_Sum.up o1 a0 a1 a6 a7 a8 a2 a4 a3 a5 a9 h)
/-- entry.Sign -/
def entry_Sign.M (o1 : Option Addr) (c0 : Int) (bn : Int) (bw : Int) (c3 : Int) (ck : Int) (cx : Int) (bv : Int) (bz : Option Addr) (bx : Nat) (c1 : Nat) (c5 : Int) (R : Value → World → Prop) (w : World) : Prop :=
 thenW (w.alloc (.cells #[.int .i64 bn, .int .i64 bw, .int .u64 c3, .int .i64 ck, .int .i64 cx, .int .i64 bv, .slice bz bx c1, .int .u64 c5] 47)) fun a0 =>
 thenW (a0.alloc (.cells #[.int .i64 0, .int .i64 0, .int .u64 0, .int .i64 0, .int .i64 0, .int .i64 0, .slice none 0 0, .int .u64 0] 47)) fun c9 =>
 ∃ (al : Int) (aw : Int) (bf : Int) (br : Int) (bt : Int) (ba : Int) (b7 : Option Addr) (au : Nat) (b5 : Nat) (bo : Int), cellsAt c9 (blk w.heap.size) [.int .i64 al, .int .i64 aw, .int .u64 bf, .int .i64 br, .int .i64 bt, .int .i64 ba, .slice b7 au b5, .int .u64 bo] 0 ∧
 Calls Try.prog 54 #[.agg #[.int .i64 al, .int .i64 aw, .int .u64 bf, .int .i64 br, .int .i64 bt, .int .i64 ba, .slice b7 au b5, .int .u64 bo]] c9 fun d1 c4 => ∃ (bj : Option Addr) (bk : Nat) (bi : Nat) (bc : Int), d1 = .returned (.tuple #[.slice bj bk bi, .int .i64 bc]) ∧
 bif bc != 0 then (
 canStore c4 ((blk a0.heap.size).add 0) ∧
 thenW (c4.setCell ((blk a0.heap.size).add 0) (.int .i64 0)) fun c6 =>
 canStore c6 ((blk a0.heap.size).add 1) ∧
 thenW (c6.setCell ((blk a0.heap.size).add 1) (.int .i64 0)) fun ce =>
 canStore ce ((blk a0.heap.size).add 2) ∧
 thenW (ce.setCell ((blk a0.heap.size).add 2) (.int .u64 0)) fun cn =>
 canStore cn ((blk a0.heap.size).add 3) ∧
 thenW (cn.setCell ((blk a0.heap.size).add 3) (.int .i64 0)) fun cg =>
 canStore cg ((blk a0.heap.size).add 4) ∧
 thenW (cg.setCell ((blk a0.heap.size).add 4) (.int .i64 0)) fun cv =>
 canStore cv ((blk a0.heap.size).add 5) ∧
 thenW (cv.setCell ((blk a0.heap.size).add 5) (.int .i64 0)) fun ch =>
 canStore ch ((blk a0.heap.size).add 6) ∧
 thenW (ch.setCell ((blk a0.heap.size).add 6) (.slice none 0 0)) fun cj =>
 canStore cj ((blk a0.heap.size).add 7) ∧
 thenW (cj.setCell ((blk a0.heap.size).add 7) (.int .u64 0)) fun cu =>
 ∃ (a1 : Int) (ae : Int) (aj : Int) (ap : Int) (b9 : Int) (aa : Int) (ac : Option Addr) (ab : Nat) (a7 : Nat) (ar : Int), cellsAt cu (blk a0.heap.size) [.int .i64 a1, .int .i64 ae, .int .u64 aj, .int .i64 ap, .int .i64 b9, .int .i64 aa, .slice ac ab a7, .int .u64 ar] 0 ∧
 R (.tuple #[.agg #[.int .i64 a1, .int .i64 ae, .int .u64 aj, .int .i64 ap, .int .i64 b9, .int .i64 aa, .slice ac ab a7, .int .u64 ar], .int .i64 bc]) cu) else (
 Calls Try.prog 55 #[.pointer o1, .int .u64 c0, .slice bj bk bi] c4 fun cz cq => ∃ (bm : Int) (bd : Int), cz = .returned (.tuple #[.int .u64 bm, .int .i64 bd]) ∧
 canStore cq (((blk w.heap.size).add 7).add 0) ∧
 thenW (cq.setCell (((blk w.heap.size).add 7).add 0) (.int .u64 bm)) fun bu =>
 bif bd != 0 then (
 canStore bu ((blk a0.heap.size).add 0) ∧
 thenW (bu.setCell ((blk a0.heap.size).add 0) (.int .i64 0)) fun cp =>
 canStore cp ((blk a0.heap.size).add 1) ∧
 thenW (cp.setCell ((blk a0.heap.size).add 1) (.int .i64 0)) fun co =>
 canStore co ((blk a0.heap.size).add 2) ∧
 thenW (co.setCell ((blk a0.heap.size).add 2) (.int .u64 0)) fun cc =>
 canStore cc ((blk a0.heap.size).add 3) ∧
 thenW (cc.setCell ((blk a0.heap.size).add 3) (.int .i64 0)) fun cf =>
 canStore cf ((blk a0.heap.size).add 4) ∧
 thenW (cf.setCell ((blk a0.heap.size).add 4) (.int .i64 0)) fun c7 =>
 canStore c7 ((blk a0.heap.size).add 5) ∧
 thenW (c7.setCell ((blk a0.heap.size).add 5) (.int .i64 0)) fun cr =>
 canStore cr ((blk a0.heap.size).add 6) ∧
 thenW (cr.setCell ((blk a0.heap.size).add 6) (.slice none 0 0)) fun c8 =>
 canStore c8 ((blk a0.heap.size).add 7) ∧
 thenW (c8.setCell ((blk a0.heap.size).add 7) (.int .u64 0)) fun cd =>
 ∃ (a3 : Int) (a6 : Int) (an : Int) (ao : Int) (b4 : Int) (a8 : Int) (a4 : Option Addr) (ad : Nat) (ai : Nat) (av : Int), cellsAt cd (blk a0.heap.size) [.int .i64 a3, .int .i64 a6, .int .u64 an, .int .i64 ao, .int .i64 b4, .int .i64 a8, .slice a4 ad ai, .int .u64 av] 0 ∧
 R (.tuple #[.agg #[.int .i64 a3, .int .i64 a6, .int .u64 an, .int .i64 ao, .int .i64 b4, .int .i64 a8, .slice a4 ad ai, .int .u64 av], .int .i64 bd]) cd) else (
 ∃ (bh : Option Addr) (bl : Nat) (be : Nat), bu.cell? ((blk w.heap.size).add 6) = some (.slice bh bl be) ∧
 Calls Try.prog 56 #[.slice bh bl be] bu fun d0 ci => ∃ (aq : Option Addr) (ax : Nat) (b8 : Nat), d0 = .returned (.slice aq ax b8) ∧
 canStore ci (((blk w.heap.size).add 6).add 0) ∧
 thenW (ci.setCell (((blk w.heap.size).add 6).add 0) (.slice aq ax b8)) fun c2 =>
 ∃ (ak : Int) (b6 : Int) (bg : Int) (bq : Int) (bp : Int) (ay : Int) (b3 : Option Addr) (b0 : Nat) (b2 : Nat) (bs : Int), cellsAt c2 (blk w.heap.size) [.int .i64 ak, .int .i64 b6, .int .u64 bg, .int .i64 bq, .int .i64 bp, .int .i64 ay, .slice b3 b0 b2, .int .u64 bs] 0 ∧
 canStore c2 ((blk a0.heap.size).add 0) ∧
 thenW (c2.setCell ((blk a0.heap.size).add 0) (.int .i64 ak)) fun cw =>
 canStore cw ((blk a0.heap.size).add 1) ∧
 thenW (cw.setCell ((blk a0.heap.size).add 1) (.int .i64 b6)) fun cm =>
 canStore cm ((blk a0.heap.size).add 2) ∧
 thenW (cm.setCell ((blk a0.heap.size).add 2) (.int .u64 bg)) fun cl =>
 canStore cl ((blk a0.heap.size).add 3) ∧
 thenW (cl.setCell ((blk a0.heap.size).add 3) (.int .i64 bq)) fun ct =>
 canStore ct ((blk a0.heap.size).add 4) ∧
 thenW (ct.setCell ((blk a0.heap.size).add 4) (.int .i64 bp)) fun cb =>
 canStore cb ((blk a0.heap.size).add 5) ∧
 thenW (cb.setCell ((blk a0.heap.size).add 5) (.int .i64 ay)) fun cy =>
 canStore cy ((blk a0.heap.size).add 6) ∧
 thenW (cy.setCell ((blk a0.heap.size).add 6) (.slice b3 b0 b2)) fun cs =>
 canStore cs ((blk a0.heap.size).add 7) ∧
 thenW (cs.setCell ((blk a0.heap.size).add 7) (.int .u64 bs)) fun ca =>
 ∃ (a2 : Int) (af : Int) (am : Int) (b1 : Int) (bb : Int) (ag : Int) (a5 : Option Addr) (a9 : Nat) (ah : Nat) (az : Int), cellsAt ca (blk a0.heap.size) [.int .i64 a2, .int .i64 af, .int .u64 am, .int .i64 b1, .int .i64 bb, .int .i64 ag, .slice a5 a9 ah, .int .u64 az] 0 ∧
 R (.tuple #[.agg #[.int .i64 a2, .int .i64 af, .int .u64 am, .int .i64 b1, .int .i64 bb, .int .i64 ag, .slice a5 a9 ah, .int .u64 az], .int .i64 0]) ca))

theorem entry_Sign.eq (o1 : Option Addr) (secret2 : Int) (eWriter3 : Int) (eIndex4 : Int) (ePrev5 : Int) (eAtT6 : Int) (eAtW7 : Int) (eEpoch8 : Int) (eBody9a : Option Addr) (eBody9n : Nat) (eBody9c : Nat) (eSig10 : Int) (R : Value → World → Prop) (w : World) : mfunc Try.prog [] 36 [.pointer o1, .int .u64 secret2, .agg #[.int .i64 eWriter3, .int .i64 eIndex4, .int .u64 ePrev5, .int .i64 eAtT6, .int .i64 eAtW7, .int .i64 eEpoch8, .slice eBody9a eBody9n eBody9c, .int .u64 eSig10]] R w = entry_Sign.M o1 secret2 eWriter3 eIndex4 ePrev5 eAtT6 eAtW7 eEpoch8 eBody9a eBody9n eBody9c eSig10 R w := by kernel_rfl
theorem entry_Sign.ok (o1 : Option Addr) (a3 : Int) (a0 : Int) (a2 : Int) (a7 : Int) (aa : Int) (a9 : Int) (a4 : Int) (a1 : Option Addr) (a6 : Nat) (a5 : Nat) (a8 : Int) {R : Value → World → Prop} {w : World} (h : entry_Sign.M o1 a3 a0 a2 a7 aa a9 a4 a1 a6 a5 a8 R w) : Calls Try.prog 36 #[.pointer o1, .int .u64 a3, .agg #[.int .i64 a0, .int .i64 a2, .int .u64 a7, .int .i64 aa, .int .i64 a9, .int .i64 a4, .slice a1 a6 a5, .int .u64 a8]] w fun e w' => ∃ v, e = .returned v ∧ R v w' :=
  mfunc_ok follows (H := []) (args := [.pointer o1, .int .u64 a3, .agg #[.int .i64 a0, .int .i64 a2, .int .u64 a7, .int .i64 aa, .int .i64 a9, .int .i64 a4, .slice a1 a6 a5, .int .u64 a8]]) (by rw [entry_Sign.eq]; exact h)

def entry_Sign.N (o1 : Option Addr) (ai : Int) (a5 : Int) (a7 : Int) (ae : Int) (aj : Int) (ak : Int) (a8 : Int) (ab : Option Addr) (a9 : Nat) (ad : Nat) (ap : Int) (R : Value → World → Prop) (w : World) : Prop :=
 ∀ (ag : World) (an : Nat) (ao : Nat), Ext no w ag → Priv w ag [an, ao] →
 Calls Try.prog 54 #[.agg #[.int .i64 a5, .int .i64 a7, .int .u64 ae, .int .i64 aj, .int .i64 ak, .int .i64 a8, .slice ab a9 ad, .int .u64 ap]] ag fun ay ah => ∃ (a6 : Option Addr) (aa : Nat) (ac : Nat) (a0 : Int), ay = .returned (.tuple #[.slice a6 aa ac, .int .i64 a0]) ∧
 Keep [an, ao] ag ah ∧
 (a0 ≠ 0 →
 ∀ (av : World), Ext (fun b => b = ao) ah av →
 R (.tuple #[.agg #[.int .i64 0, .int .i64 0, .int .u64 0, .int .i64 0, .int .i64 0, .int .i64 0, .slice none 0 0, .int .u64 0], .int .i64 a0]) av) ∧
 (a0 = 0 →
 Calls Try.prog 55 #[.pointer o1, .int .u64 ai, .slice a6 aa ac] ah fun ax al => ∃ (af : Int) (a1 : Int), ax = .returned (.tuple #[.int .u64 af, .int .i64 a1]) ∧
 Keep [an, ao] ah al ∧
 (a1 ≠ 0 →
 ∀ (aq : World), Ext (fun b => b = ao ∨ b = an) al aq →
 R (.tuple #[.agg #[.int .i64 0, .int .i64 0, .int .u64 0, .int .i64 0, .int .i64 0, .int .i64 0, .slice none 0 0, .int .u64 0], .int .i64 a1]) aq) ∧
 (a1 = 0 →
 ∀ (am : World), Ext (fun b => b = an) al am →
 Calls Try.prog 56 #[.slice ab a9 ad] am fun aw ar => ∃ (a2 : Option Addr) (a4 : Nat) (a3 : Nat), aw = .returned (.slice a2 a4 a3) ∧
 Keep [an, ao] am ar ∧
 ∀ (au : World), Ext (fun b => b = ao ∨ b = an) ar au →
 R (.tuple #[.agg #[.int .i64 a5, .int .i64 a7, .int .u64 ae, .int .i64 aj, .int .i64 ak, .int .i64 a8, .slice a2 a4 a3, .int .u64 af], .int .i64 0]) au))

theorem entry_Sign.up (o1 : Option Addr) (ah : Int) (a2 : Int) (a3 : Int) (a4 : Int) (a9 : Int) (aa : Int) (a5 : Int) (ad : Option Addr) (ac : Nat) (ae : Nat) (ag : Int) {R : Value → World → Prop} {w : World} (h : entry_Sign.N o1 ah a2 a3 a4 a9 aa a5 ad ac ae ag R w) : entry_Sign.M o1 ah a2 a3 a4 a9 aa a5 ad ac ae ag R w := by
  unfold entry_Sign.M
  unfold entry_Sign.N at h
  refine thenW_in fun a1 cu => ?_
  have ab := Blk.of_new cu
  have df := ((Ext.refl no w)).size
  have av := (Ext.refl no w).x_alloc cu
  refine thenW_in fun b3 bv => ?_
  have a0 := Blk.of_new bv
  have de := (av).size
  have an := Nat.ne_of_lt ab.lt
  have ab := ab.x_alloc bv
  have ba := av.x_alloc bv
  refine ⟨a2, a3, a4, a9, aa, a5, ad, ac, ae, ag, ⟨ab.celli 0 rfl rfl, ab.celli 1 rfl rfl, ab.celli 2 rfl rfl, ab.celli 3 rfl rfl, ab.celli 4 rfl rfl, ab.celli 5 rfl rfl, ab.celli 6 rfl rfl, ab.celli 7 rfl rfl, trivial⟩, ?_⟩
  have h := h b3 (w.heap.size) (a1.heap.size) ba (Priv.cons df ab.lt (Priv.cons de a0.lt Priv.nil))
  refine h.mono fun dg ap h => ?_
  obtain ⟨al, am, ai, ao, he, hk, h⟩ := h
  refine ⟨al, am, ai, ao, he, ?_⟩
  have ab := hk.blk ab (by simp)
  have a0 := hk.blk a0 (by simp)
  refine bif_of (fun bz => ?_) (fun bz => ?_)
  · have h := h.1 (bne_t bz)
    have cm : Ext (fun b => b = a1.heap.size) ap ap := ((Ext.refl no ap)).none
    refine ⟨a0.cani 0 rfl rfl, thenW_in fun bf d6 => ?_⟩
    have bl := cm.x_set (q := a1.heap.size) (i := 0) rfl (.inl rfl) d6
    have a0 : Blk bf a1.heap.size 47 [.int .i64 0, .int .i64 0, .int .u64 0, .int .i64 0, .int .i64 0, .int .i64 0, .slice none 0 0, .int .u64 0] := a0.seti 0 rfl d6
    refine ⟨a0.cani 1 rfl rfl, thenW_in fun bi cv => ?_⟩
    have cb := bl.x_set (q := a1.heap.size) (i := 1) rfl (.inl rfl) cv
    have a0 : Blk bi a1.heap.size 47 [.int .i64 0, .int .i64 0, .int .u64 0, .int .i64 0, .int .i64 0, .int .i64 0, .slice none 0 0, .int .u64 0] := a0.seti 1 rfl cv
    refine ⟨a0.cani 2 rfl rfl, thenW_in fun c0 db => ?_⟩
    have ch := cb.x_set (q := a1.heap.size) (i := 2) rfl (.inl rfl) db
    have a0 : Blk c0 a1.heap.size 47 [.int .i64 0, .int .i64 0, .int .u64 0, .int .i64 0, .int .i64 0, .int .i64 0, .slice none 0 0, .int .u64 0] := a0.seti 2 rfl db
    refine ⟨a0.cani 3 rfl rfl, thenW_in fun c9 d0 => ?_⟩
    have bg := ch.x_set (q := a1.heap.size) (i := 3) rfl (.inl rfl) d0
    have a0 : Blk c9 a1.heap.size 47 [.int .i64 0, .int .i64 0, .int .u64 0, .int .i64 0, .int .i64 0, .int .i64 0, .slice none 0 0, .int .u64 0] := a0.seti 3 rfl d0
    refine ⟨a0.cani 4 rfl rfl, thenW_in fun cj d2 => ?_⟩
    have b5 := bg.x_set (q := a1.heap.size) (i := 4) rfl (.inl rfl) d2
    have a0 : Blk cj a1.heap.size 47 [.int .i64 0, .int .i64 0, .int .u64 0, .int .i64 0, .int .i64 0, .int .i64 0, .slice none 0 0, .int .u64 0] := a0.seti 4 rfl d2
    refine ⟨a0.cani 5 rfl rfl, thenW_in fun b0 co => ?_⟩
    have bh := b5.x_set (q := a1.heap.size) (i := 5) rfl (.inl rfl) co
    have a0 : Blk b0 a1.heap.size 47 [.int .i64 0, .int .i64 0, .int .u64 0, .int .i64 0, .int .i64 0, .int .i64 0, .slice none 0 0, .int .u64 0] := a0.seti 5 rfl co
    refine ⟨a0.cani 6 rfl rfl, thenW_in fun bc d9 => ?_⟩
    have cf := bh.x_set (q := a1.heap.size) (i := 6) rfl (.inl rfl) d9
    have a0 : Blk bc a1.heap.size 47 [.int .i64 0, .int .i64 0, .int .u64 0, .int .i64 0, .int .i64 0, .int .i64 0, .slice none 0 0, .int .u64 0] := a0.seti 6 rfl d9
    refine ⟨a0.cani 7 rfl rfl, thenW_in fun ax cz => ?_⟩
    have br := cf.x_set (q := a1.heap.size) (i := 7) rfl (.inl rfl) cz
    have a0 : Blk ax a1.heap.size 47 [.int .i64 0, .int .i64 0, .int .u64 0, .int .i64 0, .int .i64 0, .int .i64 0, .slice none 0 0, .int .u64 0] := a0.seti 7 rfl cz
    refine ⟨0, 0, 0, 0, 0, 0, none, 0, 0, 0, ⟨a0.celli 0 rfl rfl, a0.celli 1 rfl rfl, a0.celli 2 rfl rfl, a0.celli 3 rfl rfl, a0.celli 4 rfl rfl, a0.celli 5 rfl rfl, a0.celli 6 rfl rfl, a0.celli 7 rfl rfl, trivial⟩, ?_⟩
    have h := h ax br
    exact h
  · have h := h.2 (bne_f bz)
    refine h.mono fun dd aj h => ?_
    obtain ⟨af, ar, he, hk, h⟩ := h
    refine ⟨af, ar, he, ?_⟩
    have ab := hk.blk ab (by simp)
    have a0 := hk.blk a0 (by simp)
    have bt : Ext (fun b => b = w.heap.size) aj aj := ((Ext.refl no aj)).none
    refine ⟨ab.cani 7 rfl rfl, thenW_in fun aq bo => ?_⟩
    have ay := bt.x_set (q := w.heap.size) (i := 7) rfl (.inl rfl) bo
    have ab : Blk aq w.heap.size 47 [.int .i64 a2, .int .i64 a3, .int .u64 a4, .int .i64 a9, .int .i64 aa, .int .i64 a5, .slice ad ac ae, .int .u64 af] := ab.seti 7 rfl bo
    have a0 := a0.oth (q := w.heap.size) (i := 7) rfl (Ne.symm an) bo
    refine bif_of (fun bq => ?_) (fun bq => ?_)
    · have h := h.1 (bne_t bq)
      have cl : Ext (fun b => b = a1.heap.size ∨ b = w.heap.size) aj aq := (ay).mono fun _ h _ => .inr h
      refine ⟨a0.cani 0 rfl rfl, thenW_in fun cd cr => ?_⟩
      have b6 := cl.x_set (q := a1.heap.size) (i := 0) rfl (.inl (.inl rfl)) cr
      have a0 : Blk cd a1.heap.size 47 [.int .i64 0, .int .i64 0, .int .u64 0, .int .i64 0, .int .i64 0, .int .i64 0, .slice none 0 0, .int .u64 0] := a0.seti 0 rfl cr
      refine ⟨a0.cani 1 rfl rfl, thenW_in fun bx cy => ?_⟩
      have ca := b6.x_set (q := a1.heap.size) (i := 1) rfl (.inl (.inl rfl)) cy
      have a0 : Blk bx a1.heap.size 47 [.int .i64 0, .int .i64 0, .int .u64 0, .int .i64 0, .int .i64 0, .int .i64 0, .slice none 0 0, .int .u64 0] := a0.seti 1 rfl cy
      refine ⟨a0.cani 2 rfl rfl, thenW_in fun bs d4 => ?_⟩
      have bu := ca.x_set (q := a1.heap.size) (i := 2) rfl (.inl (.inl rfl)) d4
      have a0 : Blk bs a1.heap.size 47 [.int .i64 0, .int .i64 0, .int .u64 0, .int .i64 0, .int .i64 0, .int .i64 0, .slice none 0 0, .int .u64 0] := a0.seti 2 rfl d4
      refine ⟨a0.cani 3 rfl rfl, thenW_in fun bk d8 => ?_⟩
      have b8 := bu.x_set (q := a1.heap.size) (i := 3) rfl (.inl (.inl rfl)) d8
      have a0 : Blk bk a1.heap.size 47 [.int .i64 0, .int .i64 0, .int .u64 0, .int .i64 0, .int .i64 0, .int .i64 0, .slice none 0 0, .int .u64 0] := a0.seti 3 rfl d8
      refine ⟨a0.cani 4 rfl rfl, thenW_in fun c7 ct => ?_⟩
      have c5 := b8.x_set (q := a1.heap.size) (i := 4) rfl (.inl (.inl rfl)) ct
      have a0 : Blk c7 a1.heap.size 47 [.int .i64 0, .int .i64 0, .int .u64 0, .int .i64 0, .int .i64 0, .int .i64 0, .slice none 0 0, .int .u64 0] := a0.seti 4 rfl ct
      refine ⟨a0.cani 5 rfl rfl, thenW_in fun bw cn => ?_⟩
      have cg := c5.x_set (q := a1.heap.size) (i := 5) rfl (.inl (.inl rfl)) cn
      have a0 : Blk bw a1.heap.size 47 [.int .i64 0, .int .i64 0, .int .u64 0, .int .i64 0, .int .i64 0, .int .i64 0, .slice none 0 0, .int .u64 0] := a0.seti 5 rfl cn
      refine ⟨a0.cani 6 rfl rfl, thenW_in fun bm cp => ?_⟩
      have ci := cg.x_set (q := a1.heap.size) (i := 6) rfl (.inl (.inl rfl)) cp
      have a0 : Blk bm a1.heap.size 47 [.int .i64 0, .int .i64 0, .int .u64 0, .int .i64 0, .int .i64 0, .int .i64 0, .slice none 0 0, .int .u64 0] := a0.seti 6 rfl cp
      refine ⟨a0.cani 7 rfl rfl, thenW_in fun az d3 => ?_⟩
      have c2 := ci.x_set (q := a1.heap.size) (i := 7) rfl (.inl (.inl rfl)) d3
      have a0 : Blk az a1.heap.size 47 [.int .i64 0, .int .i64 0, .int .u64 0, .int .i64 0, .int .i64 0, .int .i64 0, .slice none 0 0, .int .u64 0] := a0.seti 7 rfl d3
      refine ⟨0, 0, 0, 0, 0, 0, none, 0, 0, 0, ⟨a0.celli 0 rfl rfl, a0.celli 1 rfl rfl, a0.celli 2 rfl rfl, a0.celli 3 rfl rfl, a0.celli 4 rfl rfl, a0.celli 5 rfl rfl, a0.celli 6 rfl rfl, a0.celli 7 rfl rfl, trivial⟩, ?_⟩
      have h := h az c2
      exact h
    · have h := h.2 (bne_f bq)
      refine ⟨ad, ac, ae, ab.celli 6 rfl rfl, ?_⟩
      have h := h aq ay
      refine h.mono fun dc ak h => ?_
      obtain ⟨a8, a7, a6, he, hk, h⟩ := h
      refine ⟨a8, a7, a6, he, ?_⟩
      have ab := hk.blk ab (by simp)
      have a0 := hk.blk a0 (by simp)
      have ce : Ext (fun b => b = w.heap.size) ak ak := ((Ext.refl no ak)).none
      refine ⟨ab.cani 6 rfl rfl, thenW_in fun au bj => ?_⟩
      have bp := ce.x_set (q := w.heap.size) (i := 6) rfl (.inl rfl) bj
      have ab : Blk au w.heap.size 47 [.int .i64 a2, .int .i64 a3, .int .u64 a4, .int .i64 a9, .int .i64 aa, .int .i64 a5, .slice a8 a7 a6, .int .u64 af] := ab.seti 6 rfl bj
      have a0 := a0.oth (q := w.heap.size) (i := 6) rfl (Ne.symm an) bj
      refine ⟨a2, a3, a4, a9, aa, a5, a8, a7, a6, af, ⟨ab.celli 0 rfl rfl, ab.celli 1 rfl rfl, ab.celli 2 rfl rfl, ab.celli 3 rfl rfl, ab.celli 4 rfl rfl, ab.celli 5 rfl rfl, ab.celli 6 rfl rfl, ab.celli 7 rfl rfl, trivial⟩, ?_⟩
      have cc : Ext (fun b => b = a1.heap.size ∨ b = w.heap.size) ak au := (bp).mono fun _ h _ => .inr h
      refine ⟨a0.cani 0 rfl rfl, thenW_in fun c6 d5 => ?_⟩
      have ck := cc.x_set (q := a1.heap.size) (i := 0) rfl (.inl (.inl rfl)) d5
      have a0 : Blk c6 a1.heap.size 47 [.int .i64 a2, .int .i64 0, .int .u64 0, .int .i64 0, .int .i64 0, .int .i64 0, .slice none 0 0, .int .u64 0] := a0.seti 0 rfl d5
      refine ⟨a0.cani 1 rfl rfl, thenW_in fun c1 cs => ?_⟩
      have be := ck.x_set (q := a1.heap.size) (i := 1) rfl (.inl (.inl rfl)) cs
      have a0 : Blk c1 a1.heap.size 47 [.int .i64 a2, .int .i64 a3, .int .u64 0, .int .i64 0, .int .i64 0, .int .i64 0, .slice none 0 0, .int .u64 0] := a0.seti 1 rfl cs
      refine ⟨a0.cani 2 rfl rfl, thenW_in fun b9 cx => ?_⟩
      have b4 := be.x_set (q := a1.heap.size) (i := 2) rfl (.inl (.inl rfl)) cx
      have a0 : Blk b9 a1.heap.size 47 [.int .i64 a2, .int .i64 a3, .int .u64 a4, .int .i64 0, .int .i64 0, .int .i64 0, .slice none 0 0, .int .u64 0] := a0.seti 2 rfl cx
      refine ⟨a0.cani 3 rfl rfl, thenW_in fun bd d7 => ?_⟩
      have c4 := b4.x_set (q := a1.heap.size) (i := 3) rfl (.inl (.inl rfl)) d7
      have a0 : Blk bd a1.heap.size 47 [.int .i64 a2, .int .i64 a3, .int .u64 a4, .int .i64 a9, .int .i64 0, .int .i64 0, .slice none 0 0, .int .u64 0] := a0.seti 3 rfl d7
      refine ⟨a0.cani 4 rfl rfl, thenW_in fun b1 da => ?_⟩
      have bb := c4.x_set (q := a1.heap.size) (i := 4) rfl (.inl (.inl rfl)) da
      have a0 : Blk b1 a1.heap.size 47 [.int .i64 a2, .int .i64 a3, .int .u64 a4, .int .i64 a9, .int .i64 aa, .int .i64 0, .slice none 0 0, .int .u64 0] := a0.seti 4 rfl da
      refine ⟨a0.cani 5 rfl rfl, thenW_in fun c8 cw => ?_⟩
      have b7 := bb.x_set (q := a1.heap.size) (i := 5) rfl (.inl (.inl rfl)) cw
      have a0 : Blk c8 a1.heap.size 47 [.int .i64 a2, .int .i64 a3, .int .u64 a4, .int .i64 a9, .int .i64 aa, .int .i64 a5, .slice none 0 0, .int .u64 0] := a0.seti 5 rfl cw
      refine ⟨a0.cani 6 rfl rfl, thenW_in fun b2 d1 => ?_⟩
      have bn := b7.x_set (q := a1.heap.size) (i := 6) rfl (.inl (.inl rfl)) d1
      have a0 : Blk b2 a1.heap.size 47 [.int .i64 a2, .int .i64 a3, .int .u64 a4, .int .i64 a9, .int .i64 aa, .int .i64 a5, .slice a8 a7 a6, .int .u64 0] := a0.seti 6 rfl d1
      refine ⟨a0.cani 7 rfl rfl, thenW_in fun aw cq => ?_⟩
      have c3 := bn.x_set (q := a1.heap.size) (i := 7) rfl (.inl (.inl rfl)) cq
      have a0 : Blk aw a1.heap.size 47 [.int .i64 a2, .int .i64 a3, .int .u64 a4, .int .i64 a9, .int .i64 aa, .int .i64 a5, .slice a8 a7 a6, .int .u64 af] := a0.seti 7 rfl cq
      refine ⟨a2, a3, a4, a9, aa, a5, a8, a7, a6, af, ⟨a0.celli 0 rfl rfl, a0.celli 1 rfl rfl, a0.celli 2 rfl rfl, a0.celli 3 rfl rfl, a0.celli 4 rfl rfl, a0.celli 5 rfl rfl, a0.celli 6 rfl rfl, a0.celli 7 rfl rfl, trivial⟩, ?_⟩
      have h := h aw c3
      exact h

theorem entry_Sign.go (o1 : Option Addr) (a3 : Int) (a0 : Int) (a2 : Int) (a7 : Int) (aa : Int) (a9 : Int) (a4 : Int) (a1 : Option Addr) (a6 : Nat) (a5 : Nat) (a8 : Int) {R : Value → World → Prop} {w : World} (h : entry_Sign.N o1 a3 a0 a2 a7 aa a9 a4 a1 a6 a5 a8 R w) : Calls Try.prog 36 #[.pointer o1, .int .u64 a3, .agg #[.int .i64 a0, .int .i64 a2, .int .u64 a7, .int .i64 aa, .int .i64 a9, .int .i64 a4, .slice a1 a6 a5, .int .u64 a8]] w fun e w' => ∃ v, e = .returned v ∧ R v w' := entry_Sign.ok o1 a3 a0 a2 a7 aa a9 a4 a1 a6 a5 a8 (entry_Sign.up o1 a3 a0 a2 a7 aa a9 a4 a1 a6 a5 a8 h)
/-- entry.Holds -/
def entry_Holds.M (o1 : Option Addr) (ag : Int) (ae : Int) (ah : Int) (an : Int) (aq : Int) (au : Int) (ai : Int) (ak : Option Addr) (aj : Nat) (al : Nat) (ap : Int) (R : Value → World → Prop) (w : World) : Prop :=
 thenW (w.alloc (.cells #[.int .i64 ae, .int .i64 ah, .int .u64 an, .int .i64 aq, .int .i64 au, .int .i64 ai, .slice ak aj al, .int .u64 ap] 47)) fun ar =>
 ∃ (a0 : Int) (a2 : Int) (a9 : Int) (ac : Int) (af : Int) (a5 : Int) (a6 : Option Addr) (a4 : Nat) (a3 : Nat) (ad : Int), cellsAt ar (blk w.heap.size) [.int .i64 a0, .int .i64 a2, .int .u64 a9, .int .i64 ac, .int .i64 af, .int .i64 a5, .slice a6 a4 a3, .int .u64 ad] 0 ∧
 Calls Try.prog 54 #[.agg #[.int .i64 a0, .int .i64 a2, .int .u64 a9, .int .i64 ac, .int .i64 af, .int .i64 a5, .slice a6 a4 a3, .int .u64 ad]] ar fun ax ao => ∃ (a8 : Option Addr) (a7 : Nat) (aa : Nat) (ab : Int), ax = .returned (.tuple #[.slice a8 a7 aa, .int .i64 ab]) ∧
 bif ab == 0 then (
 ∃ (am : Int), ao.cell? ((blk w.heap.size).add 7) = some (.int .u64 am) ∧
 Calls Try.prog 76 #[.pointer o1, .int .u64 ag, .slice a8 a7 aa, .int .u64 am] ao fun av aw => ∃ (a1 : Bool), av = .returned (.bool a1) ∧
 R (.bool a1) aw) else (
 R (.bool false) ao)

theorem entry_Holds.eq (o1 : Option Addr) (publicv2 : Int) (eWriter3 : Int) (eIndex4 : Int) (ePrev5 : Int) (eAtT6 : Int) (eAtW7 : Int) (eEpoch8 : Int) (eBody9a : Option Addr) (eBody9n : Nat) (eBody9c : Nat) (eSig10 : Int) (R : Value → World → Prop) (w : World) : mfunc Try.prog [] 61 [.pointer o1, .int .u64 publicv2, .agg #[.int .i64 eWriter3, .int .i64 eIndex4, .int .u64 ePrev5, .int .i64 eAtT6, .int .i64 eAtW7, .int .i64 eEpoch8, .slice eBody9a eBody9n eBody9c, .int .u64 eSig10]] R w = entry_Holds.M o1 publicv2 eWriter3 eIndex4 ePrev5 eAtT6 eAtW7 eEpoch8 eBody9a eBody9n eBody9c eSig10 R w := by kernel_rfl
theorem entry_Holds.ok (o1 : Option Addr) (a1 : Int) (a0 : Int) (a3 : Int) (a7 : Int) (a9 : Int) (aa : Int) (a4 : Int) (a2 : Option Addr) (a6 : Nat) (a5 : Nat) (a8 : Int) {R : Value → World → Prop} {w : World} (h : entry_Holds.M o1 a1 a0 a3 a7 a9 aa a4 a2 a6 a5 a8 R w) : Calls Try.prog 61 #[.pointer o1, .int .u64 a1, .agg #[.int .i64 a0, .int .i64 a3, .int .u64 a7, .int .i64 a9, .int .i64 aa, .int .i64 a4, .slice a2 a6 a5, .int .u64 a8]] w fun e w' => ∃ v, e = .returned v ∧ R v w' :=
  mfunc_ok follows (H := []) (args := [.pointer o1, .int .u64 a1, .agg #[.int .i64 a0, .int .i64 a3, .int .u64 a7, .int .i64 a9, .int .i64 aa, .int .i64 a4, .slice a2 a6 a5, .int .u64 a8]]) (by rw [entry_Holds.eq]; exact h)

def entry_Holds.N (o1 : Option Addr) (a7 : Int) (a5 : Int) (a8 : Int) (ae : Int) (ag : Int) (ah : Int) (a9 : Int) (ac : Option Addr) (aa : Nat) (ad : Nat) (a6 : Int) (R : Value → World → Prop) (w : World) : Prop :=
 ∀ (ab : World) (al : Nat), Ext no w ab → Priv w ab [al] →
 Calls Try.prog 54 #[.agg #[.int .i64 a5, .int .i64 a8, .int .u64 ae, .int .i64 ag, .int .i64 ah, .int .i64 a9, .slice ac aa ad, .int .u64 a6]] ab fun aj af => ∃ (a3 : Option Addr) (a4 : Nat) (a2 : Nat) (a1 : Int), aj = .returned (.tuple #[.slice a3 a4 a2, .int .i64 a1]) ∧
 Keep [al] ab af ∧
 (a1 = 0 →
 Calls Try.prog 76 #[.pointer o1, .int .u64 a7, .slice a3 a4 a2, .int .u64 a6] af fun ai ak => ∃ (a0 : Bool), ai = .returned (.bool a0) ∧
 R (.bool a0) ak) ∧
 (a1 ≠ 0 →
 R (.bool false) af)

theorem entry_Holds.up (o1 : Option Addr) (a7 : Int) (a0 : Int) (a1 : Int) (a8 : Int) (aa : Int) (ac : Int) (a2 : Int) (a4 : Option Addr) (a3 : Nat) (a5 : Nat) (a6 : Int) {R : Value → World → Prop} {w : World} (h : entry_Holds.N o1 a7 a0 a1 a8 aa ac a2 a4 a3 a5 a6 R w) : entry_Holds.M o1 a7 a0 a1 a8 aa ac a2 a4 a3 a5 a6 R w := by
  unfold entry_Holds.M
  unfold entry_Holds.N at h
  refine thenW_in fun ai ak => ?_
  have a9 := Blk.of_new ak
  have ao := ((Ext.refl no w)).size
  have ah := (Ext.refl no w).x_alloc ak
  refine ⟨a0, a1, a8, aa, ac, a2, a4, a3, a5, a6, ⟨a9.celli 0 rfl rfl, a9.celli 1 rfl rfl, a9.celli 2 rfl rfl, a9.celli 3 rfl rfl, a9.celli 4 rfl rfl, a9.celli 5 rfl rfl, a9.celli 6 rfl rfl, a9.celli 7 rfl rfl, trivial⟩, ?_⟩
  have h := h ai (w.heap.size) ah (Priv.cons ao a9.lt Priv.nil)
  refine h.mono fun an am h => ?_
  obtain ⟨ae, af, ad, ag, he, hk, h⟩ := h
  refine ⟨ae, af, ad, ag, he, ?_⟩
  have a9 := hk.blk a9 (by simp)
  refine bif_of (fun aj => ?_) (fun aj => ?_)
  · have h := h.1 (beq_t aj)
    refine ⟨a6, a9.celli 7 rfl rfl, ?_⟩
    refine h.mono fun al ap h => ?_
    obtain ⟨ab, he, h⟩ := h
    refine ⟨ab, he, ?_⟩
    exact h
  · have h := h.2 (beq_f aj)
    exact h

theorem entry_Holds.go (o1 : Option Addr) (a1 : Int) (a0 : Int) (a3 : Int) (a7 : Int) (a9 : Int) (aa : Int) (a4 : Int) (a2 : Option Addr) (a6 : Nat) (a5 : Nat) (a8 : Int) {R : Value → World → Prop} {w : World} (h : entry_Holds.N o1 a1 a0 a3 a7 a9 aa a4 a2 a6 a5 a8 R w) : Calls Try.prog 61 #[.pointer o1, .int .u64 a1, .agg #[.int .i64 a0, .int .i64 a3, .int .u64 a7, .int .i64 a9, .int .i64 aa, .int .i64 a4, .slice a2 a6 a5, .int .u64 a8]] w fun e w' => ∃ v, e = .returned v ∧ R v w' := entry_Holds.ok o1 a1 a0 a3 a7 a9 aa a4 a2 a6 a5 a8 (entry_Holds.up o1 a1 a0 a3 a7 a9 aa a4 a2 a6 a5 a8 h)
theorem entry_Holds.run (o1 : Option Addr) (a1 : Int) (a0 : Int) (a3 : Int) (a7 : Int) (a9 : Int) (aa : Int) (a4 : Int) (a2 : Option Addr) (a6 : Nat) (a5 : Nat) (a8 : Int) {V : Value} {Q : World → Prop} {w : World} (h : entry_Holds.N o1 a1 a0 a3 a7 a9 aa a4 a2 a6 a5 a8 (fun v w' => v = V ∧ Q w') w) : Calls Try.prog 61 #[.pointer o1, .int .u64 a1, .agg #[.int .i64 a0, .int .i64 a3, .int .u64 a7, .int .i64 a9, .int .i64 aa, .int .i64 a4, .slice a2 a6 a5, .int .u64 a8]] w (Ret V Q) := (entry_Holds.go o1 a1 a0 a3 a7 a9 aa a4 a2 a6 a5 a8 h).mono fun e w' ⟨v, he, hv, hq⟩ => ⟨by rw [he, hv], hq⟩

def sumE (S : OS) (e : Ent) : (Int × Int) × OS := if entRight e = true then (((hashOf S (bytesL e)).1, 0), (hashOf S (bytesL e)).2) else ((0, 1), S)
def signE (S : OS) (s : Int) (e : Ent) : (Ent × Int) × OS :=
  if entRight e = true then (if (signOf S s (textL e)).1.2 = true then (({ e with sg := (signOf S s (textL e)).1.1 }, 0), (signOf S s (textL e)).2) else ((Ent.zero, 11), (signOf S s (textL e)).2)) else ((Ent.zero, 1), S)
def holdsE (S : OS) (p : Int) (e : Ent) : Bool := entRight e && verifyOf S p (textL e) e.sg
section
variable {w w' : World} {o o' : Own} {k : Nat} {S : OS} {K : Nat → Prop}
theorem OwnB.tight {N : Nat} {a : Option Addr} {c : Nat} {l : List UInt8} (h : OwnB N w' a c l) (hN : w.heap.size ≤ N) : Row w' (grow w o) a (bytesV l) := Row.fresh h.row fun ad ha => Nat.le_trans hN (h.fr ad ha).1
theorem bClone_spec {a : Option Addr} {c : Nat} {bs : List UInt8} (h : RowAt w a (bytesV bs)) (hl : bs.length ≤ 1000000) :
    Calls Try.prog 56 #[.slice a bs.length c] w (fun e w' => ∃ a' c', e = .returned (.slice a' bs.length c') ∧ OwnB w.heap.size w' a' c' bs ∧ Ext no w w') := by
  refine (bytes_Clone.go _ _ _ (R := fun v w' => ∃ a' c', v = (.slice a' bs.length c') ∧ OwnB w.heap.size w' a' c' bs ∧ Ext no w w') ?_).mono fun e w' ⟨v, he, a, c, hv, hw⟩ => ⟨a, c, by rw [he, hv], hw⟩
  unfold bytes_Clone.N
  refine ⟨fun hn => ?_, fun hn w2 q X hb hq hq' => ?_⟩
  · subst hn
    have : bs = [] := by simpa [bytesV] using h.none_nil
    subst this
    exact ⟨none, 0, rfl, OwnB.nil _ _, Ext.refl _ _⟩
  · have hO : OwnB w.heap.size w2 (some (blk q)) 0 [] := ⟨owns_of_blk hb rfl (Nat.zero_le _), fun ad ha => by cases ha; exact ⟨hq, hq'⟩⟩
    obtain ⟨a', c', w', hr, hO', hx⟩ := hO.append (t := 43) (ty := 43) Try.underlying43 X.size (xc := c) (h.no X) (by simp; omega)
    rw [List.nil_append] at hr hO'
    exact ⟨a', _, c', w', hr, a', c', rfl, hO', X.then hx fun b hb => .inr hb⟩
theorem SumO (h : POrc w o k S) (ok : Tags w o) (hok : S.ok) (hlen : S.used.length < 1000000) {e : Ent} (hf : entRight e = true → e.fit) {ba : Option Addr} {bc : Nat} (hb : RowAt w ba (bytesV e.body)) :
    Calls Try.prog 30 #[.pointer (some (blk k)), entV e ba bc] w (Gs (fun j => j = k) w o (.tuple #[u64V (sumE S e).1.1, .int .i64 (sumE S e).1.2]) fun w' o' => POrc w' o' k (sumE S e).2) := by
  refine (entry_Sum.go (some (blk k)) e.w e.i e.pv e.t e.tw e.ep ba e.body.length bc e.sg (R := fun v w' => ∃ o', v = (.tuple #[u64V (sumE S e).1.1, .int .i64 (sumE S e).1.2]) ∧ Step (fun j => j = k) w o w' o' ∧ POrc w' o' k (sumE S e).2) ?_).mono fun x w' ⟨v, he, o', hv, hw⟩ => ⟨o', by rw [he, hv], hw⟩
  unfold entry_Sum.N
  intro w10 X10
  have s10 := Step.of_no X10 ok
  refine (EBytesK_spec hf (hb.no X10)).mono fun x w15 ⟨a, c, he, hO, X⟩ => ⟨_, _, _, _, he, ?_⟩
  have s15 := Step.of_no X s10.ok
  have s := s10.trans s15
  have h15 := h.step s id
  unfold bytesK sumE at *
  by_cases hr : entRight e = true
  · rw [if_pos hr] at hO ⊢
    rw [if_pos hr]
    refine ⟨fun h => absurd rfl h, fun _ => ⟨fun h => (by cases h), fun _ => ?_⟩⟩
    refine (HashO h15 s.ok hok hlen (OwnB.tight hO (Nat.le_refl _))).mono fun x w20 ⟨o20, he, s20, h20⟩ => ⟨_, he, o20, rfl, s.none.trans s20, h20⟩
  · rw [if_neg hr]
    rw [if_neg hr]
    exact ⟨fun _ => ⟨_, rfl, s.none, h15⟩, fun h => absurd h (by decide)⟩
theorem SignE (h : POrc w o k S) (ok : Tags w o) (hok : S.ok) (hlen : S.used.length < 1000000) (s : Int) {e : Ent} (hf : entRight e = true → e.fit) {ba : Option Addr} {bc : Nat} (hb : Row w o ba (bytesV e.body)) :
    Calls Try.prog 36 #[.pointer (some (blk k)), .int .u64 s, entV e ba bc] w (fun x w' => ∃ o' a' c', x = .returned (.tuple #[entV (signE S s e).1.1 a' c', .int .i64 (signE S s e).1.2]) ∧ Step (fun j => j = k) w o w' o' ∧ POrc w' o' k (signE S s e).2 ∧ Row w' o' a' (bytesV (signE S s e).1.1.body) ∧ (signE S s e).1.1.body.length ≤ c') := by
  refine (entry_Sign.go (some (blk k)) s e.w e.i e.pv e.t e.tw e.ep ba e.body.length bc e.sg (R := fun v w' => ∃ o' a' c', v = (.tuple #[entV (signE S s e).1.1 a' c', .int .i64 (signE S s e).1.2]) ∧ Step (fun j => j = k) w o w' o' ∧ POrc w' o' k (signE S s e).2 ∧ Row w' o' a' (bytesV (signE S s e).1.1.body) ∧ (signE S s e).1.1.body.length ≤ c') ?_).mono fun x w' ⟨v, he, o', a', c', hv, hw⟩ => ⟨o', a', c', by rw [he, hv], hw⟩
  unfold entry_Sign.N
  intro w12 p13 p14 X12 hp
  obtain ⟨hp1, hp2⟩ := hp.two
  obtain ⟨o12, s12, t13, t14⟩ := Step.priv2 X12 hp ok
  have hkl := h.lt
  refine (TextK_spec hf (hb.step s12).1).mono fun x w18 ⟨a, c, he, hO, X⟩ => ⟨_, _, _, _, he, X.kept, ?_⟩
  have s18' := Step.of_no X s12.ok
  have s18 := s12.trans s18'
  have t13 : grow w12 o12 p13 = some p13 := (s18'.own hp1.2).trans t13
  have t14 : grow w12 o12 p14 = some p14 := (s18'.own hp2.2).trans t14
  have h18 := h.step s18 id
  have l18 := X.size
  unfold textK signE at *
  by_cases hr : entRight e = true
  · rw [if_pos hr] at hO ⊢
    rw [if_pos hr]
    refine ⟨fun h => absurd rfl h, fun _ => ?_⟩
    refine (SignO h18 s18.ok hok hlen s (OwnB.tight hO (Nat.le_refl _))).mono fun x w31 ⟨o31, he, s31', h31⟩ => ⟨_, _, he, s31'.keep2 t13 (by omega) t14 (by omega), ?_⟩
    have s31 := s18.none.trans s31'
    have t13 := (s31'.own (by omega)).trans t13
    have t14 := (s31'.own (by omega)).trans t14
    have l31 := s31'.size
    cases hs : (signOf S s (textL e)).1.2
    · simp only [if_false, Bool.false_eq_true]
      refine ⟨fun _ w41 X41 => ?_, fun h => absurd h (by decide)⟩
      obtain ⟨o41, s41⟩ := Step.store2 X41 s31.ok t14 t13
      exact ⟨o41, none, 0, rfl, s31.trans' s41 fun j hj => .inr (by omega), h31.step s41 (by omega), Row.nil _ _ _, Nat.le_refl _⟩
    · simp only [if_true]
      refine ⟨fun h => absurd rfl h, fun _ w32 X32 => ?_⟩
      obtain ⟨o32, s32'⟩ := Step.store1 X32 s31.ok t13
      have s32 := s31.trans' s32' fun j hj => .inr (by omega)
      have hbl := ((entRight_iff _).1 hr).2.2.2.2.2.2.2.2.2.1
      have t13 := (s32'.own (by omega)).trans t13
      have t14 := (s32'.own (by omega)).trans t14
      have l32 := s32'.size
      refine (bClone_spec (hb.step s32).1 (by omega)).mono fun x w44 ⟨ca, cc, he, hO, X44⟩ => ⟨_, _, _, he, X44.kept, fun w53 X53 => ?_⟩
      have s44' := Step.of_no X44 s32.ok
      have s44 := s32.trans s44'.none
      have t13 := (s44'.own (by omega)).trans t13
      have t14 := (s44'.own (by omega)).trans t14
      obtain ⟨o53, s53⟩ := Step.store2 X53 s44.ok t14 t13
      exact ⟨o53, ca, cc, rfl, s44.trans' s53 fun j hj => .inr (by omega), ((h31.step s32' (by omega)).step s44' id).step s53 (by omega), (OwnB.tight hO (Nat.le_refl _)).step s53, hO.le⟩
  · rw [if_neg hr]
    rw [if_neg hr]
    refine ⟨fun _ w27 X27 => ?_, fun h => absurd h (by decide)⟩
    obtain ⟨o27, s27⟩ := Step.store1 X27 s18.ok t14
    exact ⟨o27, none, 0, rfl, s18.none.trans' s27 fun j hj => .inr (by omega), h18.step s27 (by omega), Row.nil _ _ _, Nat.le_refl _⟩
theorem HoldsO (h : POrc w o k S) (ok : Tags w o) (p : Int) {e : Ent} (hf : entRight e = true → e.fit) {ba : Option Addr} {bc : Nat} (hb : RowAt w ba (bytesV e.body)) :
    Calls Try.prog 61 #[.pointer (some (blk k)), .int .u64 p, entV e ba bc] w (Ret (.bool (holdsE S p e)) fun w' => Ext no w w') := by
  refine entry_Holds.run (some (blk k)) p e.w e.i e.pv e.t e.tw e.ep ba e.body.length bc e.sg ?_
  unfold entry_Holds.N
  intro w11 p12 X11 hp
  refine (TextK_spec hf (hb.no X11)).mono fun x w16 ⟨a, c, he, hO, X⟩ => ⟨_, _, _, _, he, X.kept, ?_⟩
  have s := (Step.of_no X11 ok).trans (Step.of_no X (Step.of_no X11 ok).ok)
  unfold textK holdsE at *
  by_cases hr : entRight e = true
  · rw [if_pos hr] at hO ⊢
    rw [hr, Bool.true_and]
    refine ⟨fun _ => ?_, fun h => absurd rfl h⟩
    exact (VerifyO (h.step s id) s.ok p e.sg (OwnB.tight hO (Nat.le_refl _))).mono fun x w20 ⟨he, X20⟩ => ⟨_, he, rfl, (X11.trans X).trans X20⟩
  · rw [if_neg hr]
    rw [show entRight e = false by simpa using hr, Bool.false_and]
    exact ⟨fun h => absurd h (by decide), fun _ => ⟨rfl, X11.trans X⟩⟩
end
end Go.Proofs.Ytdelmfpchbpafaa

/- A function's own blocks, each its own owner. -/
set_option linter.unusedSimpArgs false
set_option linter.unusedVariables false
set_option linter.unusedSectionVars false
namespace Go.Mx
section
variable {K K1 : Nat → Prop} {w w1 w' : World} {o o1 o' : Own} {p q j : Nat}
def Mine (L : List Nat) (w : World) (o : Own) : Prop := ∀ p ∈ L, p < w.heap.size ∧ o p = some p
theorem Mine.nil : Mine [] w o := fun p hp => by simp at hp
theorem Mine.step {L : List Nat} (h : Mine L w o) (s : Step K w o w' o') : Mine L w' o' := fun p hp => ⟨Nat.lt_of_lt_of_le (h p hp).1 s.size, by rw [s.own (h p hp).1]; exact (h p hp).2⟩
theorem Mine.keep {L : List Nat} (h : Mine L w o) (s : Step K w o w' o') (hk : ∀ p ∈ L, ¬ K p) : Keep L w w' := s.keep fun p hp _ k hk' => by
  rw [(h p hp).2] at hk'; cases hk'; exact hk p hp
theorem Mine.sub {L M : List Nat} (h : Mine L w o) (k : ∀ p ∈ M, p ∈ L) : Mine M w o := fun p hp => h p (k p hp)
theorem Mine.app {L M : List Nat} (h : Mine L w o) (k : Mine M w o) : Mine (L ++ M) w o := fun p hp => (List.mem_append.1 hp).elim (h p) (k p)
theorem Mine.lt {L : List Nat} (h : Mine L w o) {p : Nat} (hp : p ∈ L) : p < w.heap.size := (h p hp).1
def tags (w : World) (o : Own) (L : List Nat) : Own := fun b => if b < w.heap.size then o b else if b ∈ L then some b else none
theorem Step.priv {L : List Nat} (h : Ext no w w') (hp : Priv w w' L) (ok : Tags w o) : Step no w o w' (tags w o L) ∧ Mine L w' (tags w o L) := by
  refine ⟨⟨h.mono fun _ h _ => h.elim, fun b hb => if_pos hb, ok, fun b j hb hj => ?_⟩, fun p hq => ⟨(hp p hq).2, ?_⟩⟩
  · unfold tags at hj
    split at hj
    · rename_i hl; exact Nat.lt_of_lt_of_le (ok b j hl hj) h.size
    · split at hj
      · cases hj; exact hb
      · cases hj
  · unfold tags
    rw [if_neg (by have := (hp p hq).1; omega), if_pos hq]
/-- stores into blocks of one's own. -/
theorem Step.stores {L : List Nat} {m : Nat → Prop} (h : Ext m w w') (ok : Tags w o) (hL : Mine L w o) (hm : ∀ b, m b → b ∈ L) : Step (fun j => j ∈ L) w o w' (grow w o) :=
  Step.of_exts h ok fun b hb _ => ⟨b, (hL b (hm b hb)).2, hm b hb⟩
end
end Go.Mx

/- Entries in a row, and where their bytes lie. -/
set_option linter.unusedVariables false
set_option linter.unusedSimpArgs false
set_option maxRecDepth 20000
namespace Go.Proofs.Ytdelmfpchbpafaa
open Go Go.Mx Go.Proofs
/-- an entry, and where its bytes lie. -/
structure PE where
  e : Ent
  a : Option Addr
  c : Nat
def PE.C (x : PE) : List Value := entC x.e x.a x.c
def PE.ok (w : World) (o : Own) (x : PE) : Prop := Row w o x.a (bytesV x.e.body) ∧ x.e.body.length ≤ x.c ∧ x.e.fit
def PE.Cs (l : List PE) : List Value := l.flatMap PE.C
theorem PE.len (x : PE) : x.C.length = 8 := rfl
theorem PE.Cs_length (l : List PE) : (PE.Cs l).length = l.length * 8 := by
  induction l with
  | nil => rfl
  | cons x r ih => simp only [PE.Cs, List.flatMap_cons, List.length_append, List.length_cons] at ih ⊢; rw [ih, PE.len]; omega
theorem PE.Cs_get : ∀ {l : List PE} {i : Nat} {x : PE}, l[i]? = some x → ∀ j, j < 8 → (PE.Cs l)[i * 8 + j]? = x.C[j]?
  | [], i, x, hi, j, hj => by simp at hi
  | a :: r, 0, x, hi, j, hj => by
    simp only [List.getElem?_cons_zero, Option.some.injEq] at hi
    subst hi
    simp only [PE.Cs, List.flatMap_cons, Nat.zero_mul, Nat.zero_add]
    rw [List.getElem?_append_left (by rw [PE.len]; omega)]
  | a :: r, i + 1, x, hi, j, hj => by
    simp only [List.getElem?_cons_succ] at hi
    have := PE.Cs_get hi j hj
    simp only [PE.Cs, List.flatMap_cons] at this ⊢
    rw [List.getElem?_append_right (by rw [PE.len]; omega), show (i + 1) * 8 + j - a.C.length = i * 8 + j by rw [PE.len]; omega]
    exact this
theorem PE.one (x : PE) : ∀ u ∈ x.C, u.oneCell' = true := fun u hu => by
  simp only [PE.C, entC, List.mem_cons, List.not_mem_nil, or_false] at hu
  rcases hu with rfl | rfl | rfl | rfl | rfl | rfl | rfl | rfl <;> rfl
theorem PE.ok.step {w w' : World} {o o' : Own} {K : Nat → Prop} {x : PE} (h : x.ok w o) (s : Step K w o w' o') : x.ok w' o' := ⟨h.1.step s, h.2⟩
theorem PE.loads {w : World} {la : Option Addr} {ad : Addr} {l : List PE} (hr : RowAt w la (PE.Cs l)) (ha : la = some ad) {i : Nat} {x : PE} (hi : l[i]? = some x) : cellsAt w (ad.add (i * 8)) x.C 0 := by
  subst ha
  have h : ∀ j v, x.C[j]? = some v → w.cell? ((ad.add (i * 8)).add j) = some v := fun j v hv => by
    have hj : j < 8 := by have := (List.getElem?_eq_some_iff.1 hv).1; exact this
    rw [add_add]
    exact hr.at_ ((PE.Cs_get hi j hj).trans hv)
  exact ⟨h 0 _ rfl, h 1 _ rfl, h 2 _ rfl, h 3 _ rfl, h 4 _ rfl, h 5 _ rfl, h 6 _ rfl, h 7 _ rfl, trivial⟩
theorem PE.cell {w : World} {la : Option Addr} {ad : Addr} {l : List PE} (hr : RowAt w la (PE.Cs l)) (ha : la = some ad) {i : Nat} {x : PE} (hi : l[i]? = some x) {j : Nat} {v : Value} (hv : x.C[j]? = some v) : w.cell? ((ad.add (i * 8)).add j) = some v := by
  subst ha
  have hj : j < 8 := by have := (List.getElem?_eq_some_iff.1 hv).1; exact this
  rw [add_add]
  exact hr.at_ ((PE.Cs_get hi j hj).trans hv)
end Go.Proofs.Ytdelmfpchbpafaa

/- Chain: predicates. -/
set_option linter.unusedVariables false
set_option linter.unusedSimpArgs false
set_option maxRecDepth 20000
set_option maxHeartbeats 2000000
namespace Go.Proofs.Ytdelmfpchbpafaa
open Go Go.Mx Go.Proofs
open W (OwnB GivesW numR countR doneR zig unzig intR)
/-- chain.New -/
def chain_New.M (o1 : Option Addr) (a1 : Int) (a0 : Int) (R : Value → World → Prop) (w : World) : Prop :=
 bif decide (a1 < 0) then (
 R (.tuple #[.pointer none, .int .i64 1]) w) else (
 bif decide (a1 ≥ 8) then (
 R (.tuple #[.pointer none, .int .i64 1]) w) else (
 bif Option.isNone o1 then (
 R (.tuple #[.pointer none, .int .i64 23]) w) else (
 thenW (w.alloc (.cells #[.pointer o1, .int .i64 a1, .int .u64 a0, .slice none 0 0, .int .u64 0] 82)) fun a2 =>
 R (.tuple #[.pointer (some (blk w.heap.size)), .int .i64 0]) a2)))

theorem chain_New.eq (o1 : Option Addr) (wv2 : Int) (publicv3 : Int) (R : Value → World → Prop) (w : World) : mfunc Try.prog [] 10 [.pointer o1, .int .i64 wv2, .int .u64 publicv3] R w = chain_New.M o1 wv2 publicv3 R w := by kernel_rfl
theorem chain_New.ok (o1 : Option Addr) (a1 : Int) (a0 : Int) {R : Value → World → Prop} {w : World} (h : chain_New.M o1 a1 a0 R w) : Calls Try.prog 10 #[.pointer o1, .int .i64 a1, .int .u64 a0] w fun e w' => ∃ v, e = .returned v ∧ R v w' :=
  mfunc_ok follows (H := []) (args := [.pointer o1, .int .i64 a1, .int .u64 a0]) (by rw [chain_New.eq]; exact h)

def chain_New.N (o1 : Option Addr) (a1 : Int) (a0 : Int) (R : Value → World → Prop) (w : World) : Prop :=
 (a1 < 0 →
 R (.tuple #[.pointer none, .int .i64 1]) w) ∧
 ((0 : Int) ≤ a1 →
 (a1 ≥ 8 →
 R (.tuple #[.pointer none, .int .i64 1]) w) ∧
 (a1 < 8 →
 (o1 = none →
 R (.tuple #[.pointer none, .int .i64 23]) w) ∧
 (o1 ≠ none →
 ∀ (a2 : World) (q8 : Nat), Ext no w a2 → Blk a2 q8 82 [.pointer o1, .int .i64 a1, .int .u64 a0, .slice none 0 0, .int .u64 0] → w.heap.size ≤ q8 → q8 < a2.heap.size →
 R (.tuple #[.pointer (some (blk q8)), .int .i64 0]) a2)))

theorem chain_New.up (o1 : Option Addr) (a1 : Int) (a0 : Int) {R : Value → World → Prop} {w : World} (h : chain_New.N o1 a1 a0 R w) : chain_New.M o1 a1 a0 R w := by
  unfold chain_New.M
  unfold chain_New.N at h
  refine bif_of (fun c4 => ?_) (fun c4 => ?_)
  · have h := h.1 (of_decide_eq_true c4)
    exact h
  · have h := h.2 (Int.not_lt.1 (of_decide_eq_false c4))
    refine bif_of (fun c5 => ?_) (fun c5 => ?_)
    · have h := h.1 (of_decide_eq_true c5)
      exact h
    · have h := h.2 (Int.not_le.1 (of_decide_eq_false c5))
      refine bif_of (fun c6 => ?_) (fun c6 => ?_)
      · have h := h.1 (isNone_t c6)
        exact h
      · have h := h.2 (isNone_f c6)
        refine thenW_in fun a2 e7 => ?_
        have h := h a2 w.heap.size ((Ext.refl no w).x_alloc e7) (Blk.of_new e7) ((Ext.refl no w)).size (size_lt_alloc e7)
        exact h

theorem chain_New.go (o1 : Option Addr) (a1 : Int) (a0 : Int) {R : Value → World → Prop} {w : World} (h : chain_New.N o1 a1 a0 R w) : Calls Try.prog 10 #[.pointer o1, .int .i64 a1, .int .u64 a0] w fun e w' => ∃ v, e = .returned v ∧ R v w' := chain_New.ok o1 a1 a0 (chain_New.up o1 a1 a0 h)
/-- chain.own -/
def chain_own.M (ao : Int) (aw : Int) (b0 : Int) (b2 : Int) (bd : Int) (au : Int) (ax : Option Addr) (av : Nat) (ay : Nat) (b3 : Int) (R : Value → World → Prop) (w : World) : Prop :=
 thenW (w.alloc (.cells #[.int .i64 ao, .int .i64 aw, .int .u64 b0, .int .i64 b2, .int .i64 bd, .int .i64 au, .slice ax av ay, .int .u64 b3] 47)) fun a8 =>
 thenW (a8.alloc (.cells #[.int .i64 0, .int .i64 0, .int .u64 0, .int .i64 0, .int .i64 0, .int .i64 0, .slice none 0 0, .int .u64 0] 47)) fun b5 =>
 ∃ (ak : Option Addr) (al : Nat) (an : Nat), b5.cell? ((blk w.heap.size).add 6) = some (.slice ak al an) ∧
 Calls Try.prog 68 #[.slice ak al an] b5 fun be ba => ∃ (ah : Option Addr) (ae : Nat) (aj : Nat), be = .returned (.slice ah ae aj) ∧
 canStore ba (((blk w.heap.size).add 6).add 0) ∧
 thenW (ba.setCell (((blk w.heap.size).add 6).add 0) (.slice ah ae aj)) fun az =>
 ∃ (a6 : Int) (af : Int) (am : Int) (aq : Int) (ap : Int) (aa : Int) (ag : Option Addr) (ad : Nat) (ai : Nat) (ar : Int), cellsAt az (blk w.heap.size) [.int .i64 a6, .int .i64 af, .int .u64 am, .int .i64 aq, .int .i64 ap, .int .i64 aa, .slice ag ad ai, .int .u64 ar] 0 ∧
 canStore az ((blk a8.heap.size).add 0) ∧
 thenW (az.setCell ((blk a8.heap.size).add 0) (.int .i64 a6)) fun b7 =>
 canStore b7 ((blk a8.heap.size).add 1) ∧
 thenW (b7.setCell ((blk a8.heap.size).add 1) (.int .i64 af)) fun b1 =>
 canStore b1 ((blk a8.heap.size).add 2) ∧
 thenW (b1.setCell ((blk a8.heap.size).add 2) (.int .u64 am)) fun b8 =>
 canStore b8 ((blk a8.heap.size).add 3) ∧
 thenW (b8.setCell ((blk a8.heap.size).add 3) (.int .i64 aq)) fun bc =>
 canStore bc ((blk a8.heap.size).add 4) ∧
 thenW (bc.setCell ((blk a8.heap.size).add 4) (.int .i64 ap)) fun b9 =>
 canStore b9 ((blk a8.heap.size).add 5) ∧
 thenW (b9.setCell ((blk a8.heap.size).add 5) (.int .i64 aa)) fun b6 =>
 canStore b6 ((blk a8.heap.size).add 6) ∧
 thenW (b6.setCell ((blk a8.heap.size).add 6) (.slice ag ad ai)) fun bb =>
 canStore bb ((blk a8.heap.size).add 7) ∧
 thenW (bb.setCell ((blk a8.heap.size).add 7) (.int .u64 ar)) fun b4 =>
 ∃ (a0 : Int) (a4 : Int) (a7 : Int) (ab : Int) (a9 : Int) (a5 : Int) (a3 : Option Addr) (a1 : Nat) (a2 : Nat) (ac : Int), cellsAt b4 (blk a8.heap.size) [.int .i64 a0, .int .i64 a4, .int .u64 a7, .int .i64 ab, .int .i64 a9, .int .i64 a5, .slice a3 a1 a2, .int .u64 ac] 0 ∧
 R (.agg #[.int .i64 a0, .int .i64 a4, .int .u64 a7, .int .i64 ab, .int .i64 a9, .int .i64 a5, .slice a3 a1 a2, .int .u64 ac]) b4

theorem chain_own.eq (eWriter1 : Int) (eIndex2 : Int) (ePrev3 : Int) (eAtT4 : Int) (eAtW5 : Int) (eEpoch6 : Int) (eBody7a : Option Addr) (eBody7n : Nat) (eBody7c : Nat) (eSig8 : Int) (R : Value → World → Prop) (w : World) : mfunc Try.prog [] 50 [.agg #[.int .i64 eWriter1, .int .i64 eIndex2, .int .u64 ePrev3, .int .i64 eAtT4, .int .i64 eAtW5, .int .i64 eEpoch6, .slice eBody7a eBody7n eBody7c, .int .u64 eSig8]] R w = chain_own.M eWriter1 eIndex2 ePrev3 eAtT4 eAtW5 eEpoch6 eBody7a eBody7n eBody7c eSig8 R w := by kernel_rfl
theorem chain_own.ok (a0 : Int) (a3 : Int) (a6 : Int) (a7 : Int) (a9 : Int) (a1 : Int) (a4 : Option Addr) (a2 : Nat) (a5 : Nat) (a8 : Int) {R : Value → World → Prop} {w : World} (h : chain_own.M a0 a3 a6 a7 a9 a1 a4 a2 a5 a8 R w) : Calls Try.prog 50 #[.agg #[.int .i64 a0, .int .i64 a3, .int .u64 a6, .int .i64 a7, .int .i64 a9, .int .i64 a1, .slice a4 a2 a5, .int .u64 a8]] w fun e w' => ∃ v, e = .returned v ∧ R v w' :=
  mfunc_ok follows (H := []) (args := [.agg #[.int .i64 a0, .int .i64 a3, .int .u64 a6, .int .i64 a7, .int .i64 a9, .int .i64 a1, .slice a4 a2 a5, .int .u64 a8]]) (by rw [chain_own.eq]; exact h)

def chain_own.N (a3 : Int) (a6 : Int) (aa : Int) (ac : Int) (af : Int) (a4 : Int) (a7 : Option Addr) (a5 : Nat) (a9 : Nat) (ad : Int) (R : Value → World → Prop) (w : World) : Prop :=
 ∀ (a8 : World) (ai : Nat) (ag : Nat), Ext no w a8 → Priv w a8 [ai, ag] →
 Calls Try.prog 68 #[.slice a7 a5 a9] a8 fun ah ab => ∃ (a2 : Option Addr) (a0 : Nat) (a1 : Nat), ah = .returned (.slice a2 a0 a1) ∧
 Keep [ai, ag] a8 ab ∧
 ∀ (ae : World), Ext (fun b => b = ag ∨ b = ai) ab ae →
 R (.agg #[.int .i64 a3, .int .i64 a6, .int .u64 aa, .int .i64 ac, .int .i64 af, .int .i64 a4, .slice a2 a0 a1, .int .u64 ad]) ae

theorem chain_own.up (a0 : Int) (a1 : Int) (a2 : Int) (a8 : Int) (a9 : Int) (a3 : Int) (ac : Option Addr) (ab : Nat) (ad : Nat) (aa : Int) {R : Value → World → Prop} {w : World} (h : chain_own.N a0 a1 a2 a8 a9 a3 ac ab ad aa R w) : chain_own.M a0 a1 a2 a8 a9 a3 ac ab ad aa R w := by
  unfold chain_own.M
  unfold chain_own.N at h
  refine thenW_in fun ae e9 => ?_
  have af := Blk.of_new e9
  have bh := ((Ext.refl no w)).size
  have ba := (Ext.refl no w).x_alloc e9
  refine thenW_in fun aw ax => ?_
  have a7 := Blk.of_new ax
  have bj := (ba).size
  have aj := Nat.ne_of_lt af.lt
  have af := af.x_alloc ax
  have b2 := ba.x_alloc ax
  refine ⟨ac, ab, ad, af.celli 6 rfl rfl, ?_⟩
  have h := h aw (w.heap.size) (ae.heap.size) b2 (Priv.cons bh af.lt (Priv.cons bj a7.lt Priv.nil))
  refine h.mono fun bi ag h => ?_
  obtain ⟨a6, a4, a5, he, hk, h⟩ := h
  refine ⟨a6, a4, a5, he, ?_⟩
  have af := hk.blk af (by simp)
  have a7 := hk.blk a7 (by simp)
  have ay : Ext (fun b => b = w.heap.size) ag ag := ((Ext.refl no ag)).none
  refine ⟨af.cani 6 rfl rfl, thenW_in fun ah av => ?_⟩
  have ak := ay.x_set (q := w.heap.size) (i := 6) rfl (.inl rfl) av
  have af : Blk ah w.heap.size 47 [.int .i64 a0, .int .i64 a1, .int .u64 a2, .int .i64 a8, .int .i64 a9, .int .i64 a3, .slice a6 a4 a5, .int .u64 aa] := af.seti 6 rfl av
  have a7 := a7.oth (q := w.heap.size) (i := 6) rfl (Ne.symm aj) av
  refine ⟨a0, a1, a2, a8, a9, a3, a6, a4, a5, aa, ⟨af.celli 0 rfl rfl, af.celli 1 rfl rfl, af.celli 2 rfl rfl, af.celli 3 rfl rfl, af.celli 4 rfl rfl, af.celli 5 rfl rfl, af.celli 6 rfl rfl, af.celli 7 rfl rfl, trivial⟩, ?_⟩
  have ao : Ext (fun b => b = ae.heap.size ∨ b = w.heap.size) ag ah := (ak).mono fun _ h _ => .inr h
  refine ⟨a7.cani 0 rfl rfl, thenW_in fun b0 bb => ?_⟩
  have an := ao.x_set (q := ae.heap.size) (i := 0) rfl (.inl (.inl rfl)) bb
  have a7 : Blk b0 ae.heap.size 47 [.int .i64 a0, .int .i64 0, .int .u64 0, .int .i64 0, .int .i64 0, .int .i64 0, .slice none 0 0, .int .u64 0] := a7.seti 0 rfl bb
  refine ⟨a7.cani 1 rfl rfl, thenW_in fun ap b8 => ?_⟩
  have am := an.x_set (q := ae.heap.size) (i := 1) rfl (.inl (.inl rfl)) b8
  have a7 : Blk ap ae.heap.size 47 [.int .i64 a0, .int .i64 a1, .int .u64 0, .int .i64 0, .int .i64 0, .int .i64 0, .slice none 0 0, .int .u64 0] := a7.seti 1 rfl b8
  refine ⟨a7.cani 2 rfl rfl, thenW_in fun b4 be => ?_⟩
  have al := am.x_set (q := ae.heap.size) (i := 2) rfl (.inl (.inl rfl)) be
  have a7 : Blk b4 ae.heap.size 47 [.int .i64 a0, .int .i64 a1, .int .u64 a2, .int .i64 0, .int .i64 0, .int .i64 0, .slice none 0 0, .int .u64 0] := a7.seti 2 rfl be
  refine ⟨a7.cani 3 rfl rfl, thenW_in fun b3 bd => ?_⟩
  have aq := al.x_set (q := ae.heap.size) (i := 3) rfl (.inl (.inl rfl)) bd
  have a7 : Blk b3 ae.heap.size 47 [.int .i64 a0, .int .i64 a1, .int .u64 a2, .int .i64 a8, .int .i64 0, .int .i64 0, .slice none 0 0, .int .u64 0] := a7.seti 3 rfl bd
  refine ⟨a7.cani 4 rfl rfl, thenW_in fun b7 bg => ?_⟩
  have b1 := aq.x_set (q := ae.heap.size) (i := 4) rfl (.inl (.inl rfl)) bg
  have a7 : Blk b7 ae.heap.size 47 [.int .i64 a0, .int .i64 a1, .int .u64 a2, .int .i64 a8, .int .i64 a9, .int .i64 0, .slice none 0 0, .int .u64 0] := a7.seti 4 rfl bg
  refine ⟨a7.cani 5 rfl rfl, thenW_in fun b6 bf => ?_⟩
  have au := b1.x_set (q := ae.heap.size) (i := 5) rfl (.inl (.inl rfl)) bf
  have a7 : Blk b6 ae.heap.size 47 [.int .i64 a0, .int .i64 a1, .int .u64 a2, .int .i64 a8, .int .i64 a9, .int .i64 a3, .slice none 0 0, .int .u64 0] := a7.seti 5 rfl bf
  refine ⟨a7.cani 6 rfl rfl, thenW_in fun az bc => ?_⟩
  have b5 := au.x_set (q := ae.heap.size) (i := 6) rfl (.inl (.inl rfl)) bc
  have a7 : Blk az ae.heap.size 47 [.int .i64 a0, .int .i64 a1, .int .u64 a2, .int .i64 a8, .int .i64 a9, .int .i64 a3, .slice a6 a4 a5, .int .u64 0] := a7.seti 6 rfl bc
  refine ⟨a7.cani 7 rfl rfl, thenW_in fun ai b9 => ?_⟩
  have ar := b5.x_set (q := ae.heap.size) (i := 7) rfl (.inl (.inl rfl)) b9
  have a7 : Blk ai ae.heap.size 47 [.int .i64 a0, .int .i64 a1, .int .u64 a2, .int .i64 a8, .int .i64 a9, .int .i64 a3, .slice a6 a4 a5, .int .u64 aa] := a7.seti 7 rfl b9
  refine ⟨a0, a1, a2, a8, a9, a3, a6, a4, a5, aa, ⟨a7.celli 0 rfl rfl, a7.celli 1 rfl rfl, a7.celli 2 rfl rfl, a7.celli 3 rfl rfl, a7.celli 4 rfl rfl, a7.celli 5 rfl rfl, a7.celli 6 rfl rfl, a7.celli 7 rfl rfl, trivial⟩, ?_⟩
  have h := h ai ar
  exact h

theorem chain_own.go (a0 : Int) (a3 : Int) (a6 : Int) (a7 : Int) (a9 : Int) (a1 : Int) (a4 : Option Addr) (a2 : Nat) (a5 : Nat) (a8 : Int) {R : Value → World → Prop} {w : World} (h : chain_own.N a0 a3 a6 a7 a9 a1 a4 a2 a5 a8 R w) : Calls Try.prog 50 #[.agg #[.int .i64 a0, .int .i64 a3, .int .u64 a6, .int .i64 a7, .int .i64 a9, .int .i64 a1, .slice a4 a2 a5, .int .u64 a8]] w fun e w' => ∃ v, e = .returned v ∧ R v w' := chain_own.ok a0 a3 a6 a7 a9 a1 a4 a2 a5 a8 (chain_own.up a0 a3 a6 a7 a9 a1 a4 a2 a5 a8 h)
/-- (*chain.Log).Len -/
def chain_Log_Len.M (l1 : Option Addr) (R : Value → World → Prop) (w : World) : Prop :=
 bif Option.isNone l1 then (
 R (.int .i64 0) w) else (
 l1.elim False fun a2 =>
 ∃ (a1 : Option Addr) (a0 : Nat) (a3 : Nat), w.cell? (a2.add 3) = some (.slice a1 a0 a3) ∧
 R (.int .i64 (a0 : Int)) w)

theorem chain_Log_Len.eq (l1 : Option Addr) (R : Value → World → Prop) (w : World) : mfunc Try.prog [] 31 [.pointer l1] R w = chain_Log_Len.M l1 R w := by kernel_rfl
theorem chain_Log_Len.ok (l1 : Option Addr) {R : Value → World → Prop} {w : World} (h : chain_Log_Len.M l1 R w) : Calls Try.prog 31 #[.pointer l1] w fun e w' => ∃ v, e = .returned v ∧ R v w' :=
  mfunc_ok follows (H := []) (args := [.pointer l1]) (by rw [chain_Log_Len.eq]; exact h)

def chain_Log_Len.N (l1 : Option Addr) (R : Value → World → Prop) (w : World) : Prop :=
 (l1 = none →
 R (.int .i64 0) w) ∧
 (l1 ≠ none →
 ∃ a3 : Addr, l1 = some a3 ∧
 ∃ (a1 : Option Addr) (a0 : Nat) (a2 : Nat), w.cell? (a3.add 3) = some (.slice a1 a0 a2) ∧
 R (.int .i64 (a0 : Int)) w)

theorem chain_Log_Len.up (l1 : Option Addr) {R : Value → World → Prop} {w : World} (h : chain_Log_Len.N l1 R w) : chain_Log_Len.M l1 R w := by
  unfold chain_Log_Len.M
  unfold chain_Log_Len.N at h
  refine bif_of (fun c2 => ?_) (fun c2 => ?_)
  · have h := h.1 (isNone_t c2)
    exact h
  · have h := h.2 (isNone_f c2)
    obtain ⟨a3, a5, h⟩ := h
    refine elim_some a5 ?_
    obtain ⟨a1, a0, a4, a2, h⟩ := h
    refine ⟨a1, a0, a4, a2, ?_⟩
    exact h

theorem chain_Log_Len.go (l1 : Option Addr) {R : Value → World → Prop} {w : World} (h : chain_Log_Len.N l1 R w) : Calls Try.prog 31 #[.pointer l1] w fun e w' => ∃ v, e = .returned v ∧ R v w' := chain_Log_Len.ok l1 (chain_Log_Len.up l1 h)
theorem chain_Log_Len.run (l1 : Option Addr) {V : Value} {Q : World → Prop} {w : World} (h : chain_Log_Len.N l1 (fun v w' => v = V ∧ Q w') w) : Calls Try.prog 31 #[.pointer l1] w (Ret V Q) := (chain_Log_Len.go l1 h).mono fun e w' ⟨v, he, hv, hq⟩ => ⟨by rw [he, hv], hq⟩

/-- (*chain.Log).Head -/
def chain_Log_Head.M (l1 : Option Addr) (R : Value → World → Prop) (w : World) : Prop :=
 thenW (w.alloc (.cells #[.int .i64 0, .int .i64 0, .int .u64 0] 65)) fun ad =>
 bif Option.isNone l1 then (
 canStore ad ((blk w.heap.size).add 0) ∧
 thenW (ad.setCell ((blk w.heap.size).add 0) (.int .i64 0)) fun ai =>
 canStore ai ((blk w.heap.size).add 1) ∧
 thenW (ai.setCell ((blk w.heap.size).add 1) (.int .i64 0)) fun ah =>
 canStore ah ((blk w.heap.size).add 2) ∧
 thenW (ah.setCell ((blk w.heap.size).add 2) (.int .u64 0)) fun ag =>
 ∃ (a1 : Int) (a4 : Int) (a5 : Int), cellsAt ag (blk w.heap.size) [.int .i64 a1, .int .i64 a4, .int .u64 a5] 0 ∧
 R (.agg #[.int .i64 a1, .int .i64 a4, .int .u64 a5]) ag) else (
 thenW (ad.drew) fun ab =>
 l1.elim False fun aj =>
 ∃ (aa : Int), ab.cell? (aj.add 1) = some (.int .i64 aa) ∧
 l1.elim False fun al =>
 ∃ (af : Option Addr) (a8 : Nat) (ae : Nat), ab.cell? (al.add 3) = some (.slice af a8 ae) ∧
 l1.elim False fun ak =>
 ∃ (a6 : Int), ab.cell? (ak.add 4) = some (.int .u64 a6) ∧
 canStore ab ((blk w.heap.size).add 0) ∧
 thenW (ab.setCell ((blk w.heap.size).add 0) (.int .i64 aa)) fun a9 =>
 canStore a9 ((blk w.heap.size).add 1) ∧
 thenW (a9.setCell ((blk w.heap.size).add 1) (.int .i64 (a8 : Int))) fun ac =>
 canStore ac ((blk w.heap.size).add 2) ∧
 thenW (ac.setCell ((blk w.heap.size).add 2) (.int .u64 a6)) fun a7 =>
 ∃ (a0 : Int) (a3 : Int) (a2 : Int), cellsAt a7 (blk w.heap.size) [.int .i64 a0, .int .i64 a3, .int .u64 a2] 0 ∧
 R (.agg #[.int .i64 a0, .int .i64 a3, .int .u64 a2]) a7)

theorem chain_Log_Head.eq (l1 : Option Addr) (R : Value → World → Prop) (w : World) : mfunc Try.prog [] 25 [.pointer l1] R w = chain_Log_Head.M l1 R w := by kernel_rfl
theorem chain_Log_Head.ok (l1 : Option Addr) {R : Value → World → Prop} {w : World} (h : chain_Log_Head.M l1 R w) : Calls Try.prog 25 #[.pointer l1] w fun e w' => ∃ v, e = .returned v ∧ R v w' :=
  mfunc_ok follows (H := []) (args := [.pointer l1]) (by rw [chain_Log_Head.eq]; exact h)

def chain_Log_Head.N (l1 : Option Addr) (R : Value → World → Prop) (w : World) : Prop :=
 (l1 = none →
 ∀ (a6 : World), Ext no w a6 →
 R (.agg #[.int .i64 0, .int .i64 0, .int .u64 0]) a6) ∧
 (l1 ≠ none →
 ∃ a9 : Addr, l1 = some a9 ∧
 ∃ (a2 : Int), w.cell? (a9.add 1) = some (.int .i64 a2) ∧
 ∃ (a5 : Option Addr) (a3 : Nat) (a4 : Nat), w.cell? (a9.add 3) = some (.slice a5 a3 a4) ∧
 ∃ (a0 : Int), w.cell? (a9.add 4) = some (.int .u64 a0) ∧
 ∀ (a1 : World), Ext no w a1 →
 R (.agg #[.int .i64 a2, .int .i64 (a3 : Int), .int .u64 a0]) a1)

theorem chain_Log_Head.up (l1 : Option Addr) {R : Value → World → Prop} {w : World} (h : chain_Log_Head.N l1 R w) : chain_Log_Head.M l1 R w := by
  unfold chain_Log_Head.M
  unfold chain_Log_Head.N at h
  refine thenW_in fun au e2 => ?_
  have a0 := Blk.of_new e2
  have a2 := ((Ext.refl no w)).size
  have ah := (Ext.refl no w).x_alloc e2
  refine bif_of (fun c3 => ?_) (fun c3 => ?_)
  · have h := h.1 (isNone_t c3)
    refine ⟨a0.cani 0 rfl rfl, thenW_in fun aw e4 => ?_⟩
    have al := ah.x_set (q := w.heap.size) (i := 0) rfl (.inr a2) e4
    have a0 := a0.seti 0 rfl e4
    refine ⟨a0.cani 1 rfl rfl, thenW_in fun av e5 => ?_⟩
    have ao := al.x_set (q := w.heap.size) (i := 1) rfl (.inr a2) e5
    have a0 := a0.seti 1 rfl e5
    refine ⟨a0.cani 2 rfl rfl, thenW_in fun aq e6 => ?_⟩
    have an := ao.x_set (q := w.heap.size) (i := 2) rfl (.inr a2) e6
    have a0 := a0.seti 2 rfl e6
    refine ⟨0, 0, 0, ⟨a0.celli 0 rfl rfl, a0.celli 1 rfl rfl, a0.celli 2 rfl rfl, trivial⟩, ?_⟩
    have h := h aq an
    exact h
  · have h := h.2 (isNone_f c3)
    refine thenW_in fun ar e8 => ?_
    have a5 := ah.x_drew e8
    have a0 := a0.x_drew e8
    obtain ⟨a9, ae, h⟩ := h
    refine elim_some ae ?_
    obtain ⟨a4, af, h⟩ := h
    refine ⟨a4, (a5).cell af id, ?_⟩
    refine elim_some ae ?_
    obtain ⟨ag, a3, ab, ad, h⟩ := h
    refine ⟨ag, a3, ab, (a5).cell ad id, ?_⟩
    refine elim_some ae ?_
    obtain ⟨a1, ac, h⟩ := h
    refine ⟨a1, (a5).cell ac id, ?_⟩
    refine ⟨a0.cani 0 rfl rfl, thenW_in fun am ak => ?_⟩
    have a6 := a5.x_set (q := w.heap.size) (i := 0) rfl (.inr a2) ak
    have a0 := a0.seti 0 rfl ak
    refine ⟨a0.cani 1 rfl rfl, thenW_in fun ap aj => ?_⟩
    have a8 := a6.x_set (q := w.heap.size) (i := 1) rfl (.inr a2) aj
    have a0 := a0.seti 1 rfl aj
    refine ⟨a0.cani 2 rfl rfl, thenW_in fun aa ai => ?_⟩
    have a7 := a8.x_set (q := w.heap.size) (i := 2) rfl (.inr a2) ai
    have a0 := a0.seti 2 rfl ai
    refine ⟨a4, (a3 : Int), a1, ⟨a0.celli 0 rfl rfl, a0.celli 1 rfl rfl, a0.celli 2 rfl rfl, trivial⟩, ?_⟩
    have h := h aa a7
    exact h

theorem chain_Log_Head.go (l1 : Option Addr) {R : Value → World → Prop} {w : World} (h : chain_Log_Head.N l1 R w) : Calls Try.prog 25 #[.pointer l1] w fun e w' => ∃ v, e = .returned v ∧ R v w' := chain_Log_Head.ok l1 (chain_Log_Head.up l1 h)
theorem chain_Log_Head.run (l1 : Option Addr) {V : Value} {Q : World → Prop} {w : World} (h : chain_Log_Head.N l1 (fun v w' => v = V ∧ Q w') w) : Calls Try.prog 25 #[.pointer l1] w (Ret V Q) := (chain_Log_Head.go l1 h).mono fun e w' ⟨v, he, hv, hq⟩ => ⟨by rw [he, hv], hq⟩

/-- (*chain.Log).All -/
def chain_Log_All.M (l1 : Option Addr) (R : Value → World → Prop) (w : World) : Prop :=
 bif Option.isNone l1 then (
 R (.slice none 0 0) w) else (
 l1.elim False fun a2 =>
 ∃ (bj : Option Addr) (bh : Nat) (bl : Nat), w.cell? (a2.add 3) = some (.slice bj bh bl) ∧
 ∃ (I0 : Nat → List Value → World → Prop) (m6 : Nat), I0 m6 [.slice none 0 0, .int .i64 0] w ∧ ∀ (m7 : Nat) (a0 : World) (ag : Option Addr) (ai : Nat) (ah : Nat) (t5 : Int), I0 m7 [.slice ag ai ah, .int .i64 t5] a0 →
 bif decide (t5 < (bh : Int)) then (
 bj.elim False fun a9 =>
 0 ≤ (t5 : Int) ∧ (t5 : Int) < (bh : Int) ∧
 ∃ (a1 : Int) (aa : Int) (al : Int) (ax : Int) (aw : Int) (ac : Int) (a7 : Option Addr) (a4 : Nat) (a5 : Nat) (aq : Int), cellsAt a0 (a9.add (Int.toNat t5 * 8)) [.int .i64 a1, .int .i64 aa, .int .u64 al, .int .i64 ax, .int .i64 aw, .int .i64 ac, .slice a7 a4 a5, .int .u64 aq] 0 ∧
 thenW (a0.alloc (.cells #[.int .i64 0, .int .i64 0, .int .u64 0, .int .i64 0, .int .i64 0, .int .i64 0, .slice none 0 0, .int .u64 0] 47)) fun b3 =>
 canStore b3 ((blk a0.heap.size).add 0) ∧
 thenW (b3.setCell ((blk a0.heap.size).add 0) (.int .i64 a1)) fun bf =>
 canStore bf ((blk a0.heap.size).add 1) ∧
 thenW (bf.setCell ((blk a0.heap.size).add 1) (.int .i64 aa)) fun bc =>
 canStore bc ((blk a0.heap.size).add 2) ∧
 thenW (bc.setCell ((blk a0.heap.size).add 2) (.int .u64 al)) fun bb =>
 canStore bb ((blk a0.heap.size).add 3) ∧
 thenW (bb.setCell ((blk a0.heap.size).add 3) (.int .i64 ax)) fun bd =>
 canStore bd ((blk a0.heap.size).add 4) ∧
 thenW (bd.setCell ((blk a0.heap.size).add 4) (.int .i64 aw)) fun b9 =>
 canStore b9 ((blk a0.heap.size).add 5) ∧
 thenW (b9.setCell ((blk a0.heap.size).add 5) (.int .i64 ac)) fun b8 =>
 canStore b8 ((blk a0.heap.size).add 6) ∧
 thenW (b8.setCell ((blk a0.heap.size).add 6) (.slice a7 a4 a5)) fun b2 =>
 canStore b2 ((blk a0.heap.size).add 7) ∧
 thenW (b2.setCell ((blk a0.heap.size).add 7) (.int .u64 aq)) fun ba =>
 ∃ (a3 : Int) (ab : Int) (ap : Int) (ar : Int) (ay : Int) (a6 : Int) (ad : Option Addr) (ae : Nat) (af : Nat) (au : Int), cellsAt ba (blk a0.heap.size) [.int .i64 a3, .int .i64 ab, .int .u64 ap, .int .i64 ar, .int .i64 ay, .int .i64 a6, .slice ad ae af, .int .u64 au] 0 ∧
 Calls Try.prog 50 #[.agg #[.int .i64 a3, .int .i64 ab, .int .u64 ap, .int .i64 ar, .int .i64 ay, .int .i64 a6, .slice ad ae af, .int .u64 au]] ba fun bi b4 => ∃ (a8 : Int) (am : Int) (av : Int) (az : Int) (b1 : Int) (ao : Int) (an : Option Addr) (aj : Nat) (ak : Nat) (b0 : Int), bi = .returned (.agg #[.int .i64 a8, .int .i64 am, .int .u64 av, .int .i64 az, .int .i64 b1, .int .i64 ao, .slice an aj ak, .int .u64 b0]) ∧
 thenW (b4.alloc (.cells #[.int .i64 a8, .int .i64 am, .int .u64 av, .int .i64 az, .int .i64 b1, .int .i64 ao, .slice an aj ak, .int .u64 b0] 47)) fun bg =>
 ∃ (b5 : Option Addr) (b7 : Nat) (b6 : Nat) (be : World), (Builtin.append_ #[40, 40] 40 #[.slice ag ai ah, .slice (some (blk b4.heap.size)) 1 1]).run Try.prog bg = .ok (.slice b5 b7 b6) be ∧
 ∃ bk, bk < m7 ∧ I0 bk [.slice b5 b7 b6, .int .i64 (IntKind.i64.wrap (t5 + 1))] be) else (
 R (.slice ag ai ah) a0))

theorem chain_Log_All.eq (l1 : Option Addr) (R : Value → World → Prop) (w : World) : mfunc Try.prog [(0, [10, 11], [(2, (.one .slice)), (12, (.one (.int .i64)))])] 33 [.pointer l1] R w = chain_Log_All.M l1 R w := by kernel_rfl
theorem chain_Log_All.ok (l1 : Option Addr) {R : Value → World → Prop} {w : World} (h : chain_Log_All.M l1 R w) : Calls Try.prog 33 #[.pointer l1] w fun e w' => ∃ v, e = .returned v ∧ R v w' :=
  mfunc_ok follows (H := [(0, [10, 11], [(2, (.one .slice)), (12, (.one (.int .i64)))])]) (args := [.pointer l1]) (by rw [chain_Log_All.eq]; exact h)

def chain_Log_All.N (l1 : Option Addr) (R : Value → World → Prop) (w : World) : Prop :=
 (l1 = none →
 R (.slice none 0 0) w) ∧
 (l1 ≠ none →
 ∃ a3 : Addr, l1 = some a3 ∧
 ∃ (b1 : Option Addr) (az : Nat) (b4 : Nat), w.cell? (a3.add 3) = some (.slice b1 az b4) ∧
 ∃ (I0 : Nat → List Value → World → Prop) (m8 : Nat), I0 m8 [.slice none 0 0, .int .i64 0] w ∧ ∀ (m9 : Nat) (al : World) (a8 : Option Addr) (aa : Nat) (a9 : Nat) (t7 : Int), I0 m9 [.slice a8 aa a9, .int .i64 t7] al →
 (t7 < (az : Int) →
 ∃ b2 : Addr, b1 = some b2 ∧
 0 ≤ (t7 : Int) ∧ (t7 : Int) < (az : Int) ∧
 ∃ (a0 : Int) (a1 : Int) (ac : Int) (ah : Int) (ak : Int) (a4 : Int) (a5 : Option Addr) (a2 : Nat) (a6 : Nat) (aj : Int), cellsAt al (b2.add (Int.toNat t7 * 8)) [.int .i64 a0, .int .i64 a1, .int .u64 ac, .int .i64 ah, .int .i64 ak, .int .i64 a4, .slice a5 a2 a6, .int .u64 aj] 0 ∧
 ∀ (ax : World), Ext no al ax →
 Calls Try.prog 50 #[.agg #[.int .i64 a0, .int .i64 a1, .int .u64 ac, .int .i64 ah, .int .i64 ak, .int .i64 a4, .slice a5 a2 a6, .int .u64 aj]] ax fun b0 ar => ∃ (a7 : Int) (ad : Int) (ai : Int) (ap : Int) (an : Int) (af : Int) (ag : Option Addr) (ae : Nat) (ab : Nat) (ao : Int), b0 = .returned (.agg #[.int .i64 a7, .int .i64 ad, .int .u64 ai, .int .i64 ap, .int .i64 an, .int .i64 af, .slice ag ae ab, .int .u64 ao]) ∧
 ∀ (am : World) (ay : Nat), Ext no ar am → Blk am ay 47 [.int .i64 a7, .int .i64 ad, .int .u64 ai, .int .i64 ap, .int .i64 an, .int .i64 af, .slice ag ae ab, .int .u64 ao] → ar.heap.size ≤ ay → ay < am.heap.size →
 ∃ (au : Option Addr) (aw : Nat) (av : Nat) (aq : World), (Builtin.append_ #[40, 40] 40 #[.slice a8 aa a9, .slice (some (blk ay)) 1 1]).run Try.prog am = .ok (.slice au aw av) aq ∧
 (-9223372036854775808 : Int) ≤ (t7 + 1) ∧ (t7 + 1) < 9223372036854775808 ∧
 ∃ b3, b3 < m9 ∧ I0 b3 [.slice au aw av, .int .i64 (t7 + 1)] aq) ∧
 ((az : Int) ≤ t7 →
 R (.slice a8 aa a9) al))

theorem chain_Log_All.up (l1 : Option Addr) {R : Value → World → Prop} {w : World} (h : chain_Log_All.N l1 R w) : chain_Log_All.M l1 R w := by
  unfold chain_Log_All.M
  unfold chain_Log_All.N at h
  refine bif_of (fun c2 => ?_) (fun c2 => ?_)
  · have h := h.1 (isNone_t c2)
    exact h
  · have h := h.2 (isNone_f c2)
    obtain ⟨a3, c0, h⟩ := h
    refine elim_some c0 ?_
    obtain ⟨c3, c4, bx, bw, h⟩ := h
    refine ⟨c3, c4, bx, bw, ?_⟩
    obtain ⟨I0, m8, h0, h⟩ := h
    refine ⟨I0, m8, h0, fun m9 a4 al an am t7 hI => ?_⟩
    have h := h m9 a4 al an am t7 hI
    refine bif_of (fun bg => ?_) (fun bg => ?_)
    · have h := h.1 (of_decide_eq_true bg)
      obtain ⟨c7, b4, h⟩ := h
      refine elim_some b4 ?_
      obtain ⟨bt, bz, h⟩ := h
      refine ⟨bt, bz, ?_⟩
      obtain ⟨a0, a1, a2, a7, ab, a5, a9, a8, aa, ac, b1, h⟩ := h
      refine ⟨a0, a1, a2, a7, ab, a5, a9, a8, aa, ac, b1, ?_⟩
      refine thenW_in fun c1 br => ?_
      have a6 := Blk.of_new br
      have aj := ((Ext.refl no a4)).size
      have b6 := (Ext.refl no a4).x_alloc br
      refine ⟨a6.cani 0 rfl rfl, thenW_in fun bb bs => ?_⟩
      have bh := b6.x_set (q := a4.heap.size) (i := 0) rfl (.inr aj) bs
      have a6 : Blk bb a4.heap.size 47 [.int .i64 a0, .int .i64 0, .int .u64 0, .int .i64 0, .int .i64 0, .int .i64 0, .slice none 0 0, .int .u64 0] := a6.seti 0 rfl bs
      refine ⟨a6.cani 1 rfl rfl, thenW_in fun ba bl => ?_⟩
      have b2 := bh.x_set (q := a4.heap.size) (i := 1) rfl (.inr aj) bl
      have a6 : Blk ba a4.heap.size 47 [.int .i64 a0, .int .i64 a1, .int .u64 0, .int .i64 0, .int .i64 0, .int .i64 0, .slice none 0 0, .int .u64 0] := a6.seti 1 rfl bl
      refine ⟨a6.cani 2 rfl rfl, thenW_in fun aw bn => ?_⟩
      have bj := b2.x_set (q := a4.heap.size) (i := 2) rfl (.inr aj) bn
      have a6 : Blk aw a4.heap.size 47 [.int .i64 a0, .int .i64 a1, .int .u64 a2, .int .i64 0, .int .i64 0, .int .i64 0, .slice none 0 0, .int .u64 0] := a6.seti 2 rfl bn
      refine ⟨a6.cani 3 rfl rfl, thenW_in fun bc bm => ?_⟩
      have b3 := bj.x_set (q := a4.heap.size) (i := 3) rfl (.inr aj) bm
      have a6 : Blk bc a4.heap.size 47 [.int .i64 a0, .int .i64 a1, .int .u64 a2, .int .i64 a7, .int .i64 0, .int .i64 0, .slice none 0 0, .int .u64 0] := a6.seti 3 rfl bm
      refine ⟨a6.cani 4 rfl rfl, thenW_in fun ay bo => ?_⟩
      have b7 := b3.x_set (q := a4.heap.size) (i := 4) rfl (.inr aj) bo
      have a6 : Blk ay a4.heap.size 47 [.int .i64 a0, .int .i64 a1, .int .u64 a2, .int .i64 a7, .int .i64 ab, .int .i64 0, .slice none 0 0, .int .u64 0] := a6.seti 4 rfl bo
      refine ⟨a6.cani 5 rfl rfl, thenW_in fun bf bk => ?_⟩
      have b9 := b7.x_set (q := a4.heap.size) (i := 5) rfl (.inr aj) bk
      have a6 : Blk bf a4.heap.size 47 [.int .i64 a0, .int .i64 a1, .int .u64 a2, .int .i64 a7, .int .i64 ab, .int .i64 a5, .slice none 0 0, .int .u64 0] := a6.seti 5 rfl bk
      refine ⟨a6.cani 6 rfl rfl, thenW_in fun b8 bq => ?_⟩
      have ax := b9.x_set (q := a4.heap.size) (i := 6) rfl (.inr aj) bq
      have a6 : Blk b8 a4.heap.size 47 [.int .i64 a0, .int .i64 a1, .int .u64 a2, .int .i64 a7, .int .i64 ab, .int .i64 a5, .slice a9 a8 aa, .int .u64 0] := a6.seti 6 rfl bq
      refine ⟨a6.cani 7 rfl rfl, thenW_in fun au bp => ?_⟩
      have bi := ax.x_set (q := a4.heap.size) (i := 7) rfl (.inr aj) bp
      have a6 : Blk au a4.heap.size 47 [.int .i64 a0, .int .i64 a1, .int .u64 a2, .int .i64 a7, .int .i64 ab, .int .i64 a5, .slice a9 a8 aa, .int .u64 ac] := a6.seti 7 rfl bp
      refine ⟨a0, a1, a2, a7, ab, a5, a9, a8, aa, ac, ⟨a6.celli 0 rfl rfl, a6.celli 1 rfl rfl, a6.celli 2 rfl rfl, a6.celli 3 rfl rfl, a6.celli 4 rfl rfl, a6.celli 5 rfl rfl, a6.celli 6 rfl rfl, a6.celli 7 rfl rfl, trivial⟩, ?_⟩
      have h := h au bi
      refine h.mono fun c5 ak h => ?_
      obtain ⟨ad, af, ao, ar, ap, ah, ai, ag, ae, aq, he, h⟩ := h
      refine ⟨ad, af, ao, ar, ap, ah, ai, ag, ae, aq, he, ?_⟩
      refine thenW_in fun bd b0 => ?_
      have h := h bd ak.heap.size ((Ext.refl no ak).x_alloc b0) (Blk.of_new b0) ((Ext.refl no ak)).size (size_lt_alloc b0)
      obtain ⟨az, be, b5, av, hr, h⟩ := h
      refine ⟨az, be, b5, av, hr, ?_⟩
      obtain ⟨bu, bv, h⟩ := h
      try rw [w64 bu bv]
      obtain ⟨c6, hk, h⟩ := h
      exact ⟨c6, hk, h⟩
    · have h := h.2 (Int.not_lt.1 (of_decide_eq_false bg))
      exact h

theorem chain_Log_All.go (l1 : Option Addr) {R : Value → World → Prop} {w : World} (h : chain_Log_All.N l1 R w) : Calls Try.prog 33 #[.pointer l1] w fun e w' => ∃ v, e = .returned v ∧ R v w' := chain_Log_All.ok l1 (chain_Log_All.up l1 h)
/-- (*chain.Log).right -/
def chain_Log_right.M (l1 : Option Addr) (an : Int) (ap : Int) (ay : Int) (b2 : Int) (az : Int) (aq : Int) (ar : Option Addr) (av : Nat) (aw : Nat) (b3 : Int) (R : Value → World → Prop) (w : World) : Prop :=
 thenW (w.alloc (.cells #[.int .i64 an, .int .i64 ap, .int .u64 ay, .int .i64 b2, .int .i64 az, .int .i64 aq, .slice ar av aw, .int .u64 b3] 47)) fun b1 =>
 ∃ (a1 : Int) (a3 : Int) (af : Int) (aj : Int) (al : Int) (a4 : Int) (a9 : Option Addr) (ac : Nat) (aa : Nat) (ai : Int), cellsAt b1 (blk w.heap.size) [.int .i64 a1, .int .i64 a3, .int .u64 af, .int .i64 aj, .int .i64 al, .int .i64 a4, .slice a9 ac aa, .int .u64 ai] 0 ∧
 Calls Try.prog 34 #[.agg #[.int .i64 a1, .int .i64 a3, .int .u64 af, .int .i64 aj, .int .i64 al, .int .i64 a4, .slice a9 ac aa, .int .u64 ai]] b1 fun b6 b5 => ∃ (ae : Bool), b6 = .returned (.bool ae) ∧
 bif !ae then (
 R (.int .i64 1) b5) else (
 thenW (b5.drew) fun ax =>
 ∃ (ad : Int), ax.cell? ((blk w.heap.size).add 0) = some (.int .i64 ad) ∧
 l1.elim False fun bb =>
 ∃ (b4 : Int), ax.cell? (bb.add 1) = some (.int .i64 b4) ∧
 bif ad != b4 then (
 R (.int .i64 20) ax) else (
 thenW (ax.drew) fun au =>
 l1.elim False fun ba =>
 ∃ (b8 : Option Addr), au.cell? (ba.add 0) = some (.pointer b8) ∧
 l1.elim False fun b9 =>
 ∃ (a0 : Int), au.cell? (b9.add 2) = some (.int .u64 a0) ∧
 ∃ (a2 : Int) (ab : Int) (ag : Int) (ao : Int) (ak : Int) (a5 : Int) (a7 : Option Addr) (a6 : Nat) (a8 : Nat) (am : Int), cellsAt au (blk w.heap.size) [.int .i64 a2, .int .i64 ab, .int .u64 ag, .int .i64 ao, .int .i64 ak, .int .i64 a5, .slice a7 a6 a8, .int .u64 am] 0 ∧
 Calls Try.prog 61 #[.pointer b8, .int .u64 a0, .agg #[.int .i64 a2, .int .i64 ab, .int .u64 ag, .int .i64 ao, .int .i64 ak, .int .i64 a5, .slice a7 a6 a8, .int .u64 am]] au fun b7 b0 => ∃ (ah : Bool), b7 = .returned (.bool ah) ∧
 bif !ah then (
 R (.int .i64 6) b0) else (
 R (.int .i64 0) b0)))

theorem chain_Log_right.eq (l1 : Option Addr) (eWriter2 : Int) (eIndex3 : Int) (ePrev4 : Int) (eAtT5 : Int) (eAtW6 : Int) (eEpoch7 : Int) (eBody8a : Option Addr) (eBody8n : Nat) (eBody8c : Nat) (eSig9 : Int) (R : Value → World → Prop) (w : World) : mfunc Try.prog [] 42 [.pointer l1, .agg #[.int .i64 eWriter2, .int .i64 eIndex3, .int .u64 ePrev4, .int .i64 eAtT5, .int .i64 eAtW6, .int .i64 eEpoch7, .slice eBody8a eBody8n eBody8c, .int .u64 eSig9]] R w = chain_Log_right.M l1 eWriter2 eIndex3 ePrev4 eAtT5 eAtW6 eEpoch7 eBody8a eBody8n eBody8c eSig9 R w := by kernel_rfl
theorem chain_Log_right.ok (l1 : Option Addr) (a0 : Int) (a1 : Int) (a6 : Int) (a7 : Int) (a8 : Int) (a2 : Int) (a4 : Option Addr) (a3 : Nat) (a5 : Nat) (a9 : Int) {R : Value → World → Prop} {w : World} (h : chain_Log_right.M l1 a0 a1 a6 a7 a8 a2 a4 a3 a5 a9 R w) : Calls Try.prog 42 #[.pointer l1, .agg #[.int .i64 a0, .int .i64 a1, .int .u64 a6, .int .i64 a7, .int .i64 a8, .int .i64 a2, .slice a4 a3 a5, .int .u64 a9]] w fun e w' => ∃ v, e = .returned v ∧ R v w' :=
  mfunc_ok follows (H := []) (args := [.pointer l1, .agg #[.int .i64 a0, .int .i64 a1, .int .u64 a6, .int .i64 a7, .int .i64 a8, .int .i64 a2, .slice a4 a3 a5, .int .u64 a9]]) (by rw [chain_Log_right.eq]; exact h)

def chain_Log_right.N (l1 : Option Addr) (a0 : Int) (a2 : Int) (a8 : Int) (aa : Int) (a9 : Int) (a3 : Int) (a4 : Option Addr) (a5 : Nat) (a7 : Nat) (ab : Int) (R : Value → World → Prop) (w : World) : Prop :=
 ((entry_Right.F a0 a2 a8 aa a9 a3 a4 a5 a7 ab) = false →
 ∀ (ad : World), Ext no w ad →
 R (.int .i64 1) ad) ∧
 ((entry_Right.F a0 a2 a8 aa a9 a3 a4 a5 a7 ab) = true →
 ∃ ah : Addr, l1 = some ah ∧
 ∃ (ac : Int), w.cell? (ah.add 1) = some (.int .i64 ac) ∧
 (a0 ≠ ac →
 ∀ (af : World), Ext no w af →
 R (.int .i64 20) af) ∧
 (a0 = ac →
 ∃ (aj : Option Addr), w.cell? (ah.add 0) = some (.pointer aj) ∧
 ∃ (a1 : Int), w.cell? (ah.add 2) = some (.int .u64 a1) ∧
 ∀ (ag : World), Ext no w ag →
 Calls Try.prog 61 #[.pointer aj, .int .u64 a1, .agg #[.int .i64 a0, .int .i64 a2, .int .u64 a8, .int .i64 aa, .int .i64 a9, .int .i64 a3, .slice a4 a5 a7, .int .u64 ab]] ag fun ai ae => ∃ (a6 : Bool), ai = .returned (.bool a6) ∧
 (a6 = false →
 R (.int .i64 6) ae) ∧
 (a6 = true →
 R (.int .i64 0) ae)))

theorem chain_Log_right.up (l1 : Option Addr) (a0 : Int) (a1 : Int) (a6 : Int) (a9 : Int) (a8 : Int) (a2 : Int) (a3 : Option Addr) (a4 : Nat) (a5 : Nat) (aa : Int) {R : Value → World → Prop} {w : World} (h : chain_Log_right.N l1 a0 a1 a6 a9 a8 a2 a3 a4 a5 aa R w) : chain_Log_right.M l1 a0 a1 a6 a9 a8 a2 a3 a4 a5 aa R w := by
  unfold chain_Log_right.M
  unfold chain_Log_right.N at h
  refine thenW_in fun aw ar => ?_
  have a7 := Blk.of_new ar
  have b1 := ((Ext.refl no w)).size
  have am := (Ext.refl no w).x_alloc ar
  refine ⟨a0, a1, a6, a9, a8, a2, a3, a4, a5, aa, ⟨a7.celli 0 rfl rfl, a7.celli 1 rfl rfl, a7.celli 2 rfl rfl, a7.celli 3 rfl rfl, a7.celli 4 rfl rfl, a7.celli 5 rfl rfl, a7.celli 6 rfl rfl, a7.celli 7 rfl rfl, trivial⟩, ?_⟩
  refine (entry_Right.pure a0 a1 a6 a9 a8 a2 a3 a4 a5 aa).mono fun ee ww11 ⟨he, hxx⟩ => ⟨(entry_Right.F a0 a1 a6 a9 a8 a2 a3 a4 a5 aa), he, ?_⟩
  have ag := am.trans hxx
  have a7 := a7.ext hxx id
  refine bif_of (fun al => ?_) (fun al => ?_)
  · have h := h.1 (not_t al)
    have h := h ww11 ag
    exact h
  · have h := h.2 (not_f al)
    refine thenW_in fun an av => ?_
    have ae := ag.x_drew av
    have a7 := a7.x_drew av
    refine ⟨a0, a7.celli 0 rfl rfl, ?_⟩
    obtain ⟨b0, af, h⟩ := h
    refine elim_some af ?_
    obtain ⟨ap, aj, h⟩ := h
    refine ⟨ap, (ae).cell aj id, ?_⟩
    refine bif_of (fun ah => ?_) (fun ah => ?_)
    · have h := h.1 (bne_t ah)
      have h := h an ae
      exact h
    · have h := h.2 (bne_f ah)
      refine thenW_in fun ao au => ?_
      have ad := ae.x_drew au
      have a7 := a7.x_drew au
      refine elim_some af ?_
      obtain ⟨az, ak, h⟩ := h
      refine ⟨az, (ad).cell ak id, ?_⟩
      refine elim_some af ?_
      obtain ⟨ab, ai, h⟩ := h
      refine ⟨ab, (ad).cell ai id, ?_⟩
      refine ⟨a0, a1, a6, a9, a8, a2, a3, a4, a5, aa, ⟨a7.celli 0 rfl rfl, a7.celli 1 rfl rfl, a7.celli 2 rfl rfl, a7.celli 3 rfl rfl, a7.celli 4 rfl rfl, a7.celli 5 rfl rfl, a7.celli 6 rfl rfl, a7.celli 7 rfl rfl, trivial⟩, ?_⟩
      have h := h ao ad
      refine h.mono fun ax ay h => ?_
      obtain ⟨ac, he, h⟩ := h
      refine ⟨ac, he, ?_⟩
      refine bif_of (fun aq => ?_) (fun aq => ?_)
      · have h := h.1 (not_t aq)
        exact h
      · have h := h.2 (not_f aq)
        exact h

theorem chain_Log_right.go (l1 : Option Addr) (a0 : Int) (a1 : Int) (a6 : Int) (a7 : Int) (a8 : Int) (a2 : Int) (a4 : Option Addr) (a3 : Nat) (a5 : Nat) (a9 : Int) {R : Value → World → Prop} {w : World} (h : chain_Log_right.N l1 a0 a1 a6 a7 a8 a2 a4 a3 a5 a9 R w) : Calls Try.prog 42 #[.pointer l1, .agg #[.int .i64 a0, .int .i64 a1, .int .u64 a6, .int .i64 a7, .int .i64 a8, .int .i64 a2, .slice a4 a3 a5, .int .u64 a9]] w fun e w' => ∃ v, e = .returned v ∧ R v w' := chain_Log_right.ok l1 a0 a1 a6 a7 a8 a2 a4 a3 a5 a9 (chain_Log_right.up l1 a0 a1 a6 a7 a8 a2 a4 a3 a5 a9 h)
theorem chain_Log_right.run (l1 : Option Addr) (a0 : Int) (a1 : Int) (a6 : Int) (a7 : Int) (a8 : Int) (a2 : Int) (a4 : Option Addr) (a3 : Nat) (a5 : Nat) (a9 : Int) {V : Value} {Q : World → Prop} {w : World} (h : chain_Log_right.N l1 a0 a1 a6 a7 a8 a2 a4 a3 a5 a9 (fun v w' => v = V ∧ Q w') w) : Calls Try.prog 42 #[.pointer l1, .agg #[.int .i64 a0, .int .i64 a1, .int .u64 a6, .int .i64 a7, .int .i64 a8, .int .i64 a2, .slice a4 a3 a5, .int .u64 a9]] w (Ret V Q) := (chain_Log_right.go l1 a0 a1 a6 a7 a8 a2 a4 a3 a5 a9 h).mono fun e w' ⟨v, he, hv, hq⟩ => ⟨by rw [he, hv], hq⟩

/-- (*chain.Log).place -/
def chain_Log_place.M (l1 : Option Addr) (ao : Int) (ar : Int) (ay : Int) (b2 : Int) (b0 : Int) (au : Int) (av : Option Addr) (aw : Nat) (ax : Nat) (b4 : Int) (R : Value → World → Prop) (w : World) : Prop :=
 thenW (w.alloc (.cells #[.int .i64 ao, .int .i64 ar, .int .u64 ay, .int .i64 b2, .int .i64 b0, .int .i64 au, .slice av aw ax, .int .u64 b4] 47)) fun ah =>
 l1.elim False fun bc =>
 ∃ (b6 : Option Addr) (az : Nat) (b8 : Nat), ah.cell? (bc.add 3) = some (.slice b6 az b8) ∧
 ∃ (af : Int), ah.cell? ((blk w.heap.size).add 1) = some (.int .i64 af) ∧
 bif decide (af > (az : Int)) then (
 R (.int .i64 7) ah) else (
 ∃ (ad : Int), ah.cell? ((blk w.heap.size).add 1) = some (.int .i64 ad) ∧
 bif ad == (az : Int) then (
 R (.int .i64 0) ah) else (
 thenW (ah.drew) fun ai =>
 l1.elim False fun ba =>
 ∃ (b5 : Option Addr) (b3 : Nat) (b9 : Nat), ai.cell? (ba.add 3) = some (.slice b5 b3 b9) ∧
 ∃ (a0 : Int), ai.cell? ((blk w.heap.size).add 1) = some (.int .i64 a0) ∧
 b5.elim False fun bb =>
 0 ≤ (a0 : Int) ∧ (a0 : Int) < (b3 : Int) ∧
 ∃ (a2 : Int) (a9 : Int) (ae : Int) (al : Int) (ap : Int) (a5 : Int) (a6 : Option Addr) (aa : Nat) (ab : Nat) (am : Int), cellsAt ai (bb.add (Int.toNat a0 * 8)) [.int .i64 a2, .int .i64 a9, .int .u64 ae, .int .i64 al, .int .i64 ap, .int .i64 a5, .slice a6 aa ab, .int .u64 am] 0 ∧
 ∃ (a1 : Int) (a3 : Int) (ag : Int) (ak : Int) (an : Int) (ac : Int) (a4 : Option Addr) (a8 : Nat) (a7 : Nat) (aq : Int), cellsAt ai (blk w.heap.size) [.int .i64 a1, .int .i64 a3, .int .u64 ag, .int .i64 ak, .int .i64 an, .int .i64 ac, .slice a4 a8 a7, .int .u64 aq] 0 ∧
 Calls Try.prog 62 #[.agg #[.int .i64 a2, .int .i64 a9, .int .u64 ae, .int .i64 al, .int .i64 ap, .int .i64 a5, .slice a6 aa ab, .int .u64 am], .agg #[.int .i64 a1, .int .i64 a3, .int .u64 ag, .int .i64 ak, .int .i64 an, .int .i64 ac, .slice a4 a8 a7, .int .u64 aq]] ai fun b7 b1 => ∃ (aj : Bool), b7 = .returned (.bool aj) ∧
 bif aj then (
 R (.int .i64 8) b1) else (
 R (.int .i64 9) b1)))

theorem chain_Log_place.eq (l1 : Option Addr) (eWriter2 : Int) (eIndex3 : Int) (ePrev4 : Int) (eAtT5 : Int) (eAtW6 : Int) (eEpoch7 : Int) (eBody8a : Option Addr) (eBody8n : Nat) (eBody8c : Nat) (eSig9 : Int) (R : Value → World → Prop) (w : World) : mfunc Try.prog [] 43 [.pointer l1, .agg #[.int .i64 eWriter2, .int .i64 eIndex3, .int .u64 ePrev4, .int .i64 eAtT5, .int .i64 eAtW6, .int .i64 eEpoch7, .slice eBody8a eBody8n eBody8c, .int .u64 eSig9]] R w = chain_Log_place.M l1 eWriter2 eIndex3 ePrev4 eAtT5 eAtW6 eEpoch7 eBody8a eBody8n eBody8c eSig9 R w := by kernel_rfl
theorem chain_Log_place.ok (l1 : Option Addr) (a0 : Int) (a1 : Int) (a6 : Int) (a7 : Int) (a8 : Int) (a2 : Int) (a4 : Option Addr) (a3 : Nat) (a5 : Nat) (a9 : Int) {R : Value → World → Prop} {w : World} (h : chain_Log_place.M l1 a0 a1 a6 a7 a8 a2 a4 a3 a5 a9 R w) : Calls Try.prog 43 #[.pointer l1, .agg #[.int .i64 a0, .int .i64 a1, .int .u64 a6, .int .i64 a7, .int .i64 a8, .int .i64 a2, .slice a4 a3 a5, .int .u64 a9]] w fun e w' => ∃ v, e = .returned v ∧ R v w' :=
  mfunc_ok follows (H := []) (args := [.pointer l1, .agg #[.int .i64 a0, .int .i64 a1, .int .u64 a6, .int .i64 a7, .int .i64 a8, .int .i64 a2, .slice a4 a3 a5, .int .u64 a9]]) (by rw [chain_Log_place.eq]; exact h)

def chain_Log_place.N (l1 : Option Addr) (ad : Int) (a0 : Int) (aj : Int) (an : Int) (ak : Int) (af : Int) (ag : Option Addr) (ah : Nat) (ai : Nat) (ap : Int) (R : Value → World → Prop) (w : World) : Prop :=
 ∃ aw : Addr, l1 = some aw ∧
 ∃ (ax : Option Addr) (a9 : Nat) (au : Nat), w.cell? (aw.add 3) = some (.slice ax a9 au) ∧
 (a0 > (a9 : Int) →
 ∀ (ac : World), Ext no w ac →
 R (.int .i64 7) ac) ∧
 (a0 ≤ (a9 : Int) →
 (a0 = (a9 : Int) →
 ∀ (ac : World), Ext no w ac →
 R (.int .i64 0) ac) ∧
 (a0 ≠ (a9 : Int) →
 ∃ (ao : Option Addr) (aq : Nat) (ar : Nat), w.cell? (aw.add 3) = some (.slice ao aq ar) ∧
 ∃ ay : Addr, ao = some ay ∧
 0 ≤ (a0 : Int) ∧ (a0 : Int) < (aq : Int) ∧
 ∃ (a1 : Int) (a6 : Int) (a8 : Int) (ab : Int) (ae : Int) (a5 : Int) (a2 : Option Addr) (a4 : Nat) (a3 : Nat) (aa : Int), cellsAt w (ay.add (Int.toNat a0 * 8)) [.int .i64 a1, .int .i64 a6, .int .u64 a8, .int .i64 ab, .int .i64 ae, .int .i64 a5, .slice a2 a4 a3, .int .u64 aa] 0 ∧
 ∀ (am : World), Ext no w am →
 Calls Try.prog 62 #[.agg #[.int .i64 a1, .int .i64 a6, .int .u64 a8, .int .i64 ab, .int .i64 ae, .int .i64 a5, .slice a2 a4 a3, .int .u64 aa], .agg #[.int .i64 ad, .int .i64 a0, .int .u64 aj, .int .i64 an, .int .i64 ak, .int .i64 af, .slice ag ah ai, .int .u64 ap]] am fun av al => ∃ (a7 : Bool), av = .returned (.bool a7) ∧
 (a7 = true →
 R (.int .i64 8) al) ∧
 (a7 = false →
 R (.int .i64 9) al)))

theorem chain_Log_place.up (l1 : Option Addr) (a1 : Int) (a0 : Int) (a6 : Int) (ab : Int) (a9 : Int) (a2 : Int) (a3 : Option Addr) (a4 : Nat) (a5 : Nat) (ad : Int) {R : Value → World → Prop} {w : World} (h : chain_Log_place.N l1 a1 a0 a6 ab a9 a2 a3 a4 a5 ad R w) : chain_Log_place.M l1 a1 a0 a6 ab a9 a2 a3 a4 a5 ad R w := by
  unfold chain_Log_place.M
  unfold chain_Log_place.N at h
  refine thenW_in fun ap b7 => ?_
  have a8 := Blk.of_new b7
  have bc := ((Ext.refl no w)).size
  have ai := (Ext.refl no w).x_alloc b7
  obtain ⟨bd, ao, h⟩ := h
  refine elim_some ao ?_
  obtain ⟨b5, aw, av, ax, h⟩ := h
  refine ⟨b5, aw, av, (ai).cell ax id, ?_⟩
  refine ⟨a0, a8.celli 1 rfl rfl, ?_⟩
  refine bif_of (fun ay => ?_) (fun ay => ?_)
  · have h := h.1 (of_decide_eq_true ay)
    have h := h ap ai
    exact h
  · have h := h.2 (Int.not_lt.1 (of_decide_eq_false ay))
    refine ⟨a0, a8.celli 1 rfl rfl, ?_⟩
    refine bif_of (fun b1 => ?_) (fun b1 => ?_)
    · have h := h.1 (beq_t b1)
      have h := h ap ai
      exact h
    · have h := h.2 (beq_f b1)
      refine thenW_in fun au b6 => ?_
      have aj := ai.x_drew b6
      have a8 := a8.x_drew b6
      refine elim_some ao ?_
      obtain ⟨b0, b2, aq, ar, h⟩ := h
      refine ⟨b0, b2, aq, (aj).cell ar id, ?_⟩
      refine ⟨a0, a8.celli 1 rfl rfl, ?_⟩
      obtain ⟨be, az, h⟩ := h
      refine elim_some az ?_
      obtain ⟨b8, ba, h⟩ := h
      refine ⟨b8, ba, ?_⟩
      obtain ⟨a7, ag, ah, al, an, af, aa, ae, ac, ak, b3, h⟩ := h
      refine ⟨a7, ag, ah, al, an, af, aa, ae, ac, ak, cellsAt_no (aj) b3, ?_⟩
      refine ⟨a1, a0, a6, ab, a9, a2, a3, a4, a5, ad, ⟨a8.celli 0 rfl rfl, a8.celli 1 rfl rfl, a8.celli 2 rfl rfl, a8.celli 3 rfl rfl, a8.celli 4 rfl rfl, a8.celli 5 rfl rfl, a8.celli 6 rfl rfl, a8.celli 7 rfl rfl, trivial⟩, ?_⟩
      have h := h au aj
      refine h.mono fun bb b9 h => ?_
      obtain ⟨am, he, h⟩ := h
      refine ⟨am, he, ?_⟩
      refine bif_of (fun b4 => ?_) (fun b4 => ?_)
      · have h := h.1 b4
        exact h
      · have h := h.2 b4
        exact h

theorem chain_Log_place.go (l1 : Option Addr) (a0 : Int) (a1 : Int) (a6 : Int) (a7 : Int) (a8 : Int) (a2 : Int) (a4 : Option Addr) (a3 : Nat) (a5 : Nat) (a9 : Int) {R : Value → World → Prop} {w : World} (h : chain_Log_place.N l1 a0 a1 a6 a7 a8 a2 a4 a3 a5 a9 R w) : Calls Try.prog 43 #[.pointer l1, .agg #[.int .i64 a0, .int .i64 a1, .int .u64 a6, .int .i64 a7, .int .i64 a8, .int .i64 a2, .slice a4 a3 a5, .int .u64 a9]] w fun e w' => ∃ v, e = .returned v ∧ R v w' := chain_Log_place.ok l1 a0 a1 a6 a7 a8 a2 a4 a3 a5 a9 (chain_Log_place.up l1 a0 a1 a6 a7 a8 a2 a4 a3 a5 a9 h)
theorem chain_Log_place.run (l1 : Option Addr) (a0 : Int) (a1 : Int) (a6 : Int) (a7 : Int) (a8 : Int) (a2 : Int) (a4 : Option Addr) (a3 : Nat) (a5 : Nat) (a9 : Int) {V : Value} {Q : World → Prop} {w : World} (h : chain_Log_place.N l1 a0 a1 a6 a7 a8 a2 a4 a3 a5 a9 (fun v w' => v = V ∧ Q w') w) : Calls Try.prog 43 #[.pointer l1, .agg #[.int .i64 a0, .int .i64 a1, .int .u64 a6, .int .i64 a7, .int .i64 a8, .int .i64 a2, .slice a4 a3 a5, .int .u64 a9]] w (Ret V Q) := (chain_Log_place.go l1 a0 a1 a6 a7 a8 a2 a4 a3 a5 a9 h).mono fun e w' ⟨v, he, hv, hq⟩ => ⟨by rw [he, hv], hq⟩

/-- (*chain.Log).behind -/
def chain_Log_behind.M (l1 : Option Addr) (a3 : Int) (a5 : Int) (ag : Int) (ak : Int) (ah : Int) (a6 : Int) (a8 : Option Addr) (a9 : Nat) (aa : Nat) (al : Int) (R : Value → World → Prop) (w : World) : Prop :=
 thenW (w.alloc (.cells #[.int .i64 a3, .int .i64 a5, .int .u64 ag, .int .i64 ak, .int .i64 ah, .int .i64 a6, .slice a8 a9 aa, .int .u64 al] 47)) fun aj =>
 l1.elim False fun aw =>
 ∃ (ap : Option Addr) (a2 : Nat) (aq : Nat), aj.cell? (aw.add 3) = some (.slice ap a2 aq) ∧
 thenW (aj.drew) fun a7 =>
 ∃ (a0 : Int), a7.cell? ((blk w.heap.size).add 2) = some (.int .u64 a0) ∧
 l1.elim False fun au =>
 ∃ (ae : Int), a7.cell? (au.add 4) = some (.int .u64 ae) ∧
 bif a0 != ae then (
 R (.int .i64 5) a7) else (
 thenW (a7.drew) fun a4 =>
 bif decide ((a2 : Int) > 0) then (
 l1.elim False fun ax =>
 ∃ (am : Option Addr) (ai : Nat) (ar : Nat), a4.cell? (ax.add 3) = some (.slice am ai ar) ∧
 am.elim False fun av =>
 0 ≤ ((IntKind.i64.wrap ((a2 : Int) - 1)) : Int) ∧ ((IntKind.i64.wrap ((a2 : Int) - 1)) : Int) < (ai : Int) ∧
 ∃ (ac : Int) (ad : Int), cellsAt a4 ((av.add (Int.toNat (IntKind.i64.wrap ((a2 : Int) - 1)) * 8)).add 3) [.int .i64 ac, .int .i64 ad] 0 ∧
 ∃ (ab : Int) (af : Int), cellsAt a4 ((blk w.heap.size).add 3) [.int .i64 ab, .int .i64 af] 0 ∧
 Calls Try.prog 53 #[.agg #[.int .i64 ac, .int .i64 ad], .agg #[.int .i64 ab, .int .i64 af]] a4 fun ao an => ∃ (a1 : Bool), ao = .returned (.bool a1) ∧
 bif !a1 then (
 R (.int .i64 2) an) else (
 R (.int .i64 0) an)) else (
 R (.int .i64 0) a4))

theorem chain_Log_behind.eq (l1 : Option Addr) (eWriter2 : Int) (eIndex3 : Int) (ePrev4 : Int) (eAtT5 : Int) (eAtW6 : Int) (eEpoch7 : Int) (eBody8a : Option Addr) (eBody8n : Nat) (eBody8c : Nat) (eSig9 : Int) (R : Value → World → Prop) (w : World) : mfunc Try.prog [] 35 [.pointer l1, .agg #[.int .i64 eWriter2, .int .i64 eIndex3, .int .u64 ePrev4, .int .i64 eAtT5, .int .i64 eAtW6, .int .i64 eEpoch7, .slice eBody8a eBody8n eBody8c, .int .u64 eSig9]] R w = chain_Log_behind.M l1 eWriter2 eIndex3 ePrev4 eAtT5 eAtW6 eEpoch7 eBody8a eBody8n eBody8c eSig9 R w := by kernel_rfl
theorem chain_Log_behind.ok (l1 : Option Addr) (a0 : Int) (a1 : Int) (a6 : Int) (a7 : Int) (a8 : Int) (a2 : Int) (a4 : Option Addr) (a3 : Nat) (a5 : Nat) (a9 : Int) {R : Value → World → Prop} {w : World} (h : chain_Log_behind.M l1 a0 a1 a6 a7 a8 a2 a4 a3 a5 a9 R w) : Calls Try.prog 35 #[.pointer l1, .agg #[.int .i64 a0, .int .i64 a1, .int .u64 a6, .int .i64 a7, .int .i64 a8, .int .i64 a2, .slice a4 a3 a5, .int .u64 a9]] w fun e w' => ∃ v, e = .returned v ∧ R v w' :=
  mfunc_ok follows (H := []) (args := [.pointer l1, .agg #[.int .i64 a0, .int .i64 a1, .int .u64 a6, .int .i64 a7, .int .i64 a8, .int .i64 a2, .slice a4 a3 a5, .int .u64 a9]]) (by rw [chain_Log_behind.eq]; exact h)

def chain_Log_behind.N (l1 : Option Addr) (ab : Int) (ae : Int) (a2 : Int) (a9 : Int) (a7 : Int) (af : Int) (ag : Option Addr) (ah : Nat) (aj : Nat) (ap : Int) (R : Value → World → Prop) (w : World) : Prop :=
 ∃ ai : Addr, l1 = some ai ∧
 ∃ (an : Option Addr) (a0 : Nat) (ak : Nat), w.cell? (ai.add 3) = some (.slice an a0 ak) ∧
 ∃ (a3 : Int), w.cell? (ai.add 4) = some (.int .u64 a3) ∧
 (a2 ≠ a3 →
 ∀ (ac : World), Ext no w ac →
 R (.int .i64 5) ac) ∧
 (a2 = a3 →
 ((a0 : Int) > 0 →
 ∃ (aa : Option Addr) (a8 : Nat) (al : Nat), w.cell? (ai.add 3) = some (.slice aa a8 al) ∧
 (-9223372036854775808 : Int) ≤ ((a0 : Int) - 1) ∧ ((a0 : Int) - 1) < 9223372036854775808 ∧
 ∃ ao : Addr, aa = some ao ∧
 0 ≤ (((a0 : Int) - 1) : Int) ∧ (((a0 : Int) - 1) : Int) < (a8 : Int) ∧
 ∃ (a6 : Int) (a5 : Int), cellsAt w ((ao.add (Int.toNat ((a0 : Int) - 1) * 8)).add 3) [.int .i64 a6, .int .i64 a5] 0 ∧
 ∀ (a4 : World), Ext no w a4 →
 Calls Try.prog 53 #[.agg #[.int .i64 a6, .int .i64 a5], .agg #[.int .i64 a9, .int .i64 a7]] a4 fun am ad => ∃ (a1 : Bool), am = .returned (.bool a1) ∧
 (a1 = false →
 R (.int .i64 2) ad) ∧
 (a1 = true →
 R (.int .i64 0) ad)) ∧
 ((a0 : Int) ≤ 0 →
 ∀ (a4 : World), Ext no w a4 →
 R (.int .i64 0) a4))

theorem chain_Log_behind.up (l1 : Option Addr) (a0 : Int) (a2 : Int) (a1 : Int) (a8 : Int) (a7 : Int) (a3 : Int) (a4 : Option Addr) (a5 : Nat) (a6 : Nat) (aa : Int) {R : Value → World → Prop} {w : World} (h : chain_Log_behind.N l1 a0 a2 a1 a8 a7 a3 a4 a5 a6 aa R w) : chain_Log_behind.M l1 a0 a2 a1 a8 a7 a3 a4 a5 a6 aa R w := by
  unfold chain_Log_behind.M
  unfold chain_Log_behind.N at h
  refine thenW_in fun b9 b2 => ?_
  have ac := Blk.of_new b2
  have bc := ((Ext.refl no w)).size
  have ah := (Ext.refl no w).x_alloc b2
  obtain ⟨bd, ab, h⟩ := h
  refine elim_some ab ?_
  obtain ⟨aw, an, al, ao, h⟩ := h
  refine ⟨aw, an, al, (ah).cell ao id, ?_⟩
  refine thenW_in fun ax b1 => ?_
  have ad := ah.x_drew b1
  have ac := ac.x_drew b1
  refine ⟨a1, ac.celli 2 rfl rfl, ?_⟩
  refine elim_some ab ?_
  obtain ⟨af, b0, h⟩ := h
  refine ⟨af, (ad).cell b0 id, ?_⟩
  refine bif_of (fun az => ?_) (fun az => ?_)
  · have h := h.1 (bne_t az)
    have h := h ax ad
    exact h
  · have h := h.2 (bne_f az)
    refine thenW_in fun aj b3 => ?_
    have a9 := ad.x_drew b3
    have ac := ac.x_drew b3
    refine bif_of (fun aq => ?_) (fun aq => ?_)
    · have h := h.1 (of_decide_eq_true aq)
      refine elim_some ab ?_
      obtain ⟨av, au, ap, ar, h⟩ := h
      refine ⟨av, au, ap, (a9).cell ar id, ?_⟩
      obtain ⟨b5, b6, h⟩ := h
      try rw [w64 b5 b6]
      obtain ⟨bb, ay, h⟩ := h
      refine elim_some ay ?_
      obtain ⟨b4, b7, h⟩ := h
      refine ⟨b4, b7, ?_⟩
      obtain ⟨ai, ag, am, h⟩ := h
      refine ⟨ai, ag, cellsAt_no (a9) am, ?_⟩
      refine ⟨a8, a7, ⟨ac.celli 3 rfl rfl, ac.celli 4 rfl rfl, trivial⟩, ?_⟩
      have h := h aj a9
      refine h.mono fun ba b8 h => ?_
      obtain ⟨ae, he, h⟩ := h
      refine ⟨ae, he, ?_⟩
      refine bif_of (fun ak => ?_) (fun ak => ?_)
      · have h := h.1 (not_t ak)
        exact h
      · have h := h.2 (not_f ak)
        exact h
    · have h := h.2 (Int.not_lt.1 (of_decide_eq_false aq))
      have h := h aj a9
      exact h

theorem chain_Log_behind.go (l1 : Option Addr) (a0 : Int) (a1 : Int) (a6 : Int) (a7 : Int) (a8 : Int) (a2 : Int) (a4 : Option Addr) (a3 : Nat) (a5 : Nat) (a9 : Int) {R : Value → World → Prop} {w : World} (h : chain_Log_behind.N l1 a0 a1 a6 a7 a8 a2 a4 a3 a5 a9 R w) : Calls Try.prog 35 #[.pointer l1, .agg #[.int .i64 a0, .int .i64 a1, .int .u64 a6, .int .i64 a7, .int .i64 a8, .int .i64 a2, .slice a4 a3 a5, .int .u64 a9]] w fun e w' => ∃ v, e = .returned v ∧ R v w' := chain_Log_behind.ok l1 a0 a1 a6 a7 a8 a2 a4 a3 a5 a9 (chain_Log_behind.up l1 a0 a1 a6 a7 a8 a2 a4 a3 a5 a9 h)
theorem chain_Log_behind.run (l1 : Option Addr) (a0 : Int) (a1 : Int) (a6 : Int) (a7 : Int) (a8 : Int) (a2 : Int) (a4 : Option Addr) (a3 : Nat) (a5 : Nat) (a9 : Int) {V : Value} {Q : World → Prop} {w : World} (h : chain_Log_behind.N l1 a0 a1 a6 a7 a8 a2 a4 a3 a5 a9 (fun v w' => v = V ∧ Q w') w) : Calls Try.prog 35 #[.pointer l1, .agg #[.int .i64 a0, .int .i64 a1, .int .u64 a6, .int .i64 a7, .int .i64 a8, .int .i64 a2, .slice a4 a3 a5, .int .u64 a9]] w (Ret V Q) := (chain_Log_behind.go l1 a0 a1 a6 a7 a8 a2 a4 a3 a5 a9 h).mono fun e w' ⟨v, he, hv, hq⟩ => ⟨by rw [he, hv], hq⟩

/-- (*chain.Log).Check -/
def chain_Log_Check.M (l1 : Option Addr) (aw : Int) (b2 : Int) (b7 : Int) (bc : Int) (b9 : Int) (b3 : Int) (b4 : Option Addr) (b5 : Nat) (b6 : Nat) (bd : Int) (R : Value → World → Prop) (w : World) : Prop :=
 thenW (w.alloc (.cells #[.int .i64 aw, .int .i64 b2, .int .u64 b7, .int .i64 bc, .int .i64 b9, .int .i64 b3, .slice b4 b5 b6, .int .u64 bd] 47)) fun bb =>
 bif Option.isNone l1 then (
 R (.int .i64 23) bb) else (
 ∃ (I0 : Nat → List Value → World → Prop) (bm : Nat), I0 bm [.int .i64 0] bb ∧ ∀ (bf : Nat) (ai : World) (b1 : Int), I0 bf [.int .i64 b1] ai →
 bif decide (b1 < 3) then (
 0 ≤ (b1 : Int) ∧ (b1 : Int) < (3 : Int) ∧
 ((b1 : Int) = 0 → 
 ∃ (a1 : Int) (a8 : Int) (an : Int) (ap : Int) (aq : Int) (ae : Int) (a9 : Option Addr) (ac : Nat) (ad : Nat) (ar : Int), cellsAt ai (blk w.heap.size) [.int .i64 a1, .int .i64 a8, .int .u64 an, .int .i64 ap, .int .i64 aq, .int .i64 ae, .slice a9 ac ad, .int .u64 ar] 0 ∧
 Calls Try.prog 42 #[.pointer l1, .agg #[.int .i64 a1, .int .i64 a8, .int .u64 an, .int .i64 ap, .int .i64 aq, .int .i64 ae, .slice a9 ac ad, .int .u64 ar]] ai fun bg b8 => ∃ (a4 : Int), bg = .returned (.int .i64 a4) ∧
 bif a4 != 0 then (
 R (.int .i64 a4) b8) else (
 ∃ bk, bk < bf ∧ I0 bk [.int .i64 (IntKind.i64.wrap (b1 + 1))] b8)) ∧
 ((b1 : Int) = 1 → 
 ∃ (a3 : Int) (af : Int) (ao : Int) (au : Int) (b0 : Int) (ab : Int) (aj : Option Addr) (al : Nat) (ak : Nat) (av : Int), cellsAt ai (blk w.heap.size) [.int .i64 a3, .int .i64 af, .int .u64 ao, .int .i64 au, .int .i64 b0, .int .i64 ab, .slice aj al ak, .int .u64 av] 0 ∧
 Calls Try.prog 43 #[.pointer l1, .agg #[.int .i64 a3, .int .i64 af, .int .u64 ao, .int .i64 au, .int .i64 b0, .int .i64 ab, .slice aj al ak, .int .u64 av]] ai fun bh ba => ∃ (a5 : Int), bh = .returned (.int .i64 a5) ∧
 bif a5 != 0 then (
 R (.int .i64 a5) ba) else (
 ∃ bj, bj < bf ∧ I0 bj [.int .i64 (IntKind.i64.wrap (b1 + 1))] ba)) ∧
 ((b1 : Int) = 2 → 
 ∃ (a2 : Int) (a6 : Int) (am : Int) (az : Int) (ax : Int) (aa : Int) (a7 : Option Addr) (ah : Nat) (ag : Nat) (ay : Int), cellsAt ai (blk w.heap.size) [.int .i64 a2, .int .i64 a6, .int .u64 am, .int .i64 az, .int .i64 ax, .int .i64 aa, .slice a7 ah ag, .int .u64 ay] 0 ∧
 Calls Try.prog 35 #[.pointer l1, .agg #[.int .i64 a2, .int .i64 a6, .int .u64 am, .int .i64 az, .int .i64 ax, .int .i64 aa, .slice a7 ah ag, .int .u64 ay]] ai fun bi be => ∃ (a0 : Int), bi = .returned (.int .i64 a0) ∧
 bif a0 != 0 then (
 R (.int .i64 a0) be) else (
 ∃ bl, bl < bf ∧ I0 bl [.int .i64 (IntKind.i64.wrap (b1 + 1))] be)) ∧ True) else (
 R (.int .i64 0) ai))

theorem chain_Log_Check.eq (l1 : Option Addr) (eWriter2 : Int) (eIndex3 : Int) (ePrev4 : Int) (eAtT5 : Int) (eAtW6 : Int) (eEpoch7 : Int) (eBody8a : Option Addr) (eBody8n : Nat) (eBody8c : Nat) (eSig9 : Int) (R : Value → World → Prop) (w : World) : mfunc Try.prog [(0, [3, 16], [(17, (.one (.int .i64)))])] 19 [.pointer l1, .agg #[.int .i64 eWriter2, .int .i64 eIndex3, .int .u64 ePrev4, .int .i64 eAtT5, .int .i64 eAtW6, .int .i64 eEpoch7, .slice eBody8a eBody8n eBody8c, .int .u64 eSig9]] R w = chain_Log_Check.M l1 eWriter2 eIndex3 ePrev4 eAtT5 eAtW6 eEpoch7 eBody8a eBody8n eBody8c eSig9 R w := by kernel_rfl
theorem chain_Log_Check.ok (l1 : Option Addr) (a0 : Int) (a1 : Int) (a6 : Int) (a7 : Int) (a8 : Int) (a2 : Int) (a4 : Option Addr) (a3 : Nat) (a5 : Nat) (a9 : Int) {R : Value → World → Prop} {w : World} (h : chain_Log_Check.M l1 a0 a1 a6 a7 a8 a2 a4 a3 a5 a9 R w) : Calls Try.prog 19 #[.pointer l1, .agg #[.int .i64 a0, .int .i64 a1, .int .u64 a6, .int .i64 a7, .int .i64 a8, .int .i64 a2, .slice a4 a3 a5, .int .u64 a9]] w fun e w' => ∃ v, e = .returned v ∧ R v w' :=
  mfunc_ok follows (H := [(0, [3, 16], [(17, (.one (.int .i64)))])]) (args := [.pointer l1, .agg #[.int .i64 a0, .int .i64 a1, .int .u64 a6, .int .i64 a7, .int .i64 a8, .int .i64 a2, .slice a4 a3 a5, .int .u64 a9]]) (by rw [chain_Log_Check.eq]; exact h)

def chain_Log_Check.N (l1 : Option Addr) (a3 : Int) (a4 : Int) (ab : Int) (ae : Int) (ad : Int) (a5 : Int) (a6 : Option Addr) (a7 : Nat) (a8 : Nat) (af : Int) (R : Value → World → Prop) (w : World) : Prop :=
 (l1 = none →
 ∀ (ac : World), Ext no w ac →
 R (.int .i64 23) ac) ∧
 (l1 ≠ none →
 ∀ (ac : World) (ak : Nat), Ext no w ac → Priv w ac [ak] →
 ∃ (I0 : Nat → List Value → World → Prop) (ar : Nat), I0 ar [.int .i64 0] ac ∧ ∀ (aj : Nat) (aa : World) (a9 : Int), I0 aj [.int .i64 a9] aa →
 (a9 < 3 →
 0 ≤ (a9 : Int) ∧ (a9 : Int) < (3 : Int) ∧
 ((a9 : Int) = 0 →
 Calls Try.prog 42 #[.pointer l1, .agg #[.int .i64 a3, .int .i64 a4, .int .u64 ab, .int .i64 ae, .int .i64 ad, .int .i64 a5, .slice a6 a7 a8, .int .u64 af]] aa fun al ai => ∃ (a1 : Int), al = .returned (.int .i64 a1) ∧
 Keep [ak] aa ai ∧
 (a1 ≠ 0 →
 R (.int .i64 a1) ai) ∧
 (a1 = 0 →
 (-9223372036854775808 : Int) ≤ (a9 + 1) ∧ (a9 + 1) < 9223372036854775808 ∧
 ∃ aq, aq < aj ∧ I0 aq [.int .i64 (a9 + 1)] ai)) ∧
 ((a9 : Int) = 1 →
 Calls Try.prog 43 #[.pointer l1, .agg #[.int .i64 a3, .int .i64 a4, .int .u64 ab, .int .i64 ae, .int .i64 ad, .int .i64 a5, .slice a6 a7 a8, .int .u64 af]] aa fun am ah => ∃ (a2 : Int), am = .returned (.int .i64 a2) ∧
 Keep [ak] aa ah ∧
 (a2 ≠ 0 →
 R (.int .i64 a2) ah) ∧
 (a2 = 0 →
 (-9223372036854775808 : Int) ≤ (a9 + 1) ∧ (a9 + 1) < 9223372036854775808 ∧
 ∃ ap, ap < aj ∧ I0 ap [.int .i64 (a9 + 1)] ah)) ∧
 ((a9 : Int) = 2 →
 Calls Try.prog 35 #[.pointer l1, .agg #[.int .i64 a3, .int .i64 a4, .int .u64 ab, .int .i64 ae, .int .i64 ad, .int .i64 a5, .slice a6 a7 a8, .int .u64 af]] aa fun an ag => ∃ (a0 : Int), an = .returned (.int .i64 a0) ∧
 Keep [ak] aa ag ∧
 (a0 ≠ 0 →
 R (.int .i64 a0) ag) ∧
 (a0 = 0 →
 (-9223372036854775808 : Int) ≤ (a9 + 1) ∧ (a9 + 1) < 9223372036854775808 ∧
 ∃ ao, ao < aj ∧ I0 ao [.int .i64 (a9 + 1)] ag))) ∧
 ((3 : Int) ≤ a9 →
 R (.int .i64 0) aa))

theorem chain_Log_Check.up (l1 : Option Addr) (a0 : Int) (a2 : Int) (a7 : Int) (a9 : Int) (a8 : Int) (a3 : Int) (a4 : Option Addr) (a5 : Nat) (a6 : Nat) (aa : Int) {R : Value → World → Prop} {w : World} (h : chain_Log_Check.N l1 a0 a2 a7 a9 a8 a3 a4 a5 a6 aa R w) : chain_Log_Check.M l1 a0 a2 a7 a9 a8 a3 a4 a5 a6 aa R w := by
  unfold chain_Log_Check.M
  unfold chain_Log_Check.N at h
  refine thenW_in fun ag ao => ?_
  have a1 := Blk.of_new ao
  have az := ((Ext.refl no w)).size
  have ah := (Ext.refl no w).x_alloc ao
  refine bif_of (fun an => ?_) (fun an => ?_)
  · have h := h.1 (isNone_t an)
    have h := h ag ah
    exact h
  · have h := h.2 (isNone_f an)
    have h := h ag (w.heap.size) ah (Priv.cons az a1.lt Priv.nil)
    obtain ⟨I0, b4, h0, h⟩ := h
    refine ⟨fun k vs ww => Blk ww w.heap.size 47 [.int .i64 a0, .int .i64 a2, .int .u64 a7, .int .i64 a9, .int .i64 a8, .int .i64 a3, .slice a4 a5 a6, .int .u64 aa] ∧ I0 k vs ww, b4, ⟨a1, h0⟩, fun ar am aw hI => ?_⟩
    obtain ⟨a1, hI⟩ := hI
    have h := h ar am aw hI
    refine bif_of (fun ai => ?_) (fun ai => ?_)
    · have h := h.1 (of_decide_eq_true ai)
      obtain ⟨ap, au, h⟩ := h
      refine ⟨ap, au, ?_⟩
      refine ⟨fun hk => ?_, fun hk => ?_, fun hk => ?_, trivial⟩
      · have h := h.1 hk
        refine ⟨a0, a2, a7, a9, a8, a3, a4, a5, a6, aa, ⟨a1.celli 0 rfl rfl, a1.celli 1 rfl rfl, a1.celli 2 rfl rfl, a1.celli 3 rfl rfl, a1.celli 4 rfl rfl, a1.celli 5 rfl rfl, a1.celli 6 rfl rfl, a1.celli 7 rfl rfl, trivial⟩, ?_⟩
        refine h.mono fun aq b5 h => ?_
        obtain ⟨ac, he, hk, h⟩ := h
        refine ⟨ac, he, ?_⟩
        have a1 := hk.blk a1 (by simp)
        refine bif_of (fun aj => ?_) (fun aj => ?_)
        · have h := h.1 (bne_t aj)
          exact h
        · have h := h.2 (bne_f aj)
          obtain ⟨ae, af, h⟩ := h
          try rw [w64 ae af]
          obtain ⟨b3, hk, h⟩ := h
          exact ⟨b3, hk, a1, h⟩
      · have h := h.2.1 hk
        refine ⟨a0, a2, a7, a9, a8, a3, a4, a5, a6, aa, ⟨a1.celli 0 rfl rfl, a1.celli 1 rfl rfl, a1.celli 2 rfl rfl, a1.celli 3 rfl rfl, a1.celli 4 rfl rfl, a1.celli 5 rfl rfl, a1.celli 6 rfl rfl, a1.celli 7 rfl rfl, trivial⟩, ?_⟩
        refine h.mono fun ax b0 h => ?_
        obtain ⟨ad, he, hk, h⟩ := h
        refine ⟨ad, he, ?_⟩
        have a1 := hk.blk a1 (by simp)
        refine bif_of (fun ak => ?_) (fun ak => ?_)
        · have h := h.1 (bne_t ak)
          exact h
        · have h := h.2 (bne_f ak)
          obtain ⟨ae, af, h⟩ := h
          try rw [w64 ae af]
          obtain ⟨b2, hk, h⟩ := h
          exact ⟨b2, hk, a1, h⟩
      · have h := h.2.2 hk
        refine ⟨a0, a2, a7, a9, a8, a3, a4, a5, a6, aa, ⟨a1.celli 0 rfl rfl, a1.celli 1 rfl rfl, a1.celli 2 rfl rfl, a1.celli 3 rfl rfl, a1.celli 4 rfl rfl, a1.celli 5 rfl rfl, a1.celli 6 rfl rfl, a1.celli 7 rfl rfl, trivial⟩, ?_⟩
        refine h.mono fun ay av h => ?_
        obtain ⟨ab, he, hk, h⟩ := h
        refine ⟨ab, he, ?_⟩
        have a1 := hk.blk a1 (by simp)
        refine bif_of (fun al => ?_) (fun al => ?_)
        · have h := h.1 (bne_t al)
          exact h
        · have h := h.2 (bne_f al)
          obtain ⟨ae, af, h⟩ := h
          try rw [w64 ae af]
          obtain ⟨b1, hk, h⟩ := h
          exact ⟨b1, hk, a1, h⟩
    · have h := h.2 (Int.not_lt.1 (of_decide_eq_false ai))
      exact h

theorem chain_Log_Check.go (l1 : Option Addr) (a0 : Int) (a1 : Int) (a6 : Int) (a7 : Int) (a8 : Int) (a2 : Int) (a4 : Option Addr) (a3 : Nat) (a5 : Nat) (a9 : Int) {R : Value → World → Prop} {w : World} (h : chain_Log_Check.N l1 a0 a1 a6 a7 a8 a2 a4 a3 a5 a9 R w) : Calls Try.prog 19 #[.pointer l1, .agg #[.int .i64 a0, .int .i64 a1, .int .u64 a6, .int .i64 a7, .int .i64 a8, .int .i64 a2, .slice a4 a3 a5, .int .u64 a9]] w fun e w' => ∃ v, e = .returned v ∧ R v w' := chain_Log_Check.ok l1 a0 a1 a6 a7 a8 a2 a4 a3 a5 a9 (chain_Log_Check.up l1 a0 a1 a6 a7 a8 a2 a4 a3 a5 a9 h)
theorem chain_Log_Check.run (l1 : Option Addr) (a0 : Int) (a1 : Int) (a6 : Int) (a7 : Int) (a8 : Int) (a2 : Int) (a4 : Option Addr) (a3 : Nat) (a5 : Nat) (a9 : Int) {V : Value} {Q : World → Prop} {w : World} (h : chain_Log_Check.N l1 a0 a1 a6 a7 a8 a2 a4 a3 a5 a9 (fun v w' => v = V ∧ Q w') w) : Calls Try.prog 19 #[.pointer l1, .agg #[.int .i64 a0, .int .i64 a1, .int .u64 a6, .int .i64 a7, .int .i64 a8, .int .i64 a2, .slice a4 a3 a5, .int .u64 a9]] w (Ret V Q) := (chain_Log_Check.go l1 a0 a1 a6 a7 a8 a2 a4 a3 a5 a9 h).mono fun e w' ⟨v, he, hv, hq⟩ => ⟨by rw [he, hv], hq⟩

/-- (*chain.Log).put -/
def chain_Log_put.M (l1 : Option Addr) (ap : Int) (au : Int) (b7 : Int) (bh : Int) (bb : Int) (av : Int) (ay : Option Addr) (az : Nat) (b1 : Nat) (bi : Int) (R : Value → World → Prop) (w : World) : Prop :=
 thenW (w.alloc (.cells #[.int .i64 ap, .int .i64 au, .int .u64 b7, .int .i64 bh, .int .i64 bb, .int .i64 av, .slice ay az b1, .int .u64 bi] 47)) fun bk =>
 thenW (bk.drew) fun ba =>
 l1.elim False fun bo =>
 ∃ (b0 : Option Addr) (ax : Nat) (aw : Nat), ba.cell? (bo.add 3) = some (.slice b0 ax aw) ∧
 ∃ (a0 : Int) (a7 : Int) (ae : Int) (am : Int) (an : Int) (a9 : Int) (aa : Option Addr) (a8 : Nat) (ac : Nat) (ao : Int), cellsAt ba (blk w.heap.size) [.int .i64 a0, .int .i64 a7, .int .u64 ae, .int .i64 am, .int .i64 an, .int .i64 a9, .slice aa a8 ac, .int .u64 ao] 0 ∧
 Calls Try.prog 50 #[.agg #[.int .i64 a0, .int .i64 a7, .int .u64 ae, .int .i64 am, .int .i64 an, .int .i64 a9, .slice aa a8 ac, .int .u64 ao]] ba fun bm b9 => ∃ (a6 : Int) (af : Int) (al : Int) (b4 : Int) (b3 : Int) (ah : Int) (aj : Option Addr) (ag : Nat) (ai : Nat) (b5 : Int), bm = .returned (.agg #[.int .i64 a6, .int .i64 af, .int .u64 al, .int .i64 b4, .int .i64 b3, .int .i64 ah, .slice aj ag ai, .int .u64 b5]) ∧
 b9.cell? (bo.add 3) = some (.slice b0 ax aw) ∧
 thenW (b9.alloc (.cells #[.int .i64 a6, .int .i64 af, .int .u64 al, .int .i64 b4, .int .i64 b3, .int .i64 ah, .slice aj ag ai, .int .u64 b5] 47)) fun bg =>
 bg.cell? (bo.add 3) = some (.slice b0 ax aw) ∧
 ∃ (bc : Option Addr) (bf : Nat) (bd : Nat) (b6 : World), (Builtin.append_ #[40, 40] 40 #[.slice b0 ax aw, .slice (some (blk b9.heap.size)) 1 1]).run Try.prog bg = .ok (.slice bc bf bd) b6 ∧
 l1.elim False fun br =>
 canStore b6 ((br.add 3).add 0) ∧
 thenW (b6.setCell ((br.add 3).add 0) (.slice bc bf bd)) fun bl =>
 thenW (bl.drew) fun b8 =>
 l1.elim False fun bt =>
 ∃ (bs : Option Addr), b8.cell? (bt.add 0) = some (.pointer bs) ∧
 ∃ (a1 : Int) (a5 : Int) (ad : Int) (ar : Int) (aq : Int) (a3 : Int) (a2 : Option Addr) (a4 : Nat) (ab : Nat) (ak : Int), cellsAt b8 (blk w.heap.size) [.int .i64 a1, .int .i64 a5, .int .u64 ad, .int .i64 ar, .int .i64 aq, .int .i64 a3, .slice a2 a4 ab, .int .u64 ak] 0 ∧
 Calls Try.prog 30 #[.pointer bs, .agg #[.int .i64 a1, .int .i64 a5, .int .u64 ad, .int .i64 ar, .int .i64 aq, .int .i64 a3, .slice a2 a4 ab, .int .u64 ak]] b8 fun bp be => ∃ (b2 : Int) (bj : Int), bp = .returned (.tuple #[.int .u64 b2, .int .i64 bj]) ∧
 l1.elim False fun bq =>
 canStore be ((bq.add 4).add 0) ∧
 thenW (be.setCell ((bq.add 4).add 0) (.int .u64 b2)) fun bn =>
 R (.tuple #[]) bn

theorem chain_Log_put.eq (l1 : Option Addr) (eWriter2 : Int) (eIndex3 : Int) (ePrev4 : Int) (eAtT5 : Int) (eAtW6 : Int) (eEpoch7 : Int) (eBody8a : Option Addr) (eBody8n : Nat) (eBody8c : Nat) (eSig9 : Int) (R : Value → World → Prop) (w : World) : mfunc Try.prog [] 37 [.pointer l1, .agg #[.int .i64 eWriter2, .int .i64 eIndex3, .int .u64 ePrev4, .int .i64 eAtT5, .int .i64 eAtW6, .int .i64 eEpoch7, .slice eBody8a eBody8n eBody8c, .int .u64 eSig9]] R w = chain_Log_put.M l1 eWriter2 eIndex3 ePrev4 eAtT5 eAtW6 eEpoch7 eBody8a eBody8n eBody8c eSig9 R w := by kernel_rfl
theorem chain_Log_put.ok (l1 : Option Addr) (a0 : Int) (a1 : Int) (a6 : Int) (a7 : Int) (a8 : Int) (a2 : Int) (a4 : Option Addr) (a3 : Nat) (a5 : Nat) (a9 : Int) {R : Value → World → Prop} {w : World} (h : chain_Log_put.M l1 a0 a1 a6 a7 a8 a2 a4 a3 a5 a9 R w) : Calls Try.prog 37 #[.pointer l1, .agg #[.int .i64 a0, .int .i64 a1, .int .u64 a6, .int .i64 a7, .int .i64 a8, .int .i64 a2, .slice a4 a3 a5, .int .u64 a9]] w fun e w' => ∃ v, e = .returned v ∧ R v w' :=
  mfunc_ok follows (H := []) (args := [.pointer l1, .agg #[.int .i64 a0, .int .i64 a1, .int .u64 a6, .int .i64 a7, .int .i64 a8, .int .i64 a2, .slice a4 a3 a5, .int .u64 a9]]) (by rw [chain_Log_put.eq]; exact h)

def chain_Log_put.N (l1 : Option Addr) (a1 : Int) (a2 : Int) (ad : Int) (ap : Int) (an : Int) (a3 : Int) (a8 : Option Addr) (a9 : Nat) (aa : Nat) (aq : Int) (R : Value → World → Prop) (w : World) : Prop :=
 ∃ af : Addr, l1 = some af ∧
 ∃ (al : Option Addr) (ai : Nat) (ah : Nat), w.cell? (af.add 3) = some (.slice al ai ah) ∧
 ∀ (ak : World) (b2 : Nat), Ext no w ak → Priv w ak [b2] →
 Calls Try.prog 50 #[.agg #[.int .i64 a1, .int .i64 a2, .int .u64 ad, .int .i64 ap, .int .i64 an, .int .i64 a3, .slice a8 a9 aa, .int .u64 aq]] ak fun b4 ag => ∃ (a0 : Int) (a4 : Int) (ae : Int) (am : Int) (ar : Int) (ab : Int) (a6 : Option Addr) (a5 : Nat) (a7 : Nat) (ao : Int), b4 = .returned (.agg #[.int .i64 a0, .int .i64 a4, .int .u64 ae, .int .i64 am, .int .i64 ar, .int .i64 ab, .slice a6 a5 a7, .int .u64 ao]) ∧
 Keep [b2] ak ag ∧
 ag.cell? (af.add 3) = some (.slice al ai ah) ∧
 ∀ (ac : World) (b3 : Nat), Ext no ag ac → Blk ac b3 47 [.int .i64 a0, .int .i64 a4, .int .u64 ae, .int .i64 am, .int .i64 ar, .int .i64 ab, .slice a6 a5 a7, .int .u64 ao] → ag.heap.size ≤ b3 → b3 < ac.heap.size →
 ac.cell? (af.add 3) = some (.slice al ai ah) ∧
 ∃ (ay : Option Addr) (b0 : Nat) (av : Nat) (aj : World), (Builtin.append_ #[40, 40] 40 #[.slice al ai ah, .slice (some (blk b3)) 1 1]).run Try.prog ac = .ok (.slice ay b0 av) aj ∧
 Keep [b2] ac aj ∧
 canStore aj ((af.add 3).add 0) ∧
 (∀ p ∈ [b2], p ≠ Addr.block (af.add 3)) ∧
 thenW (aj.setCell ((af.add 3).add 0) (.slice ay b0 av)) fun aw =>
 ∃ (b7 : Option Addr), aw.cell? (af.add 0) = some (.pointer b7) ∧
 ∀ (ax : World), Ext no aw ax →
 Calls Try.prog 30 #[.pointer b7, .agg #[.int .i64 a1, .int .i64 a2, .int .u64 ad, .int .i64 ap, .int .i64 an, .int .i64 a3, .slice a8 a9 aa, .int .u64 aq]] ax fun b6 az => ∃ (au : Int) (b1 : Int), b6 = .returned (.tuple #[.int .u64 au, .int .i64 b1]) ∧
 canStore az ((af.add 4).add 0) ∧
 thenW (az.setCell ((af.add 4).add 0) (.int .u64 au)) fun b5 =>
 R (.tuple #[]) b5

theorem chain_Log_put.up (l1 : Option Addr) (a1 : Int) (a2 : Int) (a7 : Int) (a9 : Int) (a8 : Int) (a3 : Int) (a4 : Option Addr) (a5 : Nat) (a6 : Nat) (aa : Int) {R : Value → World → Prop} {w : World} (h : chain_Log_put.N l1 a1 a2 a7 a9 a8 a3 a4 a5 a6 aa R w) : chain_Log_put.M l1 a1 a2 a7 a9 a8 a3 a4 a5 a6 aa R w := by
  unfold chain_Log_put.M
  unfold chain_Log_put.N at h
  refine thenW_in fun bg bc => ?_
  have a0 := Blk.of_new bc
  have bi := ((Ext.refl no w)).size
  have b8 := (Ext.refl no w).x_alloc bc
  refine thenW_in fun b2 bd => ?_
  have al := b8.x_drew bd
  have a0 := a0.x_drew bd
  obtain ⟨bm, af, h⟩ := h
  refine elim_some af ?_
  obtain ⟨b6, ax, aw, ay, h⟩ := h
  refine ⟨b6, ax, aw, (al).cell ay id, ?_⟩
  refine ⟨a1, a2, a7, a9, a8, a3, a4, a5, a6, aa, ⟨a0.celli 0 rfl rfl, a0.celli 1 rfl rfl, a0.celli 2 rfl rfl, a0.celli 3 rfl rfl, a0.celli 4 rfl rfl, a0.celli 5 rfl rfl, a0.celli 6 rfl rfl, a0.celli 7 rfl rfl, trivial⟩, ?_⟩
  have h := h b2 (w.heap.size) al (Priv.cons bi a0.lt Priv.nil)
  refine h.mono fun be ai h => ?_
  obtain ⟨ab, ac, aj, ak, ao, ah, ae, ad, ag, am, he, hk, h⟩ := h
  refine ⟨ab, ac, aj, ak, ao, ah, ae, ad, ag, am, he, ?_⟩
  have a0 := hk.blk a0 (by simp)
  obtain ⟨b5, h⟩ := h
  refine ⟨b5, ?_⟩
  refine thenW_in fun b9 ar => ?_
  have a0 := a0.x_alloc ar
  have h := h b9 ai.heap.size ((Ext.refl no ai).x_alloc ar) (Blk.of_new ar) ((Ext.refl no ai)).size (size_lt_alloc ar)
  obtain ⟨au, h⟩ := h
  refine ⟨au, ?_⟩
  obtain ⟨b3, b7, av, az, hr, hk, h⟩ := h
  refine ⟨b3, b7, av, az, hr, ?_⟩
  have a0 := hk.blk a0 (by simp)
  refine elim_some af ?_
  obtain ⟨hcs, hof, h⟩ := h
  refine ⟨hcs, thenW_in fun b0 bb => ?_⟩
  replace h := thenW_out h bb
  have a0 := a0.off (by rw [block_add]; exact hof _ (by simp)) bb
  refine thenW_in fun b1 ba => ?_
  have an := (Ext.refl no b0).x_drew ba
  have a0 := a0.x_drew ba
  refine elim_some af ?_
  obtain ⟨bh, b4, h⟩ := h
  refine ⟨bh, (an).cell b4 id, ?_⟩
  refine ⟨a1, a2, a7, a9, a8, a3, a4, a5, a6, aa, ⟨a0.celli 0 rfl rfl, a0.celli 1 rfl rfl, a0.celli 2 rfl rfl, a0.celli 3 rfl rfl, a0.celli 4 rfl rfl, a0.celli 5 rfl rfl, a0.celli 6 rfl rfl, a0.celli 7 rfl rfl, trivial⟩, ?_⟩
  have h := h b1 an
  refine h.mono fun bk bj h => ?_
  obtain ⟨ap, aq, he, h⟩ := h
  refine ⟨ap, aq, he, ?_⟩
  refine elim_some af ?_
  obtain ⟨hcs, h⟩ := h
  refine ⟨hcs, thenW_in fun bf bl => ?_⟩
  replace h := thenW_out h bl
  exact h

theorem chain_Log_put.go (l1 : Option Addr) (a0 : Int) (a1 : Int) (a6 : Int) (a7 : Int) (a8 : Int) (a2 : Int) (a4 : Option Addr) (a3 : Nat) (a5 : Nat) (a9 : Int) {R : Value → World → Prop} {w : World} (h : chain_Log_put.N l1 a0 a1 a6 a7 a8 a2 a4 a3 a5 a9 R w) : Calls Try.prog 37 #[.pointer l1, .agg #[.int .i64 a0, .int .i64 a1, .int .u64 a6, .int .i64 a7, .int .i64 a8, .int .i64 a2, .slice a4 a3 a5, .int .u64 a9]] w fun e w' => ∃ v, e = .returned v ∧ R v w' := chain_Log_put.ok l1 a0 a1 a6 a7 a8 a2 a4 a3 a5 a9 (chain_Log_put.up l1 a0 a1 a6 a7 a8 a2 a4 a3 a5 a9 h)
/-- (*chain.Log).Accept -/
def chain_Log_Accept.M (l1 : Option Addr) (aj : Int) (am : Int) (ar : Int) (ax : Int) (av : Int) (an : Int) (ao : Option Addr) (ap : Nat) (aq : Nat) (ay : Int) (R : Value → World → Prop) (w : World) : Prop :=
 thenW (w.alloc (.cells #[.int .i64 aj, .int .i64 am, .int .u64 ar, .int .i64 ax, .int .i64 av, .int .i64 an, .slice ao ap aq, .int .u64 ay] 47)) fun aw =>
 ∃ (a1 : Int) (a5 : Int) (ae : Int) (ah : Int) (ai : Int) (a6 : Int) (aa : Option Addr) (ac : Nat) (ab : Nat) (af : Int), cellsAt aw (blk w.heap.size) [.int .i64 a1, .int .i64 a5, .int .u64 ae, .int .i64 ah, .int .i64 ai, .int .i64 a6, .slice aa ac ab, .int .u64 af] 0 ∧
 Calls Try.prog 19 #[.pointer l1, .agg #[.int .i64 a1, .int .i64 a5, .int .u64 ae, .int .i64 ah, .int .i64 ai, .int .i64 a6, .slice aa ac ab, .int .u64 af]] aw fun az au => ∃ (a0 : Int), az = .returned (.int .i64 a0) ∧
 bif a0 == 0 then (
 ∃ (a2 : Int) (a3 : Int) (ad : Int) (ak : Int) (al : Int) (a9 : Int) (a8 : Option Addr) (a4 : Nat) (a7 : Nat) (ag : Int), cellsAt au (blk w.heap.size) [.int .i64 a2, .int .i64 a3, .int .u64 ad, .int .i64 ak, .int .i64 al, .int .i64 a9, .slice a8 a4 a7, .int .u64 ag] 0 ∧
 Calls Try.prog 37 #[.pointer l1, .agg #[.int .i64 a2, .int .i64 a3, .int .u64 ad, .int .i64 ak, .int .i64 al, .int .i64 a9, .slice a8 a4 a7, .int .u64 ag]] au fun b1 b0 => b1 = .returned (.tuple #[]) ∧
 R (.int .i64 a0) b0) else (
 R (.int .i64 a0) au)

theorem chain_Log_Accept.eq (l1 : Option Addr) (eWriter2 : Int) (eIndex3 : Int) (ePrev4 : Int) (eAtT5 : Int) (eAtW6 : Int) (eEpoch7 : Int) (eBody8a : Option Addr) (eBody8n : Nat) (eBody8c : Nat) (eSig9 : Int) (R : Value → World → Prop) (w : World) : mfunc Try.prog [] 21 [.pointer l1, .agg #[.int .i64 eWriter2, .int .i64 eIndex3, .int .u64 ePrev4, .int .i64 eAtT5, .int .i64 eAtW6, .int .i64 eEpoch7, .slice eBody8a eBody8n eBody8c, .int .u64 eSig9]] R w = chain_Log_Accept.M l1 eWriter2 eIndex3 ePrev4 eAtT5 eAtW6 eEpoch7 eBody8a eBody8n eBody8c eSig9 R w := by kernel_rfl
theorem chain_Log_Accept.ok (l1 : Option Addr) (a0 : Int) (a1 : Int) (a6 : Int) (a7 : Int) (a8 : Int) (a2 : Int) (a4 : Option Addr) (a3 : Nat) (a5 : Nat) (a9 : Int) {R : Value → World → Prop} {w : World} (h : chain_Log_Accept.M l1 a0 a1 a6 a7 a8 a2 a4 a3 a5 a9 R w) : Calls Try.prog 21 #[.pointer l1, .agg #[.int .i64 a0, .int .i64 a1, .int .u64 a6, .int .i64 a7, .int .i64 a8, .int .i64 a2, .slice a4 a3 a5, .int .u64 a9]] w fun e w' => ∃ v, e = .returned v ∧ R v w' :=
  mfunc_ok follows (H := []) (args := [.pointer l1, .agg #[.int .i64 a0, .int .i64 a1, .int .u64 a6, .int .i64 a7, .int .i64 a8, .int .i64 a2, .slice a4 a3 a5, .int .u64 a9]]) (by rw [chain_Log_Accept.eq]; exact h)

def chain_Log_Accept.N (l1 : Option Addr) (a1 : Int) (a2 : Int) (a7 : Int) (a9 : Int) (aa : Int) (a3 : Int) (a5 : Option Addr) (a4 : Nat) (a6 : Nat) (ab : Int) (R : Value → World → Prop) (w : World) : Prop :=
 ∀ (a8 : World) (ag : Nat), Ext no w a8 → Priv w a8 [ag] →
 Calls Try.prog 19 #[.pointer l1, .agg #[.int .i64 a1, .int .i64 a2, .int .u64 a7, .int .i64 a9, .int .i64 aa, .int .i64 a3, .slice a5 a4 a6, .int .u64 ab]] a8 fun ae ac => ∃ (a0 : Int), ae = .returned (.int .i64 a0) ∧
 Keep [ag] a8 ac ∧
 (a0 = 0 →
 Calls Try.prog 37 #[.pointer l1, .agg #[.int .i64 a1, .int .i64 a2, .int .u64 a7, .int .i64 a9, .int .i64 aa, .int .i64 a3, .slice a5 a4 a6, .int .u64 ab]] ac fun ad af => ad = .returned (.tuple #[]) ∧
 R (.int .i64 a0) af) ∧
 (a0 ≠ 0 →
 R (.int .i64 a0) ac)

theorem chain_Log_Accept.up (l1 : Option Addr) (a0 : Int) (a1 : Int) (a6 : Int) (a9 : Int) (a8 : Int) (a2 : Int) (a3 : Option Addr) (a4 : Nat) (a5 : Nat) (aa : Int) {R : Value → World → Prop} {w : World} (h : chain_Log_Accept.N l1 a0 a1 a6 a9 a8 a2 a3 a4 a5 aa R w) : chain_Log_Accept.M l1 a0 a1 a6 a9 a8 a2 a3 a4 a5 aa R w := by
  unfold chain_Log_Accept.M
  unfold chain_Log_Accept.N at h
  refine thenW_in fun ac af => ?_
  have a7 := Blk.of_new af
  have ai := ((Ext.refl no w)).size
  have ae := (Ext.refl no w).x_alloc af
  refine ⟨a0, a1, a6, a9, a8, a2, a3, a4, a5, aa, ⟨a7.celli 0 rfl rfl, a7.celli 1 rfl rfl, a7.celli 2 rfl rfl, a7.celli 3 rfl rfl, a7.celli 4 rfl rfl, a7.celli 5 rfl rfl, a7.celli 6 rfl rfl, a7.celli 7 rfl rfl, trivial⟩, ?_⟩
  have h := h ac (w.heap.size) ae (Priv.cons ai a7.lt Priv.nil)
  refine h.mono fun ah ak h => ?_
  obtain ⟨ab, he, hk, h⟩ := h
  refine ⟨ab, he, ?_⟩
  have a7 := hk.blk a7 (by simp)
  refine bif_of (fun ad => ?_) (fun ad => ?_)
  · have h := h.1 (beq_t ad)
    refine ⟨a0, a1, a6, a9, a8, a2, a3, a4, a5, aa, ⟨a7.celli 0 rfl rfl, a7.celli 1 rfl rfl, a7.celli 2 rfl rfl, a7.celli 3 rfl rfl, a7.celli 4 rfl rfl, a7.celli 5 rfl rfl, a7.celli 6 rfl rfl, a7.celli 7 rfl rfl, trivial⟩, ?_⟩
    refine h.mono fun ag aj h => ?_
    obtain ⟨he, h⟩ := h
    refine ⟨he, ?_⟩
    exact h
  · have h := h.2 (beq_f ad)
    exact h

theorem chain_Log_Accept.go (l1 : Option Addr) (a0 : Int) (a1 : Int) (a6 : Int) (a7 : Int) (a8 : Int) (a2 : Int) (a4 : Option Addr) (a3 : Nat) (a5 : Nat) (a9 : Int) {R : Value → World → Prop} {w : World} (h : chain_Log_Accept.N l1 a0 a1 a6 a7 a8 a2 a4 a3 a5 a9 R w) : Calls Try.prog 21 #[.pointer l1, .agg #[.int .i64 a0, .int .i64 a1, .int .u64 a6, .int .i64 a7, .int .i64 a8, .int .i64 a2, .slice a4 a3 a5, .int .u64 a9]] w fun e w' => ∃ v, e = .returned v ∧ R v w' := chain_Log_Accept.ok l1 a0 a1 a6 a7 a8 a2 a4 a3 a5 a9 (chain_Log_Accept.up l1 a0 a1 a6 a7 a8 a2 a4 a3 a5 a9 h)
/-- (*chain.Log).Issue -/
def chain_Log_Issue.M (l1 : Option Addr) (dr : Int) (g3 : Int) (g4 : Int) (et : Int) (eo : Option Addr) (ep : Nat) (er : Nat) (R : Value → World → Prop) (w : World) : Prop :=
 thenW (w.alloc (.cells #[.int .i64 g3, .int .i64 g4] 45)) fun a0 =>
 thenW (a0.alloc (.cells #[.int .i64 0, .int .i64 0, .int .u64 0, .int .i64 0, .int .i64 0, .int .i64 0, .slice none 0 0, .int .u64 0] 47)) fun ew =>
 bif Option.isNone l1 then (
 canStore ew ((blk a0.heap.size).add 0) ∧
 thenW (ew.setCell ((blk a0.heap.size).add 0) (.int .i64 0)) fun g7 =>
 canStore g7 ((blk a0.heap.size).add 1) ∧
 thenW (g7.setCell ((blk a0.heap.size).add 1) (.int .i64 0)) fun fv =>
 canStore fv ((blk a0.heap.size).add 2) ∧
 thenW (fv.setCell ((blk a0.heap.size).add 2) (.int .u64 0)) fun fa =>
 canStore fa ((blk a0.heap.size).add 3) ∧
 thenW (fa.setCell ((blk a0.heap.size).add 3) (.int .i64 0)) fun ex =>
 canStore ex ((blk a0.heap.size).add 4) ∧
 thenW (ex.setCell ((blk a0.heap.size).add 4) (.int .i64 0)) fun fq =>
 canStore fq ((blk a0.heap.size).add 5) ∧
 thenW (fq.setCell ((blk a0.heap.size).add 5) (.int .i64 0)) fun f4 =>
 canStore f4 ((blk a0.heap.size).add 6) ∧
 thenW (f4.setCell ((blk a0.heap.size).add 6) (.slice none 0 0)) fun f6 =>
 canStore f6 ((blk a0.heap.size).add 7) ∧
 thenW (f6.setCell ((blk a0.heap.size).add 7) (.int .u64 0)) fun fj =>
 ∃ (af : Int) (b9 : Int) (bo : Int) (cb : Int) (c8 : Int) (aq : Int) (b0 : Option Addr) (ap : Nat) (ba : Nat) (cu : Int), cellsAt fj (blk a0.heap.size) [.int .i64 af, .int .i64 b9, .int .u64 bo, .int .i64 cb, .int .i64 c8, .int .i64 aq, .slice b0 ap ba, .int .u64 cu] 0 ∧
 R (.tuple #[.agg #[.int .i64 af, .int .i64 b9, .int .u64 bo, .int .i64 cb, .int .i64 c8, .int .i64 aq, .slice b0 ap ba, .int .u64 cu], .int .i64 23]) fj) else (
 l1.elim False fun gb =>
 ∃ (g0 : Option Addr) (f3 : Nat) (g1 : Nat), ew.cell? (gb.add 3) = some (.slice g0 f3 g1) ∧
 bif decide ((f3 : Int) ≥ 200) then (
 canStore ew ((blk a0.heap.size).add 0) ∧
 thenW (ew.setCell ((blk a0.heap.size).add 0) (.int .i64 0)) fun ff =>
 canStore ff ((blk a0.heap.size).add 1) ∧
 thenW (ff.setCell ((blk a0.heap.size).add 1) (.int .i64 0)) fun f2 =>
 canStore f2 ((blk a0.heap.size).add 2) ∧
 thenW (f2.setCell ((blk a0.heap.size).add 2) (.int .u64 0)) fun fw =>
 canStore fw ((blk a0.heap.size).add 3) ∧
 thenW (fw.setCell ((blk a0.heap.size).add 3) (.int .i64 0)) fun f5 =>
 canStore f5 ((blk a0.heap.size).add 4) ∧
 thenW (f5.setCell ((blk a0.heap.size).add 4) (.int .i64 0)) fun f8 =>
 canStore f8 ((blk a0.heap.size).add 5) ∧
 thenW (f8.setCell ((blk a0.heap.size).add 5) (.int .i64 0)) fun fu =>
 canStore fu ((blk a0.heap.size).add 6) ∧
 thenW (fu.setCell ((blk a0.heap.size).add 6) (.slice none 0 0)) fun fi =>
 canStore fi ((blk a0.heap.size).add 7) ∧
 thenW (fi.setCell ((blk a0.heap.size).add 7) (.int .u64 0)) fun fs =>
 ∃ (ai : Int) (b2 : Int) (c2 : Int) (cd : Int) (cj : Int) (ao : Int) (b7 : Option Addr) (au : Nat) (b5 : Nat) (cq : Int), cellsAt fs (blk a0.heap.size) [.int .i64 ai, .int .i64 b2, .int .u64 c2, .int .i64 cd, .int .i64 cj, .int .i64 ao, .slice b7 au b5, .int .u64 cq] 0 ∧
 R (.tuple #[.agg #[.int .i64 ai, .int .i64 b2, .int .u64 c2, .int .i64 cd, .int .i64 cj, .int .i64 ao, .slice b7 au b5, .int .u64 cq], .int .i64 3]) fs) else (
 thenW (ew.drew) fun a1 =>
 l1.elim False fun g8 =>
 ∃ (en : Int), a1.cell? (g8.add 1) = some (.int .i64 en) ∧
 l1.elim False fun ga =>
 ∃ (fe : Option Addr) (ev : Nat) (fl : Nat), a1.cell? (ga.add 3) = some (.slice fe ev fl) ∧
 l1.elim False fun g9 =>
 ∃ (dp : Int), a1.cell? (g9.add 4) = some (.int .u64 dp) ∧
 ∃ (es : Int) (eq : Int), cellsAt a1 (blk w.heap.size) [.int .i64 es, .int .i64 eq] 0 ∧
 thenW (a1.alloc (.cells #[.int .i64 0, .int .i64 0, .int .u64 0, .int .i64 0, .int .i64 0, .int .i64 0, .slice none 0 0, .int .u64 0] 47)) fun dc =>
 cellsAt dc (blk w.heap.size) [.int .i64 es, .int .i64 eq] 0 ∧
 dc.cell? (g9.add 4) = some (.int .u64 dp) ∧
 dc.cell? (ga.add 3) = some (.slice fe ev fl) ∧
 dc.cell? (g8.add 1) = some (.int .i64 en) ∧
 canStore dc ((blk a1.heap.size).add 0) ∧
 thenW (dc.setCell ((blk a1.heap.size).add 0) (.int .i64 en)) fun f1 =>
 canStore f1 ((blk a1.heap.size).add 1) ∧
 thenW (f1.setCell ((blk a1.heap.size).add 1) (.int .i64 (ev : Int))) fun fd =>
 canStore fd ((blk a1.heap.size).add 2) ∧
 thenW (fd.setCell ((blk a1.heap.size).add 2) (.int .u64 dp)) fun ft =>
 canStore ft ((blk a1.heap.size).add 3) ∧
 thenW (ft.setCell ((blk a1.heap.size).add 3) (.int .i64 es)) fun fg =>
 canStore fg ((blk a1.heap.size).add 4) ∧
 thenW (fg.setCell ((blk a1.heap.size).add 4) (.int .i64 eq)) fun fk =>
 canStore fk ((blk a1.heap.size).add 5) ∧
 thenW (fk.setCell ((blk a1.heap.size).add 5) (.int .i64 et)) fun fz =>
 canStore fz ((blk a1.heap.size).add 6) ∧
 thenW (fz.setCell ((blk a1.heap.size).add 6) (.slice eo ep er)) fun f9 =>
 canStore f9 ((blk a1.heap.size).add 7) ∧
 thenW (f9.setCell ((blk a1.heap.size).add 7) (.int .u64 0)) fun fo =>
 ∃ (bj : Int) (cw : Int) (da : Int) (di : Int) (dh : Int) (ct : Int) (cn : Option Addr) (cr : Nat) (ce : Nat) (dg : Int), cellsAt fo (blk a1.heap.size) [.int .i64 bj, .int .i64 cw, .int .u64 da, .int .i64 di, .int .i64 dh, .int .i64 ct, .slice cn cr ce, .int .u64 dg] 0 ∧
 Calls Try.prog 34 #[.agg #[.int .i64 bj, .int .i64 cw, .int .u64 da, .int .i64 di, .int .i64 dh, .int .i64 ct, .slice cn cr ce, .int .u64 dg]] fo fun g6 dq => ∃ (d6 : Bool), g6 = .returned (.bool d6) ∧
 bif !d6 then (
 canStore dq ((blk a0.heap.size).add 0) ∧
 thenW (dq.setCell ((blk a0.heap.size).add 0) (.int .i64 0)) fun f0 =>
 canStore f0 ((blk a0.heap.size).add 1) ∧
 thenW (f0.setCell ((blk a0.heap.size).add 1) (.int .i64 0)) fun fr =>
 canStore fr ((blk a0.heap.size).add 2) ∧
 thenW (fr.setCell ((blk a0.heap.size).add 2) (.int .u64 0)) fun f7 =>
 canStore f7 ((blk a0.heap.size).add 3) ∧
 thenW (f7.setCell ((blk a0.heap.size).add 3) (.int .i64 0)) fun fy =>
 canStore fy ((blk a0.heap.size).add 4) ∧
 thenW (fy.setCell ((blk a0.heap.size).add 4) (.int .i64 0)) fun fc =>
 canStore fc ((blk a0.heap.size).add 5) ∧
 thenW (fc.setCell ((blk a0.heap.size).add 5) (.int .i64 0)) fun fb =>
 canStore fb ((blk a0.heap.size).add 6) ∧
 thenW (fb.setCell ((blk a0.heap.size).add 6) (.slice none 0 0)) fun fp =>
 canStore fp ((blk a0.heap.size).add 7) ∧
 thenW (fp.setCell ((blk a0.heap.size).add 7) (.int .u64 0)) fun ez =>
 ∃ (aj : Int) (b6 : Int) (bt : Int) (cl : Int) (cc : Int) (b8 : Int) (b1 : Option Addr) (b3 : Nat) (ay : Nat) (c9 : Int), cellsAt ez (blk a0.heap.size) [.int .i64 aj, .int .i64 b6, .int .u64 bt, .int .i64 cl, .int .i64 cc, .int .i64 b8, .slice b1 b3 ay, .int .u64 c9] 0 ∧
 R (.tuple #[.agg #[.int .i64 aj, .int .i64 b6, .int .u64 bt, .int .i64 cl, .int .i64 cc, .int .i64 b8, .slice b1 b3 ay, .int .u64 c9], .int .i64 1]) ez) else (
 ∃ (bp : Int) (ch : Int) (d2 : Int) (dn : Int) (df : Int) (c7 : Int) (cv : Option Addr) (cg : Nat) (ca : Nat) (de : Int), cellsAt dq (blk a1.heap.size) [.int .i64 bp, .int .i64 ch, .int .u64 d2, .int .i64 dn, .int .i64 df, .int .i64 c7, .slice cv cg ca, .int .u64 de] 0 ∧
 Calls Try.prog 35 #[.pointer l1, .agg #[.int .i64 bp, .int .i64 ch, .int .u64 d2, .int .i64 dn, .int .i64 df, .int .i64 c7, .slice cv cg ca, .int .u64 de]] dq fun g5 eu => ∃ (b4 : Int), g5 = .returned (.int .i64 b4) ∧
 bif b4 != 0 then (
 canStore eu ((blk a0.heap.size).add 0) ∧
 thenW (eu.setCell ((blk a0.heap.size).add 0) (.int .i64 0)) fun ey =>
 canStore ey ((blk a0.heap.size).add 1) ∧
 thenW (ey.setCell ((blk a0.heap.size).add 1) (.int .i64 0)) fun eg =>
 canStore eg ((blk a0.heap.size).add 2) ∧
 thenW (eg.setCell ((blk a0.heap.size).add 2) (.int .u64 0)) fun ef =>
 canStore ef ((blk a0.heap.size).add 3) ∧
 thenW (ef.setCell ((blk a0.heap.size).add 3) (.int .i64 0)) fun ed =>
 canStore ed ((blk a0.heap.size).add 4) ∧
 thenW (ed.setCell ((blk a0.heap.size).add 4) (.int .i64 0)) fun e3 =>
 canStore e3 ((blk a0.heap.size).add 5) ∧
 thenW (e3.setCell ((blk a0.heap.size).add 5) (.int .i64 0)) fun e8 =>
 canStore e8 ((blk a0.heap.size).add 6) ∧
 thenW (e8.setCell ((blk a0.heap.size).add 6) (.slice none 0 0)) fun ee =>
 canStore ee ((blk a0.heap.size).add 7) ∧
 thenW (ee.setCell ((blk a0.heap.size).add 7) (.int .u64 0)) fun e9 =>
 ∃ (a2 : Int) (a5 : Int) (aw : Int) (bg : Int) (bw : Int) (aa : Int) (am : Option Addr) (ab : Nat) (ag : Nat) (bv : Int), cellsAt e9 (blk a0.heap.size) [.int .i64 a2, .int .i64 a5, .int .u64 aw, .int .i64 bg, .int .i64 bw, .int .i64 aa, .slice am ab ag, .int .u64 bv] 0 ∧
 R (.tuple #[.agg #[.int .i64 a2, .int .i64 a5, .int .u64 aw, .int .i64 bg, .int .i64 bw, .int .i64 aa, .slice am ab ag, .int .u64 bv], .int .i64 b4]) e9) else (
 thenW (eu.drew) fun dk =>
 l1.elim False fun g2 =>
 ∃ (fh : Option Addr), dk.cell? (g2.add 0) = some (.pointer fh) ∧
 ∃ (av : Int) (be : Int) (cf : Int) (d4 : Int) (d0 : Int) (bi : Int) (br : Option Addr) (bc : Nat) (bf : Nat) (d5 : Int), cellsAt dk (blk a1.heap.size) [.int .i64 av, .int .i64 be, .int .u64 cf, .int .i64 d4, .int .i64 d0, .int .i64 bi, .slice br bc bf, .int .u64 d5] 0 ∧
 Calls Try.prog 36 #[.pointer fh, .int .u64 dr, .agg #[.int .i64 av, .int .i64 be, .int .u64 cf, .int .i64 d4, .int .i64 d0, .int .i64 bi, .slice br bc bf, .int .u64 d5]] dk fun fm e1 => ∃ (bl : Int) (ck : Int) (d9 : Int) (dl : Int) (dm : Int) (ci : Int) (cp : Option Addr) (cm : Nat) (cs : Nat) (dd : Int) (c6 : Int), fm = .returned (.tuple #[.agg #[.int .i64 bl, .int .i64 ck, .int .u64 d9, .int .i64 dl, .int .i64 dm, .int .i64 ci, .slice cp cm cs, .int .u64 dd], .int .i64 c6]) ∧
 canStore e1 ((blk a1.heap.size).add 0) ∧
 thenW (e1.setCell ((blk a1.heap.size).add 0) (.int .i64 bl)) fun ei =>
 canStore ei ((blk a1.heap.size).add 1) ∧
 thenW (ei.setCell ((blk a1.heap.size).add 1) (.int .i64 ck)) fun dt =>
 canStore dt ((blk a1.heap.size).add 2) ∧
 thenW (dt.setCell ((blk a1.heap.size).add 2) (.int .u64 d9)) fun ej =>
 canStore ej ((blk a1.heap.size).add 3) ∧
 thenW (ej.setCell ((blk a1.heap.size).add 3) (.int .i64 dl)) fun dv =>
 canStore dv ((blk a1.heap.size).add 4) ∧
 thenW (dv.setCell ((blk a1.heap.size).add 4) (.int .i64 dm)) fun ek =>
 canStore ek ((blk a1.heap.size).add 5) ∧
 thenW (ek.setCell ((blk a1.heap.size).add 5) (.int .i64 ci)) fun ec =>
 canStore ec ((blk a1.heap.size).add 6) ∧
 thenW (ec.setCell ((blk a1.heap.size).add 6) (.slice cp cm cs)) fun e6 =>
 canStore e6 ((blk a1.heap.size).add 7) ∧
 thenW (e6.setCell ((blk a1.heap.size).add 7) (.int .u64 dd)) fun cy =>
 bif c6 != 0 then (
 canStore cy ((blk a0.heap.size).add 0) ∧
 thenW (cy.setCell ((blk a0.heap.size).add 0) (.int .i64 0)) fun ds =>
 canStore ds ((blk a0.heap.size).add 1) ∧
 thenW (ds.setCell ((blk a0.heap.size).add 1) (.int .i64 0)) fun e0 =>
 canStore e0 ((blk a0.heap.size).add 2) ∧
 thenW (e0.setCell ((blk a0.heap.size).add 2) (.int .u64 0)) fun dz =>
 canStore dz ((blk a0.heap.size).add 3) ∧
 thenW (dz.setCell ((blk a0.heap.size).add 3) (.int .i64 0)) fun em =>
 canStore em ((blk a0.heap.size).add 4) ∧
 thenW (em.setCell ((blk a0.heap.size).add 4) (.int .i64 0)) fun ea =>
 canStore ea ((blk a0.heap.size).add 5) ∧
 thenW (ea.setCell ((blk a0.heap.size).add 5) (.int .i64 0)) fun e5 =>
 canStore e5 ((blk a0.heap.size).add 6) ∧
 thenW (e5.setCell ((blk a0.heap.size).add 6) (.slice none 0 0)) fun el =>
 canStore el ((blk a0.heap.size).add 7) ∧
 thenW (el.setCell ((blk a0.heap.size).add 7) (.int .u64 0)) fun eh =>
 ∃ (a4 : Int) (a9 : Int) (ax : Int) (bn : Int) (c5 : Int) (a8 : Int) (ad : Option Addr) (ac : Nat) (ah : Nat) (c0 : Int), cellsAt eh (blk a0.heap.size) [.int .i64 a4, .int .i64 a9, .int .u64 ax, .int .i64 bn, .int .i64 c5, .int .i64 a8, .slice ad ac ah, .int .u64 c0] 0 ∧
 R (.tuple #[.agg #[.int .i64 a4, .int .i64 a9, .int .u64 ax, .int .i64 bn, .int .i64 c5, .int .i64 a8, .slice ad ac ah, .int .u64 c0], .int .i64 c6]) eh) else (
 ∃ (az : Int) (c1 : Int) (co : Int) (d1 : Int) (d8 : Int) (bq : Int) (c4 : Option Addr) (bh : Nat) (bu : Nat) (cz : Int), cellsAt cy (blk a1.heap.size) [.int .i64 az, .int .i64 c1, .int .u64 co, .int .i64 d1, .int .i64 d8, .int .i64 bq, .slice c4 bh bu, .int .u64 cz] 0 ∧
 Calls Try.prog 37 #[.pointer l1, .agg #[.int .i64 az, .int .i64 c1, .int .u64 co, .int .i64 d1, .int .i64 d8, .int .i64 bq, .slice c4 bh bu, .int .u64 cz]] cy fun fx dj => fx = .returned (.tuple #[]) ∧
 ∃ (ar : Int) (bk : Int) (cx : Int) (d7 : Int) (d3 : Int) (bz : Int) (bm : Option Addr) (bs : Nat) (bd : Nat) (db : Int), cellsAt dj (blk a1.heap.size) [.int .i64 ar, .int .i64 bk, .int .u64 cx, .int .i64 d7, .int .i64 d3, .int .i64 bz, .slice bm bs bd, .int .u64 db] 0 ∧
 canStore dj ((blk a0.heap.size).add 0) ∧
 thenW (dj.setCell ((blk a0.heap.size).add 0) (.int .i64 ar)) fun dx =>
 canStore dx ((blk a0.heap.size).add 1) ∧
 thenW (dx.setCell ((blk a0.heap.size).add 1) (.int .i64 bk)) fun e2 =>
 canStore e2 ((blk a0.heap.size).add 2) ∧
 thenW (e2.setCell ((blk a0.heap.size).add 2) (.int .u64 cx)) fun e7 =>
 canStore e7 ((blk a0.heap.size).add 3) ∧
 thenW (e7.setCell ((blk a0.heap.size).add 3) (.int .i64 d7)) fun dw =>
 canStore dw ((blk a0.heap.size).add 4) ∧
 thenW (dw.setCell ((blk a0.heap.size).add 4) (.int .i64 d3)) fun e4 =>
 canStore e4 ((blk a0.heap.size).add 5) ∧
 thenW (e4.setCell ((blk a0.heap.size).add 5) (.int .i64 bz)) fun dy =>
 canStore dy ((blk a0.heap.size).add 6) ∧
 thenW (dy.setCell ((blk a0.heap.size).add 6) (.slice bm bs bd)) fun du =>
 canStore du ((blk a0.heap.size).add 7) ∧
 thenW (du.setCell ((blk a0.heap.size).add 7) (.int .u64 db)) fun eb =>
 ∃ (a3 : Int) (a6 : Int) (an : Int) (c3 : Int) (bb : Int) (ae : Int) (al : Option Addr) (ak : Nat) (a7 : Nat) (bx : Int), cellsAt eb (blk a0.heap.size) [.int .i64 a3, .int .i64 a6, .int .u64 an, .int .i64 c3, .int .i64 bb, .int .i64 ae, .slice al ak a7, .int .u64 bx] 0 ∧
 R (.tuple #[.agg #[.int .i64 a3, .int .i64 a6, .int .u64 an, .int .i64 c3, .int .i64 bb, .int .i64 ae, .slice al ak a7, .int .u64 bx], .int .i64 0]) eb)))))

theorem chain_Log_Issue.eq (l1 : Option Addr) (secret2 : Int) (atT3 : Int) (atW4 : Int) (epoch5 : Int) (body6a : Option Addr) (body6n : Nat) (body6c : Nat) (R : Value → World → Prop) (w : World) : mfunc Try.prog [] 15 [.pointer l1, .int .u64 secret2, .agg #[.int .i64 atT3, .int .i64 atW4], .int .i64 epoch5, .slice body6a body6n body6c] R w = chain_Log_Issue.M l1 secret2 atT3 atW4 epoch5 body6a body6n body6c R w := by kernel_rfl
theorem chain_Log_Issue.ok (l1 : Option Addr) (a0 : Int) (a5 : Int) (a6 : Int) (a1 : Int) (a2 : Option Addr) (a4 : Nat) (a3 : Nat) {R : Value → World → Prop} {w : World} (h : chain_Log_Issue.M l1 a0 a5 a6 a1 a2 a4 a3 R w) : Calls Try.prog 15 #[.pointer l1, .int .u64 a0, .agg #[.int .i64 a5, .int .i64 a6], .int .i64 a1, .slice a2 a4 a3] w fun e w' => ∃ v, e = .returned v ∧ R v w' :=
  mfunc_ok follows (H := []) (args := [.pointer l1, .int .u64 a0, .agg #[.int .i64 a5, .int .i64 a6], .int .i64 a1, .slice a2 a4 a3]) (by rw [chain_Log_Issue.eq]; exact h)

def chain_Log_Issue.N (l1 : Option Addr) (al : Int) (am : Int) (an : Int) (a9 : Int) (ab : Option Addr) (a8 : Nat) (a5 : Nat) (R : Value → World → Prop) (w : World) : Prop :=
 (l1 = none →
 ∀ (b3 : World), Ext no w b3 →
 R (.tuple #[.agg #[.int .i64 0, .int .i64 0, .int .u64 0, .int .i64 0, .int .i64 0, .int .i64 0, .slice none 0 0, .int .u64 0], .int .i64 23]) b3) ∧
 (l1 ≠ none →
 ∃ az : Addr, l1 = some az ∧
 ∃ (b8 : Option Addr) (ax : Nat) (b6 : Nat), w.cell? (az.add 3) = some (.slice b8 ax b6) ∧
 ((ax : Int) ≥ 200 →
 ∀ (b0 : World), Ext no w b0 →
 R (.tuple #[.agg #[.int .i64 0, .int .i64 0, .int .u64 0, .int .i64 0, .int .i64 0, .int .i64 0, .slice none 0 0, .int .u64 0], .int .i64 3]) b0) ∧
 ((ax : Int) < 200 →
 ∃ (ag : Int), w.cell? (az.add 1) = some (.int .i64 ag) ∧
 ∃ (ba : Option Addr) (ai : Nat) (b7 : Nat), w.cell? (az.add 3) = some (.slice ba ai b7) ∧
 ∃ (ac : Int), w.cell? (az.add 4) = some (.int .u64 ac) ∧
 ((entry_Right.F ag (ai : Int) ac am an a9 ab a8 a5 0) = false →
 ∀ (b1 : World), Ext no w b1 →
 R (.tuple #[.agg #[.int .i64 0, .int .i64 0, .int .u64 0, .int .i64 0, .int .i64 0, .int .i64 0, .slice none 0 0, .int .u64 0], .int .i64 1]) b1) ∧
 ((entry_Right.F ag (ai : Int) ac am an a9 ab a8 a5 0) = true →
 ∀ (aj : World) (av : Nat) (ay : Nat), Ext no w aj → Priv w aj [av, ay] →
 Calls Try.prog 35 #[.pointer l1, .agg #[.int .i64 ag, .int .i64 (ai : Int), .int .u64 ac, .int .i64 am, .int .i64 an, .int .i64 a9, .slice ab a8 a5, .int .u64 0]] aj fun b9 ak => ∃ (a0 : Int), b9 = .returned (.int .i64 a0) ∧
 Keep [av, ay] aj ak ∧
 (a0 ≠ 0 →
 ∀ (b4 : World), Ext (fun b => b = av) ak b4 →
 R (.tuple #[.agg #[.int .i64 0, .int .i64 0, .int .u64 0, .int .i64 0, .int .i64 0, .int .i64 0, .slice none 0 0, .int .u64 0], .int .i64 a0]) b4) ∧
 (a0 = 0 →
 ∃ (bb : Option Addr), ak.cell? (az.add 0) = some (.pointer bb) ∧
 ∀ (ar : World), Ext no ak ar →
 Calls Try.prog 36 #[.pointer bb, .int .u64 al, .agg #[.int .i64 ag, .int .i64 (ai : Int), .int .u64 ac, .int .i64 am, .int .i64 an, .int .i64 a9, .slice ab a8 a5, .int .u64 0]] ar fun b5 aw => ∃ (a1 : Int) (a7 : Int) (ad : Int) (ah : Int) (ae : Int) (a2 : Int) (a6 : Option Addr) (aa : Nat) (a4 : Nat) (af : Int) (a3 : Int), b5 = .returned (.tuple #[.agg #[.int .i64 a1, .int .i64 a7, .int .u64 ad, .int .i64 ah, .int .i64 ae, .int .i64 a2, .slice a6 aa a4, .int .u64 af], .int .i64 a3]) ∧
 Keep [av, ay] ar aw ∧
 (a3 ≠ 0 →
 ∀ (aq : World), Ext (fun b => b = av ∨ b = ay) aw aq →
 R (.tuple #[.agg #[.int .i64 0, .int .i64 0, .int .u64 0, .int .i64 0, .int .i64 0, .int .i64 0, .slice none 0 0, .int .u64 0], .int .i64 a3]) aq) ∧
 (a3 = 0 →
 ∀ (au : World), Ext (fun b => b = ay) aw au →
 Calls Try.prog 37 #[.pointer l1, .agg #[.int .i64 a1, .int .i64 a7, .int .u64 ad, .int .i64 ah, .int .i64 ae, .int .i64 a2, .slice a6 aa a4, .int .u64 af]] au fun b2 ap => b2 = .returned (.tuple #[]) ∧
 Keep [av, ay] au ap ∧
 ∀ (ao : World), Ext (fun b => b = av) ap ao →
 R (.tuple #[.agg #[.int .i64 a1, .int .i64 a7, .int .u64 ad, .int .i64 ah, .int .i64 ae, .int .i64 a2, .slice a6 aa a4, .int .u64 af], .int .i64 0]) ao)))))

theorem chain_Log_Issue.up (l1 : Option Addr) (ap : Int) (aj : Int) (ak : Int) (aa : Int) (a7 : Option Addr) (a8 : Nat) (a9 : Nat) {R : Value → World → Prop} {w : World} (h : chain_Log_Issue.N l1 ap aj ak aa a7 a8 a9 R w) : chain_Log_Issue.M l1 ap aj ak aa a7 a8 a9 R w := by
  unfold chain_Log_Issue.M
  unfold chain_Log_Issue.N at h
  refine thenW_in fun a3 e7 => ?_
  have aq := Blk.of_new e7
  have io := ((Ext.refl no w)).size
  have ic := (Ext.refl no w).x_alloc e7
  refine thenW_in fun im e8 => ?_
  have a0 := Blk.of_new e8
  have an := (ic).size
  have ie := Nat.ne_of_lt aq.lt
  have aq := aq.x_alloc e8
  have cu := ic.x_alloc e8
  refine bif_of (fun c9 => ?_) (fun c9 => ?_)
  · have h := h.1 (isNone_t c9)
    refine ⟨a0.cani 0 rfl rfl, thenW_in fun g1 i6 => ?_⟩
    have fg := cu.x_set (q := a3.heap.size) (i := 0) rfl (.inr an) i6
    have a0 : Blk g1 a3.heap.size 47 [.int .i64 0, .int .i64 0, .int .u64 0, .int .i64 0, .int .i64 0, .int .i64 0, .slice none 0 0, .int .u64 0] := a0.seti 0 rfl i6
    refine ⟨a0.cani 1 rfl rfl, thenW_in fun ec gk => ?_⟩
    have d0 := fg.x_set (q := a3.heap.size) (i := 1) rfl (.inr an) gk
    have a0 : Blk ec a3.heap.size 47 [.int .i64 0, .int .i64 0, .int .u64 0, .int .i64 0, .int .i64 0, .int .i64 0, .slice none 0 0, .int .u64 0] := a0.seti 1 rfl gk
    refine ⟨a0.cani 2 rfl rfl, thenW_in fun d2 gt => ?_⟩
    have dg := d0.x_set (q := a3.heap.size) (i := 2) rfl (.inr an) gt
    have a0 : Blk d2 a3.heap.size 47 [.int .i64 0, .int .i64 0, .int .u64 0, .int .i64 0, .int .i64 0, .int .i64 0, .slice none 0 0, .int .u64 0] := a0.seti 2 rfl gt
    refine ⟨a0.cani 3 rfl rfl, thenW_in fun fr i9 => ?_⟩
    have en := dg.x_set (q := a3.heap.size) (i := 3) rfl (.inr an) i9
    have a0 : Blk fr a3.heap.size 47 [.int .i64 0, .int .i64 0, .int .u64 0, .int .i64 0, .int .i64 0, .int .i64 0, .slice none 0 0, .int .u64 0] := a0.seti 3 rfl i9
    refine ⟨a0.cani 4 rfl rfl, thenW_in fun dq i8 => ?_⟩
    have f9 := en.x_set (q := a3.heap.size) (i := 4) rfl (.inr an) i8
    have a0 : Blk dq a3.heap.size 47 [.int .i64 0, .int .i64 0, .int .u64 0, .int .i64 0, .int .i64 0, .int .i64 0, .slice none 0 0, .int .u64 0] := a0.seti 4 rfl i8
    refine ⟨a0.cani 5 rfl rfl, thenW_in fun dv i7 => ?_⟩
    have da := f9.x_set (q := a3.heap.size) (i := 5) rfl (.inr an) i7
    have a0 : Blk dv a3.heap.size 47 [.int .i64 0, .int .i64 0, .int .u64 0, .int .i64 0, .int .i64 0, .int .i64 0, .slice none 0 0, .int .u64 0] := a0.seti 5 rfl i7
    refine ⟨a0.cani 6 rfl rfl, thenW_in fun f4 gg => ?_⟩
    have cw := da.x_set (q := a3.heap.size) (i := 6) rfl (.inr an) gg
    have a0 : Blk f4 a3.heap.size 47 [.int .i64 0, .int .i64 0, .int .u64 0, .int .i64 0, .int .i64 0, .int .i64 0, .slice none 0 0, .int .u64 0] := a0.seti 6 rfl gg
    refine ⟨a0.cani 7 rfl rfl, thenW_in fun cr gq => ?_⟩
    have dz := cw.x_set (q := a3.heap.size) (i := 7) rfl (.inr an) gq
    have a0 : Blk cr a3.heap.size 47 [.int .i64 0, .int .i64 0, .int .u64 0, .int .i64 0, .int .i64 0, .int .i64 0, .slice none 0 0, .int .u64 0] := a0.seti 7 rfl gq
    refine ⟨0, 0, 0, 0, 0, 0, none, 0, 0, 0, ⟨a0.celli 0 rfl rfl, a0.celli 1 rfl rfl, a0.celli 2 rfl rfl, a0.celli 3 rfl rfl, a0.celli 4 rfl rfl, a0.celli 5 rfl rfl, a0.celli 6 rfl rfl, a0.celli 7 rfl rfl, trivial⟩, ?_⟩
    have h := h cr dz
    exact h
  · have h := h.2 (isNone_f c9)
    obtain ⟨il, aw, h⟩ := h
    refine elim_some aw ?_
    obtain ⟨dd, db, fz, g0, h⟩ := h
    refine ⟨dd, db, fz, (cu).cell g0 id, ?_⟩
    refine bif_of (fun ey => ?_) (fun ey => ?_)
    · have h := h.1 (of_decide_eq_true ey)
      refine ⟨a0.cani 0 rfl rfl, thenW_in fun g7 i0 => ?_⟩
      have d8 := cu.x_set (q := a3.heap.size) (i := 0) rfl (.inr an) i0
      have a0 : Blk g7 a3.heap.size 47 [.int .i64 0, .int .i64 0, .int .u64 0, .int .i64 0, .int .i64 0, .int .i64 0, .slice none 0 0, .int .u64 0] := a0.seti 0 rfl i0
      refine ⟨a0.cani 1 rfl rfl, thenW_in fun cy gf => ?_⟩
      have du := d8.x_set (q := a3.heap.size) (i := 1) rfl (.inr an) gf
      have a0 : Blk cy a3.heap.size 47 [.int .i64 0, .int .i64 0, .int .u64 0, .int .i64 0, .int .i64 0, .int .i64 0, .slice none 0 0, .int .u64 0] := a0.seti 1 rfl gf
      refine ⟨a0.cani 2 rfl rfl, thenW_in fun di ia => ?_⟩
      have fx := du.x_set (q := a3.heap.size) (i := 2) rfl (.inr an) ia
      have a0 : Blk di a3.heap.size 47 [.int .i64 0, .int .i64 0, .int .u64 0, .int .i64 0, .int .i64 0, .int .i64 0, .slice none 0 0, .int .u64 0] := a0.seti 2 rfl ia
      refine ⟨a0.cani 3 rfl rfl, thenW_in fun ep gw => ?_⟩
      have ed := fx.x_set (q := a3.heap.size) (i := 3) rfl (.inr an) gw
      have a0 : Blk ep a3.heap.size 47 [.int .i64 0, .int .i64 0, .int .u64 0, .int .i64 0, .int .i64 0, .int .i64 0, .slice none 0 0, .int .u64 0] := a0.seti 3 rfl gw
      refine ⟨a0.cani 4 rfl rfl, thenW_in fun dn gx => ?_⟩
      have fa := ed.x_set (q := a3.heap.size) (i := 4) rfl (.inr an) gx
      have a0 : Blk dn a3.heap.size 47 [.int .i64 0, .int .i64 0, .int .u64 0, .int .i64 0, .int .i64 0, .int .i64 0, .slice none 0 0, .int .u64 0] := a0.seti 4 rfl gx
      refine ⟨a0.cani 5 rfl rfl, thenW_in fun g3 i5 => ?_⟩
      have fl := fa.x_set (q := a3.heap.size) (i := 5) rfl (.inr an) i5
      have a0 : Blk g3 a3.heap.size 47 [.int .i64 0, .int .i64 0, .int .u64 0, .int .i64 0, .int .i64 0, .int .i64 0, .slice none 0 0, .int .u64 0] := a0.seti 5 rfl i5
      refine ⟨a0.cani 6 rfl rfl, thenW_in fun ds gr => ?_⟩
      have dr := fl.x_set (q := a3.heap.size) (i := 6) rfl (.inr an) gr
      have a0 : Blk ds a3.heap.size 47 [.int .i64 0, .int .i64 0, .int .u64 0, .int .i64 0, .int .i64 0, .int .i64 0, .slice none 0 0, .int .u64 0] := a0.seti 6 rfl gr
      refine ⟨a0.cani 7 rfl rfl, thenW_in fun bp gm => ?_⟩
      have fo := dr.x_set (q := a3.heap.size) (i := 7) rfl (.inr an) gm
      have a0 : Blk bp a3.heap.size 47 [.int .i64 0, .int .i64 0, .int .u64 0, .int .i64 0, .int .i64 0, .int .i64 0, .slice none 0 0, .int .u64 0] := a0.seti 7 rfl gm
      refine ⟨0, 0, 0, 0, 0, 0, none, 0, 0, 0, ⟨a0.celli 0 rfl rfl, a0.celli 1 rfl rfl, a0.celli 2 rfl rfl, a0.celli 3 rfl rfl, a0.celli 4 rfl rfl, a0.celli 5 rfl rfl, a0.celli 6 rfl rfl, a0.celli 7 rfl rfl, trivial⟩, ?_⟩
      have h := h bp fo
      exact h
    · have h := h.2 (Int.not_le.1 (of_decide_eq_false ey))
      refine thenW_in fun a2 df => ?_
      have au := cu.x_drew df
      have aq := aq.x_drew df
      have a0 := a0.x_drew df
      refine elim_some aw ?_
      obtain ⟨al, bf, h⟩ := h
      refine ⟨al, (au).cell bf id, ?_⟩
      refine elim_some aw ?_
      obtain ⟨eh, am, f3, cs, h⟩ := h
      refine ⟨eh, am, f3, (au).cell cs id, ?_⟩
      refine elim_some aw ?_
      obtain ⟨ag, bn, h⟩ := h
      refine ⟨ag, (au).cell bn id, ?_⟩
      refine ⟨aj, ak, ⟨aq.celli 0 rfl rfl, aq.celli 1 rfl rfl, trivial⟩, ?_⟩
      refine thenW_in fun ik cv => ?_
      have a4 := Blk.of_new cv
      have b0 := (au).size
      have i1 := Nat.ne_of_lt aq.lt
      have aq := aq.x_alloc cv
      have ac := Nat.ne_of_lt a0.lt
      have a0 := a0.x_alloc cv
      have ay := au.x_alloc cv
      refine ⟨⟨aq.celli 0 rfl rfl, aq.celli 1 rfl rfl, trivial⟩, (ay).cell bn id, (ay).cell cs id, (ay).cell bf id, ?_⟩
      refine ⟨a4.cani 0 rfl rfl, thenW_in fun g9 fu => ?_⟩
      have er := ay.x_set (q := a2.heap.size) (i := 0) rfl (.inr b0) fu
      have a0 := a0.oth (q := a2.heap.size) (i := 0) rfl ac fu
      have a4 : Blk g9 a2.heap.size 47 [.int .i64 al, .int .i64 0, .int .u64 0, .int .i64 0, .int .i64 0, .int .i64 0, .slice none 0 0, .int .u64 0] := a4.seti 0 rfl fu
      refine ⟨a4.cani 1 rfl rfl, thenW_in fun ek e4 => ?_⟩
      have fi := er.x_set (q := a2.heap.size) (i := 1) rfl (.inr b0) e4
      have a0 := a0.oth (q := a2.heap.size) (i := 1) rfl ac e4
      have a4 : Blk ek a2.heap.size 47 [.int .i64 al, .int .i64 (am : Int), .int .u64 0, .int .i64 0, .int .i64 0, .int .i64 0, .slice none 0 0, .int .u64 0] := a4.seti 1 rfl e4
      refine ⟨a4.cani 2 rfl rfl, thenW_in fun f0 dk => ?_⟩
      have f5 := fi.x_set (q := a2.heap.size) (i := 2) rfl (.inr b0) dk
      have a0 := a0.oth (q := a2.heap.size) (i := 2) rfl ac dk
      have a4 : Blk f0 a2.heap.size 47 [.int .i64 al, .int .i64 (am : Int), .int .u64 ag, .int .i64 0, .int .i64 0, .int .i64 0, .slice none 0 0, .int .u64 0] := a4.seti 2 rfl dk
      refine ⟨a4.cani 3 rfl rfl, thenW_in fun cz e1 => ?_⟩
      have e9 := f5.x_set (q := a2.heap.size) (i := 3) rfl (.inr b0) e1
      have a0 := a0.oth (q := a2.heap.size) (i := 3) rfl ac e1
      have a4 : Blk cz a2.heap.size 47 [.int .i64 al, .int .i64 (am : Int), .int .u64 ag, .int .i64 aj, .int .i64 0, .int .i64 0, .slice none 0 0, .int .u64 0] := a4.seti 3 rfl e1
      refine ⟨a4.cani 4 rfl rfl, thenW_in fun ez fb => ?_⟩
      have gc := e9.x_set (q := a2.heap.size) (i := 4) rfl (.inr b0) fb
      have a0 := a0.oth (q := a2.heap.size) (i := 4) rfl ac fb
      have a4 : Blk ez a2.heap.size 47 [.int .i64 al, .int .i64 (am : Int), .int .u64 ag, .int .i64 aj, .int .i64 ak, .int .i64 0, .slice none 0 0, .int .u64 0] := a4.seti 4 rfl fb
      refine ⟨a4.cani 5 rfl rfl, thenW_in fun eq dl => ?_⟩
      have dm := gc.x_set (q := a2.heap.size) (i := 5) rfl (.inr b0) dl
      have a0 := a0.oth (q := a2.heap.size) (i := 5) rfl ac dl
      have a4 : Blk eq a2.heap.size 47 [.int .i64 al, .int .i64 (am : Int), .int .u64 ag, .int .i64 aj, .int .i64 ak, .int .i64 aa, .slice none 0 0, .int .u64 0] := a4.seti 5 rfl dl
      refine ⟨a4.cani 6 rfl rfl, thenW_in fun dc eg => ?_⟩
      have d7 := dm.x_set (q := a2.heap.size) (i := 6) rfl (.inr b0) eg
      have a0 := a0.oth (q := a2.heap.size) (i := 6) rfl ac eg
      have a4 : Blk dc a2.heap.size 47 [.int .i64 al, .int .i64 (am : Int), .int .u64 ag, .int .i64 aj, .int .i64 ak, .int .i64 aa, .slice a7 a8 a9, .int .u64 0] := a4.seti 6 rfl eg
      refine ⟨a4.cani 7 rfl rfl, thenW_in fun dj fk => ?_⟩
      have ew := d7.x_set (q := a2.heap.size) (i := 7) rfl (.inr b0) fk
      have a0 := a0.oth (q := a2.heap.size) (i := 7) rfl ac fk
      have a4 : Blk dj a2.heap.size 47 [.int .i64 al, .int .i64 (am : Int), .int .u64 ag, .int .i64 aj, .int .i64 ak, .int .i64 aa, .slice a7 a8 a9, .int .u64 0] := a4.seti 7 rfl fk
      refine ⟨al, (am : Int), ag, aj, ak, aa, a7, a8, a9, 0, ⟨a4.celli 0 rfl rfl, a4.celli 1 rfl rfl, a4.celli 2 rfl rfl, a4.celli 3 rfl rfl, a4.celli 4 rfl rfl, a4.celli 5 rfl rfl, a4.celli 6 rfl rfl, a4.celli 7 rfl rfl, trivial⟩, ?_⟩
      refine (entry_Right.pure al (am : Int) ag aj ak aa a7 a8 a9 0).mono fun ee ww50 ⟨he, hxx⟩ => ⟨(entry_Right.F al (am : Int) ag aj ak aa a7 a8 a9 0), he, ?_⟩
      have bg := ew.trans hxx
      have a0 := a0.ext hxx id
      have a4 := a4.ext hxx id
      refine bif_of (fun e6 => ?_) (fun e6 => ?_)
      · have h := h.1 (not_t e6)
        refine ⟨a0.cani 0 rfl rfl, thenW_in fun d1 gy => ?_⟩
        have e5 := bg.x_set (q := a3.heap.size) (i := 0) rfl (.inr an) gy
        have a0 : Blk d1 a3.heap.size 47 [.int .i64 0, .int .i64 0, .int .u64 0, .int .i64 0, .int .i64 0, .int .i64 0, .slice none 0 0, .int .u64 0] := a0.seti 0 rfl gy
        refine ⟨a0.cani 1 rfl rfl, thenW_in fun dh gi => ?_⟩
        have ev := e5.x_set (q := a3.heap.size) (i := 1) rfl (.inr an) gi
        have a0 : Blk dh a3.heap.size 47 [.int .i64 0, .int .i64 0, .int .u64 0, .int .i64 0, .int .i64 0, .int .i64 0, .slice none 0 0, .int .u64 0] := a0.seti 1 rfl gi
        refine ⟨a0.cani 2 rfl rfl, thenW_in fun el gh => ?_⟩
        have fy := ev.x_set (q := a3.heap.size) (i := 2) rfl (.inr an) gh
        have a0 : Blk el a3.heap.size 47 [.int .i64 0, .int .i64 0, .int .u64 0, .int .i64 0, .int .i64 0, .int .i64 0, .slice none 0 0, .int .u64 0] := a0.seti 2 rfl gh
        refine ⟨a0.cani 3 rfl rfl, thenW_in fun fw ge => ?_⟩
        have fd := fy.x_set (q := a3.heap.size) (i := 3) rfl (.inr an) ge
        have a0 : Blk fw a3.heap.size 47 [.int .i64 0, .int .i64 0, .int .u64 0, .int .i64 0, .int .i64 0, .int .i64 0, .slice none 0 0, .int .u64 0] := a0.seti 3 rfl ge
        refine ⟨a0.cani 4 rfl rfl, thenW_in fun eu gn => ?_⟩
        have et := fd.x_set (q := a3.heap.size) (i := 4) rfl (.inr an) gn
        have a0 : Blk eu a3.heap.size 47 [.int .i64 0, .int .i64 0, .int .u64 0, .int .i64 0, .int .i64 0, .int .i64 0, .slice none 0 0, .int .u64 0] := a0.seti 4 rfl gn
        refine ⟨a0.cani 5 rfl rfl, thenW_in fun ff ig => ?_⟩
        have f8 := et.x_set (q := a3.heap.size) (i := 5) rfl (.inr an) ig
        have a0 : Blk ff a3.heap.size 47 [.int .i64 0, .int .i64 0, .int .u64 0, .int .i64 0, .int .i64 0, .int .i64 0, .slice none 0 0, .int .u64 0] := a0.seti 5 rfl ig
        refine ⟨a0.cani 6 rfl rfl, thenW_in fun gd i2 => ?_⟩
        have ea := f8.x_set (q := a3.heap.size) (i := 6) rfl (.inr an) i2
        have a0 : Blk gd a3.heap.size 47 [.int .i64 0, .int .i64 0, .int .u64 0, .int .i64 0, .int .i64 0, .int .i64 0, .slice none 0 0, .int .u64 0] := a0.seti 6 rfl i2
        refine ⟨a0.cani 7 rfl rfl, thenW_in fun bq gp => ?_⟩
        have fv := ea.x_set (q := a3.heap.size) (i := 7) rfl (.inr an) gp
        have a0 : Blk bq a3.heap.size 47 [.int .i64 0, .int .i64 0, .int .u64 0, .int .i64 0, .int .i64 0, .int .i64 0, .slice none 0 0, .int .u64 0] := a0.seti 7 rfl gp
        refine ⟨0, 0, 0, 0, 0, 0, none, 0, 0, 0, ⟨a0.celli 0 rfl rfl, a0.celli 1 rfl rfl, a0.celli 2 rfl rfl, a0.celli 3 rfl rfl, a0.celli 4 rfl rfl, a0.celli 5 rfl rfl, a0.celli 6 rfl rfl, a0.celli 7 rfl rfl, trivial⟩, ?_⟩
        have h := h bq fv
        exact h
      · have h := h.2 (not_f e6)
        refine ⟨al, (am : Int), ag, aj, ak, aa, a7, a8, a9, 0, ⟨a4.celli 0 rfl rfl, a4.celli 1 rfl rfl, a4.celli 2 rfl rfl, a4.celli 3 rfl rfl, a4.celli 4 rfl rfl, a4.celli 5 rfl rfl, a4.celli 6 rfl rfl, a4.celli 7 rfl rfl, trivial⟩, ?_⟩
        have h := h ww50 (a3.heap.size) (a2.heap.size) bg (Priv.cons an a0.lt (Priv.cons b0 a4.lt Priv.nil))
        refine h.mono fun ih az h => ?_
        obtain ⟨ar, he, hk, h⟩ := h
        refine ⟨ar, he, ?_⟩
        have a0 := hk.blk a0 (by simp)
        have a4 := hk.blk a4 (by simp)
        refine bif_of (fun es => ?_) (fun es => ?_)
        · have h := h.1 (bne_t es)
          have e2 : Ext (fun b => b = a3.heap.size) az az := ((Ext.refl no az)).none
          refine ⟨a0.cani 0 rfl rfl, thenW_in fun em i4 => ?_⟩
          have dt := e2.x_set (q := a3.heap.size) (i := 0) rfl (.inl rfl) i4
          have a0 : Blk em a3.heap.size 47 [.int .i64 0, .int .i64 0, .int .u64 0, .int .i64 0, .int .i64 0, .int .i64 0, .slice none 0 0, .int .u64 0] := a0.seti 0 rfl i4
          refine ⟨a0.cani 1 rfl rfl, thenW_in fun f2 gs => ?_⟩
          have eo := dt.x_set (q := a3.heap.size) (i := 1) rfl (.inl rfl) gs
          have a0 : Blk f2 a3.heap.size 47 [.int .i64 0, .int .i64 0, .int .u64 0, .int .i64 0, .int .i64 0, .int .i64 0, .slice none 0 0, .int .u64 0] := a0.seti 1 rfl gs
          refine ⟨a0.cani 2 rfl rfl, thenW_in fun de i3 => ?_⟩
          have e0 := eo.x_set (q := a3.heap.size) (i := 2) rfl (.inl rfl) i3
          have a0 : Blk de a3.heap.size 47 [.int .i64 0, .int .i64 0, .int .u64 0, .int .i64 0, .int .i64 0, .int .i64 0, .slice none 0 0, .int .u64 0] := a0.seti 2 rfl i3
          refine ⟨a0.cani 3 rfl rfl, thenW_in fun ft gv => ?_⟩
          have e3 := e0.x_set (q := a3.heap.size) (i := 3) rfl (.inl rfl) gv
          have a0 : Blk ft a3.heap.size 47 [.int .i64 0, .int .i64 0, .int .u64 0, .int .i64 0, .int .i64 0, .int .i64 0, .slice none 0 0, .int .u64 0] := a0.seti 3 rfl gv
          refine ⟨a0.cani 4 rfl rfl, thenW_in fun dw gl => ?_⟩
          have fh := e3.x_set (q := a3.heap.size) (i := 4) rfl (.inl rfl) gl
          have a0 : Blk dw a3.heap.size 47 [.int .i64 0, .int .i64 0, .int .u64 0, .int .i64 0, .int .i64 0, .int .i64 0, .slice none 0 0, .int .u64 0] := a0.seti 4 rfl gl
          refine ⟨a0.cani 5 rfl rfl, thenW_in fun g6 gj => ?_⟩
          have ex := fh.x_set (q := a3.heap.size) (i := 5) rfl (.inl rfl) gj
          have a0 : Blk g6 a3.heap.size 47 [.int .i64 0, .int .i64 0, .int .u64 0, .int .i64 0, .int .i64 0, .int .i64 0, .slice none 0 0, .int .u64 0] := a0.seti 5 rfl gj
          refine ⟨a0.cani 6 rfl rfl, thenW_in fun ej gz => ?_⟩
          have fc := ex.x_set (q := a3.heap.size) (i := 6) rfl (.inl rfl) gz
          have a0 : Blk ej a3.heap.size 47 [.int .i64 0, .int .i64 0, .int .u64 0, .int .i64 0, .int .i64 0, .int .i64 0, .slice none 0 0, .int .u64 0] := a0.seti 6 rfl gz
          refine ⟨a0.cani 7 rfl rfl, thenW_in fun bv gu => ?_⟩
          have dx := fc.x_set (q := a3.heap.size) (i := 7) rfl (.inl rfl) gu
          have a0 : Blk bv a3.heap.size 47 [.int .i64 0, .int .i64 0, .int .u64 0, .int .i64 0, .int .i64 0, .int .i64 0, .slice none 0 0, .int .u64 0] := a0.seti 7 rfl gu
          refine ⟨0, 0, 0, 0, 0, 0, none, 0, 0, 0, ⟨a0.celli 0 rfl rfl, a0.celli 1 rfl rfl, a0.celli 2 rfl rfl, a0.celli 3 rfl rfl, a0.celli 4 rfl rfl, a0.celli 5 rfl rfl, a0.celli 6 rfl rfl, a0.celli 7 rfl rfl, trivial⟩, ?_⟩
          have h := h bv dx
          exact h
        · have h := h.2 (bne_f es)
          refine thenW_in fun fq f7 => ?_
          have cf := (Ext.refl no az).x_drew f7
          have a0 := a0.x_drew f7
          have a4 := a4.x_drew f7
          refine elim_some aw ?_
          obtain ⟨ij, fs, h⟩ := h
          refine ⟨ij, (cf).cell fs id, ?_⟩
          refine ⟨al, (am : Int), ag, aj, ak, aa, a7, a8, a9, 0, ⟨a4.celli 0 rfl rfl, a4.celli 1 rfl rfl, a4.celli 2 rfl rfl, a4.celli 3 rfl rfl, a4.celli 4 rfl rfl, a4.celli 5 rfl rfl, a4.celli 6 rfl rfl, a4.celli 7 rfl rfl, trivial⟩, ?_⟩
          have h := h fq cf
          refine h.mono fun ii ax h => ?_
          obtain ⟨a1, a5, a6, ah, ai, ab, ae, af, ad, ao, b4, he, hk, h⟩ := h
          refine ⟨a1, a5, a6, ah, ai, ab, ae, af, ad, ao, b4, he, ?_⟩
          have a0 := hk.blk a0 (by simp)
          have a4 := hk.blk a4 (by simp)
          have d5 : Ext (fun b => b = a2.heap.size) ax ax := ((Ext.refl no ax)).none
          refine ⟨a4.cani 0 rfl rfl, thenW_in fun g8 ga => ?_⟩
          have fe := d5.x_set (q := a2.heap.size) (i := 0) rfl (.inl rfl) ga
          have a0 := a0.oth (q := a2.heap.size) (i := 0) rfl ac ga
          have a4 : Blk g8 a2.heap.size 47 [.int .i64 a1, .int .i64 (am : Int), .int .u64 ag, .int .i64 aj, .int .i64 ak, .int .i64 aa, .slice a7 a8 a9, .int .u64 0] := a4.seti 0 rfl ga
          refine ⟨a4.cani 1 rfl rfl, thenW_in fun d6 fj => ?_⟩
          have eb := fe.x_set (q := a2.heap.size) (i := 1) rfl (.inl rfl) fj
          have a0 := a0.oth (q := a2.heap.size) (i := 1) rfl ac fj
          have a4 : Blk d6 a2.heap.size 47 [.int .i64 a1, .int .i64 a5, .int .u64 ag, .int .i64 aj, .int .i64 ak, .int .i64 aa, .slice a7 a8 a9, .int .u64 0] := a4.seti 1 rfl fj
          refine ⟨a4.cani 2 rfl rfl, thenW_in fun fm g5 => ?_⟩
          have f1 := eb.x_set (q := a2.heap.size) (i := 2) rfl (.inl rfl) g5
          have a0 := a0.oth (q := a2.heap.size) (i := 2) rfl ac g5
          have a4 : Blk fm a2.heap.size 47 [.int .i64 a1, .int .i64 a5, .int .u64 a6, .int .i64 aj, .int .i64 ak, .int .i64 aa, .slice a7 a8 a9, .int .u64 0] := a4.seti 2 rfl g5
          refine ⟨a4.cani 3 rfl rfl, thenW_in fun cx d4 => ?_⟩
          have g2 := f1.x_set (q := a2.heap.size) (i := 3) rfl (.inl rfl) d4
          have a0 := a0.oth (q := a2.heap.size) (i := 3) rfl ac d4
          have a4 : Blk cx a2.heap.size 47 [.int .i64 a1, .int .i64 a5, .int .u64 a6, .int .i64 ah, .int .i64 ak, .int .i64 aa, .slice a7 a8 a9, .int .u64 0] := a4.seti 3 rfl d4
          refine ⟨a4.cani 4 rfl rfl, thenW_in fun g4 ei => ?_⟩
          have f6 := g2.x_set (q := a2.heap.size) (i := 4) rfl (.inl rfl) ei
          have a0 := a0.oth (q := a2.heap.size) (i := 4) rfl ac ei
          have a4 : Blk g4 a2.heap.size 47 [.int .i64 a1, .int .i64 a5, .int .u64 a6, .int .i64 ah, .int .i64 ai, .int .i64 aa, .slice a7 a8 a9, .int .u64 0] := a4.seti 4 rfl ei
          refine ⟨a4.cani 5 rfl rfl, thenW_in fun gb dy => ?_⟩
          have d9 := f6.x_set (q := a2.heap.size) (i := 5) rfl (.inl rfl) dy
          have a0 := a0.oth (q := a2.heap.size) (i := 5) rfl ac dy
          have a4 : Blk gb a2.heap.size 47 [.int .i64 a1, .int .i64 a5, .int .u64 a6, .int .i64 ah, .int .i64 ai, .int .i64 ab, .slice a7 a8 a9, .int .u64 0] := a4.seti 5 rfl dy
          refine ⟨a4.cani 6 rfl rfl, thenW_in fun fp d3 => ?_⟩
          have ef := d9.x_set (q := a2.heap.size) (i := 6) rfl (.inl rfl) d3
          have a0 := a0.oth (q := a2.heap.size) (i := 6) rfl ac d3
          have a4 : Blk fp a2.heap.size 47 [.int .i64 a1, .int .i64 a5, .int .u64 a6, .int .i64 ah, .int .i64 ai, .int .i64 ab, .slice ae af ad, .int .u64 0] := a4.seti 6 rfl d3
          refine ⟨a4.cani 7 rfl rfl, thenW_in fun b3 dp => ?_⟩
          have ca := ef.x_set (q := a2.heap.size) (i := 7) rfl (.inl rfl) dp
          have a0 := a0.oth (q := a2.heap.size) (i := 7) rfl ac dp
          have a4 : Blk b3 a2.heap.size 47 [.int .i64 a1, .int .i64 a5, .int .u64 a6, .int .i64 ah, .int .i64 ai, .int .i64 ab, .slice ae af ad, .int .u64 ao] := a4.seti 7 rfl dp
          refine bif_of (fun b5 => ?_) (fun b5 => ?_)
          · have h := h.1 (bne_t b5)
            have c6 : Ext (fun b => b = a3.heap.size ∨ b = a2.heap.size) ax b3 := (ca).mono fun _ h _ => .inr h
            refine ⟨a0.cani 0 rfl rfl, thenW_in fun cb bb => ?_⟩
            have ck := c6.x_set (q := a3.heap.size) (i := 0) rfl (.inl (.inl rfl)) bb
            have a0 : Blk cb a3.heap.size 47 [.int .i64 0, .int .i64 0, .int .u64 0, .int .i64 0, .int .i64 0, .int .i64 0, .slice none 0 0, .int .u64 0] := a0.seti 0 rfl bb
            refine ⟨a0.cani 1 rfl rfl, thenW_in fun c5 cc => ?_⟩
            have ch := ck.x_set (q := a3.heap.size) (i := 1) rfl (.inl (.inl rfl)) cc
            have a0 : Blk c5 a3.heap.size 47 [.int .i64 0, .int .i64 0, .int .u64 0, .int .i64 0, .int .i64 0, .int .i64 0, .slice none 0 0, .int .u64 0] := a0.seti 1 rfl cc
            refine ⟨a0.cani 2 rfl rfl, thenW_in fun br ct => ?_⟩
            have bi := ch.x_set (q := a3.heap.size) (i := 2) rfl (.inl (.inl rfl)) ct
            have a0 : Blk br a3.heap.size 47 [.int .i64 0, .int .i64 0, .int .u64 0, .int .i64 0, .int .i64 0, .int .i64 0, .slice none 0 0, .int .u64 0] := a0.seti 2 rfl ct
            refine ⟨a0.cani 3 rfl rfl, thenW_in fun bx ba => ?_⟩
            have b9 := bi.x_set (q := a3.heap.size) (i := 3) rfl (.inl (.inl rfl)) ba
            have a0 : Blk bx a3.heap.size 47 [.int .i64 0, .int .i64 0, .int .u64 0, .int .i64 0, .int .i64 0, .int .i64 0, .slice none 0 0, .int .u64 0] := a0.seti 3 rfl ba
            refine ⟨a0.cani 4 rfl rfl, thenW_in fun c8 c4 => ?_⟩
            have bc := b9.x_set (q := a3.heap.size) (i := 4) rfl (.inl (.inl rfl)) c4
            have a0 : Blk c8 a3.heap.size 47 [.int .i64 0, .int .i64 0, .int .u64 0, .int .i64 0, .int .i64 0, .int .i64 0, .slice none 0 0, .int .u64 0] := a0.seti 4 rfl c4
            refine ⟨a0.cani 5 rfl rfl, thenW_in fun bz bo => ?_⟩
            have bm := bc.x_set (q := a3.heap.size) (i := 5) rfl (.inl (.inl rfl)) bo
            have a0 : Blk bz a3.heap.size 47 [.int .i64 0, .int .i64 0, .int .u64 0, .int .i64 0, .int .i64 0, .int .i64 0, .slice none 0 0, .int .u64 0] := a0.seti 5 rfl bo
            refine ⟨a0.cani 6 rfl rfl, thenW_in fun bh ci => ?_⟩
            have b7 := bm.x_set (q := a3.heap.size) (i := 6) rfl (.inl (.inl rfl)) ci
            have a0 : Blk bh a3.heap.size 47 [.int .i64 0, .int .i64 0, .int .u64 0, .int .i64 0, .int .i64 0, .int .i64 0, .slice none 0 0, .int .u64 0] := a0.seti 6 rfl ci
            refine ⟨a0.cani 7 rfl rfl, thenW_in fun b2 bt => ?_⟩
            have bk := b7.x_set (q := a3.heap.size) (i := 7) rfl (.inl (.inl rfl)) bt
            have a0 : Blk b2 a3.heap.size 47 [.int .i64 0, .int .i64 0, .int .u64 0, .int .i64 0, .int .i64 0, .int .i64 0, .slice none 0 0, .int .u64 0] := a0.seti 7 rfl bt
            refine ⟨0, 0, 0, 0, 0, 0, none, 0, 0, 0, ⟨a0.celli 0 rfl rfl, a0.celli 1 rfl rfl, a0.celli 2 rfl rfl, a0.celli 3 rfl rfl, a0.celli 4 rfl rfl, a0.celli 5 rfl rfl, a0.celli 6 rfl rfl, a0.celli 7 rfl rfl, trivial⟩, ?_⟩
            have h := h b2 bk
            exact h
          · have h := h.2 (bne_f b5)
            refine ⟨a1, a5, a6, ah, ai, ab, ae, af, ad, ao, ⟨a4.celli 0 rfl rfl, a4.celli 1 rfl rfl, a4.celli 2 rfl rfl, a4.celli 3 rfl rfl, a4.celli 4 rfl rfl, a4.celli 5 rfl rfl, a4.celli 6 rfl rfl, a4.celli 7 rfl rfl, trivial⟩, ?_⟩
            have h := h b3 ca
            refine h.mono fun ib av h => ?_
            obtain ⟨he, hk, h⟩ := h
            refine ⟨he, ?_⟩
            have a0 := hk.blk a0 (by simp)
            have a4 := hk.blk a4 (by simp)
            refine ⟨a1, a5, a6, ah, ai, ab, ae, af, ad, ao, ⟨a4.celli 0 rfl rfl, a4.celli 1 rfl rfl, a4.celli 2 rfl rfl, a4.celli 3 rfl rfl, a4.celli 4 rfl rfl, a4.celli 5 rfl rfl, a4.celli 6 rfl rfl, a4.celli 7 rfl rfl, trivial⟩, ?_⟩
            have cp : Ext (fun b => b = a3.heap.size) av av := ((Ext.refl no av)).none
            refine ⟨a0.cani 0 rfl rfl, thenW_in fun bw bs => ?_⟩
            have bd := cp.x_set (q := a3.heap.size) (i := 0) rfl (.inl rfl) bs
            have a0 : Blk bw a3.heap.size 47 [.int .i64 a1, .int .i64 0, .int .u64 0, .int .i64 0, .int .i64 0, .int .i64 0, .slice none 0 0, .int .u64 0] := a0.seti 0 rfl bs
            refine ⟨a0.cani 1 rfl rfl, thenW_in fun c2 c0 => ?_⟩
            have co := bd.x_set (q := a3.heap.size) (i := 1) rfl (.inl rfl) c0
            have a0 : Blk c2 a3.heap.size 47 [.int .i64 a1, .int .i64 a5, .int .u64 0, .int .i64 0, .int .i64 0, .int .i64 0, .slice none 0 0, .int .u64 0] := a0.seti 1 rfl c0
            refine ⟨a0.cani 2 rfl rfl, thenW_in fun ce b8 => ?_⟩
            have c1 := co.x_set (q := a3.heap.size) (i := 2) rfl (.inl rfl) b8
            have a0 : Blk ce a3.heap.size 47 [.int .i64 a1, .int .i64 a5, .int .u64 a6, .int .i64 0, .int .i64 0, .int .i64 0, .slice none 0 0, .int .u64 0] := a0.seti 2 rfl b8
            refine ⟨a0.cani 3 rfl rfl, thenW_in fun cq bu => ?_⟩
            have c3 := c1.x_set (q := a3.heap.size) (i := 3) rfl (.inl rfl) bu
            have a0 : Blk cq a3.heap.size 47 [.int .i64 a1, .int .i64 a5, .int .u64 a6, .int .i64 ah, .int .i64 0, .int .i64 0, .slice none 0 0, .int .u64 0] := a0.seti 3 rfl bu
            refine ⟨a0.cani 4 rfl rfl, thenW_in fun cj bl => ?_⟩
            have be := c3.x_set (q := a3.heap.size) (i := 4) rfl (.inl rfl) bl
            have a0 : Blk cj a3.heap.size 47 [.int .i64 a1, .int .i64 a5, .int .u64 a6, .int .i64 ah, .int .i64 ai, .int .i64 0, .slice none 0 0, .int .u64 0] := a0.seti 4 rfl bl
            refine ⟨a0.cani 5 rfl rfl, thenW_in fun cn cl => ?_⟩
            have cm := be.x_set (q := a3.heap.size) (i := 5) rfl (.inl rfl) cl
            have a0 : Blk cn a3.heap.size 47 [.int .i64 a1, .int .i64 a5, .int .u64 a6, .int .i64 ah, .int .i64 ai, .int .i64 ab, .slice none 0 0, .int .u64 0] := a0.seti 5 rfl cl
            refine ⟨a0.cani 6 rfl rfl, thenW_in fun cd cg => ?_⟩
            have b6 := cm.x_set (q := a3.heap.size) (i := 6) rfl (.inl rfl) cg
            have a0 : Blk cd a3.heap.size 47 [.int .i64 a1, .int .i64 a5, .int .u64 a6, .int .i64 ah, .int .i64 ai, .int .i64 ab, .slice ae af ad, .int .u64 0] := a0.seti 6 rfl cg
            refine ⟨a0.cani 7 rfl rfl, thenW_in fun b1 bj => ?_⟩
            have c7 := b6.x_set (q := a3.heap.size) (i := 7) rfl (.inl rfl) bj
            have a0 : Blk b1 a3.heap.size 47 [.int .i64 a1, .int .i64 a5, .int .u64 a6, .int .i64 ah, .int .i64 ai, .int .i64 ab, .slice ae af ad, .int .u64 ao] := a0.seti 7 rfl bj
            refine ⟨a1, a5, a6, ah, ai, ab, ae, af, ad, ao, ⟨a0.celli 0 rfl rfl, a0.celli 1 rfl rfl, a0.celli 2 rfl rfl, a0.celli 3 rfl rfl, a0.celli 4 rfl rfl, a0.celli 5 rfl rfl, a0.celli 6 rfl rfl, a0.celli 7 rfl rfl, trivial⟩, ?_⟩
            have h := h b1 c7
            exact h

theorem chain_Log_Issue.go (l1 : Option Addr) (a0 : Int) (a5 : Int) (a6 : Int) (a1 : Int) (a2 : Option Addr) (a4 : Nat) (a3 : Nat) {R : Value → World → Prop} {w : World} (h : chain_Log_Issue.N l1 a0 a5 a6 a1 a2 a4 a3 R w) : Calls Try.prog 15 #[.pointer l1, .int .u64 a0, .agg #[.int .i64 a5, .int .i64 a6], .int .i64 a1, .slice a2 a4 a3] w fun e w' => ∃ v, e = .returned v ∧ R v w' := chain_Log_Issue.ok l1 a0 a5 a6 a1 a2 a4 a3 (chain_Log_Issue.up l1 a0 a5 a6 a1 a2 a4 a3 h)
/-- (*chain.Log).Cut -/
def chain_Log_Cut.M (l1 : Option Addr) (n2 : Int) (R : Value → World → Prop) (w : World) : Prop :=
 bif Option.isNone l1 then (
 R (.slice none 0 0) w) else (
 l1.elim False fun a3 =>
 ∃ (b8 : Option Addr) (b1 : Nat) (ba : Nat), w.cell? (a3.add 3) = some (.slice b8 b1 ba) ∧
 bif decide (n2 ≥ (b1 : Int)) then (
 R (.slice none 0 0) w) else (
 l1.elim False fun a5 =>
 ∃ (aq : Option Addr) (au : Nat) (ax : Nat), w.cell? (a5.add 3) = some (.slice aq au ax) ∧
 (0 : Int) ≤ ((if (0 : Int) > n2 then 0 else n2) : Int) ∧ ((if (0 : Int) > n2 then 0 else n2) : Int) ≤ (au : Int) ∧
 Calls Try.prog 29 #[.slice (if ax = Int.toNat (if (0 : Int) > n2 then 0 else n2) then aq else Option.map (fun z : Addr => z.add ((Int.toNat (if (0 : Int) > n2 then 0 else n2)) * 8)) aq) (au - (Int.toNat (if (0 : Int) > n2 then 0 else n2))) (ax - (Int.toNat (if (0 : Int) > n2 then 0 else n2)))] w fun b6 av => ∃ (a4 : Option Addr) (a2 : Nat) (a1 : Nat), b6 = .returned (.slice a4 a2 a1) ∧
 l1.elim False fun b4 =>
 ∃ (ah : Option Addr) (ar : Nat) (ao : Nat), av.cell? (b4.add 3) = some (.slice ah ar ao) ∧
 (0 : Int) ≤ ((if (0 : Int) > n2 then 0 else n2) : Int) ∧ ((if (0 : Int) > n2 then 0 else n2) : Int) ≤ (ao : Int) ∧ (0 : Int) ≤ ((if (0 : Int) > n2 then 0 else n2) : Int) ∧ ((if (0 : Int) > n2 then 0 else n2) : Int) ≤ ((if (0 : Int) > n2 then 0 else n2) : Int) ∧
 l1.elim False fun b3 =>
 canStore av ((b3.add 3).add 0) ∧
 thenW (av.setCell ((b3.add 3).add 0) (.slice (if Int.toNat (if (0 : Int) > n2 then 0 else n2) = 0 then ah else Option.map (fun z : Addr => z.add (0 * 8)) ah) ((Int.toNat (if (0 : Int) > n2 then 0 else n2)) - 0) ((Int.toNat (if (0 : Int) > n2 then 0 else n2)) - 0))) fun aj =>
 l1.elim False fun b2 =>
 canStore aj ((b2.add 4).add 0) ∧
 thenW (aj.setCell ((b2.add 4).add 0) (.int .u64 0)) fun ai =>
 bif decide ((if (0 : Int) > n2 then 0 else n2) > 0) then (
 thenW (ai.drew) fun af =>
 l1.elim False fun b5 =>
 ∃ (b0 : Option Addr), af.cell? (b5.add 0) = some (.pointer b0) ∧
 l1.elim False fun b7 =>
 ∃ (am : Option Addr) (an : Nat) (ap : Nat), af.cell? (b7.add 3) = some (.slice am an ap) ∧
 am.elim False fun b9 =>
 0 ≤ ((IntKind.i64.wrap ((if (0 : Int) > n2 then 0 else n2) - 1)) : Int) ∧ ((IntKind.i64.wrap ((if (0 : Int) > n2 then 0 else n2) - 1)) : Int) < (an : Int) ∧
 ∃ (a0 : Int) (a6 : Int) (ab : Int) (ad : Int) (ae : Int) (a9 : Int) (a8 : Option Addr) (a7 : Nat) (aa : Nat) (ac : Int), cellsAt af (b9.add (Int.toNat (IntKind.i64.wrap ((if (0 : Int) > n2 then 0 else n2) - 1)) * 8)) [.int .i64 a0, .int .i64 a6, .int .u64 ab, .int .i64 ad, .int .i64 ae, .int .i64 a9, .slice a8 a7 aa, .int .u64 ac] 0 ∧
 Calls Try.prog 30 #[.pointer b0, .agg #[.int .i64 a0, .int .i64 a6, .int .u64 ab, .int .i64 ad, .int .i64 ae, .int .i64 a9, .slice a8 a7 aa, .int .u64 ac]] af fun aw al => ∃ (ag : Int) (ak : Int), aw = .returned (.tuple #[.int .u64 ag, .int .i64 ak]) ∧
 l1.elim False fun az =>
 canStore al ((az.add 4).add 0) ∧
 thenW (al.setCell ((az.add 4).add 0) (.int .u64 ag)) fun ay =>
 R (.slice a4 a2 a1) ay) else (
 R (.slice a4 a2 a1) ai)))

theorem chain_Log_Cut.eq (l1 : Option Addr) (n2 : Int) (R : Value → World → Prop) (w : World) : mfunc Try.prog [] 12 [.pointer l1, .int .i64 n2] R w = chain_Log_Cut.M l1 n2 R w := by kernel_rfl
theorem chain_Log_Cut.ok (l1 : Option Addr) (n2 : Int) {R : Value → World → Prop} {w : World} (h : chain_Log_Cut.M l1 n2 R w) : Calls Try.prog 12 #[.pointer l1, .int .i64 n2] w fun e w' => ∃ v, e = .returned v ∧ R v w' :=
  mfunc_ok follows (H := []) (args := [.pointer l1, .int .i64 n2]) (by rw [chain_Log_Cut.eq]; exact h)

def chain_Log_Cut.N (l1 : Option Addr) (n2 : Int) (R : Value → World → Prop) (w : World) : Prop :=
 (l1 = none →
 R (.slice none 0 0) w) ∧
 (l1 ≠ none →
 ∃ a4 : Addr, l1 = some a4 ∧
 ∃ (b2 : Option Addr) (av : Nat) (b3 : Nat), w.cell? (a4.add 3) = some (.slice b2 av b3) ∧
 (n2 ≥ (av : Int) →
 R (.slice none 0 0) w) ∧
 (n2 < (av : Int) →
 ∃ (b0 : Option Addr) (ax : Nat) (aw : Nat), w.cell? (a4.add 3) = some (.slice b0 ax aw) ∧
 (0 : Int) ≤ ((if (0 : Int) > n2 then 0 else n2) : Int) ∧ ((if (0 : Int) > n2 then 0 else n2) : Int) ≤ (ax : Int) ∧ 
 Calls Try.prog 29 #[.slice (cutA b0 aw (Int.toNat (if (0 : Int) > n2 then 0 else n2)) 8) (ax - (Int.toNat (if (0 : Int) > n2 then 0 else n2))) (aw - (Int.toNat (if (0 : Int) > n2 then 0 else n2)))] w fun ay ag => ∃ (a0 : Option Addr) (a2 : Nat) (a1 : Nat), ay = .returned (.slice a0 a2 a1) ∧
 ∃ (ao : Option Addr) (ar : Nat) (ai : Nat), ag.cell? (a4.add 3) = some (.slice ao ar ai) ∧
 (0 : Int) ≤ ((if (0 : Int) > n2 then 0 else n2) : Int) ∧ ((if (0 : Int) > n2 then 0 else n2) : Int) ≤ (ai : Int) ∧ (0 : Int) ≤ ((if (0 : Int) > n2 then 0 else n2) : Int) ∧ ((if (0 : Int) > n2 then 0 else n2) : Int) ≤ ((if (0 : Int) > n2 then 0 else n2) : Int) ∧ 
 canStore ag ((a4.add 3).add 0) ∧
 thenW (ag.setCell ((a4.add 3).add 0) (.slice ao (Int.toNat (if (0 : Int) > n2 then 0 else n2)) (Int.toNat (if (0 : Int) > n2 then 0 else n2)))) fun ah =>
 canStore ah ((a4.add 4).add 0) ∧
 thenW (ah.setCell ((a4.add 4).add 0) (.int .u64 0)) fun ac =>
 ((if (0 : Int) > n2 then 0 else n2) > 0 →
 ∃ (b1 : Option Addr), ac.cell? (a4.add 0) = some (.pointer b1) ∧
 ∃ (an : Option Addr) (al : Nat) (au : Nat), ac.cell? (a4.add 3) = some (.slice an al au) ∧
 (-9223372036854775808 : Int) ≤ ((if (0 : Int) > n2 then 0 else n2) - 1) ∧ ((if (0 : Int) > n2 then 0 else n2) - 1) < 9223372036854775808 ∧
 ∃ az : Addr, an = some az ∧
 0 ≤ (((if (0 : Int) > n2 then 0 else n2) - 1) : Int) ∧ (((if (0 : Int) > n2 then 0 else n2) - 1) : Int) < (al : Int) ∧
 ∃ (a3 : Int) (a9 : Int) (aa : Int) (ab : Int) (ad : Int) (a8 : Int) (a6 : Option Addr) (a5 : Nat) (a7 : Nat) (ae : Int), cellsAt ac (az.add (Int.toNat ((if (0 : Int) > n2 then 0 else n2) - 1) * 8)) [.int .i64 a3, .int .i64 a9, .int .u64 aa, .int .i64 ab, .int .i64 ad, .int .i64 a8, .slice a6 a5 a7, .int .u64 ae] 0 ∧
 ∀ (aj : World), Ext no ac aj →
 Calls Try.prog 30 #[.pointer b1, .agg #[.int .i64 a3, .int .i64 a9, .int .u64 aa, .int .i64 ab, .int .i64 ad, .int .i64 a8, .slice a6 a5 a7, .int .u64 ae]] aj fun ap am => ∃ (af : Int) (ak : Int), ap = .returned (.tuple #[.int .u64 af, .int .i64 ak]) ∧
 canStore am ((a4.add 4).add 0) ∧
 thenW (am.setCell ((a4.add 4).add 0) (.int .u64 af)) fun aq =>
 R (.slice a0 a2 a1) aq) ∧
 ((if (0 : Int) > n2 then 0 else n2) ≤ 0 →
 R (.slice a0 a2 a1) ac)))

theorem chain_Log_Cut.up (l1 : Option Addr) (n2 : Int) {R : Value → World → Prop} {w : World} (h : chain_Log_Cut.N l1 n2 R w) : chain_Log_Cut.M l1 n2 R w := by
  unfold chain_Log_Cut.M
  unfold chain_Log_Cut.N at h
  refine bif_of (fun c3 => ?_) (fun c3 => ?_)
  · have h := h.1 (isNone_t c3)
    exact h
  · have h := h.2 (isNone_f c3)
    obtain ⟨a4, ac, h⟩ := h
    refine elim_some ac ?_
    obtain ⟨b5, be, bi, bl, h⟩ := h
    refine ⟨b5, be, bi, bl, ?_⟩
    refine bif_of (fun c7 => ?_) (fun c7 => ?_)
    · have h := h.1 (of_decide_eq_true c7)
      exact h
    · have h := h.2 (Int.not_le.1 (of_decide_eq_false c7))
      refine elim_some ac ?_
      obtain ⟨b9, bg, bf, b2, h⟩ := h
      refine ⟨b9, bg, bf, b2, ?_⟩
      obtain ⟨al, ag, h⟩ := h
      refine ⟨al, ag, ?_⟩
      refine h.mono fun bj b8 h => ?_
      obtain ⟨a7, a9, a8, he, h⟩ := h
      refine ⟨a7, a9, a8, he, ?_⟩
      refine elim_some ac ?_
      obtain ⟨ay, an, ak, aq, h⟩ := h
      refine ⟨ay, an, ak, aq, ?_⟩
      obtain ⟨al, ag, ao, bc, h⟩ := h
      refine ⟨al, ag, ao, bc, ?_⟩
      try rw [cut_zero]
      refine elim_some ac ?_
      obtain ⟨hcs, h⟩ := h
      refine ⟨hcs, thenW_in fun b1 bk => ?_⟩
      replace h := thenW_out h bk
      refine elim_some ac ?_
      obtain ⟨hcs, h⟩ := h
      refine ⟨hcs, thenW_in fun av bd => ?_⟩
      replace h := thenW_out h bd
      refine bif_of (fun b0 => ?_) (fun b0 => ?_)
      · have h := h.1 (of_decide_eq_true b0)
        refine thenW_in fun am b7 => ?_
        have ab := (Ext.refl no av).x_drew b7
        refine elim_some ac ?_
        obtain ⟨bm, aj, h⟩ := h
        refine ⟨bm, (ab).cell aj id, ?_⟩
        refine elim_some ac ?_
        obtain ⟨ax, aw, ar, au, h⟩ := h
        refine ⟨ax, aw, ar, (ab).cell au id, ?_⟩
        obtain ⟨b3, b4, h⟩ := h
        try rw [w64 b3 b4]
        obtain ⟨bn, az, h⟩ := h
        refine elim_some az ?_
        obtain ⟨ag, ao, h⟩ := h
        refine ⟨ag, ao, ?_⟩
        obtain ⟨a0, a6, aa, ad, ae, a5, a2, a1, a3, af, ap, h⟩ := h
        refine ⟨a0, a6, aa, ad, ae, a5, a2, a1, a3, af, cellsAt_no (ab) ap, ?_⟩
        have h := h am ab
        refine h.mono fun b6 bh h => ?_
        obtain ⟨ai, ah, he, h⟩ := h
        refine ⟨ai, ah, he, ?_⟩
        refine elim_some ac ?_
        obtain ⟨hcs, h⟩ := h
        refine ⟨hcs, thenW_in fun ba bb => ?_⟩
        replace h := thenW_out h bb
        exact h
      · have h := h.2 (Int.not_lt.1 (of_decide_eq_false b0))
        exact h

theorem chain_Log_Cut.go (l1 : Option Addr) (n2 : Int) {R : Value → World → Prop} {w : World} (h : chain_Log_Cut.N l1 n2 R w) : Calls Try.prog 12 #[.pointer l1, .int .i64 n2] w fun e w' => ∃ v, e = .returned v ∧ R v w' := chain_Log_Cut.ok l1 n2 (chain_Log_Cut.up l1 n2 h)
/-- slices.Clone[[]byte,byte] -/
def slices_Clone_byte_byte.M (a0 : Option Addr) (a6 : Nat) (a5 : Nat) (R : Value → World → Prop) (w : World) : Prop :=
 bif Option.isNone a0 then (
 R (.slice none 0 0) w) else (
 thenW (w.alloc (.cells #[] 5)) fun a7 =>
 ∃ (a3 : Option Addr) (a4 : Nat) (a2 : Nat) (a1 : World), (Builtin.append_ #[43, 43] 43 #[.slice (some (blk w.heap.size)) 0 0, .slice a0 a6 a5]).run Try.prog a7 = .ok (.slice a3 a4 a2) a1 ∧
 R (.slice a3 a4 a2) a1)

theorem slices_Clone_byte_byte.eq (s1a : Option Addr) (s1n : Nat) (s1c : Nat) (R : Value → World → Prop) (w : World) : mfunc Try.prog [] 68 [.slice s1a s1n s1c] R w = slices_Clone_byte_byte.M s1a s1n s1c R w := by kernel_rfl
theorem slices_Clone_byte_byte.ok (a1 : Option Addr) (a0 : Nat) (a2 : Nat) {R : Value → World → Prop} {w : World} (h : slices_Clone_byte_byte.M a1 a0 a2 R w) : Calls Try.prog 68 #[.slice a1 a0 a2] w fun e w' => ∃ v, e = .returned v ∧ R v w' :=
  mfunc_ok follows (H := []) (args := [.slice a1 a0 a2]) (by rw [slices_Clone_byte_byte.eq]; exact h)

def slices_Clone_byte_byte.N (a1 : Option Addr) (a7 : Nat) (a6 : Nat) (R : Value → World → Prop) (w : World) : Prop :=
 (a1 = none →
 R (.slice none 0 0) w) ∧
 (a1 ≠ none →
 ∀ (a0 : World) (q4 : Nat), Ext no w a0 → Blk a0 q4 5 [] → w.heap.size ≤ q4 → q4 < a0.heap.size →
 ∃ (a3 : Option Addr) (a4 : Nat) (a5 : Nat) (a2 : World), (Builtin.append_ #[43, 43] 43 #[.slice (some (blk q4)) 0 0, .slice a1 a7 a6]).run Try.prog a0 = .ok (.slice a3 a4 a5) a2 ∧
 R (.slice a3 a4 a5) a2)

theorem slices_Clone_byte_byte.up (a0 : Option Addr) (a2 : Nat) (a1 : Nat) {R : Value → World → Prop} {w : World} (h : slices_Clone_byte_byte.N a0 a2 a1 R w) : slices_Clone_byte_byte.M a0 a2 a1 R w := by
  unfold slices_Clone_byte_byte.M
  unfold slices_Clone_byte_byte.N at h
  refine bif_of (fun c2 => ?_) (fun c2 => ?_)
  · have h := h.1 (isNone_t c2)
    exact h
  · have h := h.2 (isNone_f c2)
    refine thenW_in fun a7 e3 => ?_
    have h := h a7 w.heap.size ((Ext.refl no w).x_alloc e3) (Blk.of_new e3) ((Ext.refl no w)).size (size_lt_alloc e3)
    obtain ⟨a4, a5, a6, a3, hr, h⟩ := h
    refine ⟨a4, a5, a6, a3, hr, ?_⟩
    exact h

theorem slices_Clone_byte_byte.go (a1 : Option Addr) (a0 : Nat) (a2 : Nat) {R : Value → World → Prop} {w : World} (h : slices_Clone_byte_byte.N a1 a0 a2 R w) : Calls Try.prog 68 #[.slice a1 a0 a2] w fun e w' => ∃ v, e = .returned v ∧ R v w' := slices_Clone_byte_byte.ok a1 a0 a2 (slices_Clone_byte_byte.up a1 a0 a2 h)
/-- slices.Clone[[]api.Entry,api.Entry] -/
def slices_Clone_api_Entry_api_Entry.M (a0 : Option Addr) (a6 : Nat) (a5 : Nat) (R : Value → World → Prop) (w : World) : Prop :=
 bif Option.isNone a0 then (
 R (.slice none 0 0) w) else (
 thenW (w.alloc (.cells #[] 47)) fun a7 =>
 ∃ (a3 : Option Addr) (a4 : Nat) (a2 : Nat) (a1 : World), (Builtin.append_ #[40, 40] 40 #[.slice (some (blk w.heap.size)) 0 0, .slice a0 a6 a5]).run Try.prog a7 = .ok (.slice a3 a4 a2) a1 ∧
 R (.slice a3 a4 a2) a1)

theorem slices_Clone_api_Entry_api_Entry.eq (s1a : Option Addr) (s1n : Nat) (s1c : Nat) (R : Value → World → Prop) (w : World) : mfunc Try.prog [] 29 [.slice s1a s1n s1c] R w = slices_Clone_api_Entry_api_Entry.M s1a s1n s1c R w := by kernel_rfl
theorem slices_Clone_api_Entry_api_Entry.ok (a1 : Option Addr) (a0 : Nat) (a2 : Nat) {R : Value → World → Prop} {w : World} (h : slices_Clone_api_Entry_api_Entry.M a1 a0 a2 R w) : Calls Try.prog 29 #[.slice a1 a0 a2] w fun e w' => ∃ v, e = .returned v ∧ R v w' :=
  mfunc_ok follows (H := []) (args := [.slice a1 a0 a2]) (by rw [slices_Clone_api_Entry_api_Entry.eq]; exact h)

def slices_Clone_api_Entry_api_Entry.N (a1 : Option Addr) (a7 : Nat) (a6 : Nat) (R : Value → World → Prop) (w : World) : Prop :=
 (a1 = none →
 R (.slice none 0 0) w) ∧
 (a1 ≠ none →
 ∀ (a0 : World) (q4 : Nat), Ext no w a0 → Blk a0 q4 47 [] → w.heap.size ≤ q4 → q4 < a0.heap.size →
 ∃ (a3 : Option Addr) (a4 : Nat) (a5 : Nat) (a2 : World), (Builtin.append_ #[40, 40] 40 #[.slice (some (blk q4)) 0 0, .slice a1 a7 a6]).run Try.prog a0 = .ok (.slice a3 a4 a5) a2 ∧
 R (.slice a3 a4 a5) a2)

theorem slices_Clone_api_Entry_api_Entry.up (a0 : Option Addr) (a2 : Nat) (a1 : Nat) {R : Value → World → Prop} {w : World} (h : slices_Clone_api_Entry_api_Entry.N a0 a2 a1 R w) : slices_Clone_api_Entry_api_Entry.M a0 a2 a1 R w := by
  unfold slices_Clone_api_Entry_api_Entry.M
  unfold slices_Clone_api_Entry_api_Entry.N at h
  refine bif_of (fun c2 => ?_) (fun c2 => ?_)
  · have h := h.1 (isNone_t c2)
    exact h
  · have h := h.2 (isNone_f c2)
    refine thenW_in fun a7 e3 => ?_
    have h := h a7 w.heap.size ((Ext.refl no w).x_alloc e3) (Blk.of_new e3) ((Ext.refl no w)).size (size_lt_alloc e3)
    obtain ⟨a4, a5, a6, a3, hr, h⟩ := h
    refine ⟨a4, a5, a6, a3, hr, ?_⟩
    exact h

theorem slices_Clone_api_Entry_api_Entry.go (a1 : Option Addr) (a0 : Nat) (a2 : Nat) {R : Value → World → Prop} {w : World} (h : slices_Clone_api_Entry_api_Entry.N a1 a0 a2 R w) : Calls Try.prog 29 #[.slice a1 a0 a2] w fun e w' => ∃ v, e = .returned v ∧ R v w' := slices_Clone_api_Entry_api_Entry.ok a1 a0 a2 (slices_Clone_api_Entry_api_Entry.up a1 a0 a2 h)
end Go.Proofs.Ytdelmfpchbpafaa

/- Stamps: which is less (the program's, and the reference's). -/
set_option linter.unusedVariables false
set_option linter.unusedSimpArgs false
set_option maxRecDepth 20000
set_option maxHeartbeats 2000000
namespace Go.Proofs.Ytdelmfpchbpafaa
open Go Go.Mx Go.Proofs
/-- cmp.isNaN[int64] -/
def cmp_isNaN_int64.M (x1 : Int) (R : Value → World → Prop) (w : World) : Prop :=
 R (.bool (x1 != x1)) w

theorem cmp_isNaN_int64.eq (x1 : Int) (R : Value → World → Prop) (w : World) : mfunc Try.prog [] 85 [.int .i64 x1] R w = cmp_isNaN_int64.M x1 R w := by kernel_rfl
theorem cmp_isNaN_int64.ok (x1 : Int) {R : Value → World → Prop} {w : World} (h : cmp_isNaN_int64.M x1 R w) : Calls Try.prog 85 #[.int .i64 x1] w fun e w' => ∃ v, e = .returned v ∧ R v w' :=
  mfunc_ok follows (H := []) (args := [.int .i64 x1]) (by rw [cmp_isNaN_int64.eq]; exact h)

def cmp_isNaN_int64.N (x1 : Int) (R : Value → World → Prop) (w : World) : Prop :=
 R (.bool (x1 != x1)) w

theorem cmp_isNaN_int64.up (x1 : Int) {R : Value → World → Prop} {w : World} (h : cmp_isNaN_int64.N x1 R w) : cmp_isNaN_int64.M x1 R w := by
  unfold cmp_isNaN_int64.M
  unfold cmp_isNaN_int64.N at h
  exact h

theorem cmp_isNaN_int64.go (x1 : Int) {R : Value → World → Prop} {w : World} (h : cmp_isNaN_int64.N x1 R w) : Calls Try.prog 85 #[.int .i64 x1] w fun e w' => ∃ v, e = .returned v ∧ R v w' := cmp_isNaN_int64.ok x1 (cmp_isNaN_int64.up x1 h)
theorem cmp_isNaN_int64.run (x1 : Int) {V : Value} {Q : World → Prop} {w : World} (h : cmp_isNaN_int64.N x1 (fun v w' => v = V ∧ Q w') w) : Calls Try.prog 85 #[.int .i64 x1] w (Ret V Q) := (cmp_isNaN_int64.go x1 h).mono fun e w' ⟨v, he, hv, hq⟩ => ⟨by rw [he, hv], hq⟩

def cmp_isNaN_int64.F (x1 : Int) : Bool :=
  (x1 != x1)
theorem cmp_isNaN_int64.pure (x1 : Int) {w : World} : Calls Try.prog 85 #[.int .i64 x1] w (Ret (.bool (cmp_isNaN_int64.F x1)) fun w' => Ext no w w') := by
  refine cmp_isNaN_int64.run x1 ?_
  unfold cmp_isNaN_int64.N
  exact ⟨by unfold cmp_isNaN_int64.F; rfl, Ext.refl _ _⟩

/-- cmp.isNaN[int] -/
def cmp_isNaN_int.M (x1 : Int) (R : Value → World → Prop) (w : World) : Prop :=
 R (.bool (x1 != x1)) w

theorem cmp_isNaN_int.eq (x1 : Int) (R : Value → World → Prop) (w : World) : mfunc Try.prog [] 86 [.int .i64 x1] R w = cmp_isNaN_int.M x1 R w := by kernel_rfl
theorem cmp_isNaN_int.ok (x1 : Int) {R : Value → World → Prop} {w : World} (h : cmp_isNaN_int.M x1 R w) : Calls Try.prog 86 #[.int .i64 x1] w fun e w' => ∃ v, e = .returned v ∧ R v w' :=
  mfunc_ok follows (H := []) (args := [.int .i64 x1]) (by rw [cmp_isNaN_int.eq]; exact h)

def cmp_isNaN_int.N (x1 : Int) (R : Value → World → Prop) (w : World) : Prop :=
 R (.bool (x1 != x1)) w

theorem cmp_isNaN_int.up (x1 : Int) {R : Value → World → Prop} {w : World} (h : cmp_isNaN_int.N x1 R w) : cmp_isNaN_int.M x1 R w := by
  unfold cmp_isNaN_int.M
  unfold cmp_isNaN_int.N at h
  exact h

theorem cmp_isNaN_int.go (x1 : Int) {R : Value → World → Prop} {w : World} (h : cmp_isNaN_int.N x1 R w) : Calls Try.prog 86 #[.int .i64 x1] w fun e w' => ∃ v, e = .returned v ∧ R v w' := cmp_isNaN_int.ok x1 (cmp_isNaN_int.up x1 h)
theorem cmp_isNaN_int.run (x1 : Int) {V : Value} {Q : World → Prop} {w : World} (h : cmp_isNaN_int.N x1 (fun v w' => v = V ∧ Q w') w) : Calls Try.prog 86 #[.int .i64 x1] w (Ret V Q) := (cmp_isNaN_int.go x1 h).mono fun e w' ⟨v, he, hv, hq⟩ => ⟨by rw [he, hv], hq⟩

def cmp_isNaN_int.F (x1 : Int) : Bool :=
  (x1 != x1)
theorem cmp_isNaN_int.pure (x1 : Int) {w : World} : Calls Try.prog 86 #[.int .i64 x1] w (Ret (.bool (cmp_isNaN_int.F x1)) fun w' => Ext no w w') := by
  refine cmp_isNaN_int.run x1 ?_
  unfold cmp_isNaN_int.N
  exact ⟨by unfold cmp_isNaN_int.F; rfl, Ext.refl _ _⟩

/-- cmp.Compare[int64] -/
def cmp_Compare_int64.M (x1 : Int) (y2 : Int) (R : Value → World → Prop) (w : World) : Prop :=
 Calls Try.prog 85 #[.int .i64 x1] w fun a4 a3 => ∃ (a1 : Bool), a4 = .returned (.bool a1) ∧
 Calls Try.prog 85 #[.int .i64 y2] a3 fun a5 a2 => ∃ (a0 : Bool), a5 = .returned (.bool a0) ∧
 bif a1 then (
 bif a0 then (
 R (.int .i64 0) a2) else (
 R (.int .i64 (-1)) a2)) else (
 bif a0 then (
 R (.int .i64 1) a2) else (
 bif decide (x1 < y2) then (
 R (.int .i64 (-1)) a2) else (
 bif decide (x1 > y2) then (
 R (.int .i64 1) a2) else (
 R (.int .i64 0) a2))))

theorem cmp_Compare_int64.eq (x1 : Int) (y2 : Int) (R : Value → World → Prop) (w : World) : mfunc Try.prog [] 83 [.int .i64 x1, .int .i64 y2] R w = cmp_Compare_int64.M x1 y2 R w := by kernel_rfl
theorem cmp_Compare_int64.ok (x1 : Int) (y2 : Int) {R : Value → World → Prop} {w : World} (h : cmp_Compare_int64.M x1 y2 R w) : Calls Try.prog 83 #[.int .i64 x1, .int .i64 y2] w fun e w' => ∃ v, e = .returned v ∧ R v w' :=
  mfunc_ok follows (H := []) (args := [.int .i64 x1, .int .i64 y2]) (by rw [cmp_Compare_int64.eq]; exact h)

def cmp_Compare_int64.N (x1 : Int) (y2 : Int) (R : Value → World → Prop) (w : World) : Prop :=
 ((cmp_isNaN_int64.F x1) = true →
 ((cmp_isNaN_int64.F y2) = true →
 ∀ (a0 : World), Ext no w a0 →
 R (.int .i64 0) a0) ∧
 ((cmp_isNaN_int64.F y2) = false →
 ∀ (a0 : World), Ext no w a0 →
 R (.int .i64 (-1)) a0)) ∧
 ((cmp_isNaN_int64.F x1) = false →
 ((cmp_isNaN_int64.F y2) = true →
 ∀ (a0 : World), Ext no w a0 →
 R (.int .i64 1) a0) ∧
 ((cmp_isNaN_int64.F y2) = false →
 (x1 < y2 →
 ∀ (a0 : World), Ext no w a0 →
 R (.int .i64 (-1)) a0) ∧
 (y2 ≤ x1 →
 (x1 > y2 →
 ∀ (a0 : World), Ext no w a0 →
 R (.int .i64 1) a0) ∧
 (x1 ≤ y2 →
 ∀ (a0 : World), Ext no w a0 →
 R (.int .i64 0) a0))))

theorem cmp_Compare_int64.up (x1 : Int) (y2 : Int) {R : Value → World → Prop} {w : World} (h : cmp_Compare_int64.N x1 y2 R w) : cmp_Compare_int64.M x1 y2 R w := by
  unfold cmp_Compare_int64.M
  unfold cmp_Compare_int64.N at h
  refine (cmp_isNaN_int64.pure x1).mono fun ee ww3 ⟨he, hxx⟩ => ⟨(cmp_isNaN_int64.F x1), he, ?_⟩
  have a1 := (Ext.refl no w).trans hxx
  refine (cmp_isNaN_int64.pure y2).mono fun ee ww4 ⟨he, hxx⟩ => ⟨(cmp_isNaN_int64.F y2), he, ?_⟩
  have a0 := a1.trans hxx
  refine bif_of (fun c5 => ?_) (fun c5 => ?_)
  · have h := h.1 c5
    refine bif_of (fun c6 => ?_) (fun c6 => ?_)
    · have h := h.1 c6
      have h := h ww4 a0
      exact h
    · have h := h.2 c6
      have h := h ww4 a0
      exact h
  · have h := h.2 c5
    refine bif_of (fun c7 => ?_) (fun c7 => ?_)
    · have h := h.1 c7
      have h := h ww4 a0
      exact h
    · have h := h.2 c7
      refine bif_of (fun c8 => ?_) (fun c8 => ?_)
      · have h := h.1 (of_decide_eq_true c8)
        have h := h ww4 a0
        exact h
      · have h := h.2 (Int.not_lt.1 (of_decide_eq_false c8))
        refine bif_of (fun c9 => ?_) (fun c9 => ?_)
        · have h := h.1 (of_decide_eq_true c9)
          have h := h ww4 a0
          exact h
        · have h := h.2 (Int.not_lt.1 (of_decide_eq_false c9))
          have h := h ww4 a0
          exact h

theorem cmp_Compare_int64.go (x1 : Int) (y2 : Int) {R : Value → World → Prop} {w : World} (h : cmp_Compare_int64.N x1 y2 R w) : Calls Try.prog 83 #[.int .i64 x1, .int .i64 y2] w fun e w' => ∃ v, e = .returned v ∧ R v w' := cmp_Compare_int64.ok x1 y2 (cmp_Compare_int64.up x1 y2 h)
theorem cmp_Compare_int64.run (x1 : Int) (y2 : Int) {V : Value} {Q : World → Prop} {w : World} (h : cmp_Compare_int64.N x1 y2 (fun v w' => v = V ∧ Q w') w) : Calls Try.prog 83 #[.int .i64 x1, .int .i64 y2] w (Ret V Q) := (cmp_Compare_int64.go x1 y2 h).mono fun e w' ⟨v, he, hv, hq⟩ => ⟨by rw [he, hv], hq⟩

def cmp_Compare_int64.F (x1 : Int) (y2 : Int) : Int :=
  if (cmp_isNaN_int64.F x1) = true then
    if (cmp_isNaN_int64.F y2) = true then
      0
    else
      (-1)
  else
    if (cmp_isNaN_int64.F y2) = true then
      1
    else
      if x1 < y2 then
        (-1)
      else
        if x1 > y2 then
          1
        else
          0
theorem cmp_Compare_int64.pure (x1 : Int) (y2 : Int) {w : World} : Calls Try.prog 83 #[.int .i64 x1, .int .i64 y2] w (Ret (.int .i64 (cmp_Compare_int64.F x1 y2)) fun w' => Ext no w w') := by
  refine cmp_Compare_int64.run x1 y2 ?_
  unfold cmp_Compare_int64.N
  refine ⟨fun c0 => ?_, fun c0 => ?_⟩
  · refine ⟨fun c1 => ?_, fun c1 => ?_⟩
    · intro w' hx; exact ⟨by unfold cmp_Compare_int64.F; rw [if_pos c0, if_pos c1], hx⟩
    · intro w' hx; exact ⟨by unfold cmp_Compare_int64.F; rw [if_pos c0, if_neg (by rw [c1]; decide)], hx⟩
  · refine ⟨fun c1 => ?_, fun c1 => ?_⟩
    · intro w' hx; exact ⟨by unfold cmp_Compare_int64.F; rw [if_neg (by rw [c0]; decide), if_pos c1], hx⟩
    · refine ⟨fun c2 => ?_, fun c2 => ?_⟩
      · intro w' hx; exact ⟨by unfold cmp_Compare_int64.F; rw [if_neg (by rw [c0]; decide), if_neg (by rw [c1]; decide), if_pos c2], hx⟩
      · refine ⟨fun c3 => ?_, fun c3 => ?_⟩
        · intro w' hx; exact ⟨by unfold cmp_Compare_int64.F; rw [if_neg (by rw [c0]; decide), if_neg (by rw [c1]; decide), if_neg (by omega), if_pos c3], hx⟩
        · intro w' hx; exact ⟨by unfold cmp_Compare_int64.F; rw [if_neg (by rw [c0]; decide), if_neg (by rw [c1]; decide), if_neg (by omega), if_neg (by omega)], hx⟩

/-- cmp.Compare[int] -/
def cmp_Compare_int.M (x1 : Int) (y2 : Int) (R : Value → World → Prop) (w : World) : Prop :=
 Calls Try.prog 86 #[.int .i64 x1] w fun a4 a3 => ∃ (a1 : Bool), a4 = .returned (.bool a1) ∧
 Calls Try.prog 86 #[.int .i64 y2] a3 fun a5 a2 => ∃ (a0 : Bool), a5 = .returned (.bool a0) ∧
 bif a1 then (
 bif a0 then (
 R (.int .i64 0) a2) else (
 R (.int .i64 (-1)) a2)) else (
 bif a0 then (
 R (.int .i64 1) a2) else (
 bif decide (x1 < y2) then (
 R (.int .i64 (-1)) a2) else (
 bif decide (x1 > y2) then (
 R (.int .i64 1) a2) else (
 R (.int .i64 0) a2))))

theorem cmp_Compare_int.eq (x1 : Int) (y2 : Int) (R : Value → World → Prop) (w : World) : mfunc Try.prog [] 84 [.int .i64 x1, .int .i64 y2] R w = cmp_Compare_int.M x1 y2 R w := by kernel_rfl
theorem cmp_Compare_int.ok (x1 : Int) (y2 : Int) {R : Value → World → Prop} {w : World} (h : cmp_Compare_int.M x1 y2 R w) : Calls Try.prog 84 #[.int .i64 x1, .int .i64 y2] w fun e w' => ∃ v, e = .returned v ∧ R v w' :=
  mfunc_ok follows (H := []) (args := [.int .i64 x1, .int .i64 y2]) (by rw [cmp_Compare_int.eq]; exact h)

def cmp_Compare_int.N (x1 : Int) (y2 : Int) (R : Value → World → Prop) (w : World) : Prop :=
 ((cmp_isNaN_int.F x1) = true →
 ((cmp_isNaN_int.F y2) = true →
 ∀ (a0 : World), Ext no w a0 →
 R (.int .i64 0) a0) ∧
 ((cmp_isNaN_int.F y2) = false →
 ∀ (a0 : World), Ext no w a0 →
 R (.int .i64 (-1)) a0)) ∧
 ((cmp_isNaN_int.F x1) = false →
 ((cmp_isNaN_int.F y2) = true →
 ∀ (a0 : World), Ext no w a0 →
 R (.int .i64 1) a0) ∧
 ((cmp_isNaN_int.F y2) = false →
 (x1 < y2 →
 ∀ (a0 : World), Ext no w a0 →
 R (.int .i64 (-1)) a0) ∧
 (y2 ≤ x1 →
 (x1 > y2 →
 ∀ (a0 : World), Ext no w a0 →
 R (.int .i64 1) a0) ∧
 (x1 ≤ y2 →
 ∀ (a0 : World), Ext no w a0 →
 R (.int .i64 0) a0))))

theorem cmp_Compare_int.up (x1 : Int) (y2 : Int) {R : Value → World → Prop} {w : World} (h : cmp_Compare_int.N x1 y2 R w) : cmp_Compare_int.M x1 y2 R w := by
  unfold cmp_Compare_int.M
  unfold cmp_Compare_int.N at h
  refine (cmp_isNaN_int.pure x1).mono fun ee ww3 ⟨he, hxx⟩ => ⟨(cmp_isNaN_int.F x1), he, ?_⟩
  have a1 := (Ext.refl no w).trans hxx
  refine (cmp_isNaN_int.pure y2).mono fun ee ww4 ⟨he, hxx⟩ => ⟨(cmp_isNaN_int.F y2), he, ?_⟩
  have a0 := a1.trans hxx
  refine bif_of (fun c5 => ?_) (fun c5 => ?_)
  · have h := h.1 c5
    refine bif_of (fun c6 => ?_) (fun c6 => ?_)
    · have h := h.1 c6
      have h := h ww4 a0
      exact h
    · have h := h.2 c6
      have h := h ww4 a0
      exact h
  · have h := h.2 c5
    refine bif_of (fun c7 => ?_) (fun c7 => ?_)
    · have h := h.1 c7
      have h := h ww4 a0
      exact h
    · have h := h.2 c7
      refine bif_of (fun c8 => ?_) (fun c8 => ?_)
      · have h := h.1 (of_decide_eq_true c8)
        have h := h ww4 a0
        exact h
      · have h := h.2 (Int.not_lt.1 (of_decide_eq_false c8))
        refine bif_of (fun c9 => ?_) (fun c9 => ?_)
        · have h := h.1 (of_decide_eq_true c9)
          have h := h ww4 a0
          exact h
        · have h := h.2 (Int.not_lt.1 (of_decide_eq_false c9))
          have h := h ww4 a0
          exact h

theorem cmp_Compare_int.go (x1 : Int) (y2 : Int) {R : Value → World → Prop} {w : World} (h : cmp_Compare_int.N x1 y2 R w) : Calls Try.prog 84 #[.int .i64 x1, .int .i64 y2] w fun e w' => ∃ v, e = .returned v ∧ R v w' := cmp_Compare_int.ok x1 y2 (cmp_Compare_int.up x1 y2 h)
theorem cmp_Compare_int.run (x1 : Int) (y2 : Int) {V : Value} {Q : World → Prop} {w : World} (h : cmp_Compare_int.N x1 y2 (fun v w' => v = V ∧ Q w') w) : Calls Try.prog 84 #[.int .i64 x1, .int .i64 y2] w (Ret V Q) := (cmp_Compare_int.go x1 y2 h).mono fun e w' ⟨v, he, hv, hq⟩ => ⟨by rw [he, hv], hq⟩

def cmp_Compare_int.F (x1 : Int) (y2 : Int) : Int :=
  if (cmp_isNaN_int.F x1) = true then
    if (cmp_isNaN_int.F y2) = true then
      0
    else
      (-1)
  else
    if (cmp_isNaN_int.F y2) = true then
      1
    else
      if x1 < y2 then
        (-1)
      else
        if x1 > y2 then
          1
        else
          0
theorem cmp_Compare_int.pure (x1 : Int) (y2 : Int) {w : World} : Calls Try.prog 84 #[.int .i64 x1, .int .i64 y2] w (Ret (.int .i64 (cmp_Compare_int.F x1 y2)) fun w' => Ext no w w') := by
  refine cmp_Compare_int.run x1 y2 ?_
  unfold cmp_Compare_int.N
  refine ⟨fun c0 => ?_, fun c0 => ?_⟩
  · refine ⟨fun c1 => ?_, fun c1 => ?_⟩
    · intro w' hx; exact ⟨by unfold cmp_Compare_int.F; rw [if_pos c0, if_pos c1], hx⟩
    · intro w' hx; exact ⟨by unfold cmp_Compare_int.F; rw [if_pos c0, if_neg (by rw [c1]; decide)], hx⟩
  · refine ⟨fun c1 => ?_, fun c1 => ?_⟩
    · intro w' hx; exact ⟨by unfold cmp_Compare_int.F; rw [if_neg (by rw [c0]; decide), if_pos c1], hx⟩
    · refine ⟨fun c2 => ?_, fun c2 => ?_⟩
      · intro w' hx; exact ⟨by unfold cmp_Compare_int.F; rw [if_neg (by rw [c0]; decide), if_neg (by rw [c1]; decide), if_pos c2], hx⟩
      · refine ⟨fun c3 => ?_, fun c3 => ?_⟩
        · intro w' hx; exact ⟨by unfold cmp_Compare_int.F; rw [if_neg (by rw [c0]; decide), if_neg (by rw [c1]; decide), if_neg (by omega), if_pos c3], hx⟩
        · intro w' hx; exact ⟨by unfold cmp_Compare_int.F; rw [if_neg (by rw [c0]; decide), if_neg (by rw [c1]; decide), if_neg (by omega), if_neg (by omega)], hx⟩

/-- cmp.Or[int] -/
def cmp_Or_int.M (a1 : Option Addr) (a0 : Nat) (a3 : Nat) (R : Value → World → Prop) (w : World) : Prop :=
 ∃ (I0 : Nat → List Value → World → Prop) (m3 : Nat), I0 m3 [.int .i64 0] w ∧ ∀ (m4 : Nat) (a2 : World) (t2 : Int), I0 m4 [.int .i64 t2] a2 →
 bif decide (t2 < (a0 : Int)) then (
 a1.elim False fun a6 =>
 0 ≤ (t2 : Int) ∧ (t2 : Int) < (a0 : Int) ∧
 ∃ (x7 : Int), a2.cell? (a6.add (Int.toNat t2 * 1)) = some (.int .i64 x7) ∧
 bif x7 != 0 then (
 R (.int .i64 x7) a2) else (
 ∃ m8, m8 < m4 ∧ I0 m8 [.int .i64 (IntKind.i64.wrap (t2 + 1))] a2)) else (
 R (.int .i64 0) a2)

theorem cmp_Or_int.eq (vals1a : Option Addr) (vals1n : Nat) (vals1c : Nat) (R : Value → World → Prop) (w : World) : mfunc Try.prog [(0, [3, 6, 7], [(8, (.one (.int .i64)))])] 82 [.slice vals1a vals1n vals1c] R w = cmp_Or_int.M vals1a vals1n vals1c R w := by kernel_rfl
theorem cmp_Or_int.ok (a2 : Option Addr) (a1 : Nat) (a0 : Nat) {R : Value → World → Prop} {w : World} (h : cmp_Or_int.M a2 a1 a0 R w) : Calls Try.prog 82 #[.slice a2 a1 a0] w fun e w' => ∃ v, e = .returned v ∧ R v w' :=
  mfunc_ok follows (H := [(0, [3, 6, 7], [(8, (.one (.int .i64)))])]) (args := [.slice a2 a1 a0]) (by rw [cmp_Or_int.eq]; exact h)

def cmp_Or_int.N (a1 : Option Addr) (a0 : Nat) (a3 : Nat) (R : Value → World → Prop) (w : World) : Prop :=
 ∃ (I0 : Nat → List Value → World → Prop) (m3 : Nat), I0 m3 [.int .i64 0] w ∧ ∀ (m4 : Nat) (a2 : World) (t2 : Int), I0 m4 [.int .i64 t2] a2 →
 (t2 < (a0 : Int) →
 ∃ a7 : Addr, a1 = some a7 ∧
 0 ≤ (t2 : Int) ∧ (t2 : Int) < (a0 : Int) ∧
 ∃ (x9 : Int), a2.cell? (a7.add (Int.toNat t2 * 1)) = some (.int .i64 x9) ∧
 (x9 ≠ 0 →
 R (.int .i64 x9) a2) ∧
 (x9 = 0 →
 (-9223372036854775808 : Int) ≤ (t2 + 1) ∧ (t2 + 1) < 9223372036854775808 ∧
 ∃ a4, a4 < m4 ∧ I0 a4 [.int .i64 (t2 + 1)] a2)) ∧
 ((a0 : Int) ≤ t2 →
 R (.int .i64 0) a2)

theorem cmp_Or_int.up (a0 : Option Addr) (a2 : Nat) (a1 : Nat) {R : Value → World → Prop} {w : World} (h : cmp_Or_int.N a0 a2 a1 R w) : cmp_Or_int.M a0 a2 a1 R w := by
  unfold cmp_Or_int.M
  unfold cmp_Or_int.N at h
  obtain ⟨I0, m3, h0, h⟩ := h
  refine ⟨I0, m3, h0, fun m4 ac t2 hI => ?_⟩
  have h := h m4 ac t2 hI
  refine bif_of (fun c6 => ?_) (fun c6 => ?_)
  · have h := h.1 (of_decide_eq_true c6)
    obtain ⟨a7, a8, h⟩ := h
    refine elim_some a8 ?_
    obtain ⟨a6, a4, h⟩ := h
    refine ⟨a6, a4, ?_⟩
    obtain ⟨x9, a5, h⟩ := h
    refine ⟨x9, a5, ?_⟩
    refine bif_of (fun a3 => ?_) (fun a3 => ?_)
    · have h := h.1 (bne_t a3)
      exact h
    · have h := h.2 (bne_f a3)
      obtain ⟨a9, aa, h⟩ := h
      try rw [w64 a9 aa]
      obtain ⟨ab, hk, h⟩ := h
      exact ⟨ab, hk, h⟩
  · have h := h.2 (Int.not_lt.1 (of_decide_eq_false c6))
    exact h

theorem cmp_Or_int.go (a2 : Option Addr) (a1 : Nat) (a0 : Nat) {R : Value → World → Prop} {w : World} (h : cmp_Or_int.N a2 a1 a0 R w) : Calls Try.prog 82 #[.slice a2 a1 a0] w fun e w' => ∃ v, e = .returned v ∧ R v w' := cmp_Or_int.ok a2 a1 a0 (cmp_Or_int.up a2 a1 a0 h)
theorem cmp_Or_int.run (a2 : Option Addr) (a1 : Nat) (a0 : Nat) {V : Value} {Q : World → Prop} {w : World} (h : cmp_Or_int.N a2 a1 a0 (fun v w' => v = V ∧ Q w') w) : Calls Try.prog 82 #[.slice a2 a1 a0] w (Ret V Q) := (cmp_Or_int.go a2 a1 a0 h).mono fun e w' ⟨v, he, hv, hq⟩ => ⟨by rw [he, hv], hq⟩

/-- stamp.Compare -/
def stamp_Compare.M (ai : Int) (ae : Int) (af : Int) (ah : Int) (R : Value → World → Prop) (w : World) : Prop :=
 thenW (w.alloc (.cells #[.int .i64 ai, .int .i64 ae] 45)) fun a6 =>
 thenW (a6.alloc (.cells #[.int .i64 af, .int .i64 ah] 45)) fun ag =>
 thenW (ag.drew) fun a4 =>
 ∃ (T8 : Int), a4.cell? ((blk w.heap.size).add 0) = some (.int .i64 T8) ∧
 ∃ (T9 : Int), a4.cell? ((blk a6.heap.size).add 0) = some (.int .i64 T9) ∧
 ∃ (ac : Int), a4.cell? ((blk w.heap.size).add 1) = some (.int .i64 ac) ∧
 ∃ (ab : Int), a4.cell? ((blk a6.heap.size).add 1) = some (.int .i64 ab) ∧
 Calls Try.prog 83 #[.int .i64 T8, .int .i64 T9] a4 fun a9 a2 => ∃ (a1 : Int), a9 = .returned (.int .i64 a1) ∧
 a2.cell? ((blk a6.heap.size).add 1) = some (.int .i64 ab) ∧
 a2.cell? ((blk w.heap.size).add 1) = some (.int .i64 ac) ∧
 Calls Try.prog 84 #[.int .i64 ac, .int .i64 ab] a2 fun a8 a5 => ∃ (a0 : Int), a8 = .returned (.int .i64 a0) ∧
 thenW (a5.alloc (.cells #[.int .i64 a1, .int .i64 a0] 3)) fun aa =>
 Calls Try.prog 82 #[.slice (some (blk a5.heap.size)) 2 2] aa fun a7 ad => ∃ (a3 : Int), a7 = .returned (.int .i64 a3) ∧
 R (.int .i64 a3) ad

theorem stamp_Compare.eq (aT1 : Int) (aW2 : Int) (bT3 : Int) (bW4 : Int) (R : Value → World → Prop) (w : World) : mfunc Try.prog [] 70 [.agg #[.int .i64 aT1, .int .i64 aW2], .agg #[.int .i64 bT3, .int .i64 bW4]] R w = stamp_Compare.M aT1 aW2 bT3 bW4 R w := by kernel_rfl
theorem stamp_Compare.ok (a0 : Int) (a3 : Int) (a1 : Int) (a2 : Int) {R : Value → World → Prop} {w : World} (h : stamp_Compare.M a0 a3 a1 a2 R w) : Calls Try.prog 70 #[.agg #[.int .i64 a0, .int .i64 a3], .agg #[.int .i64 a1, .int .i64 a2]] w fun e w' => ∃ v, e = .returned v ∧ R v w' :=
  mfunc_ok follows (H := []) (args := [.agg #[.int .i64 a0, .int .i64 a3], .agg #[.int .i64 a1, .int .i64 a2]]) (by rw [stamp_Compare.eq]; exact h)

def stamp_Compare.N (a8 : Int) (a5 : Int) (a7 : Int) (a6 : Int) (R : Value → World → Prop) (w : World) : Prop :=
 ∀ (a0 : World) (a2 : Nat), Ext no w a0 → Blk a0 a2 3 [.int .i64 (cmp_Compare_int64.F a8 a7), .int .i64 (cmp_Compare_int.F a5 a6)] → w.heap.size ≤ a2 → a2 < a0.heap.size →
 Calls Try.prog 82 #[.slice (some (blk a2)) 2 2] a0 fun a4 a3 => ∃ (a1 : Int), a4 = .returned (.int .i64 a1) ∧
 R (.int .i64 a1) a3

theorem stamp_Compare.up (a5 : Int) (a2 : Int) (a3 : Int) (a4 : Int) {R : Value → World → Prop} {w : World} (h : stamp_Compare.N a5 a2 a3 a4 R w) : stamp_Compare.M a5 a2 a3 a4 R w := by
  unfold stamp_Compare.M
  unfold stamp_Compare.N at h
  refine thenW_in fun ai e5 => ?_
  have a0 := Blk.of_new e5
  have aj := ((Ext.refl no w)).size
  have aa := (Ext.refl no w).x_alloc e5
  refine thenW_in fun ak e6 => ?_
  have a1 := Blk.of_new e6
  have al := (aa).size
  have ab := Nat.ne_of_lt a0.lt
  have a0 := a0.x_alloc e6
  have ae := aa.x_alloc e6
  refine thenW_in fun ah e7 => ?_
  have af := ae.x_drew e7
  have a0 := a0.x_drew e7
  have a1 := a1.x_drew e7
  refine ⟨a5, a0.celli 0 rfl rfl, ?_⟩
  refine ⟨a3, a1.celli 0 rfl rfl, ?_⟩
  refine ⟨a2, a0.celli 1 rfl rfl, ?_⟩
  refine ⟨a4, a1.celli 1 rfl rfl, ?_⟩
  refine (cmp_Compare_int64.pure a5 a3).mono fun ee ww8 ⟨he, hxx⟩ => ⟨(cmp_Compare_int64.F a5 a3), he, ?_⟩
  have ad := af.trans hxx
  have a0 := a0.ext hxx id
  have a1 := a1.ext hxx id
  refine ⟨a1.celli 1 rfl rfl, a0.celli 1 rfl rfl, ?_⟩
  refine (cmp_Compare_int.pure a2 a4).mono fun ee ww9 ⟨he, hxx⟩ => ⟨(cmp_Compare_int.F a2 a4), he, ?_⟩
  have a9 := ad.trans hxx
  refine thenW_in fun a6 a7 => ?_
  have h := h a6 ww9.heap.size (a9.x_alloc a7) (Blk.of_new a7) (a9).size (size_lt_alloc a7)
  refine h.mono fun ag ac h => ?_
  obtain ⟨a8, he, h⟩ := h
  refine ⟨a8, he, ?_⟩
  exact h

theorem stamp_Compare.go (a0 : Int) (a3 : Int) (a1 : Int) (a2 : Int) {R : Value → World → Prop} {w : World} (h : stamp_Compare.N a0 a3 a1 a2 R w) : Calls Try.prog 70 #[.agg #[.int .i64 a0, .int .i64 a3], .agg #[.int .i64 a1, .int .i64 a2]] w fun e w' => ∃ v, e = .returned v ∧ R v w' := stamp_Compare.ok a0 a3 a1 a2 (stamp_Compare.up a0 a3 a1 a2 h)
theorem stamp_Compare.run (a0 : Int) (a3 : Int) (a1 : Int) (a2 : Int) {V : Value} {Q : World → Prop} {w : World} (h : stamp_Compare.N a0 a3 a1 a2 (fun v w' => v = V ∧ Q w') w) : Calls Try.prog 70 #[.agg #[.int .i64 a0, .int .i64 a3], .agg #[.int .i64 a1, .int .i64 a2]] w (Ret V Q) := (stamp_Compare.go a0 a3 a1 a2 h).mono fun e w' ⟨v, he, hv, hq⟩ => ⟨by rw [he, hv], hq⟩

/-- stamp.Less -/
def stamp_Less.M (ac : Int) (a9 : Int) (ab : Int) (aa : Int) (R : Value → World → Prop) (w : World) : Prop :=
 thenW (w.alloc (.cells #[.int .i64 ac, .int .i64 a9] 45)) fun a7 =>
 thenW (a7.alloc (.cells #[.int .i64 ab, .int .i64 aa] 45)) fun a2 =>
 ∃ (a8 : Int) (a5 : Int), cellsAt a2 (blk w.heap.size) [.int .i64 a8, .int .i64 a5] 0 ∧
 ∃ (a6 : Int) (a1 : Int), cellsAt a2 (blk a7.heap.size) [.int .i64 a6, .int .i64 a1] 0 ∧
 Calls Try.prog 70 #[.agg #[.int .i64 a8, .int .i64 a5], .agg #[.int .i64 a6, .int .i64 a1]] a2 fun a3 a4 => ∃ (a0 : Int), a3 = .returned (.int .i64 a0) ∧
 R (.bool (decide (a0 < 0))) a4

theorem stamp_Less.eq (aT1 : Int) (aW2 : Int) (bT3 : Int) (bW4 : Int) (R : Value → World → Prop) (w : World) : mfunc Try.prog [] 53 [.agg #[.int .i64 aT1, .int .i64 aW2], .agg #[.int .i64 bT3, .int .i64 bW4]] R w = stamp_Less.M aT1 aW2 bT3 bW4 R w := by kernel_rfl
theorem stamp_Less.ok (a0 : Int) (a3 : Int) (a1 : Int) (a2 : Int) {R : Value → World → Prop} {w : World} (h : stamp_Less.M a0 a3 a1 a2 R w) : Calls Try.prog 53 #[.agg #[.int .i64 a0, .int .i64 a3], .agg #[.int .i64 a1, .int .i64 a2]] w fun e w' => ∃ v, e = .returned v ∧ R v w' :=
  mfunc_ok follows (H := []) (args := [.agg #[.int .i64 a0, .int .i64 a3], .agg #[.int .i64 a1, .int .i64 a2]]) (by rw [stamp_Less.eq]; exact h)

def stamp_Less.N (a7 : Int) (a4 : Int) (a6 : Int) (a5 : Int) (R : Value → World → Prop) (w : World) : Prop :=
 ∀ (a3 : World), Ext no w a3 →
 Calls Try.prog 70 #[.agg #[.int .i64 a7, .int .i64 a4], .agg #[.int .i64 a6, .int .i64 a5]] a3 fun a2 a1 => ∃ (a0 : Int), a2 = .returned (.int .i64 a0) ∧
 R (.bool (decide (a0 < 0))) a1

theorem stamp_Less.up (a5 : Int) (a2 : Int) (a4 : Int) (a3 : Int) {R : Value → World → Prop} {w : World} (h : stamp_Less.N a5 a2 a4 a3 R w) : stamp_Less.M a5 a2 a4 a3 R w := by
  unfold stamp_Less.M
  unfold stamp_Less.N at h
  refine thenW_in fun ad e5 => ?_
  have a1 := Blk.of_new e5
  have af := ((Ext.refl no w)).size
  have a7 := (Ext.refl no w).x_alloc e5
  refine thenW_in fun aa e6 => ?_
  have a6 := Blk.of_new e6
  have ae := (a7).size
  have a8 := Nat.ne_of_lt a1.lt
  have a1 := a1.x_alloc e6
  have ab := a7.x_alloc e6
  refine ⟨a5, a2, ⟨a1.celli 0 rfl rfl, a1.celli 1 rfl rfl, trivial⟩, ?_⟩
  refine ⟨a4, a3, ⟨a6.celli 0 rfl rfl, a6.celli 1 rfl rfl, trivial⟩, ?_⟩
  have h := h aa ab
  refine h.mono fun ac a9 h => ?_
  obtain ⟨a0, he, h⟩ := h
  refine ⟨a0, he, ?_⟩
  exact h

theorem stamp_Less.go (a0 : Int) (a3 : Int) (a1 : Int) (a2 : Int) {R : Value → World → Prop} {w : World} (h : stamp_Less.N a0 a3 a1 a2 R w) : Calls Try.prog 53 #[.agg #[.int .i64 a0, .int .i64 a3], .agg #[.int .i64 a1, .int .i64 a2]] w fun e w' => ∃ v, e = .returned v ∧ R v w' := stamp_Less.ok a0 a3 a1 a2 (stamp_Less.up a0 a3 a1 a2 h)
theorem stamp_Less.run (a0 : Int) (a3 : Int) (a1 : Int) (a2 : Int) {V : Value} {Q : World → Prop} {w : World} (h : stamp_Less.N a0 a3 a1 a2 (fun v w' => v = V ∧ Q w') w) : Calls Try.prog 53 #[.agg #[.int .i64 a0, .int .i64 a3], .agg #[.int .i64 a1, .int .i64 a2]] w (Ret V Q) := (stamp_Less.go a0 a3 a1 a2 h).mono fun e w' ⟨v, he, hv, hq⟩ => ⟨by rw [he, hv], hq⟩

/-- cachetteref04.Less -/
def cachetteref04_Less.M (a8 : Int) (a5 : Int) (a7 : Int) (a6 : Int) (R : Value → World → Prop) (w : World) : Prop :=
 thenW (w.alloc (.cells #[.int .i64 a8, .int .i64 a5] 45)) fun a1 =>
 thenW (a1.alloc (.cells #[.int .i64 a7, .int .i64 a6] 45)) fun a0 =>
 ∃ (T7 : Int), a0.cell? ((blk w.heap.size).add 0) = some (.int .i64 T7) ∧
 ∃ (T8 : Int), a0.cell? ((blk a1.heap.size).add 0) = some (.int .i64 T8) ∧
 bif decide (T7 < T8) then (
 R (.bool true) a0) else (
 ∃ (T9 : Int), a0.cell? ((blk w.heap.size).add 0) = some (.int .i64 T9) ∧
 ∃ (a3 : Int), a0.cell? ((blk a1.heap.size).add 0) = some (.int .i64 a3) ∧
 bif T9 == a3 then (
 ∃ (a4 : Int), a0.cell? ((blk w.heap.size).add 1) = some (.int .i64 a4) ∧
 ∃ (a2 : Int), a0.cell? ((blk a1.heap.size).add 1) = some (.int .i64 a2) ∧
 R (.bool (decide (a4 < a2))) a0) else (
 R (.bool false) a0))

theorem cachetteref04_Less.eq (aT1 : Int) (aW2 : Int) (bT3 : Int) (bW4 : Int) (R : Value → World → Prop) (w : World) : mfunc Try.prog [] 58 [.agg #[.int .i64 aT1, .int .i64 aW2], .agg #[.int .i64 bT3, .int .i64 bW4]] R w = cachetteref04_Less.M aT1 aW2 bT3 bW4 R w := by kernel_rfl
theorem cachetteref04_Less.ok (a0 : Int) (a3 : Int) (a1 : Int) (a2 : Int) {R : Value → World → Prop} {w : World} (h : cachetteref04_Less.M a0 a3 a1 a2 R w) : Calls Try.prog 58 #[.agg #[.int .i64 a0, .int .i64 a3], .agg #[.int .i64 a1, .int .i64 a2]] w fun e w' => ∃ v, e = .returned v ∧ R v w' :=
  mfunc_ok follows (H := []) (args := [.agg #[.int .i64 a0, .int .i64 a3], .agg #[.int .i64 a1, .int .i64 a2]]) (by rw [cachetteref04_Less.eq]; exact h)

def cachetteref04_Less.N (a2 : Int) (a3 : Int) (a1 : Int) (a4 : Int) (R : Value → World → Prop) (w : World) : Prop :=
 (a2 < a1 →
 ∀ (a0 : World), Ext no w a0 →
 R (.bool true) a0) ∧
 (a1 ≤ a2 →
 (a2 = a1 →
 ∀ (a0 : World), Ext no w a0 →
 R (.bool (decide (a3 < a4))) a0) ∧
 (a2 ≠ a1 →
 ∀ (a0 : World), Ext no w a0 →
 R (.bool false) a0))

theorem cachetteref04_Less.up (a2 : Int) (a4 : Int) (a1 : Int) (a5 : Int) {R : Value → World → Prop} {w : World} (h : cachetteref04_Less.N a2 a4 a1 a5 R w) : cachetteref04_Less.M a2 a4 a1 a5 R w := by
  unfold cachetteref04_Less.M
  unfold cachetteref04_Less.N at h
  refine thenW_in fun ab e5 => ?_
  have a0 := Blk.of_new e5
  have ad := ((Ext.refl no w)).size
  have a9 := (Ext.refl no w).x_alloc e5
  refine thenW_in fun a3 e6 => ?_
  have a7 := Blk.of_new e6
  have ac := (a9).size
  have aa := Nat.ne_of_lt a0.lt
  have a0 := a0.x_alloc e6
  have a6 := a9.x_alloc e6
  refine ⟨a2, a0.celli 0 rfl rfl, ?_⟩
  refine ⟨a1, a7.celli 0 rfl rfl, ?_⟩
  refine bif_of (fun c7 => ?_) (fun c7 => ?_)
  · have h := h.1 (of_decide_eq_true c7)
    have h := h a3 a6
    exact h
  · have h := h.2 (Int.not_lt.1 (of_decide_eq_false c7))
    refine ⟨a2, a0.celli 0 rfl rfl, ?_⟩
    refine ⟨a1, a7.celli 0 rfl rfl, ?_⟩
    refine bif_of (fun a8 => ?_) (fun a8 => ?_)
    · have h := h.1 (beq_t a8)
      refine ⟨a4, a0.celli 1 rfl rfl, ?_⟩
      refine ⟨a5, a7.celli 1 rfl rfl, ?_⟩
      have h := h a3 a6
      exact h
    · have h := h.2 (beq_f a8)
      have h := h a3 a6
      exact h

theorem cachetteref04_Less.go (a0 : Int) (a3 : Int) (a1 : Int) (a2 : Int) {R : Value → World → Prop} {w : World} (h : cachetteref04_Less.N a0 a3 a1 a2 R w) : Calls Try.prog 58 #[.agg #[.int .i64 a0, .int .i64 a3], .agg #[.int .i64 a1, .int .i64 a2]] w fun e w' => ∃ v, e = .returned v ∧ R v w' := cachetteref04_Less.ok a0 a3 a1 a2 (cachetteref04_Less.up a0 a3 a1 a2 h)
theorem cachetteref04_Less.run (a0 : Int) (a3 : Int) (a1 : Int) (a2 : Int) {V : Value} {Q : World → Prop} {w : World} (h : cachetteref04_Less.N a0 a3 a1 a2 (fun v w' => v = V ∧ Q w') w) : Calls Try.prog 58 #[.agg #[.int .i64 a0, .int .i64 a3], .agg #[.int .i64 a1, .int .i64 a2]] w (Ret V Q) := (cachetteref04_Less.go a0 a3 a1 a2 h).mono fun e w' ⟨v, he, hv, hq⟩ => ⟨by rw [he, hv], hq⟩

def cachetteref04_Less.F (a1 : Int) (a3 : Int) (a0 : Int) (a2 : Int) : Bool :=
  if a1 < a0 then
    true
  else
    if a1 = a0 then
      (decide (a3 < a2))
    else
      false
theorem cachetteref04_Less.pure (a2 : Int) (a3 : Int) (a1 : Int) (a0 : Int) {w : World} : Calls Try.prog 58 #[.agg #[.int .i64 a2, .int .i64 a3], .agg #[.int .i64 a1, .int .i64 a0]] w (Ret (.bool (cachetteref04_Less.F a2 a3 a1 a0)) fun w' => Ext no w w') := by
  refine cachetteref04_Less.run a2 a3 a1 a0 ?_
  unfold cachetteref04_Less.N
  refine ⟨fun c0 => ?_, fun c0 => ?_⟩
  · intro w' hx; exact ⟨by unfold cachetteref04_Less.F; rw [if_pos c0], hx⟩
  · refine ⟨fun c1 => ?_, fun c1 => ?_⟩
    · intro w' hx; exact ⟨by unfold cachetteref04_Less.F; rw [if_neg (by omega), if_pos c1], hx⟩
    · intro w' hx; exact ⟨by unfold cachetteref04_Less.F; rw [if_neg (by omega), if_neg c1], hx⟩

def lessS (t1 w1 t2 w2 : Int) : Bool := decide (t1 < t2) || (decide (t1 = t2) && decide (w1 < w2))
theorem cmp64_F (x y : Int) : cmp_Compare_int64.F x y = if x < y then -1 else if x > y then 1 else 0 := by
  unfold cmp_Compare_int64.F cmp_isNaN_int64.F; simp
theorem cmpInt_F (x y : Int) : cmp_Compare_int.F x y = if x < y then -1 else if x > y then 1 else 0 := by
  unfold cmp_Compare_int.F cmp_isNaN_int.F; simp
theorem refLess_F (t1 w1 t2 w2 : Int) : cachetteref04_Less.F t1 w1 t2 w2 = lessS t1 w1 t2 w2 := by
  unfold cachetteref04_Less.F lessS
  by_cases h : t1 < t2
  · rw [if_pos h, decide_eq_true h, Bool.true_or]
  · rw [if_neg h, decide_eq_false h, Bool.false_or]
    by_cases h2 : t1 = t2
    · rw [if_pos h2, decide_eq_true h2, Bool.true_and]
    · rw [if_neg h2, decide_eq_false h2, Bool.false_and]
theorem Or2_spec {w : World} {q : Nat} {x y : Int} (hb : Blk w q 3 [.int .i64 x, .int .i64 y]) :
    Calls Try.prog 82 #[.slice (some (blk q)) 2 2] w (Ret (.int .i64 (if x ≠ 0 then x else y)) fun w' => w' = w) := by
  refine cmp_Or_int.run _ _ _ ?_
  unfold cmp_Or_int.N
  refine ⟨fun m vs w1 => ∃ t : Nat, vs = [.int .i64 t] ∧ m + t = 2 ∧ w1 = w ∧ (0 < t → x = 0) ∧ (1 < t → y = 0), 2, ⟨0, rfl, rfl, rfl, fun h => absurd h (by decide), fun h => absurd h (by decide)⟩, ?_⟩
  rintro m w1 i ⟨t, hi, hm, rfl, h0, h1⟩
  simp only [List.cons.injEq, Value.int.injEq, true_and, and_true] at hi
  subst hi
  refine ⟨fun ht => ?_, fun ht => ⟨?_, rfl⟩⟩
  · have ht2 : t = 0 ∨ t = 1 := by omega
    rcases ht2 with rfl | rfl
    · refine ⟨_, rfl, by omega, by omega, x, hb.cella (i := 0) rfl, fun hx => ⟨by rw [if_pos hx], rfl⟩, fun hx => ⟨by omega, by omega, m - 1, by omega, 1, rfl, by omega, rfl, fun _ => hx, fun h => absurd h (by decide)⟩⟩
    · refine ⟨_, rfl, by omega, by omega, y, hb.cella (i := 1) rfl, fun hy => ⟨by rw [if_neg (not_not_intro (h0 (by decide)))], rfl⟩, fun hy => ⟨by omega, by omega, m - 1, by omega, 2, rfl, by omega, rfl, fun _ => h0 (by decide), fun _ => hy⟩⟩
  · have : t = 2 := by omega
    subst this
    rw [if_neg (not_not_intro (h0 (by decide))), h1 (by decide)]
theorem Less_spec (w : World) (t1 w1 t2 w2 : Int) : Calls Try.prog 53 #[.agg #[.int .i64 t1, .int .i64 w1], .agg #[.int .i64 t2, .int .i64 w2]] w (Ret (.bool (lessS t1 w1 t2 w2)) fun w' => Ext no w w') := by
  refine stamp_Less.run _ _ _ _ ?_
  unfold stamp_Less.N
  intro w6 X6
  have key : Calls Try.prog 70 #[.agg #[.int .i64 t1, .int .i64 w1], .agg #[.int .i64 t2, .int .i64 w2]] w6 (Ret (.int .i64 (if cmp_Compare_int64.F t1 t2 ≠ 0 then cmp_Compare_int64.F t1 t2 else cmp_Compare_int.F w1 w2)) fun w' => Ext no w6 w') := by
    refine stamp_Compare.run _ _ _ _ ?_
    unfold stamp_Compare.N
    intro w10 q X10 hb _ _
    exact (Or2_spec hb).mono fun e w' ⟨he, hw⟩ => ⟨_, he, rfl, by subst hw; exact X10⟩
  refine key.mono fun e w' ⟨he, X⟩ => ⟨_, he, ?_, X6.trans X⟩
  congr 1
  rw [cmp64_F, cmpInt_F]
  unfold lessS
  by_cases h : t1 < t2
  · simp [h]
  · by_cases h2 : t1 = t2
    · subst h2
      simp
      by_cases h3 : w1 < w2
      · simp [h3]
      · by_cases h4 : w2 < w1
        · simp [h3, h4]
        · simp [h3, h4]
    · have : t1 > t2 := by omega
      simp [h, h2, this]
end Go.Proofs.Ytdelmfpchbpafaa

/- Structs, and rows of structs, that are handed in; cells of a row of structs. -/
set_option linter.unusedSimpArgs false
set_option linter.unusedVariables false
set_option linter.unusedSectionVars false
namespace Go.Mx
/-- cells, one part behind the other. -/
def SeqQ : List (Nat × (World → List Value → Prop)) → World → List Value → Prop
  | [], _, cs => cs = []
  | q :: r, W, cs => ∃ x y, cs = x ++ y ∧ x.length = q.1 ∧ q.2 W x ∧ SeqQ r W y
def FieldsOk (P : Program) : List Field → Nat → List (Nat × (World → List Value → Prop)) → Nat → Prop
  | [], off, [], size => off = size
  | f :: r, off, q :: s, size => (f.offset = off ∧ P.cellsOf f.type = q.1 ∧ Opens P f.type q.2) ∧ FieldsOk P r (off + q.1) s size
  | _, _, _, _ => False
theorem seq_of {P : Program} {W : World} {cs : List Value} : ∀ {l : List Field} {off : Nat} {qs : List (Nat × (World → List Value → Prop))} {size : Nat}, FieldsOk P l off qs size → cs.length = size →
    (∀ (i : Nat) (f : Field), l[i]? = some f → ∀ Q, Opens P f.type Q → Q W ((cs.drop f.offset).take (P.cellsOf f.type))) → off ≤ cs.length → (∀ q ∈ qs, True) → SeqQ qs W (cs.drop off)
  | [], off, [], size, h, hl, _, _, _ => by
    simp only [FieldsOk] at h
    simp only [SeqQ]
    exact List.drop_eq_nil_of_le (by omega)
  | f :: r, off, q :: s, size, h, hl, hf, hle, _ => by
    obtain ⟨⟨h1, h2, h3⟩, h4⟩ := h
    have h0 := hf 0 f rfl q.2 h3
    rw [h1, h2] at h0
    have hsz : ∀ {l : List Field} {off : Nat} {qs : List (Nat × (World → List Value → Prop))}, FieldsOk P l off qs size → off ≤ size := by
      intro l
      induction l with
      | nil => intro off qs h; cases qs with | nil => exact Nat.le_of_eq h | cons _ _ => exact h.elim
      | cons f r ih => intro off qs h; cases qs with | nil => exact h.elim | cons q s => have := ih h.2; omega
    have hle2 := hsz h4
    refine ⟨(cs.drop off).take q.1, cs.drop (off + q.1), ?_, ?_, h0, ?_⟩
    · rw [← List.drop_drop, List.take_append_drop]
    · rw [List.length_take, List.length_drop]; omega
    · exact seq_of h4 hl (fun i f hi => hf (i + 1) f (by simpa using hi)) (by omega) (fun _ _ => trivial)
  | [], _, _ :: _, _, h, _, _, _, _ => h.elim
  | _ :: _, _, [], _, h, _, _, _, _ => h.elim
/-- a struct: its fields, one behind the other. -/
theorem opens_seq {P : Program} {t : TypeId} {fs : Array Field} {size : Nat} {qs : List (Nat × (World → List Value → Prop))} (ht : P.underlying t = some (.struct fs)) (hs : P.cellsOf t = size) (h : FieldsOk P fs.toList 0 qs size) : Opens P t (SeqQ qs) :=
  (opens_struct ht hs).mono fun W cs ⟨hl, hf⟩ => seq_of (off := 0) h hl (fun i f hi => hf i f (by rw [← Array.getElem?_toList]; exact hi)) (Nat.zero_le _) fun _ _ => trivial
/-- a row of structs. -/
theorem opens_rows {P : Program} {t e : TypeId} {size : Nat} {α : Type} {f : α → List Value} {G : World → α → Prop} (ht : P.underlying t = some (.slice e)) (hs : P.cellsOf e = size) (he : Opens P e fun W cs => ∃ x, cs = f x ∧ G W x) :
    Opens P t fun W cs => ∃ (a : Option Addr) (c : Nat) (l : List α), cs = [.slice a l.length c] ∧ l.length ≤ c ∧ c ≤ maxLen ∧ RowAt W a (l.flatMap f) ∧ ∀ x ∈ l, G W x :=
  (opens_slice (size := size) ht hs he).mono fun W cs ⟨a, l, c, rows, h1, h2, h3, h4, h5, h6⟩ => by
    obtain ⟨xs, h7, h8⟩ := rows_of (rows := rows) f (G W) fun r hr => (h6 r hr).2
    subst h7
    rw [List.length_map] at h4
    subst h4
    exact ⟨a, c, xs, h1, h2, h3, by rw [List.flatMap_def]; exact h5, h8⟩
section
variable {α : Type} {f : α → List Value} {n : Nat} {w : World} {a : Option Addr} {l : List α}
theorem flat_length (hf : ∀ x, (f x).length = n) (l : List α) : (l.flatMap f).length = l.length * n := by
  induction l with
  | nil => simp
  | cons x r ih => rw [List.flatMap_cons, List.length_append, ih, hf, List.length_cons, Nat.succ_mul]; omega
theorem flat_get (hf : ∀ x, (f x).length = n) : ∀ {l : List α} {i : Nat} {x : α}, l[i]? = some x → ∀ j, j < n → (l.flatMap f)[i * n + j]? = (f x)[j]?
  | [], i, x, hi, j, hj => by simp at hi
  | a :: r, 0, x, hi, j, hj => by
    simp only [List.getElem?_cons_zero, Option.some.injEq] at hi
    subst hi
    rw [List.flatMap_cons, Nat.zero_mul, Nat.zero_add, List.getElem?_append_left (by rw [hf]; exact hj)]
  | a :: r, i + 1, x, hi, j, hj => by
    simp only [List.getElem?_cons_succ] at hi
    rw [List.flatMap_cons, List.getElem?_append_right (by rw [hf, Nat.succ_mul]; omega), show (i + 1) * n + j - (f a).length = i * n + j by rw [hf, Nat.succ_mul]; omega]
    exact flat_get hf hi j hj
theorem cellsAt_of {w : World} {ad : Addr} : ∀ {cs : List Value} {i : Nat}, (∀ j v, cs[j]? = some v → w.cell? (ad.add (i + j)) = some v) → cellsAt w ad cs i
  | [], _, _ => trivial
  | v :: r, i, h => ⟨h 0 v rfl, cellsAt_of fun j u hu => by rw [show i + 1 + j = i + (j + 1) by omega]; exact h (j + 1) u hu⟩
/-- a cell of a struct in a row. -/
theorem RowAt.fcell (hf : ∀ x, (f x).length = n) {ad : Addr} (h : RowAt w (some ad) (l.flatMap f)) {i : Nat} {x : α} (hi : l[i]? = some x) (j : Nat) {v : Value} (hv : (f x)[j]? = some v) : w.cell? ((ad.add (i * n)).add j) = some v := by
  rw [add_add]
  have hj : j < n := by rw [← hf x]; exact (List.getElem?_eq_some_iff.1 hv).1
  exact h.at_ ((flat_get hf hi j hj).trans hv)
/-- a struct of a row. -/
theorem RowAt.floads (hf : ∀ x, (f x).length = n) {ad : Addr} (h : RowAt w (some ad) (l.flatMap f)) {i : Nat} {x : α} (hi : l[i]? = some x) : cellsAt w (ad.add (i * n)) (f x) 0 :=
  cellsAt_of fun j v hv => by rw [Nat.zero_add]; exact h.fcell hf hi j hv
theorem RowAt.faddr (hf : ∀ x, (f x).length = n) (hn : 0 < n) (h : RowAt w a (l.flatMap f)) {i : Nat} (hi : i < l.length) : ∃ ad, a = some ad := h.addr fun e => by
  have := flat_length hf l
  rw [e, List.length_nil] at this
  rcases Nat.mul_eq_zero.1 this.symm with h | h <;> omega
end
end Go.Mx

/- Rows that grow: of an owner, also cut off; and of a function's own. -/
set_option linter.unusedSimpArgs false
set_option linter.unusedVariables false
set_option linter.unusedSectionVars false
namespace Go.Mx
section
variable {K K1 : Nat → Prop} {w w1 w' w0 : World} {o o1 o' o0 : Own} {p q j k N : Nat} {e : TypeId} {size n c : Nat} {a : Option Addr} {cs : List Value}
theorem Row.forget (h : Row w1 o1 a cs) (s : Step K w0 o0 w1 o1) : Row w1 (grow w0 o0) a cs := ⟨h.1, fun h0 ad ha => by
  by_cases hb : ad.block < w0.heap.size
  · rw [grow_lt hb, ← s.same _ hb]; exact h.2 h0 ad ha
  · exact grow_ge (by omega)⟩
/-- the row of an owner, or what was cut off of it. -/
def GrowsF (e size : Nat) (w : World) (o : Own) (k : Nat) (a : Option Addr) (n c : Nat) (cs : List Value) : Prop :=
  Grows e size w o k a n c cs ∨ (n = c ∧ RowAt w a cs ∧ cs.length = n * size ∧ ∃ ad, a = some ad ∧ o ad.block = some k ∧ ad.block < w.heap.size)
theorem GrowsF.row (h : GrowsF e size w o k a n c cs) : RowAt w a cs := h.elim Grows.row fun h => h.2.1
theorem GrowsF.len (h : GrowsF e size w o k a n c cs) : cs.length = n * size := h.elim (fun h => h.own.1) fun h => h.2.2.1
theorem GrowsF.le (h : GrowsF e size w o k a n c cs) : n ≤ c := h.elim (fun h => (own_fresh h.own).1) fun h => Nat.le_of_eq h.1
theorem GrowsF.tg (h : GrowsF e size w o k a n c cs) : ∀ ad, a = some ad → o ad.block = some k ∧ ad.block < w.heap.size := h.elim (fun h => h.tg) fun ⟨_, _, _, ad, ha, h⟩ ad' ha' => by rw [ha] at ha'; cases ha'; exact h
theorem GrowsF.step (h : GrowsF e size w o k a n c cs) (s : Step K w o w' o') (hk : ¬ K k) : GrowsF e size w' o' k a n c cs := by
  rcases h with h | ⟨h1, h2, h3, ad, ha, h4, h5⟩
  · exact .inl (h.step s hk)
  · exact .inr ⟨h1, h2.ext s.ext fun ad' ha' ⟨i, hi, hK⟩ => by rw [ha] at ha'; cases ha'; rw [h4] at hi; cases hi; exact hk hK, h3, ad, ha, (s.own h5).trans h4, Nat.lt_of_lt_of_le h5 s.size⟩
theorem GrowsF.keep (h : GrowsF e size w o k a n c cs) {m : Nat → Prop} (x : Ext m w w') (hm : ∀ ad, a = some ad → ¬ m ad.block) (ho : ∀ b, b < w.heap.size → o' b = o b) : GrowsF e size w' o' k a n c cs := by
  rcases h with h | ⟨h1, h2, h3, ad, ha, h4, h5⟩
  · exact .inl (h.keep x hm ho)
  · exact .inr ⟨h1, h2.ext x hm, h3, ad, ha, (ho _ h5).trans h4, Nat.lt_of_lt_of_le h5 x.size⟩
/-- what is cut off behind some. -/
theorem GrowsF.cut (h : GrowsF e size w o k a n c cs) {i : Nat} (hi : i ≤ n) (ha : a ≠ none) : GrowsF e size w o k a i i (cs.take (i * size)) := by
  obtain ⟨ad, ha⟩ := Option.ne_none_iff_exists'.1 ha
  refine .inr ⟨rfl, h.row.take _, ?_, ad, ha, h.tg ad ha⟩
  rw [List.length_take, h.len]
  have := Nat.mul_le_mul_right size hi
  omega
theorem GrowsF.push {P : Program} {t ty : TypeId} {i : TypeInfo} {z : Value} {bytes : Nat} (ht : P.underlying t = some (.slice e)) (hi : P.info? e = some i) (hz : i.zero = some z)
    (hsize : i.size = size) (hby : i.bytes = bytes) (hzs : z.cells.size = size) (hsz : 0 < size) (h : GrowsF e size w o k a n c cs) (ok : Tags w o) (hk : k < w.heap.size)
    {xa : Option Addr} {m xc : Nat} {news : List Value} (hl : news.length = m * size) (hnews : RowAt w xa news) (h1 : ∀ u ∈ news, u.oneCell' = true) (hm : 0 < m) (hb : (n + m) * bytes ≤ 140737488355328) (h63 : n + m ≤ 1000000000) :
    ∃ a' c' w' o', (Builtin.append_ #[t, t] ty #[.slice a n c, .slice xa m xc]).run P w = .ok (.slice a' (n + m) c') w' ∧ Step (fun j => j = k) w o w' o' ∧ GrowsF e size w' o' k a' (n + m) c' (cs ++ news) ∧
      (∀ b, b < w.heap.size → (∀ ad, a = some ad → b ≠ ad.block) → w'.heap[b]? = w.heap[b]?) ∧ (∀ ad, a' = some ad → (∃ b, a = some b ∧ ad.block = b.block) ∨ ad.block = w.heap.size) := by
  rcases h with h | ⟨h1', h2, h3, ad, ha, h4, h5⟩
  · obtain ⟨a', c', w', o', q1, q2, q3, q4, q5⟩ := h.push (ty := ty) ht hi hz hsize hby hzs hsz ok hk hl hnews h1 hb (by omega)
    exact ⟨a', c', w', o', q1, q2, .inl q3, q4, q5⟩
  · subst h1'
    subst ha
    obtain ⟨xd, rfl⟩ := hnews.addr fun e => by
      have : 0 < m * size := Nat.mul_pos hm hsz
      rw [e] at hl
      have : ([] : List Value).length = 0 := rfl
      omega
    obtain ⟨v', w', hr, ho, hg⟩ := run_append_arg_grows (P := P) w t ty e i z size bytes ht hi hz hsize hby hzs hsz ad n n cs h3 (fun j u hu => h2.at_ hu) xd m xc news hl (fun j u hu => hnews.at_ hu) (by omega) (by unfold maxLen; omega) hb
    obtain ⟨a', c', hv, hrow⟩ := RowAt.of_owns ho
    subst hv
    have X : Ext no w w' := Ext.of_grown hg fun q hq => by cases hq
    have hfr := (own_fresh ho).2
    have s := (Step.of_no X ok)
    rcases ho.2 with ⟨hv, h0⟩ | ⟨g, cap, cur, hv, hb1, hg1, _⟩
    · omega
    · cases hv
      have hgs := hfr _ rfl
      refine ⟨_, _, w', tag (grow w o) g k, hr, (s.tag hb1 (Nat.lt_of_lt_of_le hk X.size)).none, .inl ⟨⟨ho.1, ?_⟩, fun ad' ha' => ?_⟩, fun b hb _ => X.block b hb id, fun ad' ha' => ?_⟩
      · rcases ho.2 with h | ⟨g, cap, cur, hv, hb1, h⟩
        · exact .inl h
        · exact .inr ⟨g, cap, cur, hv, Nat.zero_le _, h⟩
      · cases ha'; exact ⟨tag_self, hgs⟩
      · cases ha'
        refine .inr ?_
        -- the block is the next one: of no more than one new block
        have hr' := run_append_grow (P := P) w t ty e i z ht hi hz ad n n cs (by rw [hsize]; exact h3) (fun j u hu => h2.at_ hu) xd m xc news (by rw [hsize]; exact hl) (fun j u hu => hnews.at_ hu) (by omega) (by omega) (growslice_fits (by omega) (by rw [hby]; exact hb))
        rw [hr] at hr'
        injection hr' with hr' _
        injection hr' with hr' _ _
        injection hr' with hr'
        injection hr'
/-- a row of a function's own: nothing yet, or in a block that came behind N. -/
def LRow (e size N : Nat) (w : World) (o : Own) (a : Option Addr) (n c : Nat) (cs : List Value) : Prop :=
  (a = none ∧ n = 0 ∧ c = 0 ∧ cs = []) ∨ ∃ k, N ≤ k ∧ k < w.heap.size ∧ Grows e size w o k a n c cs
theorem LRow.nil (e size N : Nat) (w : World) (o : Own) : LRow e size N w o none 0 0 [] := .inl ⟨rfl, rfl, rfl, rfl⟩
theorem LRow.row (h : LRow e size N w o a n c cs) : RowAt w a cs := by
  rcases h with ⟨rfl, rfl, rfl, rfl⟩ | ⟨k, _, _, h⟩
  · exact RowAt.nil _ _
  · exact h.row
theorem LRow.len (h : LRow e size N w o a n c cs) : cs.length = n * size := by
  rcases h with ⟨rfl, rfl, rfl, rfl⟩ | ⟨k, _, _, h⟩
  · simp
  · exact h.own.1
theorem LRow.le (h : LRow e size N w o a n c cs) : n ≤ c := by
  rcases h with ⟨rfl, rfl, rfl, rfl⟩ | ⟨k, _, _, h⟩
  · exact Nat.le_refl _
  · exact (own_fresh h.own).1
theorem LRow.step (h : LRow e size N w o a n c cs) (s : Step K w o w' o') (hk : ∀ k, K k → k < N ∨ w.heap.size ≤ k) : LRow e size N w' o' a n c cs := by
  rcases h with h | ⟨k, h1, h2, h⟩
  · exact .inl h
  · exact .inr ⟨k, h1, Nat.lt_of_lt_of_le h2 s.size, h.step s fun hK => by rcases hk k hK with h | h <;> omega⟩
theorem LRow.push {P : Program} {t ty : TypeId} {i : TypeInfo} {z : Value} {bytes : Nat} (ht : P.underlying t = some (.slice e)) (hi : P.info? e = some i) (hz : i.zero = some z)
    (hsize : i.size = size) (hby : i.bytes = bytes) (hzs : z.cells.size = size) (hsz : 0 < size) (h : LRow e size N w o a n c cs) (ok : Tags w o) (hp : N ≤ p) (hp' : p < w.heap.size)
    {xa : Option Addr} {m xc : Nat} {news : List Value} (hl : news.length = m * size) (hnews : RowAt w xa news) (h1 : ∀ u ∈ news, u.oneCell' = true) (hb : (n + m) * bytes ≤ 140737488355328) (h63 : n + m ≤ 9223372036854775807) :
    ∃ a' c' w' o', (Builtin.append_ #[t, t] ty #[.slice a n c, .slice xa m xc]).run P w = .ok (.slice a' (n + m) c') w' ∧ Step (fun j => N ≤ j) w o w' o' ∧ LRow e size N w' o' a' (n + m) c' (cs ++ news) ∧ Ext (fun b => ∃ ad, a = some ad ∧ b = ad.block) w w' := by
  have key : ∀ k, N ≤ k → k < w.heap.size → Grows e size w o k a n c cs → _ := fun k hk hk' hg => hg.push (ty := ty) ht hi hz hsize hby hzs hsz ok hk' (xc := xc) hl hnews h1 hb h63
  have fin : ∀ k, N ≤ k → k < w.heap.size → Grows e size w o k a n c cs → ∃ a' c' w' o', (Builtin.append_ #[t, t] ty #[.slice a n c, .slice xa m xc]).run P w = .ok (.slice a' (n + m) c') w' ∧ Step (fun j => N ≤ j) w o w' o' ∧ LRow e size N w' o' a' (n + m) c' (cs ++ news) ∧ Ext (fun b => ∃ ad, a = some ad ∧ b = ad.block) w w' := fun k hk hk' hg => by
    obtain ⟨a', c', w', o', r1, r2, r3, r4, _⟩ := key k hk hk' hg
    refine ⟨a', c', w', o', r1, r2.mono fun j hj _ => by omega, .inr ⟨k, hk, Nat.lt_of_lt_of_le hk' r2.size, r3⟩, ⟨r2.ext.os, r2.ext.tape, r2.ext.output, r2.ext.size, fun b hb hn => r4 b hb fun ad ha hb' => hn ⟨ad, ha, hb'⟩⟩⟩
  rcases h with ⟨rfl, rfl, rfl, rfl⟩ | ⟨k, h1, h2, h⟩
  · exact fin p hp hp' (Grows.nil _ _ _ _ _)
  · exact fin k h1 h2 h
/-- at the end: nobody's. -/
theorem LRow.give (h : LRow e size N w1 o1 a n c cs) (s : Step K w0 o0 w1 o1) (hN : w0.heap.size ≤ N) : Row w1 (grow w0 o0) a cs := ⟨h.row, fun h0 ad ha => by
  rcases h with ⟨rfl, _⟩ | ⟨k, h1, h2, h⟩
  · cases ha
  · refine grow_ge ?_
    have ht := h.tg ad ha
    by_cases hb : ad.block < w0.heap.size
    · rw [s.same _ hb] at ht
      have := s.ok0 _ _ hb ht.1
      omega
    · omega⟩
end
end Go.Mx
