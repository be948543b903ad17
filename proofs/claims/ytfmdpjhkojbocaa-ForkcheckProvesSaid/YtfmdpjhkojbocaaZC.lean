/- Entries: sums, signatures, and whether they hold (the program's). -/
import Derived.Test.YtfmdpjhkojbocaaZB
set_option linter.unusedVariables false
set_option linter.unusedSimpArgs false
set_option maxRecDepth 20000
namespace Go.Proofs.Ytfmdpjhkojbocaa
open Go Go.Mx Go.Proofs
open W (OwnB GivesW numR countR doneR zig unzig intR)
/-- bytes.Clone -/
def bytes_Clone.M (a2 : Option Addr) (a7 : Nat) (a5 : Nat) (R : Value → World → Prop) (w : World) : Prop :=
 bif Option.isNone a2 then (
 R (.slice none 0 0) w) else (
 thenW (w.alloc (.cells #[] 5)) fun a6 =>
 ∃ (a3 : Option Addr) (a0 : Nat) (a4 : Nat) (a1 : World), (Builtin.append_ #[23, 23] 23 #[.slice (some (blk w.heap.size)) 0 0, .slice a2 a7 a5]).run Try.prog a6 = .ok (.slice a3 a0 a4) a1 ∧
 R (.slice a3 a0 a4) a1)

theorem bytes_Clone.eq (b1a : Option Addr) (b1n : Nat) (b1c : Nat) (R : Value → World → Prop) (w : World) : mfunc Try.prog [] 61 [.slice b1a b1n b1c] R w = bytes_Clone.M b1a b1n b1c R w := by kernel_rfl
theorem bytes_Clone.ok (a2 : Option Addr) (a1 : Nat) (a0 : Nat) {R : Value → World → Prop} {w : World} (h : bytes_Clone.M a2 a1 a0 R w) : Calls Try.prog 61 #[.slice a2 a1 a0] w fun e w' => ∃ v, e = .returned v ∧ R v w' :=
  mfunc_ok follows (H := []) (args := [.slice a2 a1 a0]) (by rw [bytes_Clone.eq]; exact h)

def bytes_Clone.N (a1 : Option Addr) (a7 : Nat) (a6 : Nat) (R : Value → World → Prop) (w : World) : Prop :=
 (a1 = none →
 R (.slice none 0 0) w) ∧
 (a1 ≠ none →
 ∀ (a0 : World) (q4 : Nat), Ext no w a0 → Blk a0 q4 5 [] → w.heap.size ≤ q4 → q4 < a0.heap.size →
 ∃ (a5 : Option Addr) (a4 : Nat) (a2 : Nat) (a3 : World), (Builtin.append_ #[23, 23] 23 #[.slice (some (blk q4)) 0 0, .slice a1 a7 a6]).run Try.prog a0 = .ok (.slice a5 a4 a2) a3 ∧
 R (.slice a5 a4 a2) a3)

theorem bytes_Clone.up (a1 : Option Addr) (a2 : Nat) (a0 : Nat) {R : Value → World → Prop} {w : World} (h : bytes_Clone.N a1 a2 a0 R w) : bytes_Clone.M a1 a2 a0 R w := by
  unfold bytes_Clone.M
  unfold bytes_Clone.N at h
  refine bif_of (fun c2 => ?_) (fun c2 => ?_)
  · have h := h.1 (isNone_t c2)
    exact h
  · have h := h.2 (isNone_f c2)
    refine thenW_in fun a6 e3 => ?_
    have h := h a6 w.heap.size ((Ext.refl no w).x_alloc e3) (Blk.of_new e3) ((Ext.refl no w)).size (size_lt_alloc e3)
    obtain ⟨a7, a5, a3, a4, hr, h⟩ := h
    refine ⟨a7, a5, a3, a4, hr, ?_⟩
    exact h

theorem bytes_Clone.go (a2 : Option Addr) (a1 : Nat) (a0 : Nat) {R : Value → World → Prop} {w : World} (h : bytes_Clone.N a2 a1 a0 R w) : Calls Try.prog 61 #[.slice a2 a1 a0] w fun e w' => ∃ v, e = .returned v ∧ R v w' := bytes_Clone.ok a2 a1 a0 (bytes_Clone.up a2 a1 a0 h)
/-- entry.Sum -/
def entry_Sum.M (o1 : Option Addr) (ac : Int) (ag : Int) (am : Int) (ap : Int) (an : Int) (aj : Int) (ak : Option Addr) (ah : Nat) (ai : Nat) (aq : Int) (R : Value → World → Prop) (w : World) : Prop :=
 thenW (w.alloc (.cells #[.int .i64 ac, .int .i64 ag, .int .u64 am, .int .i64 ap, .int .i64 an, .int .i64 aj, .slice ak ah ai, .int .u64 aq] 29)) fun ao =>
 ∃ (a0 : Int) (a2 : Int) (aa : Int) (ae : Int) (ab : Int) (a6 : Int) (a5 : Option Addr) (a4 : Nat) (a7 : Nat) (ad : Int), cellsAt ao (blk w.heap.size) [.int .i64 a0, .int .i64 a2, .int .u64 aa, .int .i64 ae, .int .i64 ab, .int .i64 a6, .slice a5 a4 a7, .int .u64 ad] 0 ∧
 Calls Try.prog 81 #[.agg #[.int .i64 a0, .int .i64 a2, .int .u64 aa, .int .i64 ae, .int .i64 ab, .int .i64 a6, .slice a5 a4 a7, .int .u64 ad]] ao fun av al => ∃ (a8 : Option Addr) (a3 : Nat) (a9 : Nat) (a1 : Int), av = .returned (.tuple #[.slice a8 a3 a9, .int .i64 a1]) ∧
 bif a1 != 0 then (
 R (.tuple #[.int .u64 0, .int .i64 a1]) al) else (
 bif Option.isNone o1 then (
 R (.tuple #[.int .u64 0, .int .i64 23]) al) else (
 Calls Try.prog 82 #[.pointer o1, .slice a8 a3 a9] al fun au ar => ∃ (af : Int), au = .returned (.int .u64 af) ∧
 R (.tuple #[.int .u64 af, .int .i64 0]) ar))

theorem entry_Sum.eq (o1 : Option Addr) (eWriter2 : Int) (eIndex3 : Int) (ePrev4 : Int) (eAtT5 : Int) (eAtW6 : Int) (eEpoch7 : Int) (eBody8a : Option Addr) (eBody8n : Nat) (eBody8c : Nat) (eSig9 : Int) (R : Value → World → Prop) (w : World) : mfunc Try.prog [] 66 [.pointer o1, .agg #[.int .i64 eWriter2, .int .i64 eIndex3, .int .u64 ePrev4, .int .i64 eAtT5, .int .i64 eAtW6, .int .i64 eEpoch7, .slice eBody8a eBody8n eBody8c, .int .u64 eSig9]] R w = entry_Sum.M o1 eWriter2 eIndex3 ePrev4 eAtT5 eAtW6 eEpoch7 eBody8a eBody8n eBody8c eSig9 R w := by kernel_rfl
theorem entry_Sum.ok (o1 : Option Addr) (a0 : Int) (a3 : Int) (a6 : Int) (a7 : Int) (a9 : Int) (a2 : Int) (a5 : Option Addr) (a4 : Nat) (a1 : Nat) (a8 : Int) {R : Value → World → Prop} {w : World} (h : entry_Sum.M o1 a0 a3 a6 a7 a9 a2 a5 a4 a1 a8 R w) : Calls Try.prog 66 #[.pointer o1, .agg #[.int .i64 a0, .int .i64 a3, .int .u64 a6, .int .i64 a7, .int .i64 a9, .int .i64 a2, .slice a5 a4 a1, .int .u64 a8]] w fun e w' => ∃ v, e = .returned v ∧ R v w' :=
  mfunc_ok follows (H := []) (args := [.pointer o1, .agg #[.int .i64 a0, .int .i64 a3, .int .u64 a6, .int .i64 a7, .int .i64 a9, .int .i64 a2, .slice a5 a4 a1, .int .u64 a8]]) (by rw [entry_Sum.eq]; exact h)

def entry_Sum.N (o1 : Option Addr) (a5 : Int) (a6 : Int) (ac : Int) (af : Int) (ad : Int) (a9 : Int) (aa : Option Addr) (a7 : Nat) (a8 : Nat) (ag : Int) (R : Value → World → Prop) (w : World) : Prop :=
 ∀ (ae : World), Ext no w ae →
 Calls Try.prog 81 #[.agg #[.int .i64 a5, .int .i64 a6, .int .u64 ac, .int .i64 af, .int .i64 ad, .int .i64 a9, .slice aa a7 a8, .int .u64 ag]] ae fun ai ab => ∃ (a3 : Option Addr) (a1 : Nat) (a2 : Nat) (a0 : Int), ai = .returned (.tuple #[.slice a3 a1 a2, .int .i64 a0]) ∧
 (a0 ≠ 0 →
 R (.tuple #[.int .u64 0, .int .i64 a0]) ab) ∧
 (a0 = 0 →
 (o1 = none →
 R (.tuple #[.int .u64 0, .int .i64 23]) ab) ∧
 (o1 ≠ none →
 Calls Try.prog 82 #[.pointer o1, .slice a3 a1 a2] ab fun ah aj => ∃ (a4 : Int), ah = .returned (.int .u64 a4) ∧
 R (.tuple #[.int .u64 a4, .int .i64 0]) aj))

theorem entry_Sum.up (o1 : Option Addr) (a0 : Int) (a1 : Int) (a6 : Int) (ab : Int) (a9 : Int) (a4 : Int) (a5 : Option Addr) (a2 : Nat) (a3 : Nat) (ac : Int) {R : Value → World → Prop} {w : World} (h : entry_Sum.N o1 a0 a1 a6 ab a9 a4 a5 a2 a3 ac R w) : entry_Sum.M o1 a0 a1 a6 ab a9 a4 a5 a2 a3 ac R w := by
  unfold entry_Sum.M
  unfold entry_Sum.N at h
  refine thenW_in fun ah ak => ?_
  have ae := Blk.of_new ak
  have ap := ((Ext.refl no w)).size
  have ai := (Ext.refl no w).x_alloc ak
  refine ⟨a0, a1, a6, ab, a9, a4, a5, a2, a3, ac, ⟨ae.celli 0 rfl rfl, ae.celli 1 rfl rfl, ae.celli 2 rfl rfl, ae.celli 3 rfl rfl, ae.celli 4 rfl rfl, ae.celli 5 rfl rfl, ae.celli 6 rfl rfl, ae.celli 7 rfl rfl, trivial⟩, ?_⟩
  have h := h ah ai
  refine h.mono fun an al h => ?_
  obtain ⟨aa, a8, a7, ad, he, h⟩ := h
  refine ⟨aa, a8, a7, ad, he, ?_⟩
  refine bif_of (fun ag => ?_) (fun ag => ?_)
  · have h := h.1 (bne_t ag)
    exact h
  · have h := h.2 (bne_f ag)
    refine bif_of (fun aj => ?_) (fun aj => ?_)
    · have h := h.1 (isNone_t aj)
      exact h
    · have h := h.2 (isNone_f aj)
      refine h.mono fun am ao h => ?_
      obtain ⟨af, he, h⟩ := h
      refine ⟨af, he, ?_⟩
      exact h

theorem entry_Sum.go (o1 : Option Addr) (a0 : Int) (a3 : Int) (a6 : Int) (a7 : Int) (a9 : Int) (a2 : Int) (a5 : Option Addr) (a4 : Nat) (a1 : Nat) (a8 : Int) {R : Value → World → Prop} {w : World} (h : entry_Sum.N o1 a0 a3 a6 a7 a9 a2 a5 a4 a1 a8 R w) : Calls Try.prog 66 #[.pointer o1, .agg #[.int .i64 a0, .int .i64 a3, .int .u64 a6, .int .i64 a7, .int .i64 a9, .int .i64 a2, .slice a5 a4 a1, .int .u64 a8]] w fun e w' => ∃ v, e = .returned v ∧ R v w' := entry_Sum.ok o1 a0 a3 a6 a7 a9 a2 a5 a4 a1 a8 (entry_Sum.up o1 a0 a3 a6 a7 a9 a2 a5 a4 a1 a8 h)
/-- entry.Sign -/
def entry_Sign.M (o1 : Option Addr) (bz : Int) (bs : Int) (bw : Int) (c2 : Int) (cm : Int) (ch : Int) (bv : Int) (c1 : Option Addr) (c0 : Nat) (bu : Nat) (c5 : Int) (R : Value → World → Prop) (w : World) : Prop :=
 thenW (w.alloc (.cells #[.int .i64 bs, .int .i64 bw, .int .u64 c2, .int .i64 cm, .int .i64 ch, .int .i64 bv, .slice c1 c0 bu, .int .u64 c5] 29)) fun a0 =>
 thenW (a0.alloc (.cells #[.int .i64 0, .int .i64 0, .int .u64 0, .int .i64 0, .int .i64 0, .int .i64 0, .slice none 0 0, .int .u64 0] 29)) fun cr =>
 ∃ (al : Int) (au : Int) (bi : Int) (bq : Int) (br : Int) (aq : Int) (az : Option Addr) (bb : Nat) (av : Nat) (bt : Int), cellsAt cr (blk w.heap.size) [.int .i64 al, .int .i64 au, .int .u64 bi, .int .i64 bq, .int .i64 br, .int .i64 aq, .slice az bb av, .int .u64 bt] 0 ∧
 Calls Try.prog 60 #[.agg #[.int .i64 al, .int .i64 au, .int .u64 bi, .int .i64 bq, .int .i64 br, .int .i64 aq, .slice az bb av, .int .u64 bt]] cr fun d1 c3 => ∃ (bh : Option Addr) (bg : Nat) (bj : Nat) (bd : Int), d1 = .returned (.tuple #[.slice bh bg bj, .int .i64 bd]) ∧
 bif bd != 0 then (
 canStore c3 ((blk a0.heap.size).add 0) ∧
 thenW (c3.setCell ((blk a0.heap.size).add 0) (.int .i64 0)) fun cg =>
 canStore cg ((blk a0.heap.size).add 1) ∧
 thenW (cg.setCell ((blk a0.heap.size).add 1) (.int .i64 0)) fun cf =>
 canStore cf ((blk a0.heap.size).add 2) ∧
 thenW (cf.setCell ((blk a0.heap.size).add 2) (.int .u64 0)) fun cy =>
 canStore cy ((blk a0.heap.size).add 3) ∧
 thenW (cy.setCell ((blk a0.heap.size).add 3) (.int .i64 0)) fun cs =>
 canStore cs ((blk a0.heap.size).add 4) ∧
 thenW (cs.setCell ((blk a0.heap.size).add 4) (.int .i64 0)) fun cc =>
 canStore cc ((blk a0.heap.size).add 5) ∧
 thenW (cc.setCell ((blk a0.heap.size).add 5) (.int .i64 0)) fun co =>
 canStore co ((blk a0.heap.size).add 6) ∧
 thenW (co.setCell ((blk a0.heap.size).add 6) (.slice none 0 0)) fun cp =>
 canStore cp ((blk a0.heap.size).add 7) ∧
 thenW (cp.setCell ((blk a0.heap.size).add 7) (.int .u64 0)) fun c6 =>
 ∃ (a1 : Int) (aa : Int) (am : Int) (b4 : Int) (ap : Int) (a8 : Int) (ad : Option Addr) (af : Nat) (ab : Nat) (b9 : Int), cellsAt c6 (blk a0.heap.size) [.int .i64 a1, .int .i64 aa, .int .u64 am, .int .i64 b4, .int .i64 ap, .int .i64 a8, .slice ad af ab, .int .u64 b9] 0 ∧
 R (.tuple #[.agg #[.int .i64 a1, .int .i64 aa, .int .u64 am, .int .i64 b4, .int .i64 ap, .int .i64 a8, .slice ad af ab, .int .u64 b9], .int .i64 bd]) c6) else (
 Calls Try.prog 52 #[.pointer o1, .int .u64 bz, .slice bh bg bj] c3 fun d0 ca => ∃ (bo : Int) (bc : Int), d0 = .returned (.tuple #[.int .u64 bo, .int .i64 bc]) ∧
 canStore ca (((blk w.heap.size).add 7).add 0) ∧
 thenW (ca.setCell (((blk w.heap.size).add 7).add 0) (.int .u64 bo)) fun bx =>
 bif bc != 0 then (
 canStore bx ((blk a0.heap.size).add 0) ∧
 thenW (bx.setCell ((blk a0.heap.size).add 0) (.int .i64 0)) fun ct =>
 canStore ct ((blk a0.heap.size).add 1) ∧
 thenW (ct.setCell ((blk a0.heap.size).add 1) (.int .i64 0)) fun cq =>
 canStore cq ((blk a0.heap.size).add 2) ∧
 thenW (cq.setCell ((blk a0.heap.size).add 2) (.int .u64 0)) fun cd =>
 canStore cd ((blk a0.heap.size).add 3) ∧
 thenW (cd.setCell ((blk a0.heap.size).add 3) (.int .i64 0)) fun ce =>
 canStore ce ((blk a0.heap.size).add 4) ∧
 thenW (ce.setCell ((blk a0.heap.size).add 4) (.int .i64 0)) fun cv =>
 canStore cv ((blk a0.heap.size).add 5) ∧
 thenW (cv.setCell ((blk a0.heap.size).add 5) (.int .i64 0)) fun cx =>
 canStore cx ((blk a0.heap.size).add 6) ∧
 thenW (cx.setCell ((blk a0.heap.size).add 6) (.slice none 0 0)) fun cl =>
 canStore cl ((blk a0.heap.size).add 7) ∧
 thenW (cl.setCell ((blk a0.heap.size).add 7) (.int .u64 0)) fun cn =>
 ∃ (a3 : Int) (a4 : Int) (aj : Int) (ar : Int) (ax : Int) (a5 : Int) (ai : Option Addr) (ag : Nat) (a7 : Nat) (aw : Int), cellsAt cn (blk a0.heap.size) [.int .i64 a3, .int .i64 a4, .int .u64 aj, .int .i64 ar, .int .i64 ax, .int .i64 a5, .slice ai ag a7, .int .u64 aw] 0 ∧
 R (.tuple #[.agg #[.int .i64 a3, .int .i64 a4, .int .u64 aj, .int .i64 ar, .int .i64 ax, .int .i64 a5, .slice ai ag a7, .int .u64 aw], .int .i64 bc]) cn) else (
 ∃ (be : Option Addr) (bl : Nat) (bf : Nat), bx.cell? ((blk w.heap.size).add 6) = some (.slice be bl bf) ∧
 Calls Try.prog 61 #[.slice be bl bf] bx fun cz cj => ∃ (b3 : Option Addr) (b5 : Nat) (b1 : Nat), cz = .returned (.slice b3 b5 b1) ∧
 canStore cj (((blk w.heap.size).add 6).add 0) ∧
 thenW (cj.setCell (((blk w.heap.size).add 6).add 0) (.slice b3 b5 b1)) fun c4 =>
 ∃ (an : Int) (b7 : Int) (bk : Int) (bp : Int) (bm : Int) (b6 : Int) (b2 : Option Addr) (ao : Nat) (b0 : Nat) (bn : Int), cellsAt c4 (blk w.heap.size) [.int .i64 an, .int .i64 b7, .int .u64 bk, .int .i64 bp, .int .i64 bm, .int .i64 b6, .slice b2 ao b0, .int .u64 bn] 0 ∧
 canStore c4 ((blk a0.heap.size).add 0) ∧
 thenW (c4.setCell ((blk a0.heap.size).add 0) (.int .i64 an)) fun cb =>
 canStore cb ((blk a0.heap.size).add 1) ∧
 thenW (cb.setCell ((blk a0.heap.size).add 1) (.int .i64 b7)) fun ci =>
 canStore ci ((blk a0.heap.size).add 2) ∧
 thenW (ci.setCell ((blk a0.heap.size).add 2) (.int .u64 bk)) fun c8 =>
 canStore c8 ((blk a0.heap.size).add 3) ∧
 thenW (c8.setCell ((blk a0.heap.size).add 3) (.int .i64 bp)) fun c7 =>
 canStore c7 ((blk a0.heap.size).add 4) ∧
 thenW (c7.setCell ((blk a0.heap.size).add 4) (.int .i64 bm)) fun c9 =>
 canStore c9 ((blk a0.heap.size).add 5) ∧
 thenW (c9.setCell ((blk a0.heap.size).add 5) (.int .i64 b6)) fun cu =>
 canStore cu ((blk a0.heap.size).add 6) ∧
 thenW (cu.setCell ((blk a0.heap.size).add 6) (.slice b2 ao b0)) fun ck =>
 canStore ck ((blk a0.heap.size).add 7) ∧
 thenW (ck.setCell ((blk a0.heap.size).add 7) (.int .u64 bn)) fun cw =>
 ∃ (a2 : Int) (ah : Int) (ak : Int) (ba : Int) (b8 : Int) (a6 : Int) (a9 : Option Addr) (ac : Nat) (ae : Nat) (ay : Int), cellsAt cw (blk a0.heap.size) [.int .i64 a2, .int .i64 ah, .int .u64 ak, .int .i64 ba, .int .i64 b8, .int .i64 a6, .slice a9 ac ae, .int .u64 ay] 0 ∧
 R (.tuple #[.agg #[.int .i64 a2, .int .i64 ah, .int .u64 ak, .int .i64 ba, .int .i64 b8, .int .i64 a6, .slice a9 ac ae, .int .u64 ay], .int .i64 0]) cw))

theorem entry_Sign.eq (o1 : Option Addr) (secret2 : Int) (eWriter3 : Int) (eIndex4 : Int) (ePrev5 : Int) (eAtT6 : Int) (eAtW7 : Int) (eEpoch8 : Int) (eBody9a : Option Addr) (eBody9n : Nat) (eBody9c : Nat) (eSig10 : Int) (R : Value → World → Prop) (w : World) : mfunc Try.prog [] 28 [.pointer o1, .int .u64 secret2, .agg #[.int .i64 eWriter3, .int .i64 eIndex4, .int .u64 ePrev5, .int .i64 eAtT6, .int .i64 eAtW7, .int .i64 eEpoch8, .slice eBody9a eBody9n eBody9c, .int .u64 eSig10]] R w = entry_Sign.M o1 secret2 eWriter3 eIndex4 ePrev5 eAtT6 eAtW7 eEpoch8 eBody9a eBody9n eBody9c eSig10 R w := by kernel_rfl
theorem entry_Sign.ok (o1 : Option Addr) (a4 : Int) (a0 : Int) (a3 : Int) (a7 : Int) (aa : Int) (a9 : Int) (a5 : Int) (a2 : Option Addr) (a6 : Nat) (a1 : Nat) (a8 : Int) {R : Value → World → Prop} {w : World} (h : entry_Sign.M o1 a4 a0 a3 a7 aa a9 a5 a2 a6 a1 a8 R w) : Calls Try.prog 28 #[.pointer o1, .int .u64 a4, .agg #[.int .i64 a0, .int .i64 a3, .int .u64 a7, .int .i64 aa, .int .i64 a9, .int .i64 a5, .slice a2 a6 a1, .int .u64 a8]] w fun e w' => ∃ v, e = .returned v ∧ R v w' :=
  mfunc_ok follows (H := []) (args := [.pointer o1, .int .u64 a4, .agg #[.int .i64 a0, .int .i64 a3, .int .u64 a7, .int .i64 aa, .int .i64 a9, .int .i64 a5, .slice a2 a6 a1, .int .u64 a8]]) (by rw [entry_Sign.eq]; exact h)

def entry_Sign.N (o1 : Option Addr) (ai : Int) (a4 : Int) (ad : Int) (ae : Int) (aj : Int) (ak : Int) (a8 : Int) (aa : Option Addr) (a9 : Nat) (a6 : Nat) (am : Int) (R : Value → World → Prop) (w : World) : Prop :=
 ∀ (ah : World) (ao : Nat) (ap : Nat), Ext no w ah → Priv w ah [ao, ap] →
 Calls Try.prog 60 #[.agg #[.int .i64 a4, .int .i64 ad, .int .u64 ae, .int .i64 aj, .int .i64 ak, .int .i64 a8, .slice aa a9 a6, .int .u64 am]] ah fun aw ag => ∃ (ac : Option Addr) (ab : Nat) (a7 : Nat) (a0 : Int), aw = .returned (.tuple #[.slice ac ab a7, .int .i64 a0]) ∧
 Keep [ao, ap] ah ag ∧
 (a0 ≠ 0 →
 ∀ (av : World), Ext (fun b => b = ap) ag av →
 R (.tuple #[.agg #[.int .i64 0, .int .i64 0, .int .u64 0, .int .i64 0, .int .i64 0, .int .i64 0, .slice none 0 0, .int .u64 0], .int .i64 a0]) av) ∧
 (a0 = 0 →
 Calls Try.prog 52 #[.pointer o1, .int .u64 ai, .slice ac ab a7] ag fun ax an => ∃ (af : Int) (a1 : Int), ax = .returned (.tuple #[.int .u64 af, .int .i64 a1]) ∧
 Keep [ao, ap] ag an ∧
 (a1 ≠ 0 →
 ∀ (aq : World), Ext (fun b => b = ap ∨ b = ao) an aq →
 R (.tuple #[.agg #[.int .i64 0, .int .i64 0, .int .u64 0, .int .i64 0, .int .i64 0, .int .i64 0, .slice none 0 0, .int .u64 0], .int .i64 a1]) aq) ∧
 (a1 = 0 →
 ∀ (al : World), Ext (fun b => b = ao) an al →
 Calls Try.prog 61 #[.slice aa a9 a6] al fun ay ar => ∃ (a2 : Option Addr) (a5 : Nat) (a3 : Nat), ay = .returned (.slice a2 a5 a3) ∧
 Keep [ao, ap] al ar ∧
 ∀ (au : World), Ext (fun b => b = ap ∨ b = ao) ar au →
 R (.tuple #[.agg #[.int .i64 a4, .int .i64 ad, .int .u64 ae, .int .i64 aj, .int .i64 ak, .int .i64 a8, .slice a2 a5 a3, .int .u64 af], .int .i64 0]) au))

theorem entry_Sign.up (o1 : Option Addr) (ah : Int) (a2 : Int) (a3 : Int) (a4 : Int) (a9 : Int) (aa : Int) (a5 : Int) (ae : Option Addr) (ad : Nat) (ac : Nat) (ag : Int) {R : Value → World → Prop} {w : World} (h : entry_Sign.N o1 ah a2 a3 a4 a9 aa a5 ae ad ac ag R w) : entry_Sign.M o1 ah a2 a3 a4 a9 aa a5 ae ad ac ag R w := by
  unfold entry_Sign.M
  unfold entry_Sign.N at h
  refine thenW_in fun a1 d0 => ?_
  have ab := Blk.of_new d0
  have dd := ((Ext.refl no w)).size
  have aw := (Ext.refl no w).x_alloc d0
  refine thenW_in fun c3 ca => ?_
  have a0 := Blk.of_new ca
  have de := (aw).size
  have an := Nat.ne_of_lt ab.lt
  have ab := ab.x_alloc ca
  have b5 := aw.x_alloc ca
  refine ⟨a2, a3, a4, a9, aa, a5, ae, ad, ac, ag, ⟨ab.celli 0 rfl rfl, ab.celli 1 rfl rfl, ab.celli 2 rfl rfl, ab.celli 3 rfl rfl, ab.celli 4 rfl rfl, ab.celli 5 rfl rfl, ab.celli 6 rfl rfl, ab.celli 7 rfl rfl, trivial⟩, ?_⟩
  have h := h c3 (w.heap.size) (a1.heap.size) b5 (Priv.cons dd ab.lt (Priv.cons de a0.lt Priv.nil))
  refine h.mono fun dc ap h => ?_
  obtain ⟨am, al, aj, aq, he, hk, h⟩ := h
  refine ⟨am, al, aj, aq, he, ?_⟩
  have ab := hk.blk ab (by simp)
  have a0 := hk.blk a0 (by simp)
  refine bif_of (fun bz => ?_) (fun bz => ?_)
  · have h := h.1 (bne_t bz)
    have bh : Ext (fun b => b = a1.heap.size) ap ap := ((Ext.refl no ap)).none
    refine ⟨a0.cani 0 rfl rfl, thenW_in fun cf cn => ?_⟩
    have b9 := bh.x_set (q := a1.heap.size) (i := 0) rfl (.inl rfl) cn
    have a0 : Blk cf a1.heap.size 29 [.int .i64 0, .int .i64 0, .int .u64 0, .int .i64 0, .int .i64 0, .int .i64 0, .slice none 0 0, .int .u64 0] := a0.seti 0 rfl cn
    refine ⟨a0.cani 1 rfl rfl, thenW_in fun cl cu => ?_⟩
    have bd := b9.x_set (q := a1.heap.size) (i := 1) rfl (.inl rfl) cu
    have a0 : Blk cl a1.heap.size 29 [.int .i64 0, .int .i64 0, .int .u64 0, .int .i64 0, .int .i64 0, .int .i64 0, .slice none 0 0, .int .u64 0] := a0.seti 1 rfl cu
    refine ⟨a0.cani 2 rfl rfl, thenW_in fun ce d7 => ?_⟩
    have bp := bd.x_set (q := a1.heap.size) (i := 2) rfl (.inl rfl) d7
    have a0 : Blk ce a1.heap.size 29 [.int .i64 0, .int .i64 0, .int .u64 0, .int .i64 0, .int .i64 0, .int .i64 0, .slice none 0 0, .int .u64 0] := a0.seti 2 rfl d7
    refine ⟨a0.cani 3 rfl rfl, thenW_in fun ci d4 => ?_⟩
    have b3 := bp.x_set (q := a1.heap.size) (i := 3) rfl (.inl rfl) d4
    have a0 : Blk ci a1.heap.size 29 [.int .i64 0, .int .i64 0, .int .u64 0, .int .i64 0, .int .i64 0, .int .i64 0, .slice none 0 0, .int .u64 0] := a0.seti 3 rfl d4
    refine ⟨a0.cani 4 rfl rfl, thenW_in fun bo d1 => ?_⟩
    have bm := b3.x_set (q := a1.heap.size) (i := 4) rfl (.inl rfl) d1
    have a0 : Blk bo a1.heap.size 29 [.int .i64 0, .int .i64 0, .int .u64 0, .int .i64 0, .int .i64 0, .int .i64 0, .slice none 0 0, .int .u64 0] := a0.seti 4 rfl d1
    refine ⟨a0.cani 5 rfl rfl, thenW_in fun bi d9 => ?_⟩
    have bj := bm.x_set (q := a1.heap.size) (i := 5) rfl (.inl rfl) d9
    have a0 : Blk bi a1.heap.size 29 [.int .i64 0, .int .i64 0, .int .u64 0, .int .i64 0, .int .i64 0, .int .i64 0, .slice none 0 0, .int .u64 0] := a0.seti 5 rfl d9
    refine ⟨a0.cani 6 rfl rfl, thenW_in fun be cq => ?_⟩
    have bw := bj.x_set (q := a1.heap.size) (i := 6) rfl (.inl rfl) cq
    have a0 : Blk be a1.heap.size 29 [.int .i64 0, .int .i64 0, .int .u64 0, .int .i64 0, .int .i64 0, .int .i64 0, .slice none 0 0, .int .u64 0] := a0.seti 6 rfl cq
    refine ⟨a0.cani 7 rfl rfl, thenW_in fun az cw => ?_⟩
    have b2 := bw.x_set (q := a1.heap.size) (i := 7) rfl (.inl rfl) cw
    have a0 : Blk az a1.heap.size 29 [.int .i64 0, .int .i64 0, .int .u64 0, .int .i64 0, .int .i64 0, .int .i64 0, .slice none 0 0, .int .u64 0] := a0.seti 7 rfl cw
    refine ⟨0, 0, 0, 0, 0, 0, none, 0, 0, 0, ⟨a0.celli 0 rfl rfl, a0.celli 1 rfl rfl, a0.celli 2 rfl rfl, a0.celli 3 rfl rfl, a0.celli 4 rfl rfl, a0.celli 5 rfl rfl, a0.celli 6 rfl rfl, a0.celli 7 rfl rfl, trivial⟩, ?_⟩
    have h := h az b2
    exact h
  · have h := h.2 (bne_f bz)
    refine h.mono fun df ak h => ?_
    obtain ⟨af, ar, he, hk, h⟩ := h
    refine ⟨af, ar, he, ?_⟩
    have ab := hk.blk ab (by simp)
    have a0 := hk.blk a0 (by simp)
    have c5 : Ext (fun b => b = w.heap.size) ak ak := ((Ext.refl no ak)).none
    refine ⟨ab.cani 7 rfl rfl, thenW_in fun ao c8 => ?_⟩
    have ay := c5.x_set (q := w.heap.size) (i := 7) rfl (.inl rfl) c8
    have ab : Blk ao w.heap.size 29 [.int .i64 a2, .int .i64 a3, .int .u64 a4, .int .i64 a9, .int .i64 aa, .int .i64 a5, .slice ae ad ac, .int .u64 af] := ab.seti 7 rfl c8
    have a0 := a0.oth (q := w.heap.size) (i := 7) rfl (Ne.symm an) c8
    refine bif_of (fun bl => ?_) (fun bl => ?_)
    · have h := h.1 (bne_t bl)
      have bu : Ext (fun b => b = a1.heap.size ∨ b = w.heap.size) ak ao := (ay).mono fun _ h _ => .inr h
      refine ⟨a0.cani 0 rfl rfl, thenW_in fun c0 cp => ?_⟩
      have bb := bu.x_set (q := a1.heap.size) (i := 0) rfl (.inl (.inl rfl)) cp
      have a0 : Blk c0 a1.heap.size 29 [.int .i64 0, .int .i64 0, .int .u64 0, .int .i64 0, .int .i64 0, .int .i64 0, .slice none 0 0, .int .u64 0] := a0.seti 0 rfl cp
      refine ⟨a0.cani 1 rfl rfl, thenW_in fun bk cz => ?_⟩
      have bt := bb.x_set (q := a1.heap.size) (i := 1) rfl (.inl (.inl rfl)) cz
      have a0 : Blk bk a1.heap.size 29 [.int .i64 0, .int .i64 0, .int .u64 0, .int .i64 0, .int .i64 0, .int .i64 0, .slice none 0 0, .int .u64 0] := a0.seti 1 rfl cz
      refine ⟨a0.cani 2 rfl rfl, thenW_in fun bn cv => ?_⟩
      have c7 := bt.x_set (q := a1.heap.size) (i := 2) rfl (.inl (.inl rfl)) cv
      have a0 : Blk bn a1.heap.size 29 [.int .i64 0, .int .i64 0, .int .u64 0, .int .i64 0, .int .i64 0, .int .i64 0, .slice none 0 0, .int .u64 0] := a0.seti 2 rfl cv
      refine ⟨a0.cani 3 rfl rfl, thenW_in fun bq d5 => ?_⟩
      have b4 := c7.x_set (q := a1.heap.size) (i := 3) rfl (.inl (.inl rfl)) d5
      have a0 : Blk bq a1.heap.size 29 [.int .i64 0, .int .i64 0, .int .u64 0, .int .i64 0, .int .i64 0, .int .i64 0, .slice none 0 0, .int .u64 0] := a0.seti 3 rfl d5
      refine ⟨a0.cani 4 rfl rfl, thenW_in fun c9 cy => ?_⟩
      have br := b4.x_set (q := a1.heap.size) (i := 4) rfl (.inl (.inl rfl)) cy
      have a0 : Blk c9 a1.heap.size 29 [.int .i64 0, .int .i64 0, .int .u64 0, .int .i64 0, .int .i64 0, .int .i64 0, .slice none 0 0, .int .u64 0] := a0.seti 4 rfl cy
      refine ⟨a0.cani 5 rfl rfl, thenW_in fun b1 co => ?_⟩
      have bf := br.x_set (q := a1.heap.size) (i := 5) rfl (.inl (.inl rfl)) co
      have a0 : Blk b1 a1.heap.size 29 [.int .i64 0, .int .i64 0, .int .u64 0, .int .i64 0, .int .i64 0, .int .i64 0, .slice none 0 0, .int .u64 0] := a0.seti 5 rfl co
      refine ⟨a0.cani 6 rfl rfl, thenW_in fun ck d2 => ?_⟩
      have b7 := bf.x_set (q := a1.heap.size) (i := 6) rfl (.inl (.inl rfl)) d2
      have a0 : Blk ck a1.heap.size 29 [.int .i64 0, .int .i64 0, .int .u64 0, .int .i64 0, .int .i64 0, .int .i64 0, .slice none 0 0, .int .u64 0] := a0.seti 6 rfl d2
      refine ⟨a0.cani 7 rfl rfl, thenW_in fun av d3 => ?_⟩
      have bg := b7.x_set (q := a1.heap.size) (i := 7) rfl (.inl (.inl rfl)) d3
      have a0 : Blk av a1.heap.size 29 [.int .i64 0, .int .i64 0, .int .u64 0, .int .i64 0, .int .i64 0, .int .i64 0, .slice none 0 0, .int .u64 0] := a0.seti 7 rfl d3
      refine ⟨0, 0, 0, 0, 0, 0, none, 0, 0, 0, ⟨a0.celli 0 rfl rfl, a0.celli 1 rfl rfl, a0.celli 2 rfl rfl, a0.celli 3 rfl rfl, a0.celli 4 rfl rfl, a0.celli 5 rfl rfl, a0.celli 6 rfl rfl, a0.celli 7 rfl rfl, trivial⟩, ?_⟩
      have h := h av bg
      exact h
    · have h := h.2 (bne_f bl)
      refine ⟨ae, ad, ac, ab.celli 6 rfl rfl, ?_⟩
      have h := h ao ay
      refine h.mono fun dg ai h => ?_
      obtain ⟨a7, a8, a6, he, hk, h⟩ := h
      refine ⟨a7, a8, a6, he, ?_⟩
      have ab := hk.blk ab (by simp)
      have a0 := hk.blk a0 (by simp)
      have ch : Ext (fun b => b = w.heap.size) ai ai := ((Ext.refl no ai)).none
      refine ⟨ab.cani 6 rfl rfl, thenW_in fun au b0 => ?_⟩
      have cb := ch.x_set (q := w.heap.size) (i := 6) rfl (.inl rfl) b0
      have ab : Blk au w.heap.size 29 [.int .i64 a2, .int .i64 a3, .int .u64 a4, .int .i64 a9, .int .i64 aa, .int .i64 a5, .slice a7 a8 a6, .int .u64 af] := ab.seti 6 rfl b0
      have a0 := a0.oth (q := w.heap.size) (i := 6) rfl (Ne.symm an) b0
      refine ⟨a2, a3, a4, a9, aa, a5, a7, a8, a6, af, ⟨ab.celli 0 rfl rfl, ab.celli 1 rfl rfl, ab.celli 2 rfl rfl, ab.celli 3 rfl rfl, ab.celli 4 rfl rfl, ab.celli 5 rfl rfl, ab.celli 6 rfl rfl, ab.celli 7 rfl rfl, trivial⟩, ?_⟩
      have cc : Ext (fun b => b = a1.heap.size ∨ b = w.heap.size) ai au := (cb).mono fun _ h _ => .inr h
      refine ⟨a0.cani 0 rfl rfl, thenW_in fun c4 cs => ?_⟩
      have cd := cc.x_set (q := a1.heap.size) (i := 0) rfl (.inl (.inl rfl)) cs
      have a0 : Blk c4 a1.heap.size 29 [.int .i64 a2, .int .i64 0, .int .u64 0, .int .i64 0, .int .i64 0, .int .i64 0, .slice none 0 0, .int .u64 0] := a0.seti 0 rfl cs
      refine ⟨a0.cani 1 rfl rfl, thenW_in fun c1 da => ?_⟩
      have cj := cd.x_set (q := a1.heap.size) (i := 1) rfl (.inl (.inl rfl)) da
      have a0 : Blk c1 a1.heap.size 29 [.int .i64 a2, .int .i64 a3, .int .u64 0, .int .i64 0, .int .i64 0, .int .i64 0, .slice none 0 0, .int .u64 0] := a0.seti 1 rfl da
      refine ⟨a0.cani 2 rfl rfl, thenW_in fun ba cr => ?_⟩
      have c6 := cj.x_set (q := a1.heap.size) (i := 2) rfl (.inl (.inl rfl)) cr
      have a0 : Blk ba a1.heap.size 29 [.int .i64 a2, .int .i64 a3, .int .u64 a4, .int .i64 0, .int .i64 0, .int .i64 0, .slice none 0 0, .int .u64 0] := a0.seti 2 rfl cr
      refine ⟨a0.cani 3 rfl rfl, thenW_in fun bc db => ?_⟩
      have b8 := c6.x_set (q := a1.heap.size) (i := 3) rfl (.inl (.inl rfl)) db
      have a0 : Blk bc a1.heap.size 29 [.int .i64 a2, .int .i64 a3, .int .u64 a4, .int .i64 a9, .int .i64 0, .int .i64 0, .slice none 0 0, .int .u64 0] := a0.seti 3 rfl db
      refine ⟨a0.cani 4 rfl rfl, thenW_in fun cg cx => ?_⟩
      have c2 := b8.x_set (q := a1.heap.size) (i := 4) rfl (.inl (.inl rfl)) cx
      have a0 : Blk cg a1.heap.size 29 [.int .i64 a2, .int .i64 a3, .int .u64 a4, .int .i64 a9, .int .i64 aa, .int .i64 0, .slice none 0 0, .int .u64 0] := a0.seti 4 rfl cx
      refine ⟨a0.cani 5 rfl rfl, thenW_in fun cm ct => ?_⟩
      have bv := c2.x_set (q := a1.heap.size) (i := 5) rfl (.inl (.inl rfl)) ct
      have a0 : Blk cm a1.heap.size 29 [.int .i64 a2, .int .i64 a3, .int .u64 a4, .int .i64 a9, .int .i64 aa, .int .i64 a5, .slice none 0 0, .int .u64 0] := a0.seti 5 rfl ct
      refine ⟨a0.cani 6 rfl rfl, thenW_in fun bs d8 => ?_⟩
      have bx := bv.x_set (q := a1.heap.size) (i := 6) rfl (.inl (.inl rfl)) d8
      have a0 : Blk bs a1.heap.size 29 [.int .i64 a2, .int .i64 a3, .int .u64 a4, .int .i64 a9, .int .i64 aa, .int .i64 a5, .slice a7 a8 a6, .int .u64 0] := a0.seti 6 rfl d8
      refine ⟨a0.cani 7 rfl rfl, thenW_in fun ax d6 => ?_⟩
      have b6 := bx.x_set (q := a1.heap.size) (i := 7) rfl (.inl (.inl rfl)) d6
      have a0 : Blk ax a1.heap.size 29 [.int .i64 a2, .int .i64 a3, .int .u64 a4, .int .i64 a9, .int .i64 aa, .int .i64 a5, .slice a7 a8 a6, .int .u64 af] := a0.seti 7 rfl d6
      refine ⟨a2, a3, a4, a9, aa, a5, a7, a8, a6, af, ⟨a0.celli 0 rfl rfl, a0.celli 1 rfl rfl, a0.celli 2 rfl rfl, a0.celli 3 rfl rfl, a0.celli 4 rfl rfl, a0.celli 5 rfl rfl, a0.celli 6 rfl rfl, a0.celli 7 rfl rfl, trivial⟩, ?_⟩
      have h := h ax b6
      exact h

theorem entry_Sign.go (o1 : Option Addr) (a4 : Int) (a0 : Int) (a3 : Int) (a7 : Int) (aa : Int) (a9 : Int) (a5 : Int) (a2 : Option Addr) (a6 : Nat) (a1 : Nat) (a8 : Int) {R : Value → World → Prop} {w : World} (h : entry_Sign.N o1 a4 a0 a3 a7 aa a9 a5 a2 a6 a1 a8 R w) : Calls Try.prog 28 #[.pointer o1, .int .u64 a4, .agg #[.int .i64 a0, .int .i64 a3, .int .u64 a7, .int .i64 aa, .int .i64 a9, .int .i64 a5, .slice a2 a6 a1, .int .u64 a8]] w fun e w' => ∃ v, e = .returned v ∧ R v w' := entry_Sign.ok o1 a4 a0 a3 a7 aa a9 a5 a2 a6 a1 a8 (entry_Sign.up o1 a4 a0 a3 a7 aa a9 a5 a2 a6 a1 a8 h)
/-- entry.Holds -/
def entry_Holds.M (o1 : Option Addr) (ac : Int) (af : Int) (al : Int) (ap : Int) (ar : Int) (au : Int) (ai : Int) (ak : Option Addr) (aj : Nat) (ah : Nat) (ao : Int) (R : Value → World → Prop) (w : World) : Prop :=
 thenW (w.alloc (.cells #[.int .i64 af, .int .i64 al, .int .u64 ap, .int .i64 ar, .int .i64 au, .int .i64 ai, .slice ak aj ah, .int .u64 ao] 29)) fun aq =>
 ∃ (a0 : Int) (a3 : Int) (aa : Int) (ad : Int) (ab : Int) (a5 : Int) (a1 : Option Addr) (a2 : Nat) (a4 : Nat) (ag : Int), cellsAt aq (blk w.heap.size) [.int .i64 a0, .int .i64 a3, .int .u64 aa, .int .i64 ad, .int .i64 ab, .int .i64 a5, .slice a1 a2 a4, .int .u64 ag] 0 ∧
 Calls Try.prog 60 #[.agg #[.int .i64 a0, .int .i64 a3, .int .u64 aa, .int .i64 ad, .int .i64 ab, .int .i64 a5, .slice a1 a2 a4, .int .u64 ag]] aq fun av an => ∃ (a9 : Option Addr) (a8 : Nat) (a7 : Nat) (ae : Int), av = .returned (.tuple #[.slice a9 a8 a7, .int .i64 ae]) ∧
 bif ae == 0 then (
 ∃ (am : Int), an.cell? ((blk w.heap.size).add 7) = some (.int .u64 am) ∧
 Calls Try.prog 57 #[.pointer o1, .int .u64 ac, .slice a9 a8 a7, .int .u64 am] an fun aw ax => ∃ (a6 : Bool), aw = .returned (.bool a6) ∧
 R (.bool a6) ax) else (
 R (.bool false) an)

theorem entry_Holds.eq (o1 : Option Addr) (publicv2 : Int) (eWriter3 : Int) (eIndex4 : Int) (ePrev5 : Int) (eAtT6 : Int) (eAtW7 : Int) (eEpoch8 : Int) (eBody9a : Option Addr) (eBody9n : Nat) (eBody9c : Nat) (eSig10 : Int) (R : Value → World → Prop) (w : World) : mfunc Try.prog [] 45 [.pointer o1, .int .u64 publicv2, .agg #[.int .i64 eWriter3, .int .i64 eIndex4, .int .u64 ePrev5, .int .i64 eAtT6, .int .i64 eAtW7, .int .i64 eEpoch8, .slice eBody9a eBody9n eBody9c, .int .u64 eSig10]] R w = entry_Holds.M o1 publicv2 eWriter3 eIndex4 ePrev5 eAtT6 eAtW7 eEpoch8 eBody9a eBody9n eBody9c eSig10 R w := by kernel_rfl
theorem entry_Holds.ok (o1 : Option Addr) (a1 : Int) (a0 : Int) (a4 : Int) (a7 : Int) (aa : Int) (a9 : Int) (a5 : Int) (a3 : Option Addr) (a6 : Nat) (a2 : Nat) (a8 : Int) {R : Value → World → Prop} {w : World} (h : entry_Holds.M o1 a1 a0 a4 a7 aa a9 a5 a3 a6 a2 a8 R w) : Calls Try.prog 45 #[.pointer o1, .int .u64 a1, .agg #[.int .i64 a0, .int .i64 a4, .int .u64 a7, .int .i64 aa, .int .i64 a9, .int .i64 a5, .slice a3 a6 a2, .int .u64 a8]] w fun e w' => ∃ v, e = .returned v ∧ R v w' :=
  mfunc_ok follows (H := []) (args := [.pointer o1, .int .u64 a1, .agg #[.int .i64 a0, .int .i64 a4, .int .u64 a7, .int .i64 aa, .int .i64 a9, .int .i64 a5, .slice a3 a6 a2, .int .u64 a8]]) (by rw [entry_Holds.eq]; exact h)

def entry_Holds.N (o1 : Option Addr) (a5 : Int) (a7 : Int) (ad : Int) (af : Int) (ag : Int) (ah : Int) (aa : Int) (ac : Option Addr) (ab : Nat) (a8 : Nat) (a6 : Int) (R : Value → World → Prop) (w : World) : Prop :=
 ∀ (a9 : World) (al : Nat), Ext no w a9 → Priv w a9 [al] →
 Calls Try.prog 60 #[.agg #[.int .i64 a7, .int .i64 ad, .int .u64 af, .int .i64 ag, .int .i64 ah, .int .i64 aa, .slice ac ab a8, .int .u64 a6]] a9 fun aj ae => ∃ (a2 : Option Addr) (a3 : Nat) (a4 : Nat) (a1 : Int), aj = .returned (.tuple #[.slice a2 a3 a4, .int .i64 a1]) ∧
 Keep [al] a9 ae ∧
 (a1 = 0 →
 Calls Try.prog 57 #[.pointer o1, .int .u64 a5, .slice a2 a3 a4, .int .u64 a6] ae fun ai ak => ∃ (a0 : Bool), ai = .returned (.bool a0) ∧
 R (.bool a0) ak) ∧
 (a1 ≠ 0 →
 R (.bool false) ae)

theorem entry_Holds.up (o1 : Option Addr) (a7 : Int) (a0 : Int) (a6 : Int) (a8 : Int) (aa : Int) (ac : Int) (a2 : Int) (a4 : Option Addr) (a3 : Nat) (a1 : Nat) (a5 : Int) {R : Value → World → Prop} {w : World} (h : entry_Holds.N o1 a7 a0 a6 a8 aa ac a2 a4 a3 a1 a5 R w) : entry_Holds.M o1 a7 a0 a6 a8 aa ac a2 a4 a3 a1 a5 R w := by
  unfold entry_Holds.M
  unfold entry_Holds.N at h
  refine thenW_in fun ah ak => ?_
  have a9 := Blk.of_new ak
  have am := ((Ext.refl no w)).size
  have ai := (Ext.refl no w).x_alloc ak
  refine ⟨a0, a6, a8, aa, ac, a2, a4, a3, a1, a5, ⟨a9.celli 0 rfl rfl, a9.celli 1 rfl rfl, a9.celli 2 rfl rfl, a9.celli 3 rfl rfl, a9.celli 4 rfl rfl, a9.celli 5 rfl rfl, a9.celli 6 rfl rfl, a9.celli 7 rfl rfl, trivial⟩, ?_⟩
  have h := h ah (w.heap.size) ai (Priv.cons am a9.lt Priv.nil)
  refine h.mono fun an ap h => ?_
  obtain ⟨ad, ae, af, ag, he, hk, h⟩ := h
  refine ⟨ad, ae, af, ag, he, ?_⟩
  have a9 := hk.blk a9 (by simp)
  refine bif_of (fun aj => ?_) (fun aj => ?_)
  · have h := h.1 (beq_t aj)
    refine ⟨a5, a9.celli 7 rfl rfl, ?_⟩
    refine h.mono fun al ao h => ?_
    obtain ⟨ab, he, h⟩ := h
    refine ⟨ab, he, ?_⟩
    exact h
  · have h := h.2 (beq_f aj)
    exact h

theorem entry_Holds.go (o1 : Option Addr) (a1 : Int) (a0 : Int) (a4 : Int) (a7 : Int) (aa : Int) (a9 : Int) (a5 : Int) (a3 : Option Addr) (a6 : Nat) (a2 : Nat) (a8 : Int) {R : Value → World → Prop} {w : World} (h : entry_Holds.N o1 a1 a0 a4 a7 aa a9 a5 a3 a6 a2 a8 R w) : Calls Try.prog 45 #[.pointer o1, .int .u64 a1, .agg #[.int .i64 a0, .int .i64 a4, .int .u64 a7, .int .i64 aa, .int .i64 a9, .int .i64 a5, .slice a3 a6 a2, .int .u64 a8]] w fun e w' => ∃ v, e = .returned v ∧ R v w' := entry_Holds.ok o1 a1 a0 a4 a7 aa a9 a5 a3 a6 a2 a8 (entry_Holds.up o1 a1 a0 a4 a7 aa a9 a5 a3 a6 a2 a8 h)
theorem entry_Holds.run (o1 : Option Addr) (a1 : Int) (a0 : Int) (a4 : Int) (a7 : Int) (aa : Int) (a9 : Int) (a5 : Int) (a3 : Option Addr) (a6 : Nat) (a2 : Nat) (a8 : Int) {V : Value} {Q : World → Prop} {w : World} (h : entry_Holds.N o1 a1 a0 a4 a7 aa a9 a5 a3 a6 a2 a8 (fun v w' => v = V ∧ Q w') w) : Calls Try.prog 45 #[.pointer o1, .int .u64 a1, .agg #[.int .i64 a0, .int .i64 a4, .int .u64 a7, .int .i64 aa, .int .i64 a9, .int .i64 a5, .slice a3 a6 a2, .int .u64 a8]] w (Ret V Q) := (entry_Holds.go o1 a1 a0 a4 a7 aa a9 a5 a3 a6 a2 a8 h).mono fun e w' ⟨v, he, hv, hq⟩ => ⟨by rw [he, hv], hq⟩

def sumE (S : OS) (e : Ent) : (Int × Int) × OS := if entRight e = true then (((hashOf S (bytesL e)).1, 0), (hashOf S (bytesL e)).2) else ((0, 1), S)
def signE (S : OS) (s : Int) (e : Ent) : (Ent × Int) × OS :=
  if entRight e = true then (if (signOf S s (textL e)).1.2 = true then (({ e with sg := (signOf S s (textL e)).1.1 }, 0), (signOf S s (textL e)).2) else ((Ent.zero, 11), (signOf S s (textL e)).2)) else ((Ent.zero, 1), S)
def holdsE (S : OS) (p : Int) (e : Ent) : Bool := entRight e && verifyOf S p (textL e) e.sg
section
variable {w w' : World} {o o' : Own} {k : Nat} {S : OS} {K : Nat → Prop}
theorem OwnB.tight {N : Nat} {a : Option Addr} {c : Nat} {l : List UInt8} (h : OwnB N w' a c l) (hN : w.heap.size ≤ N) : Row w' (grow w o) a (bytesV l) := Row.fresh h.row fun ad ha => Nat.le_trans hN (h.fr ad ha).1
theorem bClone_spec {a : Option Addr} {c : Nat} {bs : List UInt8} (h : RowAt w a (bytesV bs)) (hl : bs.length ≤ 1000000) :
    Calls Try.prog 61 #[.slice a bs.length c] w (fun e w' => ∃ a' c', e = .returned (.slice a' bs.length c') ∧ OwnB w.heap.size w' a' c' bs ∧ Ext no w w') := by
  refine (bytes_Clone.go _ _ _ (R := fun v w' => ∃ a' c', v = (.slice a' bs.length c') ∧ OwnB w.heap.size w' a' c' bs ∧ Ext no w w') ?_).mono fun e w' ⟨v, he, a, c, hv, hw⟩ => ⟨a, c, by rw [he, hv], hw⟩
  unfold bytes_Clone.N
  refine ⟨fun hn => ?_, fun hn w2 q X hb hq hq' => ?_⟩
  · subst hn
    have : bs = [] := by simpa [bytesV] using h.none_nil
    subst this
    exact ⟨none, 0, rfl, OwnB.nil _ _, Ext.refl _ _⟩
  · have hO : OwnB w.heap.size w2 (some (blk q)) 0 [] := ⟨owns_of_blk hb rfl (Nat.zero_le _), fun ad ha => by cases ha; exact ⟨hq, hq'⟩⟩
    obtain ⟨a', c', w', hr, hO', hx⟩ := hO.append (t := 23) (ty := 23) Try.underlying23 X.size (xc := c) (h.no X) (by simp; omega)
    rw [List.nil_append] at hr hO'
    exact ⟨a', _, c', w', hr, a', c', rfl, hO', X.then hx fun b hb => .inr hb⟩
theorem SumO (h : POrc w o k S) (ok : Tags w o) (hok : S.ok) (hlen : S.used.length < 1000000) {e : Ent} (hf : entRight e = true → e.fit) {ba : Option Addr} {bc : Nat} (hb : RowAt w ba (bytesV e.body)) :
    Calls Try.prog 66 #[.pointer (some (blk k)), entV e ba bc] w (Gs (fun j => j = k) w o (.tuple #[u64V (sumE S e).1.1, .int .i64 (sumE S e).1.2]) fun w' o' => POrc w' o' k (sumE S e).2) := by
  refine (entry_Sum.go (some (blk k)) e.w e.i e.pv e.t e.tw e.ep ba e.body.length bc e.sg (R := fun v w' => ∃ o', v = (.tuple #[u64V (sumE S e).1.1, .int .i64 (sumE S e).1.2]) ∧ Step (fun j => j = k) w o w' o' ∧ POrc w' o' k (sumE S e).2) ?_).mono fun x w' ⟨v, he, o', hv, hw⟩ => ⟨o', by rw [he, hv], hw⟩
  unfold entry_Sum.N
  intro w10 X10
  have s10 := Step.of_no X10 ok
  refine (EBytesK_spec hf (hb.no X10)).mono fun x w15 ⟨a, c, he, hO, X⟩ => ⟨_, _, _, _, he, ?_⟩
  have s15 := Step.of_no X s10.ok
  have s := s10.trans s15
  have h15 := h.step s id
  unfold bytesK sumE at *
  by_cases hr : entRight e = true
  · rw [if_pos hr] at hO ⊢
    rw [if_pos hr]
    refine ⟨fun h => absurd rfl h, fun _ => ⟨fun h => (by cases h), fun _ => ?_⟩⟩
    refine (HashO h15 s.ok hok hlen (OwnB.tight hO (Nat.le_refl _))).mono fun x w20 ⟨o20, he, s20, h20⟩ => ⟨_, he, o20, rfl, s.none.trans s20, h20⟩
  · rw [if_neg hr]
    rw [if_neg hr]
    exact ⟨fun _ => ⟨_, rfl, s.none, h15⟩, fun h => absurd h (by decide)⟩
theorem SignE (h : POrc w o k S) (ok : Tags w o) (hok : S.ok) (hlen : S.used.length < 1000000) (s : Int) {e : Ent} (hf : entRight e = true → e.fit) {ba : Option Addr} {bc : Nat} (hb : Row w o ba (bytesV e.body)) :
    Calls Try.prog 28 #[.pointer (some (blk k)), .int .u64 s, entV e ba bc] w (fun x w' => ∃ o' a' c', x = .returned (.tuple #[entV (signE S s e).1.1 a' c', .int .i64 (signE S s e).1.2]) ∧ Step (fun j => j = k) w o w' o' ∧ POrc w' o' k (signE S s e).2 ∧ Row w' o' a' (bytesV (signE S s e).1.1.body) ∧ (signE S s e).1.1.body.length ≤ c') := by
  refine (entry_Sign.go (some (blk k)) s e.w e.i e.pv e.t e.tw e.ep ba e.body.length bc e.sg (R := fun v w' => ∃ o' a' c', v = (.tuple #[entV (signE S s e).1.1 a' c', .int .i64 (signE S s e).1.2]) ∧ Step (fun j => j = k) w o w' o' ∧ POrc w' o' k (signE S s e).2 ∧ Row w' o' a' (bytesV (signE S s e).1.1.body) ∧ (signE S s e).1.1.body.length ≤ c') ?_).mono fun x w' ⟨v, he, o', a', c', hv, hw⟩ => ⟨o', a', c', by rw [he, hv], hw⟩
  unfold entry_Sign.N
  intro w12 p13 p14 X12 hp
  obtain ⟨hp1, hp2⟩ := hp.two
  obtain ⟨o12, s12, t13, t14⟩ := Step.priv2 X12 hp ok
  have hkl := h.lt
  refine (TextK_spec hf (hb.step s12).1).mono fun x w18 ⟨a, c, he, hO, X⟩ => ⟨_, _, _, _, he, X.kept, ?_⟩
  have s18' := Step.of_no X s12.ok
  have s18 := s12.trans s18'
  have t13 : grow w12 o12 p13 = some p13 := (s18'.own hp1.2).trans t13
  have t14 : grow w12 o12 p14 = some p14 := (s18'.own hp2.2).trans t14
  have h18 := h.step s18 id
  have l18 := X.size
  unfold textK signE at *
  by_cases hr : entRight e = true
  · rw [if_pos hr] at hO ⊢
    rw [if_pos hr]
    refine ⟨fun h => absurd rfl h, fun _ => ?_⟩
    refine (SignO h18 s18.ok hok hlen s (OwnB.tight hO (Nat.le_refl _))).mono fun x w31 ⟨o31, he, s31', h31⟩ => ⟨_, _, he, s31'.keep2 t13 (by omega) t14 (by omega), ?_⟩
    have s31 := s18.none.trans s31'
    have t13 := (s31'.own (by omega)).trans t13
    have t14 := (s31'.own (by omega)).trans t14
    have l31 := s31'.size
    cases hs : (signOf S s (textL e)).1.2
    · simp only [if_false, Bool.false_eq_true]
      refine ⟨fun _ w41 X41 => ?_, fun h => absurd h (by decide)⟩
      obtain ⟨o41, s41⟩ := Step.store2 X41 s31.ok t14 t13
      exact ⟨o41, none, 0, rfl, s31.trans' s41 fun j hj => .inr (by omega), h31.step s41 (by omega), Row.nil _ _ _, Nat.le_refl _⟩
    · simp only [if_true]
      refine ⟨fun h => absurd rfl h, fun _ w32 X32 => ?_⟩
      obtain ⟨o32, s32'⟩ := Step.store1 X32 s31.ok t13
      have s32 := s31.trans' s32' fun j hj => .inr (by omega)
      have hbl := ((entRight_iff _).1 hr).2.2.2.2.2.2.2.2.2.1
      have t13 := (s32'.own (by omega)).trans t13
      have t14 := (s32'.own (by omega)).trans t14
      have l32 := s32'.size
      refine (bClone_spec (hb.step s32).1 (by omega)).mono fun x w44 ⟨ca, cc, he, hO, X44⟩ => ⟨_, _, _, he, X44.kept, fun w53 X53 => ?_⟩
      have s44' := Step.of_no X44 s32.ok
      have s44 := s32.trans s44'.none
      have t13 := (s44'.own (by omega)).trans t13
      have t14 := (s44'.own (by omega)).trans t14
      obtain ⟨o53, s53⟩ := Step.store2 X53 s44.ok t14 t13
      exact ⟨o53, ca, cc, rfl, s44.trans' s53 fun j hj => .inr (by omega), ((h31.step s32' (by omega)).step s44' id).step s53 (by omega), (OwnB.tight hO (Nat.le_refl _)).step s53, hO.le⟩
  · rw [if_neg hr]
    rw [if_neg hr]
    refine ⟨fun _ w27 X27 => ?_, fun h => absurd h (by decide)⟩
    obtain ⟨o27, s27⟩ := Step.store1 X27 s18.ok t14
    exact ⟨o27, none, 0, rfl, s18.none.trans' s27 fun j hj => .inr (by omega), h18.step s27 (by omega), Row.nil _ _ _, Nat.le_refl _⟩
theorem HoldsO (h : POrc w o k S) (ok : Tags w o) (p : Int) {e : Ent} (hf : entRight e = true → e.fit) {ba : Option Addr} {bc : Nat} (hb : RowAt w ba (bytesV e.body)) :
    Calls Try.prog 45 #[.pointer (some (blk k)), .int .u64 p, entV e ba bc] w (Ret (.bool (holdsE S p e)) fun w' => Ext no w w') := by
  refine entry_Holds.run (some (blk k)) p e.w e.i e.pv e.t e.tw e.ep ba e.body.length bc e.sg ?_
  unfold entry_Holds.N
  intro w11 p12 X11 hp
  refine (TextK_spec hf (hb.no X11)).mono fun x w16 ⟨a, c, he, hO, X⟩ => ⟨_, _, _, _, he, X.kept, ?_⟩
  have s := (Step.of_no X11 ok).trans (Step.of_no X (Step.of_no X11 ok).ok)
  unfold textK holdsE at *
  by_cases hr : entRight e = true
  · rw [if_pos hr] at hO ⊢
    rw [hr, Bool.true_and]
    refine ⟨fun _ => ?_, fun h => absurd rfl h⟩
    exact (VerifyO (h.step s id) s.ok p e.sg (OwnB.tight hO (Nat.le_refl _))).mono fun x w20 ⟨he, X20⟩ => ⟨_, he, rfl, (X11.trans X).trans X20⟩
  · rw [if_neg hr]
    rw [show entRight e = false by simpa using hr, Bool.false_and]
    exact ⟨fun h => absurd h (by decide), fun _ => ⟨rfl, X11.trans X⟩⟩
end
end Go.Proofs.Ytfmdpjhkojbocaa

/- The reference's entries with its oracle. -/
set_option linter.unusedVariables false
set_option linter.unusedSimpArgs false
set_option maxRecDepth 20000
namespace Go.Proofs.Ytfmdpjhkojbocaa
open Go Go.Mx Go.Proofs
open W (OwnB GivesW numR countR doneR zig unzig intR)
section
variable {w w' : World} {o o' : Own} {k n : Nat} {K : Nat → Prop} {S : OS} {d : List Int} {L : List RRow}
theorem esign_inv (h : OInv S) (s : Int) (e : Ent) : OInv (signE S s e).2 := by
  unfold signE
  split
  · split <;> exact (sign_inv' h s _).1
  · exact h
end
end Go.Proofs.Ytfmdpjhkojbocaa

/- A copy of bytes: predicate. -/
set_option linter.unusedVariables false
set_option linter.unusedSimpArgs false
set_option maxRecDepth 20000
namespace Go.Proofs.Ytfmdpjhkojbocaa
open Go Go.Mx Go.Proofs
/-- slices.Clone[[]byte,byte] -/
def slices_Clone_byte_byte.M (a1 : Option Addr) (a5 : Nat) (a7 : Nat) (R : Value → World → Prop) (w : World) : Prop :=
 bif Option.isNone a1 then (
 R (.slice none 0 0) w) else (
 thenW (w.alloc (.cells #[] 5)) fun a6 =>
 ∃ (a3 : Option Addr) (a0 : Nat) (a4 : Nat) (a2 : World), (Builtin.append_ #[23, 23] 23 #[.slice (some (blk w.heap.size)) 0 0, .slice a1 a5 a7]).run Try.prog a6 = .ok (.slice a3 a0 a4) a2 ∧
 R (.slice a3 a0 a4) a2)

theorem slices_Clone_byte_byte.eq (s1a : Option Addr) (s1n : Nat) (s1c : Nat) (R : Value → World → Prop) (w : World) : mfunc Try.prog [] 70 [.slice s1a s1n s1c] R w = slices_Clone_byte_byte.M s1a s1n s1c R w := by kernel_rfl
theorem slices_Clone_byte_byte.ok (a2 : Option Addr) (a0 : Nat) (a1 : Nat) {R : Value → World → Prop} {w : World} (h : slices_Clone_byte_byte.M a2 a0 a1 R w) : Calls Try.prog 70 #[.slice a2 a0 a1] w fun e w' => ∃ v, e = .returned v ∧ R v w' :=
  mfunc_ok follows (H := []) (args := [.slice a2 a0 a1]) (by rw [slices_Clone_byte_byte.eq]; exact h)

def slices_Clone_byte_byte.N (a1 : Option Addr) (a6 : Nat) (a7 : Nat) (R : Value → World → Prop) (w : World) : Prop :=
 (a1 = none →
 R (.slice none 0 0) w) ∧
 (a1 ≠ none →
 ∀ (a0 : World) (q4 : Nat), Ext no w a0 → Blk a0 q4 5 [] → w.heap.size ≤ q4 → q4 < a0.heap.size →
 ∃ (a5 : Option Addr) (a4 : Nat) (a2 : Nat) (a3 : World), (Builtin.append_ #[23, 23] 23 #[.slice (some (blk q4)) 0 0, .slice a1 a6 a7]).run Try.prog a0 = .ok (.slice a5 a4 a2) a3 ∧
 R (.slice a5 a4 a2) a3)

theorem slices_Clone_byte_byte.up (a0 : Option Addr) (a1 : Nat) (a2 : Nat) {R : Value → World → Prop} {w : World} (h : slices_Clone_byte_byte.N a0 a1 a2 R w) : slices_Clone_byte_byte.M a0 a1 a2 R w := by
  unfold slices_Clone_byte_byte.M
  unfold slices_Clone_byte_byte.N at h
  refine bif_of (fun c2 => ?_) (fun c2 => ?_)
  · have h := h.1 (isNone_t c2)
    exact h
  · have h := h.2 (isNone_f c2)
    refine thenW_in fun a6 e3 => ?_
    have h := h a6 w.heap.size ((Ext.refl no w).x_alloc e3) (Blk.of_new e3) ((Ext.refl no w)).size (size_lt_alloc e3)
    obtain ⟨a7, a5, a3, a4, hr, h⟩ := h
    refine ⟨a7, a5, a3, a4, hr, ?_⟩
    exact h

theorem slices_Clone_byte_byte.go (a2 : Option Addr) (a0 : Nat) (a1 : Nat) {R : Value → World → Prop} {w : World} (h : slices_Clone_byte_byte.N a2 a0 a1 R w) : Calls Try.prog 70 #[.slice a2 a0 a1] w fun e w' => ∃ v, e = .returned v ∧ R v w' := slices_Clone_byte_byte.ok a2 a0 a1 (slices_Clone_byte_byte.up a2 a0 a1 h)
end Go.Proofs.Ytfmdpjhkojbocaa

/- Forkcheck: what proves. -/
set_option linter.unusedVariables false
set_option linter.unusedSimpArgs false
set_option maxRecDepth 20000
set_option maxHeartbeats 2000000
namespace Go.Proofs.Ytfmdpjhkojbocaa
open Go Go.Mx Go.Proofs
open W (OwnB GivesW numR countR doneR zig unzig intR)
/-- (forkcheck.Proof).right -/
def forkcheck_Proof_right.M (am : Int) (ap : Int) (b2 : Int) (b8 : Int) (b6 : Int) (ax : Int) (aq : Option Addr) (an : Nat) (ar : Nat) (b7 : Int) (aj : Int) (al : Int) (av : Int) (b4 : Int) (b3 : Int) (ak : Int) (ag : Option Addr) (ah : Nat) (ai : Nat) (b1 : Int) (R : Value → World → Prop) (w : World) : Prop :=
 thenW (w.alloc (.cells #[.int .i64 am, .int .i64 ap, .int .u64 b2, .int .i64 b8, .int .i64 b6, .int .i64 ax, .slice aq an ar, .int .u64 b7, .int .i64 aj, .int .i64 al, .int .u64 av, .int .i64 b4, .int .i64 b3, .int .i64 ak, .slice ag ah ai, .int .u64 b1] 44)) fun ba =>
 ∃ (a0 : Int) (ab : Int) (ae : Int) (b0 : Int) (ao : Int) (a2 : Int) (a9 : Option Addr) (a7 : Nat) (a8 : Nat) (au : Int), cellsAt ba ((blk w.heap.size).add 0) [.int .i64 a0, .int .i64 ab, .int .u64 ae, .int .i64 b0, .int .i64 ao, .int .i64 a2, .slice a9 a7 a8, .int .u64 au] 0 ∧
 Calls Try.prog 34 #[.agg #[.int .i64 a0, .int .i64 ab, .int .u64 ae, .int .i64 b0, .int .i64 ao, .int .i64 a2, .slice a9 a7 a8, .int .u64 au]] ba fun bb b5 => ∃ (ad : Bool), bb = .returned (.bool ad) ∧
 bif ad then (
 ∃ (a1 : Int) (a4 : Int) (af : Int) (ay : Int) (aw : Int) (a6 : Int) (aa : Option Addr) (a5 : Nat) (a3 : Nat) (az : Int), cellsAt b5 ((blk w.heap.size).add 8) [.int .i64 a1, .int .i64 a4, .int .u64 af, .int .i64 ay, .int .i64 aw, .int .i64 a6, .slice aa a5 a3, .int .u64 az] 0 ∧
 Calls Try.prog 34 #[.agg #[.int .i64 a1, .int .i64 a4, .int .u64 af, .int .i64 ay, .int .i64 aw, .int .i64 a6, .slice aa a5 a3, .int .u64 az]] b5 fun bc b9 => ∃ (ac : Bool), bc = .returned (.bool ac) ∧
 bif ac then (
 R (.int .i64 0) b9) else (
 R (.int .i64 1) b9)) else (
 R (.int .i64 1) b5)

theorem forkcheck_Proof_right.eq (pAWriter1 : Int) (pAIndex2 : Int) (pAPrev3 : Int) (pAAtT4 : Int) (pAAtW5 : Int) (pAEpoch6 : Int) (pABody7a : Option Addr) (pABody7n : Nat) (pABody7c : Nat) (pASig8 : Int) (pBWriter9 : Int) (pBIndex10 : Int) (pBPrev11 : Int) (pBAtT12 : Int) (pBAtW13 : Int) (pBEpoch14 : Int) (pBBody15a : Option Addr) (pBBody15n : Nat) (pBBody15c : Nat) (pBSig16 : Int) (R : Value → World → Prop) (w : World) : mfunc Try.prog [] 41 [.agg #[.int .i64 pAWriter1, .int .i64 pAIndex2, .int .u64 pAPrev3, .int .i64 pAAtT4, .int .i64 pAAtW5, .int .i64 pAEpoch6, .slice pABody7a pABody7n pABody7c, .int .u64 pASig8, .int .i64 pBWriter9, .int .i64 pBIndex10, .int .u64 pBPrev11, .int .i64 pBAtT12, .int .i64 pBAtW13, .int .i64 pBEpoch14, .slice pBBody15a pBBody15n pBBody15c, .int .u64 pBSig16]] R w = forkcheck_Proof_right.M pAWriter1 pAIndex2 pAPrev3 pAAtT4 pAAtW5 pAEpoch6 pABody7a pABody7n pABody7c pASig8 pBWriter9 pBIndex10 pBPrev11 pBAtT12 pBAtW13 pBEpoch14 pBBody15a pBBody15n pBBody15c pBSig16 R w := by kernel_rfl
theorem forkcheck_Proof_right.ok (a6 : Int) (a8 : Int) (ae : Int) (aj : Int) (ah : Int) (ac : Int) (a9 : Option Addr) (a7 : Nat) (aa : Nat) (ai : Int) (a3 : Int) (a5 : Int) (ab : Int) (ag : Int) (af : Int) (a4 : Int) (a0 : Option Addr) (a1 : Nat) (a2 : Nat) (ad : Int) {R : Value → World → Prop} {w : World} (h : forkcheck_Proof_right.M a6 a8 ae aj ah ac a9 a7 aa ai a3 a5 ab ag af a4 a0 a1 a2 ad R w) : Calls Try.prog 41 #[.agg #[.int .i64 a6, .int .i64 a8, .int .u64 ae, .int .i64 aj, .int .i64 ah, .int .i64 ac, .slice a9 a7 aa, .int .u64 ai, .int .i64 a3, .int .i64 a5, .int .u64 ab, .int .i64 ag, .int .i64 af, .int .i64 a4, .slice a0 a1 a2, .int .u64 ad]] w fun e w' => ∃ v, e = .returned v ∧ R v w' :=
  mfunc_ok follows (H := []) (args := [.agg #[.int .i64 a6, .int .i64 a8, .int .u64 ae, .int .i64 aj, .int .i64 ah, .int .i64 ac, .slice a9 a7 aa, .int .u64 ai, .int .i64 a3, .int .i64 a5, .int .u64 ab, .int .i64 ag, .int .i64 af, .int .i64 a4, .slice a0 a1 a2, .int .u64 ad]]) (by rw [forkcheck_Proof_right.eq]; exact h)

def forkcheck_Proof_right.N (a6 : Int) (a8 : Int) (ae : Int) (aj : Int) (ah : Int) (ac : Int) (a9 : Option Addr) (a7 : Nat) (aa : Nat) (ai : Int) (a3 : Int) (a5 : Int) (ab : Int) (ag : Int) (af : Int) (a4 : Int) (a0 : Option Addr) (a1 : Nat) (a2 : Nat) (ad : Int) (R : Value → World → Prop) (w : World) : Prop :=
 ((entry_Right.F a6 a8 ae aj ah ac a9 a7 aa ai) = true →
 ((entry_Right.F a3 a5 ab ag af a4 a0 a1 a2 ad) = true →
 ∀ (ak : World), Ext no w ak →
 R (.int .i64 0) ak) ∧
 ((entry_Right.F a3 a5 ab ag af a4 a0 a1 a2 ad) = false →
 ∀ (ak : World), Ext no w ak →
 R (.int .i64 1) ak)) ∧
 ((entry_Right.F a6 a8 ae aj ah ac a9 a7 aa ai) = false →
 ∀ (al : World), Ext no w al →
 R (.int .i64 1) al)

theorem forkcheck_Proof_right.up (a6 : Int) (a8 : Int) (ae : Int) (aj : Int) (ah : Int) (ac : Int) (a9 : Option Addr) (a7 : Nat) (aa : Nat) (ai : Int) (a3 : Int) (a5 : Int) (ab : Int) (ag : Int) (af : Int) (a4 : Int) (a0 : Option Addr) (a1 : Nat) (a2 : Nat) (ad : Int) {R : Value → World → Prop} {w : World} (h : forkcheck_Proof_right.N a6 a8 ae aj ah ac a9 a7 aa ai a3 a5 ab ag af a4 a0 a1 a2 ad R w) : forkcheck_Proof_right.M a6 a8 ae aj ah ac a9 a7 aa ai a3 a5 ab ag af a4 a0 a1 a2 ad R w := by
  unfold forkcheck_Proof_right.M
  unfold forkcheck_Proof_right.N at h
  refine thenW_in fun ar aq => ?_
  have ak := Blk.of_new aq
  have au := ((Ext.refl no w)).size
  have an := (Ext.refl no w).x_alloc aq
  refine ⟨a6, a8, ae, aj, ah, ac, a9, a7, aa, ai, ⟨ak.celli 0 rfl rfl, ak.celli 1 rfl rfl, ak.celli 2 rfl rfl, ak.celli 3 rfl rfl, ak.celli 4 rfl rfl, ak.celli 5 rfl rfl, ak.celli 6 rfl rfl, ak.celli 7 rfl rfl, trivial⟩, ?_⟩
  refine (entry_Right.pure a6 a8 ae aj ah ac a9 a7 aa ai).mono fun ee ww18 ⟨he, hxx⟩ => ⟨(entry_Right.F a6 a8 ae aj ah ac a9 a7 aa ai), he, ?_⟩
  have al := an.trans hxx
  have ak := ak.ext hxx id
  refine bif_of (fun ap => ?_) (fun ap => ?_)
  · have h := h.1 ap
    refine ⟨a3, a5, ab, ag, af, a4, a0, a1, a2, ad, ⟨ak.celli 8 rfl rfl, ak.celli 9 rfl rfl, ak.celli 10 rfl rfl, ak.celli 11 rfl rfl, ak.celli 12 rfl rfl, ak.celli 13 rfl rfl, ak.celli 14 rfl rfl, ak.celli 15 rfl rfl, trivial⟩, ?_⟩
    refine (entry_Right.pure a3 a5 ab ag af a4 a0 a1 a2 ad).mono fun ee ww20 ⟨he, hxx⟩ => ⟨(entry_Right.F a3 a5 ab ag af a4 a0 a1 a2 ad), he, ?_⟩
    have am := al.trans hxx
    refine bif_of (fun ao => ?_) (fun ao => ?_)
    · have h := h.1 ao
      have h := h ww20 am
      exact h
    · have h := h.2 ao
      have h := h ww20 am
      exact h
  · have h := h.2 ap
    have h := h ww18 al
    exact h

theorem forkcheck_Proof_right.go (a6 : Int) (a8 : Int) (ae : Int) (aj : Int) (ah : Int) (ac : Int) (a9 : Option Addr) (a7 : Nat) (aa : Nat) (ai : Int) (a3 : Int) (a5 : Int) (ab : Int) (ag : Int) (af : Int) (a4 : Int) (a0 : Option Addr) (a1 : Nat) (a2 : Nat) (ad : Int) {R : Value → World → Prop} {w : World} (h : forkcheck_Proof_right.N a6 a8 ae aj ah ac a9 a7 aa ai a3 a5 ab ag af a4 a0 a1 a2 ad R w) : Calls Try.prog 41 #[.agg #[.int .i64 a6, .int .i64 a8, .int .u64 ae, .int .i64 aj, .int .i64 ah, .int .i64 ac, .slice a9 a7 aa, .int .u64 ai, .int .i64 a3, .int .i64 a5, .int .u64 ab, .int .i64 ag, .int .i64 af, .int .i64 a4, .slice a0 a1 a2, .int .u64 ad]] w fun e w' => ∃ v, e = .returned v ∧ R v w' := forkcheck_Proof_right.ok a6 a8 ae aj ah ac a9 a7 aa ai a3 a5 ab ag af a4 a0 a1 a2 ad (forkcheck_Proof_right.up a6 a8 ae aj ah ac a9 a7 aa ai a3 a5 ab ag af a4 a0 a1 a2 ad h)
theorem forkcheck_Proof_right.run (a6 : Int) (a8 : Int) (ae : Int) (aj : Int) (ah : Int) (ac : Int) (a9 : Option Addr) (a7 : Nat) (aa : Nat) (ai : Int) (a3 : Int) (a5 : Int) (ab : Int) (ag : Int) (af : Int) (a4 : Int) (a0 : Option Addr) (a1 : Nat) (a2 : Nat) (ad : Int) {V : Value} {Q : World → Prop} {w : World} (h : forkcheck_Proof_right.N a6 a8 ae aj ah ac a9 a7 aa ai a3 a5 ab ag af a4 a0 a1 a2 ad (fun v w' => v = V ∧ Q w') w) : Calls Try.prog 41 #[.agg #[.int .i64 a6, .int .i64 a8, .int .u64 ae, .int .i64 aj, .int .i64 ah, .int .i64 ac, .slice a9 a7 aa, .int .u64 ai, .int .i64 a3, .int .i64 a5, .int .u64 ab, .int .i64 ag, .int .i64 af, .int .i64 a4, .slice a0 a1 a2, .int .u64 ad]] w (Ret V Q) := (forkcheck_Proof_right.go a6 a8 ae aj ah ac a9 a7 aa ai a3 a5 ab ag af a4 a0 a1 a2 ad h).mono fun e w' ⟨v, he, hv, hq⟩ => ⟨by rw [he, hv], hq⟩

def forkcheck_Proof_right.F (a6 : Int) (a8 : Int) (ae : Int) (aj : Int) (ah : Int) (ac : Int) (a9 : Option Addr) (a7 : Nat) (aa : Nat) (ai : Int) (a3 : Int) (a5 : Int) (ab : Int) (ag : Int) (af : Int) (a4 : Int) (a0 : Option Addr) (a1 : Nat) (a2 : Nat) (ad : Int) : Int :=
  if (entry_Right.F a6 a8 ae aj ah ac a9 a7 aa ai) = true then
    if (entry_Right.F a3 a5 ab ag af a4 a0 a1 a2 ad) = true then
      0
    else
      1
  else
    1
theorem forkcheck_Proof_right.pure (a6 : Int) (a8 : Int) (ae : Int) (aj : Int) (ah : Int) (ac : Int) (a9 : Option Addr) (a7 : Nat) (aa : Nat) (ai : Int) (a3 : Int) (a5 : Int) (ab : Int) (ag : Int) (af : Int) (a4 : Int) (a0 : Option Addr) (a1 : Nat) (a2 : Nat) (ad : Int) {w : World} : Calls Try.prog 41 #[.agg #[.int .i64 a6, .int .i64 a8, .int .u64 ae, .int .i64 aj, .int .i64 ah, .int .i64 ac, .slice a9 a7 aa, .int .u64 ai, .int .i64 a3, .int .i64 a5, .int .u64 ab, .int .i64 ag, .int .i64 af, .int .i64 a4, .slice a0 a1 a2, .int .u64 ad]] w (Ret (.int .i64 (forkcheck_Proof_right.F a6 a8 ae aj ah ac a9 a7 aa ai a3 a5 ab ag af a4 a0 a1 a2 ad)) fun w' => Ext no w w') := by
  refine forkcheck_Proof_right.run a6 a8 ae aj ah ac a9 a7 aa ai a3 a5 ab ag af a4 a0 a1 a2 ad ?_
  unfold forkcheck_Proof_right.N
  refine ⟨fun c0 => ?_, fun c0 => ?_⟩
  · refine ⟨fun c1 => ?_, fun c1 => ?_⟩
    · intro w' hx; exact ⟨by unfold forkcheck_Proof_right.F; rw [if_pos c0, if_pos c1], hx⟩
    · intro w' hx; exact ⟨by unfold forkcheck_Proof_right.F; rw [if_pos c0, if_neg (by rw [c1]; decide)], hx⟩
  · intro w' hx; exact ⟨by unfold forkcheck_Proof_right.F; rw [if_neg (by rw [c0]; decide)], hx⟩

/-- (forkcheck.Proof).writers -/
def forkcheck_Proof_writers.M (a8 : Int) (aa : Int) (ag : Int) (am : Int) (ak : Int) (ae : Int) (ab : Option Addr) (a9 : Nat) (ac : Nat) (al : Int) (a5 : Int) (a7 : Int) (ad : Int) (aj : Int) (ah : Int) (a6 : Int) (a2 : Option Addr) (a3 : Nat) (a4 : Nat) (af : Int) (R : Value → World → Prop) (w : World) : Prop :=
 thenW (w.alloc (.cells #[.int .i64 a8, .int .i64 aa, .int .u64 ag, .int .i64 am, .int .i64 ak, .int .i64 ae, .slice ab a9 ac, .int .u64 al, .int .i64 a5, .int .i64 a7, .int .u64 ad, .int .i64 aj, .int .i64 ah, .int .i64 a6, .slice a2 a3 a4, .int .u64 af] 44)) fun ai =>
 ∃ (a1 : Int), ai.cell? (((blk w.heap.size).add 0).add 0) = some (.int .i64 a1) ∧
 ∃ (a0 : Int), ai.cell? (((blk w.heap.size).add 8).add 0) = some (.int .i64 a0) ∧
 bif a1 == a0 then (
 R (.int .i64 0) ai) else (
 R (.int .i64 20) ai)

theorem forkcheck_Proof_writers.eq (pAWriter1 : Int) (pAIndex2 : Int) (pAPrev3 : Int) (pAAtT4 : Int) (pAAtW5 : Int) (pAEpoch6 : Int) (pABody7a : Option Addr) (pABody7n : Nat) (pABody7c : Nat) (pASig8 : Int) (pBWriter9 : Int) (pBIndex10 : Int) (pBPrev11 : Int) (pBAtT12 : Int) (pBAtW13 : Int) (pBEpoch14 : Int) (pBBody15a : Option Addr) (pBBody15n : Nat) (pBBody15c : Nat) (pBSig16 : Int) (R : Value → World → Prop) (w : World) : mfunc Try.prog [] 42 [.agg #[.int .i64 pAWriter1, .int .i64 pAIndex2, .int .u64 pAPrev3, .int .i64 pAAtT4, .int .i64 pAAtW5, .int .i64 pAEpoch6, .slice pABody7a pABody7n pABody7c, .int .u64 pASig8, .int .i64 pBWriter9, .int .i64 pBIndex10, .int .u64 pBPrev11, .int .i64 pBAtT12, .int .i64 pBAtW13, .int .i64 pBEpoch14, .slice pBBody15a pBBody15n pBBody15c, .int .u64 pBSig16]] R w = forkcheck_Proof_writers.M pAWriter1 pAIndex2 pAPrev3 pAAtT4 pAAtW5 pAEpoch6 pABody7a pABody7n pABody7c pASig8 pBWriter9 pBIndex10 pBPrev11 pBAtT12 pBAtW13 pBEpoch14 pBBody15a pBBody15n pBBody15c pBSig16 R w := by kernel_rfl
theorem forkcheck_Proof_writers.ok (a6 : Int) (a8 : Int) (ae : Int) (aj : Int) (ah : Int) (ac : Int) (a9 : Option Addr) (a7 : Nat) (aa : Nat) (ai : Int) (a3 : Int) (a5 : Int) (ab : Int) (ag : Int) (af : Int) (a4 : Int) (a0 : Option Addr) (a1 : Nat) (a2 : Nat) (ad : Int) {R : Value → World → Prop} {w : World} (h : forkcheck_Proof_writers.M a6 a8 ae aj ah ac a9 a7 aa ai a3 a5 ab ag af a4 a0 a1 a2 ad R w) : Calls Try.prog 42 #[.agg #[.int .i64 a6, .int .i64 a8, .int .u64 ae, .int .i64 aj, .int .i64 ah, .int .i64 ac, .slice a9 a7 aa, .int .u64 ai, .int .i64 a3, .int .i64 a5, .int .u64 ab, .int .i64 ag, .int .i64 af, .int .i64 a4, .slice a0 a1 a2, .int .u64 ad]] w fun e w' => ∃ v, e = .returned v ∧ R v w' :=
  mfunc_ok follows (H := []) (args := [.agg #[.int .i64 a6, .int .i64 a8, .int .u64 ae, .int .i64 aj, .int .i64 ah, .int .i64 ac, .slice a9 a7 aa, .int .u64 ai, .int .i64 a3, .int .i64 a5, .int .u64 ab, .int .i64 ag, .int .i64 af, .int .i64 a4, .slice a0 a1 a2, .int .u64 ad]]) (by rw [forkcheck_Proof_writers.eq]; exact h)

def forkcheck_Proof_writers.N (a1 : Int) (a9 : Int) (af : Int) (ak : Int) (ai : Int) (ad : Int) (aa : Option Addr) (a8 : Nat) (ab : Nat) (aj : Int) (a0 : Int) (a7 : Int) (ac : Int) (ah : Int) (ag : Int) (a6 : Int) (a3 : Option Addr) (a4 : Nat) (a5 : Nat) (ae : Int) (R : Value → World → Prop) (w : World) : Prop :=
 (a1 = a0 →
 ∀ (a2 : World), Ext no w a2 →
 R (.int .i64 0) a2) ∧
 (a1 ≠ a0 →
 ∀ (a2 : World), Ext no w a2 →
 R (.int .i64 20) a2)

theorem forkcheck_Proof_writers.up (a1 : Int) (a8 : Int) (ae : Int) (aj : Int) (ah : Int) (ac : Int) (a9 : Option Addr) (a7 : Nat) (aa : Nat) (ai : Int) (a0 : Int) (a6 : Int) (ab : Int) (ag : Int) (af : Int) (a5 : Int) (a2 : Option Addr) (a3 : Nat) (a4 : Nat) (ad : Int) {R : Value → World → Prop} {w : World} (h : forkcheck_Proof_writers.N a1 a8 ae aj ah ac a9 a7 aa ai a0 a6 ab ag af a5 a2 a3 a4 ad R w) : forkcheck_Proof_writers.M a1 a8 ae aj ah ac a9 a7 aa ai a0 a6 ab ag af a5 a2 a3 a4 ad R w := by
  unfold forkcheck_Proof_writers.M
  unfold forkcheck_Proof_writers.N at h
  refine thenW_in fun al ao => ?_
  have an := Blk.of_new ao
  have ap := ((Ext.refl no w)).size
  have ak := (Ext.refl no w).x_alloc ao
  refine ⟨a1, an.celli 0 rfl rfl, ?_⟩
  refine ⟨a0, an.celli 8 rfl rfl, ?_⟩
  refine bif_of (fun am => ?_) (fun am => ?_)
  · have h := h.1 (beq_t am)
    have h := h al ak
    exact h
  · have h := h.2 (beq_f am)
    have h := h al ak
    exact h

theorem forkcheck_Proof_writers.go (a6 : Int) (a8 : Int) (ae : Int) (aj : Int) (ah : Int) (ac : Int) (a9 : Option Addr) (a7 : Nat) (aa : Nat) (ai : Int) (a3 : Int) (a5 : Int) (ab : Int) (ag : Int) (af : Int) (a4 : Int) (a0 : Option Addr) (a1 : Nat) (a2 : Nat) (ad : Int) {R : Value → World → Prop} {w : World} (h : forkcheck_Proof_writers.N a6 a8 ae aj ah ac a9 a7 aa ai a3 a5 ab ag af a4 a0 a1 a2 ad R w) : Calls Try.prog 42 #[.agg #[.int .i64 a6, .int .i64 a8, .int .u64 ae, .int .i64 aj, .int .i64 ah, .int .i64 ac, .slice a9 a7 aa, .int .u64 ai, .int .i64 a3, .int .i64 a5, .int .u64 ab, .int .i64 ag, .int .i64 af, .int .i64 a4, .slice a0 a1 a2, .int .u64 ad]] w fun e w' => ∃ v, e = .returned v ∧ R v w' := forkcheck_Proof_writers.ok a6 a8 ae aj ah ac a9 a7 aa ai a3 a5 ab ag af a4 a0 a1 a2 ad (forkcheck_Proof_writers.up a6 a8 ae aj ah ac a9 a7 aa ai a3 a5 ab ag af a4 a0 a1 a2 ad h)
theorem forkcheck_Proof_writers.run (a6 : Int) (a8 : Int) (ae : Int) (aj : Int) (ah : Int) (ac : Int) (a9 : Option Addr) (a7 : Nat) (aa : Nat) (ai : Int) (a3 : Int) (a5 : Int) (ab : Int) (ag : Int) (af : Int) (a4 : Int) (a0 : Option Addr) (a1 : Nat) (a2 : Nat) (ad : Int) {V : Value} {Q : World → Prop} {w : World} (h : forkcheck_Proof_writers.N a6 a8 ae aj ah ac a9 a7 aa ai a3 a5 ab ag af a4 a0 a1 a2 ad (fun v w' => v = V ∧ Q w') w) : Calls Try.prog 42 #[.agg #[.int .i64 a6, .int .i64 a8, .int .u64 ae, .int .i64 aj, .int .i64 ah, .int .i64 ac, .slice a9 a7 aa, .int .u64 ai, .int .i64 a3, .int .i64 a5, .int .u64 ab, .int .i64 ag, .int .i64 af, .int .i64 a4, .slice a0 a1 a2, .int .u64 ad]] w (Ret V Q) := (forkcheck_Proof_writers.go a6 a8 ae aj ah ac a9 a7 aa ai a3 a5 ab ag af a4 a0 a1 a2 ad h).mono fun e w' ⟨v, he, hv, hq⟩ => ⟨by rw [he, hv], hq⟩

def forkcheck_Proof_writers.F (a1 : Int) (a8 : Int) (ae : Int) (aj : Int) (ah : Int) (ac : Int) (a9 : Option Addr) (a7 : Nat) (aa : Nat) (ai : Int) (a0 : Int) (a6 : Int) (ab : Int) (ag : Int) (af : Int) (a5 : Int) (a2 : Option Addr) (a3 : Nat) (a4 : Nat) (ad : Int) : Int :=
  if a1 = a0 then
    0
  else
    20
theorem forkcheck_Proof_writers.pure (a6 : Int) (a8 : Int) (ae : Int) (aj : Int) (ah : Int) (ac : Int) (a9 : Option Addr) (a7 : Nat) (aa : Nat) (ai : Int) (a3 : Int) (a5 : Int) (ab : Int) (ag : Int) (af : Int) (a4 : Int) (a0 : Option Addr) (a1 : Nat) (a2 : Nat) (ad : Int) {w : World} : Calls Try.prog 42 #[.agg #[.int .i64 a6, .int .i64 a8, .int .u64 ae, .int .i64 aj, .int .i64 ah, .int .i64 ac, .slice a9 a7 aa, .int .u64 ai, .int .i64 a3, .int .i64 a5, .int .u64 ab, .int .i64 ag, .int .i64 af, .int .i64 a4, .slice a0 a1 a2, .int .u64 ad]] w (Ret (.int .i64 (forkcheck_Proof_writers.F a6 a8 ae aj ah ac a9 a7 aa ai a3 a5 ab ag af a4 a0 a1 a2 ad)) fun w' => Ext no w w') := by
  refine forkcheck_Proof_writers.run a6 a8 ae aj ah ac a9 a7 aa ai a3 a5 ab ag af a4 a0 a1 a2 ad ?_
  unfold forkcheck_Proof_writers.N
  refine ⟨fun c0 => ?_, fun c0 => ?_⟩
  · intro w' hx; exact ⟨by unfold forkcheck_Proof_writers.F; rw [if_pos c0], hx⟩
  · intro w' hx; exact ⟨by unfold forkcheck_Proof_writers.F; rw [if_neg c0], hx⟩

/-- (forkcheck.Proof).places -/
def forkcheck_Proof_places.M (a8 : Int) (aa : Int) (ag : Int) (am : Int) (ak : Int) (ae : Int) (ab : Option Addr) (a9 : Nat) (ac : Nat) (al : Int) (a5 : Int) (a7 : Int) (ad : Int) (aj : Int) (ah : Int) (a6 : Int) (a2 : Option Addr) (a3 : Nat) (a4 : Nat) (af : Int) (R : Value → World → Prop) (w : World) : Prop :=
 thenW (w.alloc (.cells #[.int .i64 a8, .int .i64 aa, .int .u64 ag, .int .i64 am, .int .i64 ak, .int .i64 ae, .slice ab a9 ac, .int .u64 al, .int .i64 a5, .int .i64 a7, .int .u64 ad, .int .i64 aj, .int .i64 ah, .int .i64 a6, .slice a2 a3 a4, .int .u64 af] 44)) fun ai =>
 ∃ (a0 : Int), ai.cell? (((blk w.heap.size).add 0).add 1) = some (.int .i64 a0) ∧
 ∃ (a1 : Int), ai.cell? (((blk w.heap.size).add 8).add 1) = some (.int .i64 a1) ∧
 bif a0 == a1 then (
 R (.int .i64 0) ai) else (
 R (.int .i64 2) ai)

theorem forkcheck_Proof_places.eq (pAWriter1 : Int) (pAIndex2 : Int) (pAPrev3 : Int) (pAAtT4 : Int) (pAAtW5 : Int) (pAEpoch6 : Int) (pABody7a : Option Addr) (pABody7n : Nat) (pABody7c : Nat) (pASig8 : Int) (pBWriter9 : Int) (pBIndex10 : Int) (pBPrev11 : Int) (pBAtT12 : Int) (pBAtW13 : Int) (pBEpoch14 : Int) (pBBody15a : Option Addr) (pBBody15n : Nat) (pBBody15c : Nat) (pBSig16 : Int) (R : Value → World → Prop) (w : World) : mfunc Try.prog [] 43 [.agg #[.int .i64 pAWriter1, .int .i64 pAIndex2, .int .u64 pAPrev3, .int .i64 pAAtT4, .int .i64 pAAtW5, .int .i64 pAEpoch6, .slice pABody7a pABody7n pABody7c, .int .u64 pASig8, .int .i64 pBWriter9, .int .i64 pBIndex10, .int .u64 pBPrev11, .int .i64 pBAtT12, .int .i64 pBAtW13, .int .i64 pBEpoch14, .slice pBBody15a pBBody15n pBBody15c, .int .u64 pBSig16]] R w = forkcheck_Proof_places.M pAWriter1 pAIndex2 pAPrev3 pAAtT4 pAAtW5 pAEpoch6 pABody7a pABody7n pABody7c pASig8 pBWriter9 pBIndex10 pBPrev11 pBAtT12 pBAtW13 pBEpoch14 pBBody15a pBBody15n pBBody15c pBSig16 R w := by kernel_rfl
theorem forkcheck_Proof_places.ok (a6 : Int) (a8 : Int) (ae : Int) (aj : Int) (ah : Int) (ac : Int) (a9 : Option Addr) (a7 : Nat) (aa : Nat) (ai : Int) (a3 : Int) (a5 : Int) (ab : Int) (ag : Int) (af : Int) (a4 : Int) (a0 : Option Addr) (a1 : Nat) (a2 : Nat) (ad : Int) {R : Value → World → Prop} {w : World} (h : forkcheck_Proof_places.M a6 a8 ae aj ah ac a9 a7 aa ai a3 a5 ab ag af a4 a0 a1 a2 ad R w) : Calls Try.prog 43 #[.agg #[.int .i64 a6, .int .i64 a8, .int .u64 ae, .int .i64 aj, .int .i64 ah, .int .i64 ac, .slice a9 a7 aa, .int .u64 ai, .int .i64 a3, .int .i64 a5, .int .u64 ab, .int .i64 ag, .int .i64 af, .int .i64 a4, .slice a0 a1 a2, .int .u64 ad]] w fun e w' => ∃ v, e = .returned v ∧ R v w' :=
  mfunc_ok follows (H := []) (args := [.agg #[.int .i64 a6, .int .i64 a8, .int .u64 ae, .int .i64 aj, .int .i64 ah, .int .i64 ac, .slice a9 a7 aa, .int .u64 ai, .int .i64 a3, .int .i64 a5, .int .u64 ab, .int .i64 ag, .int .i64 af, .int .i64 a4, .slice a0 a1 a2, .int .u64 ad]]) (by rw [forkcheck_Proof_places.eq]; exact h)

def forkcheck_Proof_places.N (a8 : Int) (a1 : Int) (af : Int) (ak : Int) (ai : Int) (ad : Int) (aa : Option Addr) (a9 : Nat) (ab : Nat) (aj : Int) (a6 : Int) (a0 : Int) (ac : Int) (ah : Int) (ag : Int) (a7 : Int) (a3 : Option Addr) (a4 : Nat) (a5 : Nat) (ae : Int) (R : Value → World → Prop) (w : World) : Prop :=
 (a1 = a0 →
 ∀ (a2 : World), Ext no w a2 →
 R (.int .i64 0) a2) ∧
 (a1 ≠ a0 →
 ∀ (a2 : World), Ext no w a2 →
 R (.int .i64 2) a2)

theorem forkcheck_Proof_places.up (a7 : Int) (a1 : Int) (ae : Int) (aj : Int) (ah : Int) (ac : Int) (a9 : Option Addr) (a8 : Nat) (aa : Nat) (ai : Int) (a5 : Int) (a0 : Int) (ab : Int) (ag : Int) (af : Int) (a6 : Int) (a2 : Option Addr) (a3 : Nat) (a4 : Nat) (ad : Int) {R : Value → World → Prop} {w : World} (h : forkcheck_Proof_places.N a7 a1 ae aj ah ac a9 a8 aa ai a5 a0 ab ag af a6 a2 a3 a4 ad R w) : forkcheck_Proof_places.M a7 a1 ae aj ah ac a9 a8 aa ai a5 a0 ab ag af a6 a2 a3 a4 ad R w := by
  unfold forkcheck_Proof_places.M
  unfold forkcheck_Proof_places.N at h
  refine thenW_in fun al ao => ?_
  have an := Blk.of_new ao
  have ap := ((Ext.refl no w)).size
  have ak := (Ext.refl no w).x_alloc ao
  refine ⟨a1, an.celli 1 rfl rfl, ?_⟩
  refine ⟨a0, an.celli 9 rfl rfl, ?_⟩
  refine bif_of (fun am => ?_) (fun am => ?_)
  · have h := h.1 (beq_t am)
    have h := h al ak
    exact h
  · have h := h.2 (beq_f am)
    have h := h al ak
    exact h

theorem forkcheck_Proof_places.go (a6 : Int) (a8 : Int) (ae : Int) (aj : Int) (ah : Int) (ac : Int) (a9 : Option Addr) (a7 : Nat) (aa : Nat) (ai : Int) (a3 : Int) (a5 : Int) (ab : Int) (ag : Int) (af : Int) (a4 : Int) (a0 : Option Addr) (a1 : Nat) (a2 : Nat) (ad : Int) {R : Value → World → Prop} {w : World} (h : forkcheck_Proof_places.N a6 a8 ae aj ah ac a9 a7 aa ai a3 a5 ab ag af a4 a0 a1 a2 ad R w) : Calls Try.prog 43 #[.agg #[.int .i64 a6, .int .i64 a8, .int .u64 ae, .int .i64 aj, .int .i64 ah, .int .i64 ac, .slice a9 a7 aa, .int .u64 ai, .int .i64 a3, .int .i64 a5, .int .u64 ab, .int .i64 ag, .int .i64 af, .int .i64 a4, .slice a0 a1 a2, .int .u64 ad]] w fun e w' => ∃ v, e = .returned v ∧ R v w' := forkcheck_Proof_places.ok a6 a8 ae aj ah ac a9 a7 aa ai a3 a5 ab ag af a4 a0 a1 a2 ad (forkcheck_Proof_places.up a6 a8 ae aj ah ac a9 a7 aa ai a3 a5 ab ag af a4 a0 a1 a2 ad h)
theorem forkcheck_Proof_places.run (a6 : Int) (a8 : Int) (ae : Int) (aj : Int) (ah : Int) (ac : Int) (a9 : Option Addr) (a7 : Nat) (aa : Nat) (ai : Int) (a3 : Int) (a5 : Int) (ab : Int) (ag : Int) (af : Int) (a4 : Int) (a0 : Option Addr) (a1 : Nat) (a2 : Nat) (ad : Int) {V : Value} {Q : World → Prop} {w : World} (h : forkcheck_Proof_places.N a6 a8 ae aj ah ac a9 a7 aa ai a3 a5 ab ag af a4 a0 a1 a2 ad (fun v w' => v = V ∧ Q w') w) : Calls Try.prog 43 #[.agg #[.int .i64 a6, .int .i64 a8, .int .u64 ae, .int .i64 aj, .int .i64 ah, .int .i64 ac, .slice a9 a7 aa, .int .u64 ai, .int .i64 a3, .int .i64 a5, .int .u64 ab, .int .i64 ag, .int .i64 af, .int .i64 a4, .slice a0 a1 a2, .int .u64 ad]] w (Ret V Q) := (forkcheck_Proof_places.go a6 a8 ae aj ah ac a9 a7 aa ai a3 a5 ab ag af a4 a0 a1 a2 ad h).mono fun e w' ⟨v, he, hv, hq⟩ => ⟨by rw [he, hv], hq⟩

def forkcheck_Proof_places.F (a7 : Int) (a1 : Int) (ae : Int) (aj : Int) (ah : Int) (ac : Int) (a9 : Option Addr) (a8 : Nat) (aa : Nat) (ai : Int) (a5 : Int) (a0 : Int) (ab : Int) (ag : Int) (af : Int) (a6 : Int) (a2 : Option Addr) (a3 : Nat) (a4 : Nat) (ad : Int) : Int :=
  if a1 = a0 then
    0
  else
    2
theorem forkcheck_Proof_places.pure (a6 : Int) (a8 : Int) (ae : Int) (aj : Int) (ah : Int) (ac : Int) (a9 : Option Addr) (a7 : Nat) (aa : Nat) (ai : Int) (a3 : Int) (a5 : Int) (ab : Int) (ag : Int) (af : Int) (a4 : Int) (a0 : Option Addr) (a1 : Nat) (a2 : Nat) (ad : Int) {w : World} : Calls Try.prog 43 #[.agg #[.int .i64 a6, .int .i64 a8, .int .u64 ae, .int .i64 aj, .int .i64 ah, .int .i64 ac, .slice a9 a7 aa, .int .u64 ai, .int .i64 a3, .int .i64 a5, .int .u64 ab, .int .i64 ag, .int .i64 af, .int .i64 a4, .slice a0 a1 a2, .int .u64 ad]] w (Ret (.int .i64 (forkcheck_Proof_places.F a6 a8 ae aj ah ac a9 a7 aa ai a3 a5 ab ag af a4 a0 a1 a2 ad)) fun w' => Ext no w w') := by
  refine forkcheck_Proof_places.run a6 a8 ae aj ah ac a9 a7 aa ai a3 a5 ab ag af a4 a0 a1 a2 ad ?_
  unfold forkcheck_Proof_places.N
  refine ⟨fun c0 => ?_, fun c0 => ?_⟩
  · intro w' hx; exact ⟨by unfold forkcheck_Proof_places.F; rw [if_pos c0], hx⟩
  · intro w' hx; exact ⟨by unfold forkcheck_Proof_places.F; rw [if_neg c0], hx⟩

/-- (forkcheck.Proof).apart -/
def forkcheck_Proof_apart.M (ak : Int) (am : Int) (b1 : Int) (b6 : Int) (b4 : Int) (ax : Int) (ao : Option Addr) (al : Nat) (aq : Nat) (b5 : Int) (ah : Int) (aj : Int) (aw : Int) (b3 : Int) (b2 : Int) (ai : Int) (ae : Option Addr) (af : Nat) (ag : Nat) (b0 : Int) (R : Value → World → Prop) (w : World) : Prop :=
 thenW (w.alloc (.cells #[.int .i64 ak, .int .i64 am, .int .u64 b1, .int .i64 b6, .int .i64 b4, .int .i64 ax, .slice ao al aq, .int .u64 b5, .int .i64 ah, .int .i64 aj, .int .u64 aw, .int .i64 b3, .int .i64 b2, .int .i64 ai, .slice ae af ag, .int .u64 b0] 44)) fun b7 =>
 ∃ (a1 : Int) (aa : Int) (ad : Int) (az : Int) (an : Int) (a2 : Int) (a8 : Option Addr) (a6 : Nat) (a7 : Nat) (ar : Int), cellsAt b7 ((blk w.heap.size).add 0) [.int .i64 a1, .int .i64 aa, .int .u64 ad, .int .i64 az, .int .i64 an, .int .i64 a2, .slice a8 a6 a7, .int .u64 ar] 0 ∧
 ∃ (a0 : Int) (a4 : Int) (ac : Int) (ap : Int) (au : Int) (a3 : Int) (ab : Option Addr) (a9 : Nat) (a5 : Nat) (ay : Int), cellsAt b7 ((blk w.heap.size).add 8) [.int .i64 a0, .int .i64 a4, .int .u64 ac, .int .i64 ap, .int .i64 au, .int .i64 a3, .slice ab a9 a5, .int .u64 ay] 0 ∧
 Calls Try.prog 38 #[.agg #[.int .i64 a1, .int .i64 aa, .int .u64 ad, .int .i64 az, .int .i64 an, .int .i64 a2, .slice a8 a6 a7, .int .u64 ar], .agg #[.int .i64 a0, .int .i64 a4, .int .u64 ac, .int .i64 ap, .int .i64 au, .int .i64 a3, .slice ab a9 a5, .int .u64 ay]] b7 fun b9 b8 => ∃ (av : Bool), b9 = .returned (.bool av) ∧
 bif av then (
 R (.int .i64 8) b8) else (
 R (.int .i64 0) b8)

theorem forkcheck_Proof_apart.eq (pAWriter1 : Int) (pAIndex2 : Int) (pAPrev3 : Int) (pAAtT4 : Int) (pAAtW5 : Int) (pAEpoch6 : Int) (pABody7a : Option Addr) (pABody7n : Nat) (pABody7c : Nat) (pASig8 : Int) (pBWriter9 : Int) (pBIndex10 : Int) (pBPrev11 : Int) (pBAtT12 : Int) (pBAtW13 : Int) (pBEpoch14 : Int) (pBBody15a : Option Addr) (pBBody15n : Nat) (pBBody15c : Nat) (pBSig16 : Int) (R : Value → World → Prop) (w : World) : mfunc Try.prog [] 44 [.agg #[.int .i64 pAWriter1, .int .i64 pAIndex2, .int .u64 pAPrev3, .int .i64 pAAtT4, .int .i64 pAAtW5, .int .i64 pAEpoch6, .slice pABody7a pABody7n pABody7c, .int .u64 pASig8, .int .i64 pBWriter9, .int .i64 pBIndex10, .int .u64 pBPrev11, .int .i64 pBAtT12, .int .i64 pBAtW13, .int .i64 pBEpoch14, .slice pBBody15a pBBody15n pBBody15c, .int .u64 pBSig16]] R w = forkcheck_Proof_apart.M pAWriter1 pAIndex2 pAPrev3 pAAtT4 pAAtW5 pAEpoch6 pABody7a pABody7n pABody7c pASig8 pBWriter9 pBIndex10 pBPrev11 pBAtT12 pBAtW13 pBEpoch14 pBBody15a pBBody15n pBBody15c pBSig16 R w := by kernel_rfl
theorem forkcheck_Proof_apart.ok (a6 : Int) (a8 : Int) (ae : Int) (aj : Int) (ah : Int) (ac : Int) (a9 : Option Addr) (a7 : Nat) (aa : Nat) (ai : Int) (a3 : Int) (a5 : Int) (ab : Int) (ag : Int) (af : Int) (a4 : Int) (a0 : Option Addr) (a1 : Nat) (a2 : Nat) (ad : Int) {R : Value → World → Prop} {w : World} (h : forkcheck_Proof_apart.M a6 a8 ae aj ah ac a9 a7 aa ai a3 a5 ab ag af a4 a0 a1 a2 ad R w) : Calls Try.prog 44 #[.agg #[.int .i64 a6, .int .i64 a8, .int .u64 ae, .int .i64 aj, .int .i64 ah, .int .i64 ac, .slice a9 a7 aa, .int .u64 ai, .int .i64 a3, .int .i64 a5, .int .u64 ab, .int .i64 ag, .int .i64 af, .int .i64 a4, .slice a0 a1 a2, .int .u64 ad]] w fun e w' => ∃ v, e = .returned v ∧ R v w' :=
  mfunc_ok follows (H := []) (args := [.agg #[.int .i64 a6, .int .i64 a8, .int .u64 ae, .int .i64 aj, .int .i64 ah, .int .i64 ac, .slice a9 a7 aa, .int .u64 ai, .int .i64 a3, .int .i64 a5, .int .u64 ab, .int .i64 ag, .int .i64 af, .int .i64 a4, .slice a0 a1 a2, .int .u64 ad]]) (by rw [forkcheck_Proof_apart.eq]; exact h)

def forkcheck_Proof_apart.N (a7 : Int) (a9 : Int) (af : Int) (ak : Int) (ai : Int) (ad : Int) (aa : Option Addr) (a8 : Nat) (ab : Nat) (aj : Int) (a4 : Int) (a6 : Int) (ac : Int) (ah : Int) (ag : Int) (a5 : Int) (a1 : Option Addr) (a2 : Nat) (a3 : Nat) (ae : Int) (R : Value → World → Prop) (w : World) : Prop :=
 ∀ (al : World), Ext no w al →
 Calls Try.prog 38 #[.agg #[.int .i64 a7, .int .i64 a9, .int .u64 af, .int .i64 ak, .int .i64 ai, .int .i64 ad, .slice aa a8 ab, .int .u64 aj], .agg #[.int .i64 a4, .int .i64 a6, .int .u64 ac, .int .i64 ah, .int .i64 ag, .int .i64 a5, .slice a1 a2 a3, .int .u64 ae]] al fun an am => ∃ (a0 : Bool), an = .returned (.bool a0) ∧
 (a0 = true →
 R (.int .i64 8) am) ∧
 (a0 = false →
 R (.int .i64 0) am)

theorem forkcheck_Proof_apart.up (a6 : Int) (a8 : Int) (ae : Int) (ak : Int) (ai : Int) (ac : Int) (a9 : Option Addr) (a7 : Nat) (aa : Nat) (aj : Int) (a3 : Int) (a5 : Int) (ab : Int) (ag : Int) (af : Int) (a4 : Int) (a0 : Option Addr) (a1 : Nat) (a2 : Nat) (ad : Int) {R : Value → World → Prop} {w : World} (h : forkcheck_Proof_apart.N a6 a8 ae ak ai ac a9 a7 aa aj a3 a5 ab ag af a4 a0 a1 a2 ad R w) : forkcheck_Proof_apart.M a6 a8 ae ak ai ac a9 a7 aa aj a3 a5 ab ag af a4 a0 a1 a2 ad R w := by
  unfold forkcheck_Proof_apart.M
  unfold forkcheck_Proof_apart.N at h
  refine thenW_in fun ao ap => ?_
  have ah := Blk.of_new ap
  have au := ((Ext.refl no w)).size
  have an := (Ext.refl no w).x_alloc ap
  refine ⟨a6, a8, ae, ak, ai, ac, a9, a7, aa, aj, ⟨ah.celli 0 rfl rfl, ah.celli 1 rfl rfl, ah.celli 2 rfl rfl, ah.celli 3 rfl rfl, ah.celli 4 rfl rfl, ah.celli 5 rfl rfl, ah.celli 6 rfl rfl, ah.celli 7 rfl rfl, trivial⟩, ?_⟩
  refine ⟨a3, a5, ab, ag, af, a4, a0, a1, a2, ad, ⟨ah.celli 8 rfl rfl, ah.celli 9 rfl rfl, ah.celli 10 rfl rfl, ah.celli 11 rfl rfl, ah.celli 12 rfl rfl, ah.celli 13 rfl rfl, ah.celli 14 rfl rfl, ah.celli 15 rfl rfl, trivial⟩, ?_⟩
  have h := h ao an
  refine h.mono fun aq ar h => ?_
  obtain ⟨al, he, h⟩ := h
  refine ⟨al, he, ?_⟩
  refine bif_of (fun am => ?_) (fun am => ?_)
  · have h := h.1 am
    exact h
  · have h := h.2 am
    exact h

theorem forkcheck_Proof_apart.go (a6 : Int) (a8 : Int) (ae : Int) (aj : Int) (ah : Int) (ac : Int) (a9 : Option Addr) (a7 : Nat) (aa : Nat) (ai : Int) (a3 : Int) (a5 : Int) (ab : Int) (ag : Int) (af : Int) (a4 : Int) (a0 : Option Addr) (a1 : Nat) (a2 : Nat) (ad : Int) {R : Value → World → Prop} {w : World} (h : forkcheck_Proof_apart.N a6 a8 ae aj ah ac a9 a7 aa ai a3 a5 ab ag af a4 a0 a1 a2 ad R w) : Calls Try.prog 44 #[.agg #[.int .i64 a6, .int .i64 a8, .int .u64 ae, .int .i64 aj, .int .i64 ah, .int .i64 ac, .slice a9 a7 aa, .int .u64 ai, .int .i64 a3, .int .i64 a5, .int .u64 ab, .int .i64 ag, .int .i64 af, .int .i64 a4, .slice a0 a1 a2, .int .u64 ad]] w fun e w' => ∃ v, e = .returned v ∧ R v w' := forkcheck_Proof_apart.ok a6 a8 ae aj ah ac a9 a7 aa ai a3 a5 ab ag af a4 a0 a1 a2 ad (forkcheck_Proof_apart.up a6 a8 ae aj ah ac a9 a7 aa ai a3 a5 ab ag af a4 a0 a1 a2 ad h)
theorem forkcheck_Proof_apart.run (a6 : Int) (a8 : Int) (ae : Int) (aj : Int) (ah : Int) (ac : Int) (a9 : Option Addr) (a7 : Nat) (aa : Nat) (ai : Int) (a3 : Int) (a5 : Int) (ab : Int) (ag : Int) (af : Int) (a4 : Int) (a0 : Option Addr) (a1 : Nat) (a2 : Nat) (ad : Int) {V : Value} {Q : World → Prop} {w : World} (h : forkcheck_Proof_apart.N a6 a8 ae aj ah ac a9 a7 aa ai a3 a5 ab ag af a4 a0 a1 a2 ad (fun v w' => v = V ∧ Q w') w) : Calls Try.prog 44 #[.agg #[.int .i64 a6, .int .i64 a8, .int .u64 ae, .int .i64 aj, .int .i64 ah, .int .i64 ac, .slice a9 a7 aa, .int .u64 ai, .int .i64 a3, .int .i64 a5, .int .u64 ab, .int .i64 ag, .int .i64 af, .int .i64 a4, .slice a0 a1 a2, .int .u64 ad]] w (Ret V Q) := (forkcheck_Proof_apart.go a6 a8 ae aj ah ac a9 a7 aa ai a3 a5 ab ag af a4 a0 a1 a2 ad h).mono fun e w' ⟨v, he, hv, hq⟩ => ⟨by rw [he, hv], hq⟩

/-- forkcheck.Check -/
def forkcheck_Check.M (o1 : Option Addr) (bz : Int) (d9 : Int) (dg : Int) (dn : Int) (ds : Int) (dr : Int) (dc : Int) (de : Option Addr) (dd : Nat) (di : Nat) (dk : Int) (c9 : Int) (d6 : Int) (dh : Int) (dm : Int) (dj : Int) (d5 : Int) (d7 : Option Addr) (d4 : Nat) (d8 : Nat) (dl : Int) (R : Value → World → Prop) (w : World) : Prop :=
 thenW (w.alloc (.cells #[.int .i64 d9, .int .i64 dg, .int .u64 dn, .int .i64 ds, .int .i64 dr, .int .i64 dc, .slice de dd di, .int .u64 dk, .int .i64 c9, .int .i64 d6, .int .u64 dh, .int .i64 dm, .int .i64 dj, .int .i64 d5, .slice d7 d4 d8, .int .u64 dl] 44)) fun df =>
 ∃ (a3 : Int) (b8 : Int) (bw : Int) (cs : Int) (ct : Int) (bc : Int) (al : Option Addr) (b5 : Nat) (be : Nat) (cp : Int) (ac : Int) (ax : Int) (c3 : Int) (cq : Int) (cr : Int) (bi : Int) (aq : Option Addr) (b2 : Nat) (an : Nat) (cf : Int), cellsAt df (blk w.heap.size) [.int .i64 a3, .int .i64 b8, .int .u64 bw, .int .i64 cs, .int .i64 ct, .int .i64 bc, .slice al b5 be, .int .u64 cp, .int .i64 ac, .int .i64 ax, .int .u64 c3, .int .i64 cq, .int .i64 cr, .int .i64 bi, .slice aq b2 an, .int .u64 cf] 0 ∧
 ∃ (a6 : Int) (bl : Int) (bx : Int) (cu : Int) (cv : Int) (bd : Int) (bn : Option Addr) (b3 : Nat) (ad : Nat) (cz : Int) (a7 : Int) (bj : Int) (bu : Int) (d0 : Int) (cd : Int) (am : Int) (ao : Option Addr) (bp : Nat) (ag : Nat) (cg : Int), cellsAt df (blk w.heap.size) [.int .i64 a6, .int .i64 bl, .int .u64 bx, .int .i64 cu, .int .i64 cv, .int .i64 bd, .slice bn b3 ad, .int .u64 cz, .int .i64 a7, .int .i64 bj, .int .u64 bu, .int .i64 d0, .int .i64 cd, .int .i64 am, .slice ao bp ag, .int .u64 cg] 0 ∧
 ∃ (a4 : Int) (b9 : Int) (bv : Int) (ci : Int) (d3 : Int) (br : Int) (ak : Option Addr) (bb : Nat) (bf : Nat) (cy : Int) (a1 : Int) (ai : Int) (c7 : Int) (ch : Int) (cb : Int) (aj : Int) (aw : Option Addr) (ae : Nat) (b7 : Nat) (ca : Int), cellsAt df (blk w.heap.size) [.int .i64 a4, .int .i64 b9, .int .u64 bv, .int .i64 ci, .int .i64 d3, .int .i64 br, .slice ak bb bf, .int .u64 cy, .int .i64 a1, .int .i64 ai, .int .u64 c7, .int .i64 ch, .int .i64 cb, .int .i64 aj, .slice aw ae b7, .int .u64 ca] 0 ∧
 ∃ (a2 : Int) (b6 : Int) (c6 : Int) (d2 : Int) (cn : Int) (ah : Int) (b1 : Option Addr) (ba : Nat) (bg : Nat) (cm : Int) (a9 : Int) (bo : Int) (c5 : Int) (cw : Int) (ce : Int) (au : Int) (b4 : Option Addr) (ay : Nat) (af : Nat) (ck : Int), cellsAt df (blk w.heap.size) [.int .i64 a2, .int .i64 b6, .int .u64 c6, .int .i64 d2, .int .i64 cn, .int .i64 ah, .slice b1 ba bg, .int .u64 cm, .int .i64 a9, .int .i64 bo, .int .u64 c5, .int .i64 cw, .int .i64 ce, .int .i64 au, .slice b4 ay af, .int .u64 ck] 0 ∧
 ∃ (I0 : Nat → List Value → World → Prop) (e7 : Nat), I0 e7 [.int .i64 0] df ∧ ∀ (dw : Nat) (c8 : World) (da : Int), I0 dw [.int .i64 da] c8 →
 bif decide (da < 4) then (
 0 ≤ (da : Int) ∧ (da : Int) < (4 : Int) ∧
 ((da : Int) = 0 → 
 Calls Try.prog 41 #[.agg #[.int .i64 a3, .int .i64 b8, .int .u64 bw, .int .i64 cs, .int .i64 ct, .int .i64 bc, .slice al b5 be, .int .u64 cp, .int .i64 ac, .int .i64 ax, .int .u64 c3, .int .i64 cq, .int .i64 cr, .int .i64 bi, .slice aq b2 an, .int .u64 cf]] c8 fun e2 dt => ∃ (bt : Int), e2 = .returned (.int .i64 bt) ∧
 bif bt != 0 then (
 R (.int .i64 bt) dt) else (
 ∃ e5, e5 < dw ∧ I0 e5 [.int .i64 (IntKind.i64.wrap (da + 1))] dt)) ∧
 ((da : Int) = 1 → 
 Calls Try.prog 42 #[.agg #[.int .i64 a6, .int .i64 bl, .int .u64 bx, .int .i64 cu, .int .i64 cv, .int .i64 bd, .slice bn b3 ad, .int .u64 cz, .int .i64 a7, .int .i64 bj, .int .u64 bu, .int .i64 d0, .int .i64 cd, .int .i64 am, .slice ao bp ag, .int .u64 cg]] c8 fun e1 du => ∃ (a0 : Int), e1 = .returned (.int .i64 a0) ∧
 bif a0 != 0 then (
 R (.int .i64 a0) du) else (
 ∃ e4, e4 < dw ∧ I0 e4 [.int .i64 (IntKind.i64.wrap (da + 1))] du)) ∧
 ((da : Int) = 2 → 
 Calls Try.prog 43 #[.agg #[.int .i64 a4, .int .i64 b9, .int .u64 bv, .int .i64 ci, .int .i64 d3, .int .i64 br, .slice ak bb bf, .int .u64 cy, .int .i64 a1, .int .i64 ai, .int .u64 c7, .int .i64 ch, .int .i64 cb, .int .i64 aj, .slice aw ae b7, .int .u64 ca]] c8 fun e3 dv => ∃ (a8 : Int), e3 = .returned (.int .i64 a8) ∧
 bif a8 != 0 then (
 R (.int .i64 a8) dv) else (
 ∃ e6, e6 < dw ∧ I0 e6 [.int .i64 (IntKind.i64.wrap (da + 1))] dv)) ∧
 ((da : Int) = 3 → 
 Calls Try.prog 44 #[.agg #[.int .i64 a2, .int .i64 b6, .int .u64 c6, .int .i64 d2, .int .i64 cn, .int .i64 ah, .slice b1 ba bg, .int .u64 cm, .int .i64 a9, .int .i64 bo, .int .u64 c5, .int .i64 cw, .int .i64 ce, .int .i64 au, .slice b4 ay af, .int .u64 ck]] c8 fun dx dp => ∃ (a5 : Int), dx = .returned (.int .i64 a5) ∧
 bif a5 != 0 then (
 R (.int .i64 a5) dp) else (
 ∃ e0, e0 < dw ∧ I0 e0 [.int .i64 (IntKind.i64.wrap (da + 1))] dp)) ∧ True) else (
 ∃ (ab : Int) (ar : Int) (c0 : Int) (cx : Int) (cj : Int) (b0 : Int) (bk : Option Addr) (az : Nat) (bh : Nat) (cc : Int), cellsAt c8 ((blk w.heap.size).add 0) [.int .i64 ab, .int .i64 ar, .int .u64 c0, .int .i64 cx, .int .i64 cj, .int .i64 b0, .slice bk az bh, .int .u64 cc] 0 ∧
 Calls Try.prog 45 #[.pointer o1, .int .u64 bz, .agg #[.int .i64 ab, .int .i64 ar, .int .u64 c0, .int .i64 cx, .int .i64 cj, .int .i64 b0, .slice bk az bh, .int .u64 cc]] c8 fun dy db => ∃ (c1 : Bool), dy = .returned (.bool c1) ∧
 bif !c1 then (
 R (.int .i64 6) db) else (
 ∃ (aa : Int) (av : Int) (c2 : Int) (co : Int) (cl : Int) (bq : Int) (bs : Option Addr) (ap : Nat) (bm : Nat) (d1 : Int), cellsAt db ((blk w.heap.size).add 8) [.int .i64 aa, .int .i64 av, .int .u64 c2, .int .i64 co, .int .i64 cl, .int .i64 bq, .slice bs ap bm, .int .u64 d1] 0 ∧
 Calls Try.prog 45 #[.pointer o1, .int .u64 bz, .agg #[.int .i64 aa, .int .i64 av, .int .u64 c2, .int .i64 co, .int .i64 cl, .int .i64 bq, .slice bs ap bm, .int .u64 d1]] db fun dz dq => ∃ (c4 : Bool), dz = .returned (.bool c4) ∧
 bif !c4 then (
 R (.int .i64 6) dq) else (
 R (.int .i64 0) dq)))

theorem forkcheck_Check.eq (o1 : Option Addr) (publicv2 : Int) (pAWriter3 : Int) (pAIndex4 : Int) (pAPrev5 : Int) (pAAtT6 : Int) (pAAtW7 : Int) (pAEpoch8 : Int) (pABody9a : Option Addr) (pABody9n : Nat) (pABody9c : Nat) (pASig10 : Int) (pBWriter11 : Int) (pBIndex12 : Int) (pBPrev13 : Int) (pBAtT14 : Int) (pBAtW15 : Int) (pBEpoch16 : Int) (pBBody17a : Option Addr) (pBBody17n : Nat) (pBBody17c : Nat) (pBSig18 : Int) (R : Value → World → Prop) (w : World) : mfunc Try.prog [(0, [0, 1, 5, 18], [(19, (.one (.int .i64)))])] 14 [.pointer o1, .int .u64 publicv2, .agg #[.int .i64 pAWriter3, .int .i64 pAIndex4, .int .u64 pAPrev5, .int .i64 pAAtT6, .int .i64 pAAtW7, .int .i64 pAEpoch8, .slice pABody9a pABody9n pABody9c, .int .u64 pASig10, .int .i64 pBWriter11, .int .i64 pBIndex12, .int .u64 pBPrev13, .int .i64 pBAtT14, .int .i64 pBAtW15, .int .i64 pBEpoch16, .slice pBBody17a pBBody17n pBBody17c, .int .u64 pBSig18]] R w = forkcheck_Check.M o1 publicv2 pAWriter3 pAIndex4 pAPrev5 pAAtT6 pAAtW7 pAEpoch8 pABody9a pABody9n pABody9c pASig10 pBWriter11 pBIndex12 pBPrev13 pBAtT14 pBAtW15 pBEpoch16 pBBody17a pBBody17n pBBody17c pBSig18 R w := by kernel_rfl
theorem forkcheck_Check.ok (o1 : Option Addr) (a9 : Int) (a3 : Int) (ac : Int) (ag : Int) (ak : Int) (aj : Int) (a7 : Int) (aa : Option Addr) (a8 : Nat) (ab : Nat) (ai : Int) (a0 : Int) (a5 : Int) (ad : Int) (ae : Int) (ah : Int) (a2 : Int) (a6 : Option Addr) (a1 : Nat) (a4 : Nat) (af : Int) {R : Value → World → Prop} {w : World} (h : forkcheck_Check.M o1 a9 a3 ac ag ak aj a7 aa a8 ab ai a0 a5 ad ae ah a2 a6 a1 a4 af R w) : Calls Try.prog 14 #[.pointer o1, .int .u64 a9, .agg #[.int .i64 a3, .int .i64 ac, .int .u64 ag, .int .i64 ak, .int .i64 aj, .int .i64 a7, .slice aa a8 ab, .int .u64 ai, .int .i64 a0, .int .i64 a5, .int .u64 ad, .int .i64 ae, .int .i64 ah, .int .i64 a2, .slice a6 a1 a4, .int .u64 af]] w fun e w' => ∃ v, e = .returned v ∧ R v w' :=
  mfunc_ok follows (H := [(0, [0, 1, 5, 18], [(19, (.one (.int .i64)))])]) (args := [.pointer o1, .int .u64 a9, .agg #[.int .i64 a3, .int .i64 ac, .int .u64 ag, .int .i64 ak, .int .i64 aj, .int .i64 a7, .slice aa a8 ab, .int .u64 ai, .int .i64 a0, .int .i64 a5, .int .u64 ad, .int .i64 ae, .int .i64 ah, .int .i64 a2, .slice a6 a1 a4, .int .u64 af]]) (by rw [forkcheck_Check.eq]; exact h)

def forkcheck_Check.N (o1 : Option Addr) (ap : Int) (a3 : Int) (ab : Int) (af : Int) (aj : Int) (ai : Int) (a7 : Int) (a9 : Option Addr) (a8 : Nat) (aa : Nat) (ah : Int) (a0 : Int) (a5 : Int) (ac : Int) (ad : Int) (ag : Int) (a2 : Int) (a6 : Option Addr) (a1 : Nat) (a4 : Nat) (ae : Int) (R : Value → World → Prop) (w : World) : Prop :=
 ∀ (ax : World) (b0 : Nat), Ext no w ax → Priv w ax [b0] →
 ∃ (I0 : Nat → List Value → World → Prop) (b8 : Nat), I0 b8 [.int .i64 0] ax ∧ ∀ (az : Nat) (al : World) (am : Int), I0 az [.int .i64 am] al →
 (am < 4 →
 0 ≤ (am : Int) ∧ (am : Int) < (4 : Int) ∧
 ((am : Int) = 0 →
 ((forkcheck_Proof_right.F a3 ab af aj ai a7 a9 a8 aa ah a0 a5 ac ad ag a2 a6 a1 a4 ae) ≠ 0 →
 ∀ (ar : World), Ext no al ar →
 R (.int .i64 (forkcheck_Proof_right.F a3 ab af aj ai a7 a9 a8 aa ah a0 a5 ac ad ag a2 a6 a1 a4 ae)) ar) ∧
 ((forkcheck_Proof_right.F a3 ab af aj ai a7 a9 a8 aa ah a0 a5 ac ad ag a2 a6 a1 a4 ae) = 0 →
 (-9223372036854775808 : Int) ≤ (am + 1) ∧ (am + 1) < 9223372036854775808 ∧
 ∀ (ar : World), Ext no al ar →
 ∃ b7, b7 < az ∧ I0 b7 [.int .i64 (am + 1)] ar)) ∧
 ((am : Int) = 1 →
 ((forkcheck_Proof_writers.F a3 ab af aj ai a7 a9 a8 aa ah a0 a5 ac ad ag a2 a6 a1 a4 ae) ≠ 0 →
 ∀ (au : World), Ext no al au →
 R (.int .i64 (forkcheck_Proof_writers.F a3 ab af aj ai a7 a9 a8 aa ah a0 a5 ac ad ag a2 a6 a1 a4 ae)) au) ∧
 ((forkcheck_Proof_writers.F a3 ab af aj ai a7 a9 a8 aa ah a0 a5 ac ad ag a2 a6 a1 a4 ae) = 0 →
 (-9223372036854775808 : Int) ≤ (am + 1) ∧ (am + 1) < 9223372036854775808 ∧
 ∀ (au : World), Ext no al au →
 ∃ b6, b6 < az ∧ I0 b6 [.int .i64 (am + 1)] au)) ∧
 ((am : Int) = 2 →
 ((forkcheck_Proof_places.F a3 ab af aj ai a7 a9 a8 aa ah a0 a5 ac ad ag a2 a6 a1 a4 ae) ≠ 0 →
 ∀ (aq : World), Ext no al aq →
 R (.int .i64 (forkcheck_Proof_places.F a3 ab af aj ai a7 a9 a8 aa ah a0 a5 ac ad ag a2 a6 a1 a4 ae)) aq) ∧
 ((forkcheck_Proof_places.F a3 ab af aj ai a7 a9 a8 aa ah a0 a5 ac ad ag a2 a6 a1 a4 ae) = 0 →
 (-9223372036854775808 : Int) ≤ (am + 1) ∧ (am + 1) < 9223372036854775808 ∧
 ∀ (aq : World), Ext no al aq →
 ∃ b5, b5 < az ∧ I0 b5 [.int .i64 (am + 1)] aq)) ∧
 ((am : Int) = 3 →
 Calls Try.prog 44 #[.agg #[.int .i64 a3, .int .i64 ab, .int .u64 af, .int .i64 aj, .int .i64 ai, .int .i64 a7, .slice a9 a8 aa, .int .u64 ah, .int .i64 a0, .int .i64 a5, .int .u64 ac, .int .i64 ad, .int .i64 ag, .int .i64 a2, .slice a6 a1 a4, .int .u64 ae]] al fun b1 aw => ∃ (ak : Int), b1 = .returned (.int .i64 ak) ∧
 Keep [b0] al aw ∧
 (ak ≠ 0 →
 R (.int .i64 ak) aw) ∧
 (ak = 0 →
 (-9223372036854775808 : Int) ≤ (am + 1) ∧ (am + 1) < 9223372036854775808 ∧
 ∃ b4, b4 < az ∧ I0 b4 [.int .i64 (am + 1)] aw))) ∧
 ((4 : Int) ≤ am →
 Calls Try.prog 45 #[.pointer o1, .int .u64 ap, .agg #[.int .i64 a3, .int .i64 ab, .int .u64 af, .int .i64 aj, .int .i64 ai, .int .i64 a7, .slice a9 a8 aa, .int .u64 ah]] al fun b3 av => ∃ (an : Bool), b3 = .returned (.bool an) ∧
 Keep [b0] al av ∧
 (an = false →
 R (.int .i64 6) av) ∧
 (an = true →
 Calls Try.prog 45 #[.pointer o1, .int .u64 ap, .agg #[.int .i64 a0, .int .i64 a5, .int .u64 ac, .int .i64 ad, .int .i64 ag, .int .i64 a2, .slice a6 a1 a4, .int .u64 ae]] av fun b2 ay => ∃ (ao : Bool), b2 = .returned (.bool ao) ∧
 (ao = false →
 R (.int .i64 6) ay) ∧
 (ao = true →
 R (.int .i64 0) ay)))

theorem forkcheck_Check.up (o1 : Option Addr) (al : Int) (a3 : Int) (ac : Int) (ag : Int) (ak : Int) (aj : Int) (a8 : Int) (aa : Option Addr) (a9 : Nat) (ab : Nat) (ai : Int) (a0 : Int) (a5 : Int) (ad : Int) (ae : Int) (ah : Int) (a2 : Int) (a6 : Option Addr) (a1 : Nat) (a4 : Nat) (af : Int) {R : Value → World → Prop} {w : World} (h : forkcheck_Check.N o1 al a3 ac ag ak aj a8 aa a9 ab ai a0 a5 ad ae ah a2 a6 a1 a4 af R w) : forkcheck_Check.M o1 al a3 ac ag ak aj a8 aa a9 ab ai a0 a5 ad ae ah a2 a6 a1 a4 af R w := by
  unfold forkcheck_Check.M
  unfold forkcheck_Check.N at h
  refine thenW_in fun az b6 => ?_
  have a7 := Blk.of_new b6
  have bh := ((Ext.refl no w)).size
  have b3 := (Ext.refl no w).x_alloc b6
  refine ⟨a3, ac, ag, ak, aj, a8, aa, a9, ab, ai, a0, a5, ad, ae, ah, a2, a6, a1, a4, af, ⟨a7.celli 0 rfl rfl, a7.celli 1 rfl rfl, a7.celli 2 rfl rfl, a7.celli 3 rfl rfl, a7.celli 4 rfl rfl, a7.celli 5 rfl rfl, a7.celli 6 rfl rfl, a7.celli 7 rfl rfl, a7.celli 8 rfl rfl, a7.celli 9 rfl rfl, a7.celli 10 rfl rfl, a7.celli 11 rfl rfl, a7.celli 12 rfl rfl, a7.celli 13 rfl rfl, a7.celli 14 rfl rfl, a7.celli 15 rfl rfl, trivial⟩, ?_⟩
  refine ⟨a3, ac, ag, ak, aj, a8, aa, a9, ab, ai, a0, a5, ad, ae, ah, a2, a6, a1, a4, af, ⟨a7.celli 0 rfl rfl, a7.celli 1 rfl rfl, a7.celli 2 rfl rfl, a7.celli 3 rfl rfl, a7.celli 4 rfl rfl, a7.celli 5 rfl rfl, a7.celli 6 rfl rfl, a7.celli 7 rfl rfl, a7.celli 8 rfl rfl, a7.celli 9 rfl rfl, a7.celli 10 rfl rfl, a7.celli 11 rfl rfl, a7.celli 12 rfl rfl, a7.celli 13 rfl rfl, a7.celli 14 rfl rfl, a7.celli 15 rfl rfl, trivial⟩, ?_⟩
  refine ⟨a3, ac, ag, ak, aj, a8, aa, a9, ab, ai, a0, a5, ad, ae, ah, a2, a6, a1, a4, af, ⟨a7.celli 0 rfl rfl, a7.celli 1 rfl rfl, a7.celli 2 rfl rfl, a7.celli 3 rfl rfl, a7.celli 4 rfl rfl, a7.celli 5 rfl rfl, a7.celli 6 rfl rfl, a7.celli 7 rfl rfl, a7.celli 8 rfl rfl, a7.celli 9 rfl rfl, a7.celli 10 rfl rfl, a7.celli 11 rfl rfl, a7.celli 12 rfl rfl, a7.celli 13 rfl rfl, a7.celli 14 rfl rfl, a7.celli 15 rfl rfl, trivial⟩, ?_⟩
  refine ⟨a3, ac, ag, ak, aj, a8, aa, a9, ab, ai, a0, a5, ad, ae, ah, a2, a6, a1, a4, af, ⟨a7.celli 0 rfl rfl, a7.celli 1 rfl rfl, a7.celli 2 rfl rfl, a7.celli 3 rfl rfl, a7.celli 4 rfl rfl, a7.celli 5 rfl rfl, a7.celli 6 rfl rfl, a7.celli 7 rfl rfl, a7.celli 8 rfl rfl, a7.celli 9 rfl rfl, a7.celli 10 rfl rfl, a7.celli 11 rfl rfl, a7.celli 12 rfl rfl, a7.celli 13 rfl rfl, a7.celli 14 rfl rfl, a7.celli 15 rfl rfl, trivial⟩, ?_⟩
  have h := h az (w.heap.size) b3 (Priv.cons bh a7.lt Priv.nil)
  obtain ⟨I0, bl, h0, h⟩ := h
  refine ⟨fun k vs ww => Blk ww w.heap.size 44 [.int .i64 a3, .int .i64 ac, .int .u64 ag, .int .i64 ak, .int .i64 aj, .int .i64 a8, .slice aa a9 ab, .int .u64 ai, .int .i64 a0, .int .i64 a5, .int .u64 ad, .int .i64 ae, .int .i64 ah, .int .i64 a2, .slice a6 a1 a4, .int .u64 af] ∧ I0 k vs ww, bl, ⟨a7, h0⟩, fun bd ap bj hI => ?_⟩
  obtain ⟨a7, hI⟩ := hI
  have h := h bd ap bj hI
  refine bif_of (fun b0 => ?_) (fun b0 => ?_)
  · have h := h.1 (of_decide_eq_true b0)
    obtain ⟨bm, b8, h⟩ := h
    refine ⟨bm, b8, ?_⟩
    refine ⟨fun hk => ?_, fun hk => ?_, fun hk => ?_, fun hk => ?_, trivial⟩
    · have h := h.1 hk
      refine (forkcheck_Proof_right.pure a3 ac ag ak aj a8 aa a9 ab ai a0 a5 ad ae ah a2 a6 a1 a4 af).mono fun ee ww26 ⟨he, hxx⟩ => ⟨(forkcheck_Proof_right.F a3 ac ag ak aj a8 aa a9 ab ai a0 a5 ad ae ah a2 a6 a1 a4 af), he, ?_⟩
      have aw := (Ext.refl no ap).trans hxx
      have a7 := a7.ext hxx id
      refine bif_of (fun b4 => ?_) (fun b4 => ?_)
      · have h := h.1 (bne_t b4)
        have h := h ww26 aw
        exact h
      · have h := h.2 (bne_f b4)
        obtain ⟨aq, ar, h⟩ := h
        try rw [w64 aq ar]
        have h := h ww26 aw
        obtain ⟨bg, hk, h⟩ := h
        exact ⟨bg, hk, a7, h⟩
    · have h := h.2.1 hk
      refine (forkcheck_Proof_writers.pure a3 ac ag ak aj a8 aa a9 ab ai a0 a5 ad ae ah a2 a6 a1 a4 af).mono fun ee ww29 ⟨he, hxx⟩ => ⟨(forkcheck_Proof_writers.F a3 ac ag ak aj a8 aa a9 ab ai a0 a5 ad ae ah a2 a6 a1 a4 af), he, ?_⟩
      have au := (Ext.refl no ap).trans hxx
      have a7 := a7.ext hxx id
      refine bif_of (fun ax => ?_) (fun ax => ?_)
      · have h := h.1 (bne_t ax)
        have h := h ww29 au
        exact h
      · have h := h.2 (bne_f ax)
        obtain ⟨aq, ar, h⟩ := h
        try rw [w64 aq ar]
        have h := h ww29 au
        obtain ⟨bf, hk, h⟩ := h
        exact ⟨bf, hk, a7, h⟩
    · have h := h.2.2.1 hk
      refine (forkcheck_Proof_places.pure a3 ac ag ak aj a8 aa a9 ab ai a0 a5 ad ae ah a2 a6 a1 a4 af).mono fun ee ww32 ⟨he, hxx⟩ => ⟨(forkcheck_Proof_places.F a3 ac ag ak aj a8 aa a9 ab ai a0 a5 ad ae ah a2 a6 a1 a4 af), he, ?_⟩
      have av := (Ext.refl no ap).trans hxx
      have a7 := a7.ext hxx id
      refine bif_of (fun b1 => ?_) (fun b1 => ?_)
      · have h := h.1 (bne_t b1)
        have h := h ww32 av
        exact h
      · have h := h.2 (bne_f b1)
        obtain ⟨aq, ar, h⟩ := h
        try rw [w64 aq ar]
        have h := h ww32 av
        obtain ⟨ba, hk, h⟩ := h
        exact ⟨ba, hk, a7, h⟩
    · have h := h.2.2.2 hk
      refine h.mono fun be bb h => ?_
      obtain ⟨ao, he, hk, h⟩ := h
      refine ⟨ao, he, ?_⟩
      have a7 := hk.blk a7 (by simp)
      refine bif_of (fun b2 => ?_) (fun b2 => ?_)
      · have h := h.1 (bne_t b2)
        exact h
      · have h := h.2 (bne_f b2)
        obtain ⟨aq, ar, h⟩ := h
        try rw [w64 aq ar]
        obtain ⟨b7, hk, h⟩ := h
        exact ⟨b7, hk, a7, h⟩
  · have h := h.2 (Int.not_lt.1 (of_decide_eq_false b0))
    refine ⟨a3, ac, ag, ak, aj, a8, aa, a9, ab, ai, ⟨a7.celli 0 rfl rfl, a7.celli 1 rfl rfl, a7.celli 2 rfl rfl, a7.celli 3 rfl rfl, a7.celli 4 rfl rfl, a7.celli 5 rfl rfl, a7.celli 6 rfl rfl, a7.celli 7 rfl rfl, trivial⟩, ?_⟩
    refine h.mono fun bk b9 h => ?_
    obtain ⟨am, he, hk, h⟩ := h
    refine ⟨am, he, ?_⟩
    have a7 := hk.blk a7 (by simp)
    refine bif_of (fun b5 => ?_) (fun b5 => ?_)
    · have h := h.1 (not_t b5)
      exact h
    · have h := h.2 (not_f b5)
      refine ⟨a0, a5, ad, ae, ah, a2, a6, a1, a4, af, ⟨a7.celli 8 rfl rfl, a7.celli 9 rfl rfl, a7.celli 10 rfl rfl, a7.celli 11 rfl rfl, a7.celli 12 rfl rfl, a7.celli 13 rfl rfl, a7.celli 14 rfl rfl, a7.celli 15 rfl rfl, trivial⟩, ?_⟩
      refine h.mono fun bi bc h => ?_
      obtain ⟨an, he, h⟩ := h
      refine ⟨an, he, ?_⟩
      refine bif_of (fun ay => ?_) (fun ay => ?_)
      · have h := h.1 (not_t ay)
        exact h
      · have h := h.2 (not_f ay)
        exact h

theorem forkcheck_Check.go (o1 : Option Addr) (a9 : Int) (a3 : Int) (ac : Int) (ag : Int) (ak : Int) (aj : Int) (a7 : Int) (aa : Option Addr) (a8 : Nat) (ab : Nat) (ai : Int) (a0 : Int) (a5 : Int) (ad : Int) (ae : Int) (ah : Int) (a2 : Int) (a6 : Option Addr) (a1 : Nat) (a4 : Nat) (af : Int) {R : Value → World → Prop} {w : World} (h : forkcheck_Check.N o1 a9 a3 ac ag ak aj a7 aa a8 ab ai a0 a5 ad ae ah a2 a6 a1 a4 af R w) : Calls Try.prog 14 #[.pointer o1, .int .u64 a9, .agg #[.int .i64 a3, .int .i64 ac, .int .u64 ag, .int .i64 ak, .int .i64 aj, .int .i64 a7, .slice aa a8 ab, .int .u64 ai, .int .i64 a0, .int .i64 a5, .int .u64 ad, .int .i64 ae, .int .i64 ah, .int .i64 a2, .slice a6 a1 a4, .int .u64 af]] w fun e w' => ∃ v, e = .returned v ∧ R v w' := forkcheck_Check.ok o1 a9 a3 ac ag ak aj a7 aa a8 ab ai a0 a5 ad ae ah a2 a6 a1 a4 af (forkcheck_Check.up o1 a9 a3 ac ag ak aj a7 aa a8 ab ai a0 a5 ad ae ah a2 a6 a1 a4 af h)
theorem forkcheck_Check.run (o1 : Option Addr) (a9 : Int) (a3 : Int) (ac : Int) (ag : Int) (ak : Int) (aj : Int) (a7 : Int) (aa : Option Addr) (a8 : Nat) (ab : Nat) (ai : Int) (a0 : Int) (a5 : Int) (ad : Int) (ae : Int) (ah : Int) (a2 : Int) (a6 : Option Addr) (a1 : Nat) (a4 : Nat) (af : Int) {V : Value} {Q : World → Prop} {w : World} (h : forkcheck_Check.N o1 a9 a3 ac ag ak aj a7 aa a8 ab ai a0 a5 ad ae ah a2 a6 a1 a4 af (fun v w' => v = V ∧ Q w') w) : Calls Try.prog 14 #[.pointer o1, .int .u64 a9, .agg #[.int .i64 a3, .int .i64 ac, .int .u64 ag, .int .i64 ak, .int .i64 aj, .int .i64 a7, .slice aa a8 ab, .int .u64 ai, .int .i64 a0, .int .i64 a5, .int .u64 ad, .int .i64 ae, .int .i64 ah, .int .i64 a2, .slice a6 a1 a4, .int .u64 af]] w (Ret V Q) := (forkcheck_Check.go o1 a9 a3 ac ag ak aj a7 aa a8 ab ai a0 a5 ad ae ah a2 a6 a1 a4 af h).mono fun e w' ⟨v, he, hv, hq⟩ => ⟨by rw [he, hv], hq⟩

/-- forkcheck.own -/
def forkcheck_own.M (ar : Int) (ax : Int) (b0 : Int) (b5 : Int) (b4 : Int) (aw : Int) (av : Option Addr) (ay : Nat) (au : Nat) (b8 : Int) (R : Value → World → Prop) (w : World) : Prop :=
 thenW (w.alloc (.cells #[.int .i64 ar, .int .i64 ax, .int .u64 b0, .int .i64 b5, .int .i64 b4, .int .i64 aw, .slice av ay au, .int .u64 b8] 29)) fun a8 =>
 thenW (a8.alloc (.cells #[.int .i64 0, .int .i64 0, .int .u64 0, .int .i64 0, .int .i64 0, .int .i64 0, .slice none 0 0, .int .u64 0] 29)) fun b6 =>
 ∃ (al : Option Addr) (ak : Nat) (an : Nat), b6.cell? ((blk w.heap.size).add 6) = some (.slice al ak an) ∧
 Calls Try.prog 70 #[.slice al ak an] b6 fun be bd => ∃ (ac : Option Addr) (ah : Nat) (ag : Nat), be = .returned (.slice ac ah ag) ∧
 canStore bd (((blk w.heap.size).add 6).add 0) ∧
 thenW (bd.setCell (((blk w.heap.size).add 6).add 0) (.slice ac ah ag)) fun az =>
 ∃ (a6 : Int) (ab : Int) (am : Int) (ap : Int) (aq : Int) (a9 : Int) (aj : Option Addr) (af : Nat) (ae : Nat) (ao : Int), cellsAt az (blk w.heap.size) [.int .i64 a6, .int .i64 ab, .int .u64 am, .int .i64 ap, .int .i64 aq, .int .i64 a9, .slice aj af ae, .int .u64 ao] 0 ∧
 canStore az ((blk a8.heap.size).add 0) ∧
 thenW (az.setCell ((blk a8.heap.size).add 0) (.int .i64 a6)) fun bb =>
 canStore bb ((blk a8.heap.size).add 1) ∧
 thenW (bb.setCell ((blk a8.heap.size).add 1) (.int .i64 ab)) fun b3 =>
 canStore b3 ((blk a8.heap.size).add 2) ∧
 thenW (b3.setCell ((blk a8.heap.size).add 2) (.int .u64 am)) fun b2 =>
 canStore b2 ((blk a8.heap.size).add 3) ∧
 thenW (b2.setCell ((blk a8.heap.size).add 3) (.int .i64 ap)) fun bc =>
 canStore bc ((blk a8.heap.size).add 4) ∧
 thenW (bc.setCell ((blk a8.heap.size).add 4) (.int .i64 aq)) fun b1 =>
 canStore b1 ((blk a8.heap.size).add 5) ∧
 thenW (b1.setCell ((blk a8.heap.size).add 5) (.int .i64 a9)) fun b9 =>
 canStore b9 ((blk a8.heap.size).add 6) ∧
 thenW (b9.setCell ((blk a8.heap.size).add 6) (.slice aj af ae)) fun b7 =>
 canStore b7 ((blk a8.heap.size).add 7) ∧
 thenW (b7.setCell ((blk a8.heap.size).add 7) (.int .u64 ao)) fun ba =>
 ∃ (a0 : Int) (a1 : Int) (a7 : Int) (ai : Int) (aa : Int) (a4 : Int) (a5 : Option Addr) (a3 : Nat) (a2 : Nat) (ad : Int), cellsAt ba (blk a8.heap.size) [.int .i64 a0, .int .i64 a1, .int .u64 a7, .int .i64 ai, .int .i64 aa, .int .i64 a4, .slice a5 a3 a2, .int .u64 ad] 0 ∧
 R (.agg #[.int .i64 a0, .int .i64 a1, .int .u64 a7, .int .i64 ai, .int .i64 aa, .int .i64 a4, .slice a5 a3 a2, .int .u64 ad]) ba

theorem forkcheck_own.eq (eWriter1 : Int) (eIndex2 : Int) (ePrev3 : Int) (eAtT4 : Int) (eAtW5 : Int) (eEpoch6 : Int) (eBody7a : Option Addr) (eBody7n : Nat) (eBody7c : Nat) (eSig8 : Int) (R : Value → World → Prop) (w : World) : mfunc Try.prog [] 39 [.agg #[.int .i64 eWriter1, .int .i64 eIndex2, .int .u64 ePrev3, .int .i64 eAtT4, .int .i64 eAtW5, .int .i64 eEpoch6, .slice eBody7a eBody7n eBody7c, .int .u64 eSig8]] R w = forkcheck_own.M eWriter1 eIndex2 ePrev3 eAtT4 eAtW5 eEpoch6 eBody7a eBody7n eBody7c eSig8 R w := by kernel_rfl
theorem forkcheck_own.ok (a0 : Int) (a1 : Int) (a6 : Int) (a8 : Int) (a9 : Int) (a5 : Int) (a2 : Option Addr) (a4 : Nat) (a3 : Nat) (a7 : Int) {R : Value → World → Prop} {w : World} (h : forkcheck_own.M a0 a1 a6 a8 a9 a5 a2 a4 a3 a7 R w) : Calls Try.prog 39 #[.agg #[.int .i64 a0, .int .i64 a1, .int .u64 a6, .int .i64 a8, .int .i64 a9, .int .i64 a5, .slice a2 a4 a3, .int .u64 a7]] w fun e w' => ∃ v, e = .returned v ∧ R v w' :=
  mfunc_ok follows (H := []) (args := [.agg #[.int .i64 a0, .int .i64 a1, .int .u64 a6, .int .i64 a8, .int .i64 a9, .int .i64 a5, .slice a2 a4 a3, .int .u64 a7]]) (by rw [forkcheck_own.eq]; exact h)

def forkcheck_own.N (a3 : Int) (a6 : Int) (aa : Int) (ad : Int) (ac : Int) (a9 : Int) (a5 : Option Addr) (a8 : Nat) (a4 : Nat) (ae : Int) (R : Value → World → Prop) (w : World) : Prop :=
 ∀ (a7 : World) (ag : Nat) (ah : Nat), Ext no w a7 → Priv w a7 [ag, ah] →
 Calls Try.prog 70 #[.slice a5 a8 a4] a7 fun ai ab => ∃ (a2 : Option Addr) (a1 : Nat) (a0 : Nat), ai = .returned (.slice a2 a1 a0) ∧
 Keep [ag, ah] a7 ab ∧
 ∀ (af : World), Ext (fun b => b = ah ∨ b = ag) ab af →
 R (.agg #[.int .i64 a3, .int .i64 a6, .int .u64 aa, .int .i64 ad, .int .i64 ac, .int .i64 a9, .slice a2 a1 a0, .int .u64 ae]) af

theorem forkcheck_own.up (a0 : Int) (a1 : Int) (a2 : Int) (a8 : Int) (a9 : Int) (a3 : Int) (ac : Option Addr) (ad : Nat) (ab : Nat) (aa : Int) {R : Value → World → Prop} {w : World} (h : forkcheck_own.N a0 a1 a2 a8 a9 a3 ac ad ab aa R w) : forkcheck_own.M a0 a1 a2 a8 a9 a3 ac ad ab aa R w := by
  unfold forkcheck_own.M
  unfold forkcheck_own.N at h
  refine thenW_in fun ae e9 => ?_
  have af := Blk.of_new e9
  have bi := ((Ext.refl no w)).size
  have bf := (Ext.refl no w).x_alloc e9
  refine thenW_in fun b0 az => ?_
  have a7 := Blk.of_new az
  have bj := (bf).size
  have ah := Nat.ne_of_lt af.lt
  have af := af.x_alloc az
  have b6 := bf.x_alloc az
  refine ⟨ac, ad, ab, af.celli 6 rfl rfl, ?_⟩
  have h := h b0 (w.heap.size) (ae.heap.size) b6 (Priv.cons bi af.lt (Priv.cons bj a7.lt Priv.nil))
  refine h.mono fun bh ag h => ?_
  obtain ⟨a6, a5, a4, he, hk, h⟩ := h
  refine ⟨a6, a5, a4, he, ?_⟩
  have af := hk.blk af (by simp)
  have a7 := hk.blk a7 (by simp)
  have ap : Ext (fun b => b = w.heap.size) ag ag := ((Ext.refl no ag)).none
  refine ⟨af.cani 6 rfl rfl, thenW_in fun ai b7 => ?_⟩
  have au := ap.x_set (q := w.heap.size) (i := 6) rfl (.inl rfl) b7
  have af : Blk ai w.heap.size 29 [.int .i64 a0, .int .i64 a1, .int .u64 a2, .int .i64 a8, .int .i64 a9, .int .i64 a3, .slice a6 a5 a4, .int .u64 aa] := af.seti 6 rfl b7
  have a7 := a7.oth (q := w.heap.size) (i := 6) rfl (Ne.symm ah) b7
  refine ⟨a0, a1, a2, a8, a9, a3, a6, a5, a4, aa, ⟨af.celli 0 rfl rfl, af.celli 1 rfl rfl, af.celli 2 rfl rfl, af.celli 3 rfl rfl, af.celli 4 rfl rfl, af.celli 5 rfl rfl, af.celli 6 rfl rfl, af.celli 7 rfl rfl, trivial⟩, ?_⟩
  have al : Ext (fun b => b = ae.heap.size ∨ b = w.heap.size) ag ai := (au).mono fun _ h _ => .inr h
  refine ⟨a7.cani 0 rfl rfl, thenW_in fun av bg => ?_⟩
  have aq := al.x_set (q := ae.heap.size) (i := 0) rfl (.inl (.inl rfl)) bg
  have a7 : Blk av ae.heap.size 29 [.int .i64 a0, .int .i64 0, .int .u64 0, .int .i64 0, .int .i64 0, .int .i64 0, .slice none 0 0, .int .u64 0] := a7.seti 0 rfl bg
  refine ⟨a7.cani 1 rfl rfl, thenW_in fun ak b9 => ?_⟩
  have ao := aq.x_set (q := ae.heap.size) (i := 1) rfl (.inl (.inl rfl)) b9
  have a7 : Blk ak ae.heap.size 29 [.int .i64 a0, .int .i64 a1, .int .u64 0, .int .i64 0, .int .i64 0, .int .i64 0, .slice none 0 0, .int .u64 0] := a7.seti 1 rfl b9
  refine ⟨a7.cani 2 rfl rfl, thenW_in fun ar bc => ?_⟩
  have b5 := ao.x_set (q := ae.heap.size) (i := 2) rfl (.inl (.inl rfl)) bc
  have a7 : Blk ar ae.heap.size 29 [.int .i64 a0, .int .i64 a1, .int .u64 a2, .int .i64 0, .int .i64 0, .int .i64 0, .slice none 0 0, .int .u64 0] := a7.seti 2 rfl bc
  refine ⟨a7.cani 3 rfl rfl, thenW_in fun ay ba => ?_⟩
  have b3 := b5.x_set (q := ae.heap.size) (i := 3) rfl (.inl (.inl rfl)) ba
  have a7 : Blk ay ae.heap.size 29 [.int .i64 a0, .int .i64 a1, .int .u64 a2, .int .i64 a8, .int .i64 0, .int .i64 0, .slice none 0 0, .int .u64 0] := a7.seti 3 rfl ba
  refine ⟨a7.cani 4 rfl rfl, thenW_in fun b4 be => ?_⟩
  have an := b3.x_set (q := ae.heap.size) (i := 4) rfl (.inl (.inl rfl)) be
  have a7 : Blk b4 ae.heap.size 29 [.int .i64 a0, .int .i64 a1, .int .u64 a2, .int .i64 a8, .int .i64 a9, .int .i64 0, .slice none 0 0, .int .u64 0] := a7.seti 4 rfl be
  refine ⟨a7.cani 5 rfl rfl, thenW_in fun ax bb => ?_⟩
  have am := an.x_set (q := ae.heap.size) (i := 5) rfl (.inl (.inl rfl)) bb
  have a7 : Blk ax ae.heap.size 29 [.int .i64 a0, .int .i64 a1, .int .u64 a2, .int .i64 a8, .int .i64 a9, .int .i64 a3, .slice none 0 0, .int .u64 0] := a7.seti 5 rfl bb
  refine ⟨a7.cani 6 rfl rfl, thenW_in fun b1 b8 => ?_⟩
  have aw := am.x_set (q := ae.heap.size) (i := 6) rfl (.inl (.inl rfl)) b8
  have a7 : Blk b1 ae.heap.size 29 [.int .i64 a0, .int .i64 a1, .int .u64 a2, .int .i64 a8, .int .i64 a9, .int .i64 a3, .slice a6 a5 a4, .int .u64 0] := a7.seti 6 rfl b8
  refine ⟨a7.cani 7 rfl rfl, thenW_in fun aj bd => ?_⟩
  have b2 := aw.x_set (q := ae.heap.size) (i := 7) rfl (.inl (.inl rfl)) bd
  have a7 : Blk aj ae.heap.size 29 [.int .i64 a0, .int .i64 a1, .int .u64 a2, .int .i64 a8, .int .i64 a9, .int .i64 a3, .slice a6 a5 a4, .int .u64 aa] := a7.seti 7 rfl bd
  refine ⟨a0, a1, a2, a8, a9, a3, a6, a5, a4, aa, ⟨a7.celli 0 rfl rfl, a7.celli 1 rfl rfl, a7.celli 2 rfl rfl, a7.celli 3 rfl rfl, a7.celli 4 rfl rfl, a7.celli 5 rfl rfl, a7.celli 6 rfl rfl, a7.celli 7 rfl rfl, trivial⟩, ?_⟩
  have h := h aj b2
  exact h

theorem forkcheck_own.go (a0 : Int) (a1 : Int) (a6 : Int) (a8 : Int) (a9 : Int) (a5 : Int) (a2 : Option Addr) (a4 : Nat) (a3 : Nat) (a7 : Int) {R : Value → World → Prop} {w : World} (h : forkcheck_own.N a0 a1 a6 a8 a9 a5 a2 a4 a3 a7 R w) : Calls Try.prog 39 #[.agg #[.int .i64 a0, .int .i64 a1, .int .u64 a6, .int .i64 a8, .int .i64 a9, .int .i64 a5, .slice a2 a4 a3, .int .u64 a7]] w fun e w' => ∃ v, e = .returned v ∧ R v w' := forkcheck_own.ok a0 a1 a6 a8 a9 a5 a2 a4 a3 a7 (forkcheck_own.up a0 a1 a6 a8 a9 a5 a2 a4 a3 a7 h)
/-- forkcheck.NewAlarm -/
def forkcheck_NewAlarm.M  (R : Value → World → Prop) (w : World) : Prop :=
 thenW (w.alloc (.map #[] 0)) fun a0 =>
 thenW (a0.alloc (.cells #[.map (some w.heap.size)] 122)) fun a1 =>
 R (.pointer (some (blk a0.heap.size))) a1

theorem forkcheck_NewAlarm.eq  (R : Value → World → Prop) (w : World) : mfunc Try.prog [] 29 [] R w = forkcheck_NewAlarm.M  R w := by kernel_rfl
theorem forkcheck_NewAlarm.ok  {R : Value → World → Prop} {w : World} (h : forkcheck_NewAlarm.M  R w) : Calls Try.prog 29 #[] w fun e w' => ∃ v, e = .returned v ∧ R v w' :=
  mfunc_ok follows (H := []) (args := []) (by rw [forkcheck_NewAlarm.eq]; exact h)

def forkcheck_NewAlarm.N  (R : Value → World → Prop) (w : World) : Prop :=
 ∀ (a0 : World) (q2 : Nat), Ext no w a0 → a0.heap[q2]? = some (.map #[] 0) → w.heap.size ≤ q2 → q2 < a0.heap.size →
 ∀ (a1 : World) (q4 : Nat), Ext no a0 a1 → Blk a1 q4 122 [.map (some q2)] → a0.heap.size ≤ q4 → q4 < a1.heap.size →
 R (.pointer (some (blk q4))) a1

theorem forkcheck_NewAlarm.up  {R : Value → World → Prop} {w : World} (h : forkcheck_NewAlarm.N  R w) : forkcheck_NewAlarm.M  R w := by
  unfold forkcheck_NewAlarm.M
  unfold forkcheck_NewAlarm.N at h
  refine thenW_in fun a0 e1 => ?_
  have h := h a0 w.heap.size ((Ext.refl no w).x_alloc e1) (get_alloc e1) (Nat.le_refl _) (size_lt_alloc e1)
  refine thenW_in fun a1 e3 => ?_
  have h := h a1 a0.heap.size ((Ext.refl no a0).x_alloc e3) (Blk.of_new e3) ((Ext.refl no a0)).size (size_lt_alloc e3)
  exact h

theorem forkcheck_NewAlarm.go  {R : Value → World → Prop} {w : World} (h : forkcheck_NewAlarm.N  R w) : Calls Try.prog 29 #[] w fun e w' => ∃ v, e = .returned v ∧ R v w' := forkcheck_NewAlarm.ok  (forkcheck_NewAlarm.up  h)
/-- (*forkcheck.Alarm).Raise -/
def forkcheck_Alarm_Raise.M (a1 : Option Addr) (o2 : Option Addr) (cr : Int) (ch : Int) (cu : Int) (d1 : Int) (d5 : Int) (d4 : Int) (ct : Int) (ci : Option Addr) (ca : Nat) (cc : Nat) (d0 : Int) (bs : Int) (c9 : Int) (cv : Int) (d2 : Int) (cy : Int) (cg : Int) (ce : Option Addr) (cb : Nat) (cf : Nat) (cz : Int) (R : Value → World → Prop) (w : World) : Prop :=
 thenW (w.alloc (.cells #[.int .i64 ch, .int .i64 cu, .int .u64 d1, .int .i64 d5, .int .i64 d4, .int .i64 ct, .slice ci ca cc, .int .u64 d0, .int .i64 bs, .int .i64 c9, .int .u64 cv, .int .i64 d2, .int .i64 cy, .int .i64 cg, .slice ce cb cf, .int .u64 cz] 44)) fun d6 =>
 bif Option.isNone a1 then (
 R (.int .i64 23) d6) else (
 ∃ (aj : Int) (au : Int) (b7 : Int) (c7 : Int) (c4 : Int) (aw : Int) (ar : Option Addr) (ay : Nat) (az : Nat) (bz : Int) (ac : Int) (ap : Int) (bm : Int) (c2 : Int) (c5 : Int) (av : Int) (b1 : Option Addr) (ax : Nat) (aq : Nat) (c3 : Int), cellsAt d6 (blk w.heap.size) [.int .i64 aj, .int .i64 au, .int .u64 b7, .int .i64 c7, .int .i64 c4, .int .i64 aw, .slice ar ay az, .int .u64 bz, .int .i64 ac, .int .i64 ap, .int .u64 bm, .int .i64 c2, .int .i64 c5, .int .i64 av, .slice b1 ax aq, .int .u64 c3] 0 ∧
 Calls Try.prog 14 #[.pointer o2, .int .u64 cr, .agg #[.int .i64 aj, .int .i64 au, .int .u64 b7, .int .i64 c7, .int .i64 c4, .int .i64 aw, .slice ar ay az, .int .u64 bz, .int .i64 ac, .int .i64 ap, .int .u64 bm, .int .i64 c2, .int .i64 c5, .int .i64 av, .slice b1 ax aq, .int .u64 c3]] d6 fun dt d7 => ∃ (b5 : Int), dt = .returned (.int .i64 b5) ∧
 bif b5 != 0 then (
 R (.int .i64 b5) d7) else (
 thenW (d7.drew) fun a0 =>
 a1.elim False fun dw =>
 ∃ (ds : Option Nat), a0.cell? (dw.add 0) = some (.map ds) ∧
 ∃ (a2 : Int), a0.cell? (((blk w.heap.size).add 0).add 0) = some (.int .i64 a2) ∧
 ∃ (a5 : Int) (a7 : Int) (b2 : Int) (bt : Int) (bu : Int) (a9 : Int) (ah : Option Addr) (ae : Nat) (an : Nat) (bo : Int) (a6 : Int) (al : Int) (b3 : Int) (br : Int) (bp : Int) (af : Int) (ad : Option Addr) (ak : Nat) (ab : Nat) (bw : Int) (dv : Bool), (Instr.lookup 120 (.map ds) (.int .i64 a2) true).run Try.prog a0 = .ok (.tuple #[.agg #[.int .i64 a5, .int .i64 a7, .int .u64 b2, .int .i64 bt, .int .i64 bu, .int .i64 a9, .slice ah ae an, .int .u64 bo, .int .i64 a6, .int .i64 al, .int .u64 b3, .int .i64 br, .int .i64 bp, .int .i64 af, .slice ad ak ab, .int .u64 bw], .bool dv]) a0 ∧
 thenW (a0.alloc (.cells #[.int .i64 0, .int .i64 0, .int .u64 0, .int .i64 0, .int .i64 0, .int .i64 0, .slice none 0 0, .int .u64 0, .int .i64 0, .int .i64 0, .int .u64 0, .int .i64 0, .int .i64 0, .int .i64 0, .slice none 0 0, .int .u64 0] 44)) fun cd =>
 (Instr.lookup 120 (.map ds) (.int .i64 a2) true).run Try.prog cd = .ok (.tuple #[.agg #[.int .i64 a5, .int .i64 a7, .int .u64 b2, .int .i64 bt, .int .i64 bu, .int .i64 a9, .slice ah ae an, .int .u64 bo, .int .i64 a6, .int .i64 al, .int .u64 b3, .int .i64 br, .int .i64 bp, .int .i64 af, .slice ad ak ab, .int .u64 bw], .bool dv]) cd ∧
 cd.cell? (((blk w.heap.size).add 0).add 0) = some (.int .i64 a2) ∧
 cd.cell? (dw.add 0) = some (.map ds) ∧
 canStore cd ((blk a0.heap.size).add 0) ∧
 thenW (cd.setCell ((blk a0.heap.size).add 0) (.int .i64 a5)) fun de =>
 canStore de ((blk a0.heap.size).add 1) ∧
 thenW (de.setCell ((blk a0.heap.size).add 1) (.int .i64 a7)) fun df =>
 canStore df ((blk a0.heap.size).add 2) ∧
 thenW (df.setCell ((blk a0.heap.size).add 2) (.int .u64 b2)) fun dq =>
 canStore dq ((blk a0.heap.size).add 3) ∧
 thenW (dq.setCell ((blk a0.heap.size).add 3) (.int .i64 bt)) fun di =>
 canStore di ((blk a0.heap.size).add 4) ∧
 thenW (di.setCell ((blk a0.heap.size).add 4) (.int .i64 bu)) fun dp =>
 canStore dp ((blk a0.heap.size).add 5) ∧
 thenW (dp.setCell ((blk a0.heap.size).add 5) (.int .i64 a9)) fun dk =>
 canStore dk ((blk a0.heap.size).add 6) ∧
 thenW (dk.setCell ((blk a0.heap.size).add 6) (.slice ah ae an)) fun dj =>
 canStore dj ((blk a0.heap.size).add 7) ∧
 thenW (dj.setCell ((blk a0.heap.size).add 7) (.int .u64 bo)) fun d9 =>
 canStore d9 ((blk a0.heap.size).add 8) ∧
 thenW (d9.setCell ((blk a0.heap.size).add 8) (.int .i64 a6)) fun dh =>
 canStore dh ((blk a0.heap.size).add 9) ∧
 thenW (dh.setCell ((blk a0.heap.size).add 9) (.int .i64 al)) fun dm =>
 canStore dm ((blk a0.heap.size).add 10) ∧
 thenW (dm.setCell ((blk a0.heap.size).add 10) (.int .u64 b3)) fun dd =>
 canStore dd ((blk a0.heap.size).add 11) ∧
 thenW (dd.setCell ((blk a0.heap.size).add 11) (.int .i64 br)) fun dc =>
 canStore dc ((blk a0.heap.size).add 12) ∧
 thenW (dc.setCell ((blk a0.heap.size).add 12) (.int .i64 bp)) fun db =>
 canStore db ((blk a0.heap.size).add 13) ∧
 thenW (db.setCell ((blk a0.heap.size).add 13) (.int .i64 af)) fun da =>
 canStore da ((blk a0.heap.size).add 14) ∧
 thenW (da.setCell ((blk a0.heap.size).add 14) (.slice ad ak ab)) fun dg =>
 canStore dg ((blk a0.heap.size).add 15) ∧
 thenW (dg.setCell ((blk a0.heap.size).add 15) (.int .u64 bw)) fun d8 =>
 bif !dv then (
 thenW (d8.drew) fun ck =>
 a1.elim False fun du =>
 ∃ (dr : Option Nat), ck.cell? (du.add 0) = some (.map dr) ∧
 ∃ (a3 : Int), ck.cell? (((blk w.heap.size).add 0).add 0) = some (.int .i64 a3) ∧
 ∃ (b0 : Int) (bd : Int) (c6 : Int) (cm : Int) (cl : Int) (b6 : Int) (bb : Option Addr) (bj : Nat) (bi : Nat) (cn : Int), cellsAt ck ((blk w.heap.size).add 0) [.int .i64 b0, .int .i64 bd, .int .u64 c6, .int .i64 cm, .int .i64 cl, .int .i64 b6, .slice bb bj bi, .int .u64 cn] 0 ∧
 ∃ (a4 : Int) (ag : Int) (b4 : Int) (bv : Int) (bq : Int) (a8 : Int) (ai : Option Addr) (aa : Nat) (am : Nat) (bn : Int), cellsAt ck ((blk w.heap.size).add 8) [.int .i64 a4, .int .i64 ag, .int .u64 b4, .int .i64 bv, .int .i64 bq, .int .i64 a8, .slice ai aa am, .int .u64 bn] 0 ∧
 Calls Try.prog 39 #[.agg #[.int .i64 b0, .int .i64 bd, .int .u64 c6, .int .i64 cm, .int .i64 cl, .int .i64 b6, .slice bb bj bi, .int .u64 cn]] ck fun dl c8 => ∃ (b9 : Int) (c1 : Int) (bx : Int) (cj : Int) (co : Int) (bh : Int) (bg : Option Addr) (be : Nat) (b8 : Nat) (cs : Int), dl = .returned (.agg #[.int .i64 b9, .int .i64 c1, .int .u64 bx, .int .i64 cj, .int .i64 co, .int .i64 bh, .slice bg be b8, .int .u64 cs]) ∧
 cellsAt c8 ((blk w.heap.size).add 8) [.int .i64 a4, .int .i64 ag, .int .u64 b4, .int .i64 bv, .int .i64 bq, .int .i64 a8, .slice ai aa am, .int .u64 bn] 0 ∧
 c8.cell? (((blk w.heap.size).add 0).add 0) = some (.int .i64 a3) ∧
 c8.cell? (du.add 0) = some (.map dr) ∧
 Calls Try.prog 39 #[.agg #[.int .i64 a4, .int .i64 ag, .int .u64 b4, .int .i64 bv, .int .i64 bq, .int .i64 a8, .slice ai aa am, .int .u64 bn]] c8 fun dn cx => ∃ (ao : Int) (ba : Int) (c0 : Int) (cp : Int) (cq : Int) (bl : Int) (bf : Option Addr) (bk : Nat) (bc : Nat) (cw : Int), dn = .returned (.agg #[.int .i64 ao, .int .i64 ba, .int .u64 c0, .int .i64 cp, .int .i64 cq, .int .i64 bl, .slice bf bk bc, .int .u64 cw]) ∧
 cx.cell? (((blk w.heap.size).add 0).add 0) = some (.int .i64 a3) ∧
 cx.cell? (du.add 0) = some (.map dr) ∧
 ∃ d3 : World, (Instr.mapUpdate 120 (.map dr) (.int .i64 a3) (.agg #[.int .i64 b9, .int .i64 c1, .int .u64 bx, .int .i64 cj, .int .i64 co, .int .i64 bh, .slice bg be b8, .int .u64 cs, .int .i64 ao, .int .i64 ba, .int .u64 c0, .int .i64 cp, .int .i64 cq, .int .i64 bl, .slice bf bk bc, .int .u64 cw])).run Try.prog cx = .ok () d3 ∧
 R (.int .i64 0) d3) else (
 R (.int .i64 0) d8)))

theorem forkcheck_Alarm_Raise.eq (a1 : Option Addr) (o2 : Option Addr) (publicv3 : Int) (pAWriter4 : Int) (pAIndex5 : Int) (pAPrev6 : Int) (pAAtT7 : Int) (pAAtW8 : Int) (pAEpoch9 : Int) (pABody10a : Option Addr) (pABody10n : Nat) (pABody10c : Nat) (pASig11 : Int) (pBWriter12 : Int) (pBIndex13 : Int) (pBPrev14 : Int) (pBAtT15 : Int) (pBAtW16 : Int) (pBEpoch17 : Int) (pBBody18a : Option Addr) (pBBody18n : Nat) (pBBody18c : Nat) (pBSig19 : Int) (R : Value → World → Prop) (w : World) : mfunc Try.prog [] 30 [.pointer a1, .pointer o2, .int .u64 publicv3, .agg #[.int .i64 pAWriter4, .int .i64 pAIndex5, .int .u64 pAPrev6, .int .i64 pAAtT7, .int .i64 pAAtW8, .int .i64 pAEpoch9, .slice pABody10a pABody10n pABody10c, .int .u64 pASig11, .int .i64 pBWriter12, .int .i64 pBIndex13, .int .u64 pBPrev14, .int .i64 pBAtT15, .int .i64 pBAtW16, .int .i64 pBEpoch17, .slice pBBody18a pBBody18n pBBody18c, .int .u64 pBSig19]] R w = forkcheck_Alarm_Raise.M a1 o2 publicv3 pAWriter4 pAIndex5 pAPrev6 pAAtT7 pAAtW8 pAEpoch9 pABody10a pABody10n pABody10c pASig11 pBWriter12 pBIndex13 pBPrev14 pBAtT15 pBAtW16 pBEpoch17 pBBody18a pBBody18n pBBody18c pBSig19 R w := by kernel_rfl
theorem forkcheck_Alarm_Raise.ok (a1 : Option Addr) (o2 : Option Addr) (ac : Int) (a3 : Int) (ab : Int) (ag : Int) (ak : Int) (al : Int) (ae : Int) (a6 : Option Addr) (a4 : Nat) (a9 : Nat) (af : Int) (a0 : Int) (aa : Int) (ad : Int) (ah : Int) (ai : Int) (a8 : Int) (a2 : Option Addr) (a7 : Nat) (a5 : Nat) (aj : Int) {R : Value → World → Prop} {w : World} (h : forkcheck_Alarm_Raise.M a1 o2 ac a3 ab ag ak al ae a6 a4 a9 af a0 aa ad ah ai a8 a2 a7 a5 aj R w) : Calls Try.prog 30 #[.pointer a1, .pointer o2, .int .u64 ac, .agg #[.int .i64 a3, .int .i64 ab, .int .u64 ag, .int .i64 ak, .int .i64 al, .int .i64 ae, .slice a6 a4 a9, .int .u64 af, .int .i64 a0, .int .i64 aa, .int .u64 ad, .int .i64 ah, .int .i64 ai, .int .i64 a8, .slice a2 a7 a5, .int .u64 aj]] w fun e w' => ∃ v, e = .returned v ∧ R v w' :=
  mfunc_ok follows (H := []) (args := [.pointer a1, .pointer o2, .int .u64 ac, .agg #[.int .i64 a3, .int .i64 ab, .int .u64 ag, .int .i64 ak, .int .i64 al, .int .i64 ae, .slice a6 a4 a9, .int .u64 af, .int .i64 a0, .int .i64 aa, .int .u64 ad, .int .i64 ah, .int .i64 ai, .int .i64 a8, .slice a2 a7 a5, .int .u64 aj]]) (by rw [forkcheck_Alarm_Raise.eq]; exact h)

def forkcheck_Alarm_Raise.N (a1 : Option Addr) (o2 : Option Addr) (bi : Int) (a0 : Int) (aq : Int) (bb : Int) (bk : Int) (bj : Int) (ao : Int) (ad : Option Addr) (a5 : Nat) (a7 : Nat) (ba : Int) (a3 : Int) (a4 : Int) (ar : Int) (bc : Int) (b8 : Int) (aa : Int) (a8 : Option Addr) (a6 : Nat) (a9 : Nat) (bd : Int) (R : Value → World → Prop) (w : World) : Prop :=
 (a1 = none →
 ∀ (av : World), Ext no w av →
 R (.int .i64 23) av) ∧
 (a1 ≠ none →
 ∀ (av : World) (c5 : Nat), Ext no w av → Priv w av [c5] →
 Calls Try.prog 14 #[.pointer o2, .int .u64 bi, .agg #[.int .i64 a0, .int .i64 aq, .int .u64 bb, .int .i64 bk, .int .i64 bj, .int .i64 ao, .slice ad a5 a7, .int .u64 ba, .int .i64 a3, .int .i64 a4, .int .u64 ar, .int .i64 bc, .int .i64 b8, .int .i64 aa, .slice a8 a6 a9, .int .u64 bd]] av fun cb bq => ∃ (a2 : Int), cb = .returned (.int .i64 a2) ∧
 Keep [c5] av bq ∧
 (a2 ≠ 0 →
 R (.int .i64 a2) bq) ∧
 (a2 = 0 →
 ∃ c1 : Addr, a1 = some c1 ∧
 ∃ (c6 : Option Nat), bq.cell? (c1.add 0) = some (.map c6) ∧
 ∀ (bo : World), Ext no bq bo →
 ∃ (ac : Int) (ah : Int) (ax : Int) (bl : Int) (bm : Int) (af : Int) (ap : Option Addr) (ag : Nat) (al : Nat) (bp : Int) (ab : Int) (aj : Int) (b1 : Int) (be : Int) (bf : Int) (am : Int) (ak : Option Addr) (an : Nat) (au : Nat) (bh : Int) (c7 : Bool), (Instr.lookup 120 (.map c6) (.int .i64 a0) true).run Try.prog bo = .ok (.tuple #[.agg #[.int .i64 ac, .int .i64 ah, .int .u64 ax, .int .i64 bl, .int .i64 bm, .int .i64 af, .slice ap ag al, .int .u64 bp, .int .i64 ab, .int .i64 aj, .int .u64 b1, .int .i64 be, .int .i64 bf, .int .i64 am, .slice ak an au, .int .u64 bh], .bool c7]) bo ∧
 ∀ (aw : World) (c9 : Nat), Ext no bo aw → Priv bo aw [c9] →
 (Instr.lookup 120 (.map c6) (.int .i64 a0) true).run Try.prog aw = .ok (.tuple #[.agg #[.int .i64 ac, .int .i64 ah, .int .u64 ax, .int .i64 bl, .int .i64 bm, .int .i64 af, .slice ap ag al, .int .u64 bp, .int .i64 ab, .int .i64 aj, .int .u64 b1, .int .i64 be, .int .i64 bf, .int .i64 am, .slice ak an au, .int .u64 bh], .bool c7]) aw ∧
 aw.cell? (c1.add 0) = some (.map c6) ∧
 (c7 = false →
 ∀ (bs : World), Ext (fun b => b = c9) aw bs →
 ∃ (c4 : Option Nat), bs.cell? (c1.add 0) = some (.map c4) ∧
 Calls Try.prog 39 #[.agg #[.int .i64 a0, .int .i64 aq, .int .u64 bb, .int .i64 bk, .int .i64 bj, .int .i64 ao, .slice ad a5 a7, .int .u64 ba]] bs fun ca br => ∃ (ai : Int) (b7 : Int) (bn : Int) (bz : Int) (bu : Int) (b3 : Int) (b2 : Option Addr) (b4 : Nat) (b6 : Nat) (bv : Int), ca = .returned (.agg #[.int .i64 ai, .int .i64 b7, .int .u64 bn, .int .i64 bz, .int .i64 bu, .int .i64 b3, .slice b2 b4 b6, .int .u64 bv]) ∧
 Keep [c5] bs br ∧
 br.cell? (c1.add 0) = some (.map c4) ∧
 Calls Try.prog 39 #[.agg #[.int .i64 a3, .int .i64 a4, .int .u64 ar, .int .i64 bc, .int .i64 b8, .int .i64 aa, .slice a8 a6 a9, .int .u64 bd]] br fun c8 c0 => ∃ (ae : Int) (az : Int) (bg : Int) (bx : Int) (bw : Int) (b0 : Int) (ay : Option Addr) (b9 : Nat) (b5 : Nat) (bt : Int), c8 = .returned (.agg #[.int .i64 ae, .int .i64 az, .int .u64 bg, .int .i64 bx, .int .i64 bw, .int .i64 b0, .slice ay b9 b5, .int .u64 bt]) ∧
 Keep [c5] br c0 ∧
 c0.cell? (c1.add 0) = some (.map c4) ∧
 ∃ (c3 : World), (Instr.mapUpdate 120 (.map c4) (.int .i64 a0) (.agg #[.int .i64 ai, .int .i64 b7, .int .u64 bn, .int .i64 bz, .int .i64 bu, .int .i64 b3, .slice b2 b4 b6, .int .u64 bv, .int .i64 ae, .int .i64 az, .int .u64 bg, .int .i64 bx, .int .i64 bw, .int .i64 b0, .slice ay b9 b5, .int .u64 bt])).run Try.prog c0 = .ok () c3 ∧
 R (.int .i64 0) c3) ∧
 (c7 = true →
 ∀ (c2 : World), Ext (fun b => b = c9) aw c2 →
 R (.int .i64 0) c2)))

theorem forkcheck_Alarm_Raise.up (a1 : Option Addr) (o2 : Option Addr) (ba : Int) (ag : Int) (aw : Int) (b1 : Int) (b9 : Int) (b8 : Int) (av : Int) (ar : Option Addr) (al : Nat) (an : Nat) (b0 : Int) (aj : Int) (ak : Int) (ax : Int) (b2 : Int) (az : Int) (aq : Int) (ao : Option Addr) (am : Nat) (ap : Nat) (b3 : Int) {R : Value → World → Prop} {w : World} (h : forkcheck_Alarm_Raise.N a1 o2 ba ag aw b1 b9 b8 av ar al an b0 aj ak ax b2 az aq ao am ap b3 R w) : forkcheck_Alarm_Raise.M a1 o2 ba ag aw b1 b9 b8 av ar al an b0 aj ak ax b2 az aq ao am ap b3 R w := by
  unfold forkcheck_Alarm_Raise.M
  unfold forkcheck_Alarm_Raise.N at h
  refine thenW_in fun c3 dx => ?_
  have a4 := Blk.of_new dx
  have e1 := ((Ext.refl no w)).size
  have bx := (Ext.refl no w).x_alloc dx
  refine bif_of (fun cr => ?_) (fun cr => ?_)
  · have h := h.1 (isNone_t cr)
    have h := h c3 bx
    exact h
  · have h := h.2 (isNone_f cr)
    refine ⟨ag, aw, b1, b9, b8, av, ar, al, an, b0, aj, ak, ax, b2, az, aq, ao, am, ap, b3, ⟨a4.celli 0 rfl rfl, a4.celli 1 rfl rfl, a4.celli 2 rfl rfl, a4.celli 3 rfl rfl, a4.celli 4 rfl rfl, a4.celli 5 rfl rfl, a4.celli 6 rfl rfl, a4.celli 7 rfl rfl, a4.celli 8 rfl rfl, a4.celli 9 rfl rfl, a4.celli 10 rfl rfl, a4.celli 11 rfl rfl, a4.celli 12 rfl rfl, a4.celli 13 rfl rfl, a4.celli 14 rfl rfl, a4.celli 15 rfl rfl, trivial⟩, ?_⟩
    have h := h c3 (w.heap.size) bx (Priv.cons e1 a4.lt Priv.nil)
    refine h.mono fun e9 ck h => ?_
    obtain ⟨bf, he, hk, h⟩ := h
    refine ⟨bf, he, ?_⟩
    have a4 := hk.blk a4 (by simp)
    refine bif_of (fun ce => ?_) (fun ce => ?_)
    · have h := h.1 (bne_t ce)
      exact h
    · have h := h.2 (bne_f ce)
      refine thenW_in fun a2 dz => ?_
      have c2 := (Ext.refl no ck).x_drew dz
      have a4 := a4.x_drew dz
      obtain ⟨ea, c1, h⟩ := h
      refine elim_some c1 ?_
      obtain ⟨e6, d8, h⟩ := h
      refine ⟨e6, (c2).cell d8 id, ?_⟩
      refine ⟨ag, a4.celli 0 rfl rfl, ?_⟩
      have h := h a2 c2
      obtain ⟨a0, a3, a5, ab, ac, a6, a9, a7, a8, ah, aa, ad, ai, ay, b4, au, b5, b6, b7, bc, e7, ca, h⟩ := h
      refine ⟨a0, a3, a5, ab, ac, a6, a9, a7, a8, ah, aa, ad, ai, ay, b4, au, b5, b6, b7, bc, e7, ca, ?_⟩
      refine thenW_in fun bp d2 => ?_
      have af := Blk.of_new d2
      have e2 := ((Ext.refl no a2)).size
      have ae := Nat.ne_of_lt a4.lt
      have a4 := a4.x_alloc d2
      have di := (Ext.refl no a2).x_alloc d2
      have h := h bp (a2.heap.size) di (Priv.cons e2 af.lt Priv.nil)
      obtain ⟨c9, ct, h⟩ := h
      refine ⟨c9, a4.celli 0 rfl rfl, ct, ?_⟩
      have c7 : Ext (fun b => b = a2.heap.size) bp bp := ((Ext.refl no bp)).none
      refine ⟨af.cani 0 rfl rfl, thenW_in fun dc d4 => ?_⟩
      have dd := c7.x_set (q := a2.heap.size) (i := 0) rfl (.inl rfl) d4
      have a4 := a4.oth (q := a2.heap.size) (i := 0) rfl ae d4
      have af : Blk dc a2.heap.size 44 [.int .i64 a0, .int .i64 0, .int .u64 0, .int .i64 0, .int .i64 0, .int .i64 0, .slice none 0 0, .int .u64 0, .int .i64 0, .int .i64 0, .int .u64 0, .int .i64 0, .int .i64 0, .int .i64 0, .slice none 0 0, .int .u64 0] := af.seti 0 rfl d4
      refine ⟨af.cani 1 rfl rfl, thenW_in fun ch dn => ?_⟩
      have cp := dd.x_set (q := a2.heap.size) (i := 1) rfl (.inl rfl) dn
      have a4 := a4.oth (q := a2.heap.size) (i := 1) rfl ae dn
      have af : Blk ch a2.heap.size 44 [.int .i64 a0, .int .i64 a3, .int .u64 0, .int .i64 0, .int .i64 0, .int .i64 0, .slice none 0 0, .int .u64 0, .int .i64 0, .int .i64 0, .int .u64 0, .int .i64 0, .int .i64 0, .int .i64 0, .slice none 0 0, .int .u64 0] := af.seti 1 rfl dn
      refine ⟨af.cani 2 rfl rfl, thenW_in fun d0 dk => ?_⟩
      have cc := cp.x_set (q := a2.heap.size) (i := 2) rfl (.inl rfl) dk
      have a4 := a4.oth (q := a2.heap.size) (i := 2) rfl ae dk
      have af : Blk d0 a2.heap.size 44 [.int .i64 a0, .int .i64 a3, .int .u64 a5, .int .i64 0, .int .i64 0, .int .i64 0, .slice none 0 0, .int .u64 0, .int .i64 0, .int .i64 0, .int .u64 0, .int .i64 0, .int .i64 0, .int .i64 0, .slice none 0 0, .int .u64 0] := af.seti 2 rfl dk
      refine ⟨af.cani 3 rfl rfl, thenW_in fun dr c8 => ?_⟩
      have dv := cc.x_set (q := a2.heap.size) (i := 3) rfl (.inl rfl) c8
      have a4 := a4.oth (q := a2.heap.size) (i := 3) rfl ae c8
      have af : Blk dr a2.heap.size 44 [.int .i64 a0, .int .i64 a3, .int .u64 a5, .int .i64 ab, .int .i64 0, .int .i64 0, .slice none 0 0, .int .u64 0, .int .i64 0, .int .i64 0, .int .u64 0, .int .i64 0, .int .i64 0, .int .i64 0, .slice none 0 0, .int .u64 0] := af.seti 3 rfl c8
      refine ⟨af.cani 4 rfl rfl, thenW_in fun d9 cy => ?_⟩
      have cn := dv.x_set (q := a2.heap.size) (i := 4) rfl (.inl rfl) cy
      have a4 := a4.oth (q := a2.heap.size) (i := 4) rfl ae cy
      have af : Blk d9 a2.heap.size 44 [.int .i64 a0, .int .i64 a3, .int .u64 a5, .int .i64 ab, .int .i64 ac, .int .i64 0, .slice none 0 0, .int .u64 0, .int .i64 0, .int .i64 0, .int .u64 0, .int .i64 0, .int .i64 0, .int .i64 0, .slice none 0 0, .int .u64 0] := af.seti 4 rfl cy
      refine ⟨af.cani 5 rfl rfl, thenW_in fun d5 du => ?_⟩
      have dl := cn.x_set (q := a2.heap.size) (i := 5) rfl (.inl rfl) du
      have a4 := a4.oth (q := a2.heap.size) (i := 5) rfl ae du
      have af : Blk d5 a2.heap.size 44 [.int .i64 a0, .int .i64 a3, .int .u64 a5, .int .i64 ab, .int .i64 ac, .int .i64 a6, .slice none 0 0, .int .u64 0, .int .i64 0, .int .i64 0, .int .u64 0, .int .i64 0, .int .i64 0, .int .i64 0, .slice none 0 0, .int .u64 0] := af.seti 5 rfl du
      refine ⟨af.cani 6 rfl rfl, thenW_in fun cf cv => ?_⟩
      have da := dl.x_set (q := a2.heap.size) (i := 6) rfl (.inl rfl) cv
      have a4 := a4.oth (q := a2.heap.size) (i := 6) rfl ae cv
      have af : Blk cf a2.heap.size 44 [.int .i64 a0, .int .i64 a3, .int .u64 a5, .int .i64 ab, .int .i64 ac, .int .i64 a6, .slice a9 a7 a8, .int .u64 0, .int .i64 0, .int .i64 0, .int .u64 0, .int .i64 0, .int .i64 0, .int .i64 0, .slice none 0 0, .int .u64 0] := af.seti 6 rfl cv
      refine ⟨af.cani 7 rfl rfl, thenW_in fun cz dj => ?_⟩
      have d1 := da.x_set (q := a2.heap.size) (i := 7) rfl (.inl rfl) dj
      have a4 := a4.oth (q := a2.heap.size) (i := 7) rfl ae dj
      have af : Blk cz a2.heap.size 44 [.int .i64 a0, .int .i64 a3, .int .u64 a5, .int .i64 ab, .int .i64 ac, .int .i64 a6, .slice a9 a7 a8, .int .u64 ah, .int .i64 0, .int .i64 0, .int .u64 0, .int .i64 0, .int .i64 0, .int .i64 0, .slice none 0 0, .int .u64 0] := af.seti 7 rfl dj
      refine ⟨af.cani 8 rfl rfl, thenW_in fun co cu => ?_⟩
      have dq := d1.x_set (q := a2.heap.size) (i := 8) rfl (.inl rfl) cu
      have a4 := a4.oth (q := a2.heap.size) (i := 8) rfl ae cu
      have af : Blk co a2.heap.size 44 [.int .i64 a0, .int .i64 a3, .int .u64 a5, .int .i64 ab, .int .i64 ac, .int .i64 a6, .slice a9 a7 a8, .int .u64 ah, .int .i64 aa, .int .i64 0, .int .u64 0, .int .i64 0, .int .i64 0, .int .i64 0, .slice none 0 0, .int .u64 0] := af.seti 8 rfl cu
      refine ⟨af.cani 9 rfl rfl, thenW_in fun cs cb => ?_⟩
      have c6 := dq.x_set (q := a2.heap.size) (i := 9) rfl (.inl rfl) cb
      have a4 := a4.oth (q := a2.heap.size) (i := 9) rfl ae cb
      have af : Blk cs a2.heap.size 44 [.int .i64 a0, .int .i64 a3, .int .u64 a5, .int .i64 ab, .int .i64 ac, .int .i64 a6, .slice a9 a7 a8, .int .u64 ah, .int .i64 aa, .int .i64 ad, .int .u64 0, .int .i64 0, .int .i64 0, .int .i64 0, .slice none 0 0, .int .u64 0] := af.seti 9 rfl cb
      refine ⟨af.cani 10 rfl rfl, thenW_in fun ds ci => ?_⟩
      have cj := c6.x_set (q := a2.heap.size) (i := 10) rfl (.inl rfl) ci
      have a4 := a4.oth (q := a2.heap.size) (i := 10) rfl ae ci
      have af : Blk ds a2.heap.size 44 [.int .i64 a0, .int .i64 a3, .int .u64 a5, .int .i64 ab, .int .i64 ac, .int .i64 a6, .slice a9 a7 a8, .int .u64 ah, .int .i64 aa, .int .i64 ad, .int .u64 ai, .int .i64 0, .int .i64 0, .int .i64 0, .slice none 0 0, .int .u64 0] := af.seti 10 rfl ci
      refine ⟨af.cani 11 rfl rfl, thenW_in fun cw cq => ?_⟩
      have d6 := cj.x_set (q := a2.heap.size) (i := 11) rfl (.inl rfl) cq
      have a4 := a4.oth (q := a2.heap.size) (i := 11) rfl ae cq
      have af : Blk cw a2.heap.size 44 [.int .i64 a0, .int .i64 a3, .int .u64 a5, .int .i64 ab, .int .i64 ac, .int .i64 a6, .slice a9 a7 a8, .int .u64 ah, .int .i64 aa, .int .i64 ad, .int .u64 ai, .int .i64 ay, .int .i64 0, .int .i64 0, .slice none 0 0, .int .u64 0] := af.seti 11 rfl cq
      refine ⟨af.cani 12 rfl rfl, thenW_in fun dp cd => ?_⟩
      have c5 := d6.x_set (q := a2.heap.size) (i := 12) rfl (.inl rfl) cd
      have a4 := a4.oth (q := a2.heap.size) (i := 12) rfl ae cd
      have af : Blk dp a2.heap.size 44 [.int .i64 a0, .int .i64 a3, .int .u64 a5, .int .i64 ab, .int .i64 ac, .int .i64 a6, .slice a9 a7 a8, .int .u64 ah, .int .i64 aa, .int .i64 ad, .int .u64 ai, .int .i64 ay, .int .i64 b4, .int .i64 0, .slice none 0 0, .int .u64 0] := af.seti 12 rfl cd
      refine ⟨af.cani 13 rfl rfl, thenW_in fun db cl => ?_⟩
      have dw := c5.x_set (q := a2.heap.size) (i := 13) rfl (.inl rfl) cl
      have a4 := a4.oth (q := a2.heap.size) (i := 13) rfl ae cl
      have af : Blk db a2.heap.size 44 [.int .i64 a0, .int .i64 a3, .int .u64 a5, .int .i64 ab, .int .i64 ac, .int .i64 a6, .slice a9 a7 a8, .int .u64 ah, .int .i64 aa, .int .i64 ad, .int .u64 ai, .int .i64 ay, .int .i64 b4, .int .i64 au, .slice none 0 0, .int .u64 0] := af.seti 13 rfl cl
      refine ⟨af.cani 14 rfl rfl, thenW_in fun d7 cx => ?_⟩
      have d3 := dw.x_set (q := a2.heap.size) (i := 14) rfl (.inl rfl) cx
      have a4 := a4.oth (q := a2.heap.size) (i := 14) rfl ae cx
      have af : Blk d7 a2.heap.size 44 [.int .i64 a0, .int .i64 a3, .int .u64 a5, .int .i64 ab, .int .i64 ac, .int .i64 a6, .slice a9 a7 a8, .int .u64 ah, .int .i64 aa, .int .i64 ad, .int .u64 ai, .int .i64 ay, .int .i64 b4, .int .i64 au, .slice b5 b6 b7, .int .u64 0] := af.seti 14 rfl cx
      refine ⟨af.cani 15 rfl rfl, thenW_in fun bu dg => ?_⟩
      have c4 := d3.x_set (q := a2.heap.size) (i := 15) rfl (.inl rfl) dg
      have a4 := a4.oth (q := a2.heap.size) (i := 15) rfl ae dg
      have af : Blk bu a2.heap.size 44 [.int .i64 a0, .int .i64 a3, .int .u64 a5, .int .i64 ab, .int .i64 ac, .int .i64 a6, .slice a9 a7 a8, .int .u64 ah, .int .i64 aa, .int .i64 ad, .int .u64 ai, .int .i64 ay, .int .i64 b4, .int .i64 au, .slice b5 b6 b7, .int .u64 bc] := af.seti 15 rfl dg
      refine bif_of (fun dt => ?_) (fun dt => ?_)
      · have h := h.1 (not_t dt)
        refine thenW_in fun df dy => ?_
        have cg := c4.x_drew dy
        have a4 := a4.x_drew dy
        refine elim_some c1 ?_
        have h := h df cg
        obtain ⟨e0, dm, h⟩ := h
        refine ⟨e0, dm, ?_⟩
        refine ⟨ag, a4.celli 0 rfl rfl, ?_⟩
        refine ⟨ag, aw, b1, b9, b8, av, ar, al, an, b0, ⟨a4.celli 0 rfl rfl, a4.celli 1 rfl rfl, a4.celli 2 rfl rfl, a4.celli 3 rfl rfl, a4.celli 4 rfl rfl, a4.celli 5 rfl rfl, a4.celli 6 rfl rfl, a4.celli 7 rfl rfl, trivial⟩, ?_⟩
        refine ⟨aj, ak, ax, b2, az, aq, ao, am, ap, b3, ⟨a4.celli 8 rfl rfl, a4.celli 9 rfl rfl, a4.celli 10 rfl rfl, a4.celli 11 rfl rfl, a4.celli 12 rfl rfl, a4.celli 13 rfl rfl, a4.celli 14 rfl rfl, a4.celli 15 rfl rfl, trivial⟩, ?_⟩
        refine h.mono fun e8 e4 h => ?_
        obtain ⟨bd, bn, br, c0, bt, bj, bi, bk, bm, bv, he, hk, h⟩ := h
        refine ⟨bd, bn, br, c0, bt, bj, bi, bk, bm, bv, he, ?_⟩
        have a4 := hk.blk a4 (by simp)
        obtain ⟨cm, h⟩ := h
        refine ⟨⟨a4.celli 8 rfl rfl, a4.celli 9 rfl rfl, a4.celli 10 rfl rfl, a4.celli 11 rfl rfl, a4.celli 12 rfl rfl, a4.celli 13 rfl rfl, a4.celli 14 rfl rfl, a4.celli 15 rfl rfl, trivial⟩, a4.celli 0 rfl rfl, cm, ?_⟩
        refine h.mono fun e3 e5 h => ?_
        obtain ⟨bb, bg, bq, bz, bw, bh, be, bo, bl, bs, he, hk, h⟩ := h
        refine ⟨bb, bg, bq, bz, bw, bh, be, bo, bl, bs, he, ?_⟩
        have a4 := hk.blk a4 (by simp)
        obtain ⟨de, h⟩ := h
        refine ⟨a4.celli 0 rfl rfl, de, ?_⟩
        obtain ⟨dh, hr, h⟩ := h
        refine ⟨dh, hr, ?_⟩
        exact h
      · have h := h.2 (not_f dt)
        have h := h bu c4
        exact h

theorem forkcheck_Alarm_Raise.go (a1 : Option Addr) (o2 : Option Addr) (ac : Int) (a3 : Int) (ab : Int) (ag : Int) (ak : Int) (al : Int) (ae : Int) (a6 : Option Addr) (a4 : Nat) (a9 : Nat) (af : Int) (a0 : Int) (aa : Int) (ad : Int) (ah : Int) (ai : Int) (a8 : Int) (a2 : Option Addr) (a7 : Nat) (a5 : Nat) (aj : Int) {R : Value → World → Prop} {w : World} (h : forkcheck_Alarm_Raise.N a1 o2 ac a3 ab ag ak al ae a6 a4 a9 af a0 aa ad ah ai a8 a2 a7 a5 aj R w) : Calls Try.prog 30 #[.pointer a1, .pointer o2, .int .u64 ac, .agg #[.int .i64 a3, .int .i64 ab, .int .u64 ag, .int .i64 ak, .int .i64 al, .int .i64 ae, .slice a6 a4 a9, .int .u64 af, .int .i64 a0, .int .i64 aa, .int .u64 ad, .int .i64 ah, .int .i64 ai, .int .i64 a8, .slice a2 a7 a5, .int .u64 aj]] w fun e w' => ∃ v, e = .returned v ∧ R v w' := forkcheck_Alarm_Raise.ok a1 o2 ac a3 ab ag ak al ae a6 a4 a9 af a0 aa ad ah ai a8 a2 a7 a5 aj (forkcheck_Alarm_Raise.up a1 o2 ac a3 ab ag ak al ae a6 a4 a9 af a0 aa ad ah ai a8 a2 a7 a5 aj h)
/-- (*forkcheck.Alarm).On -/
def forkcheck_Alarm_On.M (a1 : Option Addr) (R : Value → World → Prop) (w : World) : Prop :=
 bif !(Option.isNone a1) then (
 a1.elim False fun a2 =>
 ∃ (m3 : Option Nat), w.cell? (a2.add 0) = some (.map m3) ∧
 ∃ (n4 : Int), (Builtin.len_ #[120] 3 #[.map m3]).run Try.prog w = .ok (.int .i64 n4) w ∧
 R (.bool (decide (n4 > 0))) w) else (
 R (.bool false) w)

theorem forkcheck_Alarm_On.eq (a1 : Option Addr) (R : Value → World → Prop) (w : World) : mfunc Try.prog [] 31 [.pointer a1] R w = forkcheck_Alarm_On.M a1 R w := by kernel_rfl
theorem forkcheck_Alarm_On.ok (a1 : Option Addr) {R : Value → World → Prop} {w : World} (h : forkcheck_Alarm_On.M a1 R w) : Calls Try.prog 31 #[.pointer a1] w fun e w' => ∃ v, e = .returned v ∧ R v w' :=
  mfunc_ok follows (H := []) (args := [.pointer a1]) (by rw [forkcheck_Alarm_On.eq]; exact h)

def forkcheck_Alarm_On.N (a1 : Option Addr) (R : Value → World → Prop) (w : World) : Prop :=
 (a1 ≠ none →
 ∃ a3 : Addr, a1 = some a3 ∧
 ∃ (m5 : Option Nat), w.cell? (a3.add 0) = some (.map m5) ∧
 ∃ (n6 : Int), (Builtin.len_ #[120] 3 #[.map m5]).run Try.prog w = .ok (.int .i64 n6) w ∧
 R (.bool (decide (n6 > 0))) w) ∧
 (a1 = none →
 R (.bool false) w)

theorem forkcheck_Alarm_On.up (a1 : Option Addr) {R : Value → World → Prop} {w : World} (h : forkcheck_Alarm_On.N a1 R w) : forkcheck_Alarm_On.M a1 R w := by
  unfold forkcheck_Alarm_On.M
  unfold forkcheck_Alarm_On.N at h
  refine bif_of (fun c2 => ?_) (fun c2 => ?_)
  · have h := h.1 (isNone_f (not_t c2))
    obtain ⟨a3, a0, h⟩ := h
    refine elim_some a0 ?_
    obtain ⟨m5, a2, h⟩ := h
    refine ⟨m5, a2, ?_⟩
    obtain ⟨n6, a4, h⟩ := h
    refine ⟨n6, a4, ?_⟩
    exact h
  · have h := h.2 (isNone_t (not_f c2))
    exact h

theorem forkcheck_Alarm_On.go (a1 : Option Addr) {R : Value → World → Prop} {w : World} (h : forkcheck_Alarm_On.N a1 R w) : Calls Try.prog 31 #[.pointer a1] w fun e w' => ∃ v, e = .returned v ∧ R v w' := forkcheck_Alarm_On.ok a1 (forkcheck_Alarm_On.up a1 h)
theorem forkcheck_Alarm_On.run (a1 : Option Addr) {V : Value} {Q : World → Prop} {w : World} (h : forkcheck_Alarm_On.N a1 (fun v w' => v = V ∧ Q w') w) : Calls Try.prog 31 #[.pointer a1] w (Ret V Q) := (forkcheck_Alarm_On.go a1 h).mono fun e w' ⟨v, he, hv, hq⟩ => ⟨by rw [he, hv], hq⟩

/-- cachettelaw23.alive -/
def cachettelaw23_alive.M  (R : Value → World → Prop) (w : World) : Prop :=
 Calls Try.prog 6 #[.slice none 0 0] w fun d6 d7 => ∃ (bb : Option Addr), d6 = .returned (.pointer bb) ∧
 Calls Try.prog 7 #[.pointer bb] d7 fun d5 d2 => ∃ (bp : Int) (bt : Int), d5 = .returned (.tuple #[.int .u64 bp, .int .u64 bt]) ∧
 thenW (d2.alloc (.cells #[.int .u8 120] 5)) fun d4 =>
 ∃ (d3 : Option Addr) (d0 : Nat) (d1 : Nat) (c5 : World), (convert 23 23 (.slice (some (blk d2.heap.size)) 1 1)).run Try.prog d4 = .ok (.slice d3 d0 d1) c5 ∧
 Calls Try.prog 28 #[.pointer bb, .int .u64 bp, .agg #[.int .i64 0, .int .i64 0, .int .u64 0, .int .i64 1, .int .i64 0, .int .i64 0, .slice d3 d0 d1, .int .u64 0]] c5 fun cs a0 => ∃ (aj : Int) (aw : Int) (bs : Int) (bx : Int) (bz : Int) (b9 : Int) (ax : Option Addr) (b2 : Nat) (av : Nat) (c1 : Int) (bj : Int), cs = .returned (.tuple #[.agg #[.int .i64 aj, .int .i64 aw, .int .u64 bs, .int .i64 bx, .int .i64 bz, .int .i64 b9, .slice ax b2 av, .int .u64 c1], .int .i64 bj]) ∧
 thenW (a0.alloc (.cells #[.int .i64 0, .int .i64 0, .int .u64 0, .int .i64 0, .int .i64 0, .int .i64 0, .slice none 0 0, .int .u64 0] 29)) fun cm =>
 canStore cm ((blk a0.heap.size).add 0) ∧
 thenW (cm.setCell ((blk a0.heap.size).add 0) (.int .i64 aj)) fun co =>
 canStore co ((blk a0.heap.size).add 1) ∧
 thenW (co.setCell ((blk a0.heap.size).add 1) (.int .i64 aw)) fun ce =>
 canStore ce ((blk a0.heap.size).add 2) ∧
 thenW (ce.setCell ((blk a0.heap.size).add 2) (.int .u64 bs)) fun cc =>
 canStore cc ((blk a0.heap.size).add 3) ∧
 thenW (cc.setCell ((blk a0.heap.size).add 3) (.int .i64 bx)) fun cb =>
 canStore cb ((blk a0.heap.size).add 4) ∧
 thenW (cb.setCell ((blk a0.heap.size).add 4) (.int .i64 bz)) fun cq =>
 canStore cq ((blk a0.heap.size).add 5) ∧
 thenW (cq.setCell ((blk a0.heap.size).add 5) (.int .i64 b9)) fun cj =>
 canStore cj ((blk a0.heap.size).add 6) ∧
 thenW (cj.setCell ((blk a0.heap.size).add 6) (.slice ax b2 av)) fun c6 =>
 canStore c6 ((blk a0.heap.size).add 7) ∧
 thenW (c6.setCell ((blk a0.heap.size).add 7) (.int .u64 c1)) fun ch =>
 thenW (ch.alloc (.cells #[.int .u8 121] 5)) fun cy =>
 ∃ (cl : Option Addr) (c4 : Nat) (cd : Nat) (cf : World), (convert 23 23 (.slice (some (blk ch.heap.size)) 1 1)).run Try.prog cy = .ok (.slice cl c4 cd) cf ∧
 Calls Try.prog 28 #[.pointer bb, .int .u64 bp, .agg #[.int .i64 0, .int .i64 0, .int .u64 0, .int .i64 1, .int .i64 0, .int .i64 0, .slice cl c4 cd, .int .u64 0]] cf fun ct a1 => ∃ (ar : Int) (ay : Int) (bc : Int) (bw : Int) (c2 : Int) (az : Int) (b1 : Option Addr) (b0 : Nat) (b5 : Nat) (c0 : Int) (br : Int), ct = .returned (.tuple #[.agg #[.int .i64 ar, .int .i64 ay, .int .u64 bc, .int .i64 bw, .int .i64 c2, .int .i64 az, .slice b1 b0 b5, .int .u64 c0], .int .i64 br]) ∧
 thenW (a1.alloc (.cells #[.int .i64 0, .int .i64 0, .int .u64 0, .int .i64 0, .int .i64 0, .int .i64 0, .slice none 0 0, .int .u64 0] 29)) fun c8 =>
 canStore c8 ((blk a1.heap.size).add 0) ∧
 thenW (c8.setCell ((blk a1.heap.size).add 0) (.int .i64 ar)) fun ck =>
 canStore ck ((blk a1.heap.size).add 1) ∧
 thenW (ck.setCell ((blk a1.heap.size).add 1) (.int .i64 ay)) fun ci =>
 canStore ci ((blk a1.heap.size).add 2) ∧
 thenW (ci.setCell ((blk a1.heap.size).add 2) (.int .u64 bc)) fun c7 =>
 canStore c7 ((blk a1.heap.size).add 3) ∧
 thenW (c7.setCell ((blk a1.heap.size).add 3) (.int .i64 bw)) fun ca =>
 canStore ca ((blk a1.heap.size).add 4) ∧
 thenW (ca.setCell ((blk a1.heap.size).add 4) (.int .i64 c2)) fun cn =>
 canStore cn ((blk a1.heap.size).add 5) ∧
 thenW (cn.setCell ((blk a1.heap.size).add 5) (.int .i64 az)) fun cp =>
 canStore cp ((blk a1.heap.size).add 6) ∧
 thenW (cp.setCell ((blk a1.heap.size).add 6) (.slice b1 b0 b5)) fun cg =>
 canStore cg ((blk a1.heap.size).add 7) ∧
 thenW (cg.setCell ((blk a1.heap.size).add 7) (.int .u64 c0)) fun cx =>
 Calls Try.prog 29 #[] cx fun cu c3 => ∃ (a2 : Option Addr), cu = .returned (.pointer a2) ∧
 ∃ (a4 : Int) (ab : Int) (b6 : Int) (bq : Int) (be : Int) (ad : Int) (af : Option Addr) (ae : Nat) (am : Nat) (bi : Int), cellsAt c3 (blk a0.heap.size) [.int .i64 a4, .int .i64 ab, .int .u64 b6, .int .i64 bq, .int .i64 be, .int .i64 ad, .slice af ae am, .int .u64 bi] 0 ∧
 ∃ (a3 : Int) (ai : Int) (b4 : Int) (bf : Int) (bh : Int) (ag : Int) (ao : Option Addr) (a9 : Nat) (ak : Nat) (bk : Int), cellsAt c3 (blk a1.heap.size) [.int .i64 a3, .int .i64 ai, .int .u64 b4, .int .i64 bf, .int .i64 bh, .int .i64 ag, .slice ao a9 ak, .int .u64 bk] 0 ∧
 Calls Try.prog 30 #[.pointer a2, .pointer bb, .int .u64 bt, .agg #[.int .i64 a4, .int .i64 ab, .int .u64 b6, .int .i64 bq, .int .i64 be, .int .i64 ad, .slice af ae am, .int .u64 bi, .int .i64 a3, .int .i64 ai, .int .u64 b4, .int .i64 bf, .int .i64 bh, .int .i64 ag, .slice ao a9 ak, .int .u64 bk]] c3 fun cr bv => ∃ (ba : Int), cr = .returned (.int .i64 ba) ∧
 bif bj == 0 then (
 bif br == 0 then (
 bif ba == 0 then (
 Calls Try.prog 31 #[.pointer a2] bv fun cv bu => ∃ (c9 : Bool), cv = .returned (.bool c9) ∧
 bif c9 then (
 ∃ (a5 : Int) (ah : Int) (b3 : Int) (bn : Int) (bm : Int) (aq : Int) (an : Option Addr) (al : Nat) (a7 : Nat) (bd : Int), cellsAt bu (blk a0.heap.size) [.int .i64 a5, .int .i64 ah, .int .u64 b3, .int .i64 bn, .int .i64 bm, .int .i64 aq, .slice an al a7, .int .u64 bd] 0 ∧
 ∃ (a6 : Int) (a8 : Int) (b8 : Int) (bg : Int) (bl : Int) (ac : Int) (aa : Option Addr) (au : Nat) (ap : Nat) (bo : Int), cellsAt bu (blk a0.heap.size) [.int .i64 a6, .int .i64 a8, .int .u64 b8, .int .i64 bg, .int .i64 bl, .int .i64 ac, .slice aa au ap, .int .u64 bo] 0 ∧
 Calls Try.prog 14 #[.pointer bb, .int .u64 bt, .agg #[.int .i64 a5, .int .i64 ah, .int .u64 b3, .int .i64 bn, .int .i64 bm, .int .i64 aq, .slice an al a7, .int .u64 bd, .int .i64 a6, .int .i64 a8, .int .u64 b8, .int .i64 bg, .int .i64 bl, .int .i64 ac, .slice aa au ap, .int .u64 bo]] bu fun cw cz => ∃ (b7 : Int), cw = .returned (.int .i64 b7) ∧
 R (.bool (b7 == 8)) cz) else (
 R (.bool false) bu)) else (
 R (.bool false) bv)) else (
 R (.bool false) bv)) else (
 R (.bool false) bv)

theorem cachettelaw23_alive.eq  (R : Value → World → Prop) (w : World) : mfunc Try.prog [] 5 [] R w = cachettelaw23_alive.M  R w := by kernel_rfl
theorem cachettelaw23_alive.ok  {R : Value → World → Prop} {w : World} (h : cachettelaw23_alive.M  R w) : Calls Try.prog 5 #[] w fun e w' => ∃ v, e = .returned v ∧ R v w' :=
  mfunc_ok follows (H := []) (args := []) (by rw [cachettelaw23_alive.eq]; exact h)

def cachettelaw23_alive.N  (R : Value → World → Prop) (w : World) : Prop :=
 Calls Try.prog 6 #[.slice none 0 0] w fun bo bn => ∃ (am : Option Addr), bo = .returned (.pointer am) ∧
 Calls Try.prog 7 #[.pointer am] bn fun bm bl => ∃ (ap : Int) (aq : Int), bm = .returned (.tuple #[.int .u64 ap, .int .u64 aq]) ∧
 ∀ (bc : World) (q9 : Nat), Ext no bl bc → Blk bc q9 5 [.int .u8 120] → bl.heap.size ≤ q9 → q9 < bc.heap.size →
 ∃ (b9 : Option Addr) (b5 : Nat) (ba : Nat) (b4 : World), (convert 23 23 (.slice (some (blk q9)) 1 1)).run Try.prog bc = .ok (.slice b9 b5 ba) b4 ∧
 Calls Try.prog 28 #[.pointer am, .int .u64 ap, .agg #[.int .i64 0, .int .i64 0, .int .u64 0, .int .i64 1, .int .i64 0, .int .i64 0, .slice b9 b5 ba, .int .u64 0]] b4 fun bg b1 => ∃ (a1 : Int) (a5 : Int) (a7 : Int) (ad : Int) (ah : Int) (a6 : Int) (a4 : Option Addr) (a3 : Nat) (a2 : Nat) (af : Int) (aa : Int), bg = .returned (.tuple #[.agg #[.int .i64 a1, .int .i64 a5, .int .u64 a7, .int .i64 ad, .int .i64 ah, .int .i64 a6, .slice a4 a3 a2, .int .u64 af], .int .i64 aa]) ∧
 ∀ (an : World) (b7 : Nat) (b3 : Nat), Ext no b1 an → Blk an b7 5 [.int .u8 121] → b1.heap.size ≤ b7 → b7 < an.heap.size → Privq b1 b7 [b3] →
 ∃ (b8 : Option Addr) (bb : Nat) (b6 : Nat) (au : World), (convert 23 23 (.slice (some (blk b7)) 1 1)).run Try.prog an = .ok (.slice b8 bb b6) au ∧
 Keep [b3] an au ∧
 Calls Try.prog 28 #[.pointer am, .int .u64 ap, .agg #[.int .i64 0, .int .i64 0, .int .u64 0, .int .i64 1, .int .i64 0, .int .i64 0, .slice b8 bb b6, .int .u64 0]] au fun bi ay => ∃ (a9 : Int) (ac : Int) (ao : Int) (aw : Int) (ax : Int) (ai : Int) (ae : Option Addr) (ak : Nat) (ag : Nat) (av : Int) (ab : Int), bi = .returned (.tuple #[.agg #[.int .i64 a9, .int .i64 ac, .int .u64 ao, .int .i64 aw, .int .i64 ax, .int .i64 ai, .slice ae ak ag, .int .u64 av], .int .i64 ab]) ∧
 Keep [b3] au ay ∧
 ∀ (ar : World) (bk : Nat), Ext no ay ar → Priv ay ar [bk] →
 Calls Try.prog 29 #[] ar fun bf b2 => ∃ (a0 : Option Addr), bf = .returned (.pointer a0) ∧
 Keep [b3, bk] ar b2 ∧
 Calls Try.prog 30 #[.pointer a0, .pointer am, .int .u64 aq, .agg #[.int .i64 a1, .int .i64 a5, .int .u64 a7, .int .i64 ad, .int .i64 ah, .int .i64 a6, .slice a4 a3 a2, .int .u64 af, .int .i64 a9, .int .i64 ac, .int .u64 ao, .int .i64 aw, .int .i64 ax, .int .i64 ai, .slice ae ak ag, .int .u64 av]] b2 fun be al => ∃ (a8 : Int), be = .returned (.int .i64 a8) ∧
 Keep [b3] b2 al ∧
 (aa = 0 →
 (ab = 0 →
 (a8 = 0 →
 Calls Try.prog 31 #[.pointer a0] al fun bj az => ∃ (b0 : Bool), bj = .returned (.bool b0) ∧
 Keep [b3] al az ∧
 (b0 = true →
 Calls Try.prog 14 #[.pointer am, .int .u64 aq, .agg #[.int .i64 a1, .int .i64 a5, .int .u64 a7, .int .i64 ad, .int .i64 ah, .int .i64 a6, .slice a4 a3 a2, .int .u64 af, .int .i64 a1, .int .i64 a5, .int .u64 a7, .int .i64 ad, .int .i64 ah, .int .i64 a6, .slice a4 a3 a2, .int .u64 af]] az fun bh bd => ∃ (aj : Int), bh = .returned (.int .i64 aj) ∧
 R (.bool (aj == 8)) bd) ∧
 (b0 = false →
 R (.bool false) az)) ∧
 (a8 ≠ 0 →
 R (.bool false) al)) ∧
 (ab ≠ 0 →
 R (.bool false) al)) ∧
 (aa ≠ 0 →
 R (.bool false) al)

theorem cachettelaw23_alive.up  {R : Value → World → Prop} {w : World} (h : cachettelaw23_alive.N  R w) : cachettelaw23_alive.M  R w := by
  unfold cachettelaw23_alive.M
  unfold cachettelaw23_alive.N at h
  refine h.mono fun dd de h => ?_
  obtain ⟨co, he, h⟩ := h
  refine ⟨co, he, ?_⟩
  refine h.mono fun dc cd h => ?_
  obtain ⟨b1, b2, he, h⟩ := h
  refine ⟨b1, b2, he, ?_⟩
  refine thenW_in fun d1 e8 => ?_
  have h := h d1 cd.heap.size ((Ext.refl no cd).x_alloc e8) (Blk.of_new e8) ((Ext.refl no cd)).size (size_lt_alloc e8)
  obtain ⟨bb, b7, cl, b5, hr, h⟩ := h
  refine ⟨bb, b7, cl, b5, hr, ?_⟩
  refine h.mono fun d8 a8 h => ?_
  obtain ⟨a1, a3, a6, ae, ah, a7, ac, ab, ad, an, ax, he, h⟩ := h
  refine ⟨a1, a3, a6, ae, ah, a7, ac, ab, ad, an, ax, he, ?_⟩
  refine thenW_in fun da cv => ?_
  have a0 := Blk.of_new cv
  have aq := ((Ext.refl no a8)).size
  have b8 := (Ext.refl no a8).x_alloc cv
  refine ⟨a0.cani 0 rfl rfl, thenW_in fun br cu => ?_⟩
  have bp := b8.x_set (q := a8.heap.size) (i := 0) rfl (.inr aq) cu
  have a0 : Blk br a8.heap.size 29 [.int .i64 a1, .int .i64 0, .int .u64 0, .int .i64 0, .int .i64 0, .int .i64 0, .slice none 0 0, .int .u64 0] := a0.seti 0 rfl cu
  refine ⟨a0.cani 1 rfl rfl, thenW_in fun bk cx => ?_⟩
  have bm := bp.x_set (q := a8.heap.size) (i := 1) rfl (.inr aq) cx
  have a0 : Blk bk a8.heap.size 29 [.int .i64 a1, .int .i64 a3, .int .u64 0, .int .i64 0, .int .i64 0, .int .i64 0, .slice none 0 0, .int .u64 0] := a0.seti 1 rfl cx
  refine ⟨a0.cani 2 rfl rfl, thenW_in fun bi cq => ?_⟩
  have c3 := bm.x_set (q := a8.heap.size) (i := 2) rfl (.inr aq) cq
  have a0 : Blk bi a8.heap.size 29 [.int .i64 a1, .int .i64 a3, .int .u64 a6, .int .i64 0, .int .i64 0, .int .i64 0, .slice none 0 0, .int .u64 0] := a0.seti 2 rfl cq
  refine ⟨a0.cani 3 rfl rfl, thenW_in fun cn cs => ?_⟩
  have b6 := c3.x_set (q := a8.heap.size) (i := 3) rfl (.inr aq) cs
  have a0 : Blk cn a8.heap.size 29 [.int .i64 a1, .int .i64 a3, .int .u64 a6, .int .i64 ae, .int .i64 0, .int .i64 0, .slice none 0 0, .int .u64 0] := a0.seti 3 rfl cs
  refine ⟨a0.cani 4 rfl rfl, thenW_in fun c9 cw => ?_⟩
  have c5 := b6.x_set (q := a8.heap.size) (i := 4) rfl (.inr aq) cw
  have a0 : Blk c9 a8.heap.size 29 [.int .i64 a1, .int .i64 a3, .int .u64 a6, .int .i64 ae, .int .i64 ah, .int .i64 0, .slice none 0 0, .int .u64 0] := a0.seti 4 rfl cw
  refine ⟨a0.cani 5 rfl rfl, thenW_in fun bd cr => ?_⟩
  have ci := c5.x_set (q := a8.heap.size) (i := 5) rfl (.inr aq) cr
  have a0 : Blk bd a8.heap.size 29 [.int .i64 a1, .int .i64 a3, .int .u64 a6, .int .i64 ae, .int .i64 ah, .int .i64 a7, .slice none 0 0, .int .u64 0] := a0.seti 5 rfl cr
  refine ⟨a0.cani 6 rfl rfl, thenW_in fun bz cp => ?_⟩
  have c7 := ci.x_set (q := a8.heap.size) (i := 6) rfl (.inr aq) cp
  have a0 : Blk bz a8.heap.size 29 [.int .i64 a1, .int .i64 a3, .int .u64 a6, .int .i64 ae, .int .i64 ah, .int .i64 a7, .slice ac ab ad, .int .u64 0] := a0.seti 6 rfl cp
  refine ⟨a0.cani 7 rfl rfl, thenW_in fun az ct => ?_⟩
  have b0 := c7.x_set (q := a8.heap.size) (i := 7) rfl (.inr aq) ct
  have a0 : Blk az a8.heap.size 29 [.int .i64 a1, .int .i64 a3, .int .u64 a6, .int .i64 ae, .int .i64 ah, .int .i64 a7, .slice ac ab ad, .int .u64 an] := a0.seti 7 rfl ct
  refine thenW_in fun b4 b3 => ?_
  have d6 := a0.lt
  have a0 := a0.x_alloc b3
  have h := h b4 az.heap.size (a8.heap.size) (b0.x_alloc b3) (Blk.of_new b3) (b0).size (size_lt_alloc b3) (Privq.cons aq d6 Privq.nil)
  obtain ⟨bn, bf, ce, bq, hr, hk, h⟩ := h
  refine ⟨bn, bf, ce, bq, hr, ?_⟩
  have a0 := hk.blk a0 (by simp)
  refine h.mono fun db a4 h => ?_
  obtain ⟨a2, a5, a9, al, am, af, ak, aj, ai, ap, aw, he, hk, h⟩ := h
  refine ⟨a2, a5, a9, al, am, af, ak, aj, ai, ap, aw, he, ?_⟩
  have a0 := hk.blk a0 (by simp)
  refine thenW_in fun cz bj => ?_
  have aa := Blk.of_new bj
  have ar := ((Ext.refl no a4)).size
  have ag := Nat.ne_of_lt a0.lt
  have a0 := a0.x_alloc bj
  have cb := (Ext.refl no a4).x_alloc bj
  refine ⟨aa.cani 0 rfl rfl, thenW_in fun bh cm => ?_⟩
  have ba := cb.x_set (q := a4.heap.size) (i := 0) rfl (.inr ar) cm
  have a0 := a0.oth (q := a4.heap.size) (i := 0) rfl ag cm
  have aa : Blk bh a4.heap.size 29 [.int .i64 a2, .int .i64 0, .int .u64 0, .int .i64 0, .int .i64 0, .int .i64 0, .slice none 0 0, .int .u64 0] := aa.seti 0 rfl cm
  refine ⟨aa.cani 1 rfl rfl, thenW_in fun cg bs => ?_⟩
  have c8 := ba.x_set (q := a4.heap.size) (i := 1) rfl (.inr ar) bs
  have a0 := a0.oth (q := a4.heap.size) (i := 1) rfl ag bs
  have aa : Blk cg a4.heap.size 29 [.int .i64 a2, .int .i64 a5, .int .u64 0, .int .i64 0, .int .i64 0, .int .i64 0, .slice none 0 0, .int .u64 0] := aa.seti 1 rfl bs
  refine ⟨aa.cani 2 rfl rfl, thenW_in fun cj bo => ?_⟩
  have c0 := c8.x_set (q := a4.heap.size) (i := 2) rfl (.inr ar) bo
  have a0 := a0.oth (q := a4.heap.size) (i := 2) rfl ag bo
  have aa : Blk cj a4.heap.size 29 [.int .i64 a2, .int .i64 a5, .int .u64 a9, .int .i64 0, .int .i64 0, .int .i64 0, .slice none 0 0, .int .u64 0] := aa.seti 2 rfl bo
  refine ⟨aa.cani 3 rfl rfl, thenW_in fun bu cf => ?_⟩
  have c4 := c0.x_set (q := a4.heap.size) (i := 3) rfl (.inr ar) cf
  have a0 := a0.oth (q := a4.heap.size) (i := 3) rfl ag cf
  have aa : Blk bu a4.heap.size 29 [.int .i64 a2, .int .i64 a5, .int .u64 a9, .int .i64 al, .int .i64 0, .int .i64 0, .slice none 0 0, .int .u64 0] := aa.seti 3 rfl cf
  refine ⟨aa.cani 4 rfl rfl, thenW_in fun bw c6 => ?_⟩
  have b9 := c4.x_set (q := a4.heap.size) (i := 4) rfl (.inr ar) c6
  have a0 := a0.oth (q := a4.heap.size) (i := 4) rfl ag c6
  have aa : Blk bw a4.heap.size 29 [.int .i64 a2, .int .i64 a5, .int .u64 a9, .int .i64 al, .int .i64 am, .int .i64 0, .slice none 0 0, .int .u64 0] := aa.seti 4 rfl c6
  refine ⟨aa.cani 5 rfl rfl, thenW_in fun c1 bv => ?_⟩
  have c2 := b9.x_set (q := a4.heap.size) (i := 5) rfl (.inr ar) bv
  have a0 := a0.oth (q := a4.heap.size) (i := 5) rfl ag bv
  have aa : Blk c1 a4.heap.size 29 [.int .i64 a2, .int .i64 a5, .int .u64 a9, .int .i64 al, .int .i64 am, .int .i64 af, .slice none 0 0, .int .u64 0] := aa.seti 5 rfl bv
  refine ⟨aa.cani 6 rfl rfl, thenW_in fun bg cc => ?_⟩
  have bl := c2.x_set (q := a4.heap.size) (i := 6) rfl (.inr ar) cc
  have a0 := a0.oth (q := a4.heap.size) (i := 6) rfl ag cc
  have aa : Blk bg a4.heap.size 29 [.int .i64 a2, .int .i64 a5, .int .u64 a9, .int .i64 al, .int .i64 am, .int .i64 af, .slice ak aj ai, .int .u64 0] := aa.seti 6 rfl cc
  refine ⟨aa.cani 7 rfl rfl, thenW_in fun ay ca => ?_⟩
  have bc := bl.x_set (q := a4.heap.size) (i := 7) rfl (.inr ar) ca
  have a0 := a0.oth (q := a4.heap.size) (i := 7) rfl ag ca
  have aa : Blk ay a4.heap.size 29 [.int .i64 a2, .int .i64 a5, .int .u64 a9, .int .i64 al, .int .i64 am, .int .i64 af, .slice ak aj ai, .int .u64 ap] := aa.seti 7 rfl ca
  have h := h ay (a4.heap.size) bc (Priv.cons ar aa.lt Priv.nil)
  refine h.mono fun d7 d0 h => ?_
  obtain ⟨ao, he, hk, h⟩ := h
  refine ⟨ao, he, ?_⟩
  have a0 := hk.blk a0 (by simp)
  have aa := hk.blk aa (by simp)
  refine ⟨a1, a3, a6, ae, ah, a7, ac, ab, ad, an, ⟨a0.celli 0 rfl rfl, a0.celli 1 rfl rfl, a0.celli 2 rfl rfl, a0.celli 3 rfl rfl, a0.celli 4 rfl rfl, a0.celli 5 rfl rfl, a0.celli 6 rfl rfl, a0.celli 7 rfl rfl, trivial⟩, ?_⟩
  refine ⟨a2, a5, a9, al, am, af, ak, aj, ai, ap, ⟨aa.celli 0 rfl rfl, aa.celli 1 rfl rfl, aa.celli 2 rfl rfl, aa.celli 3 rfl rfl, aa.celli 4 rfl rfl, aa.celli 5 rfl rfl, aa.celli 6 rfl rfl, aa.celli 7 rfl rfl, trivial⟩, ?_⟩
  refine h.mono fun d3 d4 h => ?_
  obtain ⟨au, he, hk, h⟩ := h
  refine ⟨au, he, ?_⟩
  have a0 := hk.blk a0 (by simp)
  refine bif_of (fun ck => ?_) (fun ck => ?_)
  · have h := h.1 (beq_t ck)
    refine bif_of (fun be => ?_) (fun be => ?_)
    · have h := h.1 (beq_t be)
      refine bif_of (fun bt => ?_) (fun bt => ?_)
      · have h := h.1 (beq_t bt)
        refine h.mono fun d5 cy h => ?_
        obtain ⟨bx, he, hk, h⟩ := h
        refine ⟨bx, he, ?_⟩
        have a0 := hk.blk a0 (by simp)
        refine bif_of (fun ch => ?_) (fun ch => ?_)
        · have h := h.1 ch
          refine ⟨a1, a3, a6, ae, ah, a7, ac, ab, ad, an, ⟨a0.celli 0 rfl rfl, a0.celli 1 rfl rfl, a0.celli 2 rfl rfl, a0.celli 3 rfl rfl, a0.celli 4 rfl rfl, a0.celli 5 rfl rfl, a0.celli 6 rfl rfl, a0.celli 7 rfl rfl, trivial⟩, ?_⟩
          refine ⟨a1, a3, a6, ae, ah, a7, ac, ab, ad, an, ⟨a0.celli 0 rfl rfl, a0.celli 1 rfl rfl, a0.celli 2 rfl rfl, a0.celli 3 rfl rfl, a0.celli 4 rfl rfl, a0.celli 5 rfl rfl, a0.celli 6 rfl rfl, a0.celli 7 rfl rfl, trivial⟩, ?_⟩
          refine h.mono fun d9 d2 h => ?_
          obtain ⟨av, he, h⟩ := h
          refine ⟨av, he, ?_⟩
          exact h
        · have h := h.2 ch
          exact h
      · have h := h.2 (beq_f bt)
        exact h
    · have h := h.2 (beq_f be)
      exact h
  · have h := h.2 (beq_f ck)
    exact h

theorem cachettelaw23_alive.go  {R : Value → World → Prop} {w : World} (h : cachettelaw23_alive.N  R w) : Calls Try.prog 5 #[] w fun e w' => ∃ v, e = .returned v ∧ R v w' := cachettelaw23_alive.ok  (cachettelaw23_alive.up  h)
theorem cachettelaw23_alive.run  {V : Value} {Q : World → Prop} {w : World} (h : cachettelaw23_alive.N  (fun v w' => v = V ∧ Q w') w) : Calls Try.prog 5 #[] w (Ret V Q) := (cachettelaw23_alive.go  h).mono fun e w' ⟨v, he, hv, hq⟩ => ⟨by rw [he, hv], hq⟩

def prfV (a : Ent) (aa : Option Addr) (ac : Nat) (b : Ent) (ba : Option Addr) (bc : Nat) : Value :=
  .agg #[.int .i64 a.w, .int .i64 a.i, .int .u64 a.pv, .int .i64 a.t, .int .i64 a.tw, .int .i64 a.ep, .slice aa a.body.length ac, .int .u64 a.sg, .int .i64 b.w, .int .i64 b.i, .int .u64 b.pv, .int .i64 b.t, .int .i64 b.tw, .int .i64 b.ep, .slice ba b.body.length bc, .int .u64 b.sg]
/-- what a check says. -/
def checkP (hold : Ent → Bool) (a b : Ent) : Int :=
  if ¬ (entRight a = true ∧ entRight b = true) then 1 else if a.w ≠ b.w then 20 else if a.i ≠ b.i then 2 else if a = b then 8 else if ¬ (hold a = true ∧ hold b = true) then 6 else 0
section
variable {w w' : World} {o o' : Own} {k n : Nat} {K : Nat → Prop} {S : OS} {d : List Int} {L : List RRow} {a b : Ent} {aa ba : Option Addr} {ac bc : Nat}
theorem right_F : forkcheck_Proof_right.F a.w a.i a.pv a.t a.tw a.ep aa a.body.length ac a.sg b.w b.i b.pv b.t b.tw b.ep ba b.body.length bc b.sg = if entRight a = true ∧ entRight b = true then 0 else 1 := by
  unfold forkcheck_Proof_right.F
  rw [entRight_F, entRight_F]
  cases entRight a <;> cases entRight b <;> rfl
theorem apart_spec (ha : RowAt w aa (bytesV a.body)) (hb : RowAt w ba (bytesV b.body)) :
    Calls Try.prog 44 #[prfV a aa ac b ba bc] w (Ret (.int .i64 (if a = b then 8 else 0)) fun w' => Ext no w w') := by
  refine forkcheck_Proof_apart.run a.w a.i a.pv a.t a.tw a.ep aa a.body.length ac a.sg b.w b.i b.pv b.t b.tw b.ep ba b.body.length bc b.sg ?_
  unfold forkcheck_Proof_apart.N
  intro w17 X17
  refine (ESame_spec (e := a) (f := b) (ha.no X17) (hb.no X17)).mono fun x w21 ⟨he, X21⟩ => ⟨_, he, fun h => ?_, fun h => ?_⟩
  · rw [if_pos (of_decide_eq_true h)]; exact ⟨rfl, X17.trans X21⟩
  · rw [if_neg (of_decide_eq_false h)]; exact ⟨rfl, X17.trans X21⟩
theorem Check_spec (h : POrc w o k S) (ok : Tags w o) (p : Int) (hfa : entRight a = true → a.fit) (hfb : entRight b = true → b.fit) (ha : RowAt w aa (bytesV a.body)) (hb : RowAt w ba (bytesV b.body)) :
    Calls Try.prog 14 #[.pointer (some (blk k)), .int .u64 p, prfV a aa ac b ba bc] w (Ret (.int .i64 (checkP (holdsE S p) a b)) fun w' => Ext no w w') := by
  refine forkcheck_Check.run (some (blk k)) p a.w a.i a.pv a.t a.tw a.ep aa a.body.length ac a.sg b.w b.i b.pv b.t b.tw b.ep ba b.body.length bc b.sg ?_
  unfold forkcheck_Check.N
  rw [right_F]
  intro w19 p20 X19 hp
  refine ⟨fun q vs w1 => ∃ t : Nat, vs = [.int .i64 t] ∧ q + t = 4 ∧ Ext no w w1 ∧ (0 < t → entRight a = true ∧ entRight b = true) ∧ (1 < t → a.w = b.w) ∧ (2 < t → a.i = b.i) ∧ (3 < t → a ≠ b), 4, ⟨0, rfl, rfl, X19, fun h => absurd h (by decide), fun h => absurd h (by decide), fun h => absurd h (by decide), fun h => absurd h (by decide)⟩, ?_⟩
  rintro q w1 i ⟨t, hi, hq, X1, c0, c1, c2, c3⟩
  simp only [List.cons.injEq, Value.int.injEq, true_and, and_true] at hi
  subst hi
  refine ⟨fun ht => ⟨by omega, by omega, fun h0 => ?_, fun h0 => ?_, fun h0 => ?_, fun h0 => ?_⟩, fun ht => ?_⟩
  · obtain rfl : t = 0 := by omega
    by_cases hr : entRight a = true ∧ entRight b = true
    · rw [if_pos hr]
      exact ⟨fun h => absurd rfl h, fun _ => ⟨by decide, by decide, fun w26 X26 => ⟨q - 1, by omega, 1, rfl, by omega, X1.trans X26, fun _ => hr, fun h => absurd h (by decide), fun h => absurd h (by decide), fun h => absurd h (by decide)⟩⟩⟩
    · rw [if_neg hr]
      exact ⟨fun _ w26 X26 => ⟨by unfold checkP; rw [if_pos hr], X1.trans X26⟩, fun h => absurd h (by decide)⟩
  · obtain rfl : t = 1 := by omega
    unfold forkcheck_Proof_writers.F
    by_cases hr : a.w = b.w
    · rw [if_pos hr]
      exact ⟨fun h => absurd rfl h, fun _ => ⟨by decide, by decide, fun w26 X26 => ⟨q - 1, by omega, 2, rfl, by omega, X1.trans X26, fun _ => c0 (by decide), fun _ => hr, fun h => absurd h (by decide), fun h => absurd h (by decide)⟩⟩⟩
    · rw [if_neg hr]
      exact ⟨fun _ w26 X26 => ⟨by unfold checkP; rw [if_neg (not_not_intro (c0 (by decide))), if_pos hr], X1.trans X26⟩, fun h => absurd h (by decide)⟩
  · obtain rfl : t = 2 := by omega
    unfold forkcheck_Proof_places.F
    by_cases hr : a.i = b.i
    · rw [if_pos hr]
      exact ⟨fun h => absurd rfl h, fun _ => ⟨by decide, by decide, fun w26 X26 => ⟨q - 1, by omega, 3, rfl, by omega, X1.trans X26, fun _ => c0 (by decide), fun _ => c1 (by decide), fun _ => hr, fun h => absurd h (by decide)⟩⟩⟩
    · rw [if_neg hr]
      exact ⟨fun _ w26 X26 => ⟨by unfold checkP; rw [if_neg (not_not_intro (c0 (by decide))), if_neg (not_not_intro (c1 (by decide))), if_pos hr], X1.trans X26⟩, fun h => absurd h (by decide)⟩
  · obtain rfl : t = 3 := by omega
    refine (apart_spec (a := a) (b := b) (ha.no X1) (hb.no X1)).mono fun x w37 ⟨he, X37⟩ => ⟨_, he, X37.kept, fun h => ?_, fun h => ?_⟩
    · by_cases hr : a = b
      · rw [if_pos hr]
        exact ⟨by unfold checkP; rw [if_neg (not_not_intro (c0 (by decide))), if_neg (not_not_intro (c1 (by decide))), if_neg (not_not_intro (c2 (by decide))), if_pos hr], X1.trans X37⟩
      · rw [if_neg hr] at h; exact absurd rfl h
    · by_cases hr : a = b
      · rw [if_pos hr] at h; exact absurd h (by decide)
      · exact ⟨by decide, by decide, q - 1, by omega, 4, rfl, by omega, X1.trans X37, fun _ => c0 (by decide), fun _ => c1 (by decide), fun _ => c2 (by decide), fun _ => hr⟩
  · obtain rfl : t = 4 := by omega
    have s1 := Step.of_no X1 ok
    have hc : checkP (holdsE S p) a b = if ¬ (holdsE S p a = true ∧ holdsE S p b = true) then 6 else 0 := by
      unfold checkP
      rw [if_neg (not_not_intro (c0 (by decide))), if_neg (not_not_intro (c1 (by decide))), if_neg (not_not_intro (c2 (by decide))), if_neg (c3 (by decide))]
    rw [hc]
    refine (HoldsO (h.step s1 id) s1.ok p (e := a) hfa (ha.no X1)).mono fun x w29 ⟨he, X29⟩ => ⟨_, he, X29.kept, fun hh => ⟨by rw [if_pos (fun q => by rw [hh] at q; cases q.1)], X1.trans X29⟩, fun hh => ?_⟩
    have s2 := s1.trans (Step.of_no X29 s1.ok)
    refine (HoldsO (h.step s2 id) s2.ok p (e := b) hfb ((hb.no X1).no X29)).mono fun x w33 ⟨he, X33⟩ => ⟨_, he, fun hk => ⟨by rw [if_pos (fun q => by rw [hk] at q; cases q.2)], (X1.trans X29).trans X33⟩, fun hk => ⟨by rw [if_neg (not_not_intro ⟨hh, hk⟩)], (X1.trans X29).trans X33⟩⟩
end
end Go.Proofs.Ytfmdpjhkojbocaa

/- Forkcheck: the alarm; the chapter's example. -/
set_option linter.unusedVariables false
set_option linter.unusedSimpArgs false
set_option maxRecDepth 20000
set_option maxHeartbeats 2000000
namespace Go.Proofs.Ytfmdpjhkojbocaa
open Go Go.Mx Go.Proofs
open W (OwnB GivesW numR countR doneR zig unzig intR)
theorem inf44 : (Try.prog.info? 44).map (fun i => (i.zero, i.size, i.bytes)) = some (some (.agg #[.int .i64 0, .int .i64 0, .int .u64 0, .int .i64 0, .int .i64 0, .int .i64 0, .slice none 0 0, .int .u64 0, .int .i64 0, .int .i64 0, .int .u64 0, .int .i64 0, .int .i64 0, .int .i64 0, .slice none 0 0, .int .u64 0]), 16, 160) := by kernel_rfl
def i64V (n : Int) : Value := .int .i64 n
/-- a proof, and where its bytes lie. -/
def PrfV (w : World) (o : Own) (p : Ent × Ent) (v : Value) : Prop :=
  ∃ aa ac ba bc, v = prfV p.1 aa ac p.2 ba bc ∧ Row w o aa (bytesV p.1.body) ∧ Row w o ba (bytesV p.2.body) ∧ p.1.body.length ≤ ac ∧ p.2.body.length ≤ bc
def PrfL (w : World) (o : Own) : List (Int × (Ent × Ent)) → List (Int × Value) → Prop
  | [], [] => True
  | p :: r, q :: s => p.1 = q.1 ∧ PrfV w o p.2 q.2 ∧ PrfL w o r s
  | _, _ => False
section
variable {w w' : World} {o o' : Own} {k j n : Nat} {K : Nat → Prop} {S : OS} {a b : Ent} {aa ba : Option Addr} {ac bc : Nat}
theorem PrfV.step {p : Ent × Ent} {v : Value} (h : PrfV w o p v) (s : Step K w o w' o') : PrfV w' o' p v := by
  obtain ⟨aa, ac, ba, bc, h1, h2, h3, h4⟩ := h
  exact ⟨aa, ac, ba, bc, h1, h2.step s, h3.step s, h4⟩
theorem PrfL.step (s : Step K w o w' o') : ∀ {l : List (Int × (Ent × Ent))} {lv : List (Int × Value)}, PrfL w o l lv → PrfL w' o' l lv
  | [], [], _ => trivial
  | p :: r, q :: t, h => ⟨h.1, h.2.1.step s, PrfL.step s h.2.2⟩
  | [], _ :: _, h => h.elim
  | _ :: _, [], h => h.elim
theorem PrfL.look : ∀ {l : List (Int × (Ent × Ent))} {lv : List (Int × Value)}, PrfL w o l lv → ∀ x, (alook l x = none ∧ mlook lv x = none) ∨ ∃ s v, alook l x = some s ∧ mlook lv x = some v ∧ PrfV w o s v
  | [], [], _, x => .inl ⟨rfl, rfl⟩
  | p :: r, q :: s, h, x => by
    obtain ⟨h1, h2, h3⟩ := h
    simp only [alook, mlook, ← h1]
    by_cases hp : p.1 = x
    · rw [if_pos hp, if_pos hp]; exact .inr ⟨_, _, rfl, rfl, h2⟩
    · rw [if_neg hp, if_neg hp]; exact PrfL.look h3 x
  | [], _ :: _, h, _ => h.elim
  | _ :: _, [], h, _ => h.elim
theorem PrfL.put {x : Int} {t : Ent × Ent} {v : Value} (hv : PrfV w o t v) : ∀ {l : List (Int × (Ent × Ent))} {lv : List (Int × Value)}, PrfL w o l lv → PrfL w o (aput l x t) (mput lv x v)
  | [], [], _ => ⟨rfl, hv, trivial⟩
  | p :: r, q :: s, h => by
    obtain ⟨h1, h2, h3⟩ := h
    simp only [aput, mput, ← h1]
    by_cases hp : p.1 = x
    · rw [if_pos hp, if_pos hp]; exact ⟨rfl, hv, h3⟩
    · rw [if_neg hp, if_neg hp]; exact ⟨h1, h2, PrfL.put hv h3⟩
  | [], _ :: _, h => h.elim
  | _ :: _, [], h => h.elim
theorem PrfL.len : ∀ {l : List (Int × (Ent × Ent))} {lv : List (Int × Value)}, PrfL w o l lv → l.length = lv.length
  | [], [], _ => rfl
  | p :: r, q :: s, h => by simp [PrfL.len h.2.2]
  | [], _ :: _, h => h.elim
  | _ :: _, [], h => h.elim
/-- an alarm. -/
def Alm (w : World) (o : Own) (k : Nat) (l : List (Int × (Ent × Ent))) : Prop :=
  o k = some k ∧ ∃ q lv, Blk w k 122 [.map (some q)] ∧ MapIs w q i64V lv ∧ o q = some k ∧ q ≠ k ∧ PrfL w o l lv
theorem Alm.lt {l : List (Int × (Ent × Ent))} (h : Alm w o k l) : k < w.heap.size := by obtain ⟨_, q, lv, hb, _⟩ := h; exact hb.lt
theorem Alm.step {l : List (Int × (Ent × Ent))} (h : Alm w o k l) (s : Step K w o w' o') (hk : ¬ K k) : Alm w' o' k l := by
  have hlt := h.lt
  obtain ⟨h0, q, lv, h1, h2, h3, h4, h5⟩ := h
  refine ⟨(s.own hlt).trans h0, q, lv, s.blk h1 h0 hk, ?_, (s.own h2.lt).trans h3, h4, h5.step s⟩
  have hq := s.at h2.lt fun i hi => by rw [h3] at hi; cases hi; exact hk
  obtain ⟨es, cl, e1, e2⟩ := h2
  exact ⟨es, cl, hq.trans e1, e2⟩
theorem sClone_spec {a : Option Addr} {c : Nat} {bs : List UInt8} (h : RowAt w a (bytesV bs)) (hl : bs.length ≤ 1000000) :
    Calls Try.prog 70 #[.slice a bs.length c] w (fun e w' => ∃ a' c', e = .returned (.slice a' bs.length c') ∧ OwnB w.heap.size w' a' c' bs ∧ Ext no w w') := by
  refine (slices_Clone_byte_byte.go _ _ _ (R := fun v w' => ∃ a' c', v = (.slice a' bs.length c') ∧ OwnB w.heap.size w' a' c' bs ∧ Ext no w w') ?_).mono fun e w' ⟨v, he, a, c, hv, hw⟩ => ⟨a, c, by rw [he, hv], hw⟩
  unfold slices_Clone_byte_byte.N
  refine ⟨fun hn => ?_, fun hn w2 q X hb hq hq' => ?_⟩
  · subst hn
    have : bs = [] := by simpa [bytesV] using h.none_nil
    subst this
    exact ⟨none, 0, rfl, OwnB.nil _ _, Ext.refl _ _⟩
  · have hO : OwnB w.heap.size w2 (some (blk q)) 0 [] := ⟨owns_of_blk hb rfl (Nat.zero_le _), fun ad ha => by cases ha; exact ⟨hq, hq'⟩⟩
    obtain ⟨a', c', w', hr, hO', hx⟩ := hO.append (t := 23) (ty := 23) Try.underlying23 X.size (xc := c) (h.no X) (by simp; omega)
    rw [List.nil_append] at hr hO'
    exact ⟨a', _, c', w', hr, a', c', rfl, hO', X.then hx fun b hb => .inr hb⟩
theorem fOwn_spec (ok : Tags w o) {e : Ent} {a : Option Addr} {c : Nat} (h : Row w o a (bytesV e.body)) (hl : e.body.length ≤ 1000000) :
    Calls Try.prog 39 #[entV e a c] w (fun x w' => ∃ o' a' c', x = .returned (entV e a' c') ∧ Step no w o w' o' ∧ Row w' o' a' (bytesV e.body) ∧ e.body.length ≤ c') := by
  refine (forkcheck_own.go e.w e.i e.pv e.t e.tw e.ep a e.body.length c e.sg (R := fun v w' => ∃ o' a' c', v = (entV e a' c') ∧ Step no w o w' o' ∧ Row w' o' a' (bytesV e.body) ∧ e.body.length ≤ c') ?_).mono fun x w' ⟨v, he, o', a, c, hv, hw⟩ => ⟨o', a, c, by rw [he, hv], hw⟩
  unfold forkcheck_own.N
  intro w10 p11 p12 X10 hp
  obtain ⟨s10, M10⟩ := Step.priv X10 hp ok
  have g11 := hp p11 (by simp)
  have g12 := hp p12 (by simp)
  refine (sClone_spec (h.step s10).1 hl).mono fun x w15 ⟨ca, cc, he, hO, X15⟩ => ⟨_, _, _, he, X15.kept, fun w24 X24 => ?_⟩
  have s15 := Step.of_no X15 s10.ok
  have s24 := Step.stores X24 s15.ok (M10.step s15) (by simp [or_comm])
  exact ⟨_, ca, cc, rfl, (s10.trans s15).trans' s24 (fun i hi => .inr (by simp at hi; omega)), (OwnB.tight hO (Nat.le_refl _)).step s24, hO.le⟩
theorem NewAlarm_spec (ok : Tags w o) : Calls Try.prog 29 #[] w (fun x w' => ∃ k o', x = .returned (.pointer (some (blk k))) ∧ w.heap.size ≤ k ∧ Step no w o w' o' ∧ Alm w' o' k []) := by
  refine (forkcheck_NewAlarm.go (R := fun v w' => ∃ k o', v = (.pointer (some (blk k))) ∧ w.heap.size ≤ k ∧ Step no w o w' o' ∧ Alm w' o' k []) ?_).mono fun x w' ⟨v, he, k, o', hv, hw⟩ => ⟨k, o', by rw [he, hv], hw⟩
  unfold forkcheck_NewAlarm.N
  intro w1 q2 X1 hm hq hq' w3 q4 X3 hb h4 h4'
  have s1 := Step.of_no (X1.trans X3) ok
  have l3 := X3.size
  refine ⟨q4, tag (tag (grow w o) q2 q4) q4 q4, rfl, by omega, (s1.tag hq h4').tag (by omega) h4', tag_self, q2, [], hb, ?_, ?_, by omega, trivial⟩
  · have : MapIs w1 q2 i64V [] := ⟨#[], 0, hm, rfl, by simp, by simp⟩
    exact this.ext X3 id
  · rw [tag_ne (by omega)]; exact tag_self
theorem On_spec {l : List (Int × (Ent × Ent))} (h : Alm w o k l) : Calls Try.prog 31 #[.pointer (some (blk k))] w (Ret (.bool (decide (l ≠ []))) fun w' => w' = w) := by
  obtain ⟨h0, q, lv, h1, h2, h3, h4, h5⟩ := h
  refine forkcheck_Alarm_On.run _ ?_
  unfold forkcheck_Alarm_On.N
  refine ⟨fun _ => ⟨_, rfl, some q, h1.cella (i := 0) rfl, lv.length, h2.len Try.underlying120, ?_, rfl⟩, fun h => by cases h⟩
  congr 1
  rw [decide_eq_decide, ← h5.len]
  cases l <;> simp
def raiseP (S : OS) (p : Int) (l : List (Int × (Ent × Ent))) (a b : Ent) : Int × List (Int × (Ent × Ent)) :=
  if checkP (holdsE S p) a b = 0 then (0, match alook l a.w with | some _ => l | none => aput l a.w (a, b)) else (checkP (holdsE S p) a b, l)
theorem Raise_spec {l : List (Int × (Ent × Ent))} (A : Alm w o j l) (h : POrc w o k S) (ok : Tags w o) (hkj : k ≠ j) (p : Int) (hfa : entRight a = true → a.fit) (hfb : entRight b = true → b.fit) (ha : Row w o aa (bytesV a.body)) (hb : Row w o ba (bytesV b.body)) (la : a.body.length ≤ 1000000) (lb : b.body.length ≤ 1000000) :
    Calls Try.prog 30 #[.pointer (some (blk j)), .pointer (some (blk k)), .int .u64 p, prfV a aa ac b ba bc] w (Gs (fun i => i = j) w o (.int .i64 (raiseP S p l a b).1) fun w' o' => Alm w' o' j (raiseP S p l a b).2) := by
  refine (forkcheck_Alarm_Raise.go (some (blk j)) (some (blk k)) p a.w a.i a.pv a.t a.tw a.ep aa a.body.length ac a.sg b.w b.i b.pv b.t b.tw b.ep ba b.body.length bc b.sg (R := fun v w' => ∃ o', v = (.int .i64 (raiseP S p l a b).1) ∧ Step (fun i => i = j) w o w' o' ∧ Alm w' o' j (raiseP S p l a b).2) ?_).mono fun x w' ⟨v, he, o', hv, hw⟩ => ⟨o', by rw [he, hv], hw⟩
  unfold forkcheck_Alarm_Raise.N
  refine ⟨fun h => (by cases h), fun _ w20 p23 X20 hp => ?_⟩
  obtain ⟨s20, M20⟩ := Step.priv X20 hp ok
  have g23 := hp p23 (by simp)
  have hj := A.lt
  refine (Check_spec (a := a) (b := b) (h.step s20 id) s20.ok p hfa hfb (ha.step s20).1 (hb.step s20).1).mono fun x w26 ⟨he, X26⟩ => ⟨_, he, X26.kept, fun hne => ?_, fun h0 => ?_⟩
  · have s26 := s20.trans (Step.of_no X26 s20.ok)
    unfold raiseP
    rw [if_neg hne]
    exact ⟨_, rfl, s26.none, A.step s26 id⟩
  · have s26 := s20.trans (Step.of_no X26 s20.ok)
    have A26 := A.step s26 id
    have M26 := M20.step (Step.of_no X26 s20.ok)
    obtain ⟨_, q, lv, h1, h2, h3, h4, h5⟩ := id A26
    refine ⟨_, rfl, some q, h1.cella (i := 0) rfl, fun w28 X28 => ?_⟩
    obtain ⟨i, hi, hz, hsz, hby⟩ := info_of inf44
    have hlk := fun (w1 : World) (hm : MapIs w1 q i64V lv) => hm.lookup (keys_int (k := .i64) Try.underlying3) Try.underlying120 hi hz a.w true
    have s28 := s26.trans (Step.of_no X28 s26.ok)
    have m28 := h2.ext X28 id
    have key : ∃ (x y : Ent) (xa : Option Addr) (xc : Nat) (ya : Option Addr) (yc : Nat), ((mlook lv a.w).getD (.agg #[.int .i64 0, .int .i64 0, .int .u64 0, .int .i64 0, .int .i64 0, .int .i64 0, .slice none 0 0, .int .u64 0, .int .i64 0, .int .i64 0, .int .u64 0, .int .i64 0, .int .i64 0, .int .i64 0, .slice none 0 0, .int .u64 0])) = prfV x xa xc y ya yc ∧ (mlook lv a.w).isSome = (alook l a.w).isSome := by
      rcases h5.look a.w with ⟨e1, e2⟩ | ⟨s, v, e1, e2, xa, xc, ya, yc, e3, _⟩
      · rw [e1, e2]; exact ⟨Ent.zero, Ent.zero, none, 0, none, 0, rfl, rfl⟩
      · rw [e1, e2]; exact ⟨s.1, s.2, xa, xc, ya, yc, e3, rfl⟩
    obtain ⟨x, y, xa, xc, ya, yc, key, kis⟩ := key
    have hl28 := hlk w28 m28
    rw [if_pos rfl, key, kis] at hl28
    refine ⟨x.w, x.i, x.pv, x.t, x.tw, x.ep, xa, x.body.length, xc, x.sg, y.w, y.i, y.pv, y.t, y.tw, y.ep, ya, y.body.length, yc, y.sg, (alook l a.w).isSome, hl28, fun w50 p51 X50 hp51 => ?_⟩
    have hl50 := hlk w50 (m28.ext X50 id)
    rw [if_pos rfl, key, kis] at hl50
    obtain ⟨s50', M50⟩ := Step.priv X50 hp51 s28.ok
    have s50 := s28.trans s50'
    have g51 := hp51 p51 (by simp)
    have A50 := A.step s50 id
    have l28 := X28.size
    have l26 := X26.size
    refine ⟨hl50, ((h1.ext X28 id).ext X50 id).cella (i := 0) rfl, fun hno w71 X71 => ?_, fun hyes w69 X69 => ?_⟩
    · have s71' := Step.stores X71 s50.ok M50 (by simp)
      have s71 := s50.trans' s71' fun i hi => .inr (by simp at hi; omega)
      have A71 := A50.step s71' (by simp; omega)
      have hno : alook l a.w = none := by cases hq : alook l a.w with | none => rfl | some z => rw [hq] at hno; cases hno
      obtain ⟨q0, q7, lv7, b1, b2, b3, b4, b5⟩ := id A71
      refine ⟨some q7, b1.cella (i := 0) rfl, ?_⟩
      have M71 : Mine [p23] w71 _ := ((M26.step (Step.of_no X28 s26.ok)).step s50').step s71'
      refine (fOwn_spec (e := a) s71.ok (ha.step s71) la).mono fun x w83 ⟨o83, ca, cc, he, s83', rc, lc⟩ => ⟨_, _, _, _, _, _, _, _, _, _, he, M71.keep s83' (fun _ _ => id), (s83'.blk b1 q0 id).cella (i := 0) rfl, ?_⟩
      have s83 := s71.trans s83'
      refine (fOwn_spec (e := b) s83.ok (hb.step s83) lb).mono fun x w94 ⟨o94, da, dc, he, s94', rd, ld⟩ => ⟨_, _, _, _, _, _, _, _, _, _, he, (M71.step s83').keep s94' (fun _ _ => id), (s94'.blk (s83'.blk b1 q0 id) ((s83'.own A71.lt).trans q0) id).cella (i := 0) rfl, ?_⟩
      have s94 := s83.trans s94'
      have A94 := (A71.step s83' id).step s94' id
      have s7194 := s83'.trans s94'
      have m94 : MapIs w94 q7 i64V lv7 := by
        have hq := s7194.at b2.lt fun i hi => id
        obtain ⟨es, cl, e1, e2⟩ := b2
        exact ⟨es, cl, hq.trans e1, e2⟩
      obtain ⟨w96, hu, hm, hx⟩ := m94.update (keys_int (k := .i64) Try.underlying3) Try.underlying120 a.w (prfV a ca cc b da dc)
      refine ⟨w96, hu, ?_⟩
      have X96 := hx (fun b => b = q7) rfl
      have tq : o94 q7 = some j := (s7194.own b2.lt).trans b3
      have s96' := Step.of_ext X96 s94.ok (p := j) fun b hb _ => by subst hb; exact tq
      have s96 := s94.none.trans s96'
      have hr : raiseP S p l a b = (0, aput l a.w (a, b)) := by unfold raiseP; rw [if_pos h0, hno]
      rw [hr]
      have lt94 := A94.lt
      refine ⟨_, rfl, s96, (s96'.own lt94).trans A94.1, q7, _, ((s94'.blk (s83'.blk b1 q0 id) ((s83'.own A71.lt).trans q0) id)).ext X96 (fun e => b4 e.symm), hm, (s96'.own (Nat.lt_of_lt_of_le b2.lt s7194.size)).trans tq, b4, ?_⟩
      exact PrfL.put ⟨ca, cc, da, dc, rfl, (rc.step s94').step s96', rd.step s96', lc, ld⟩ ((b5.step s7194).step s96')
    · have s69' := Step.stores X69 s50.ok M50 (by simp)
      have s69 := s50.trans' s69' fun i hi => .inr (by simp at hi; omega)
      have hr : raiseP S p l a b = (0, l) := by
        unfold raiseP; rw [if_pos h0]
        cases hq : alook l a.w with | some z => rfl | none => rw [hq] at hyes; cases hyes
      rw [hr]
      exact ⟨_, rfl, s69.none, A50.step s69' (by simp; omega)⟩
end
end Go.Proofs.Ytfmdpjhkojbocaa

/- Forkcheck: the chapter's example. -/
set_option linter.unusedVariables false
set_option linter.unusedSimpArgs false
set_option maxRecDepth 20000
set_option maxHeartbeats 2000000
namespace Go.Proofs.Ytfmdpjhkojbocaa
open Go Go.Mx Go.Proofs
open W (OwnB GivesW numR countR doneR zig unzig intR)
def exA : Ent := ⟨0, 0, 0, 1, 0, 0, [120], 0⟩
def exB : Ent := ⟨0, 0, 0, 1, 0, 0, [121], 0⟩
theorem ex_fact : ∃ S1 S2 S3 : OS, ∃ x y : Ent, pairOf (OS.init []) = ((1, 2), S1) ∧ signE S1 1 exA = ((x, 0), S2) ∧ signE S2 1 exB = ((y, 0), S3) ∧ x.fit ∧ y.fit ∧ x.body.length = 1 ∧ y.body.length = 1 ∧ checkP (holdsE S3 2) x y = 0 ∧ checkP (holdsE S3 2) x x = 8 :=
  ⟨_, _, _, { exA with sg := 3 }, { exB with sg := 4 }, rfl, rfl, rfl, ⟨by decide, by decide, by decide, by decide⟩, ⟨by decide, by decide, by decide, by decide⟩, rfl, rfl, by decide, by decide⟩
theorem alive23_spec (w : World) : Calls Try.prog 5 #[] w (Ret (.bool true) fun w' => Ext no w w') := by
  refine cachettelaw23_alive.run ?_
  unfold cachettelaw23_alive.N
  obtain ⟨S1, S2, S3, x, y, f1, f2, f3, fx, fy, bx, by', f4, f5⟩ := ex_fact
  have ok0 : Tags w (fun _ => none) := fun b j _ h => by cases h
  refine (NewO (l := []) (c := 0) ok0 (RowAt.nil _ _) (by simp)).mono fun v w3 ⟨k, o3, hx, hk, s3, P3⟩ => ⟨_, hx, ?_⟩
  have i0 : OInv (OS.init []) := OInv.init (by simp)
  have nk : ∀ {w1 w2 : World} {o1 o2 : Own}, Step no w (fun _ => none) w1 o1 → Step (fun i => i = k) w1 o1 w2 o2 → Step no w (fun _ => none) w2 o2 := fun h1 h2 => h1.trans' h2 fun i hi => .inr (by omega)
  refine (PairO P3 s3.ok i0.ok (by decide)).mono fun v w7 ⟨o7, hx, s7', P7⟩ => ⟨_, _, hx, ?_⟩
  have i1 := (pair_inv i0).1
  have u1 := (pairOf_ok i0.ok).2
  rw [f1] at P7 i1 u1 ⊢
  dsimp only at u1
  have s7 := nk s3 s7'
  intro w8 q9 X8 hb9 hq9 hq9'
  obtain ⟨w11, hc11, hr11, X11⟩ := litB Try.underlying23 Try.underlying5 [120] X8 hb9 hq9
  refine ⟨_, _, _, w11, hc11, ?_⟩
  have s11' := Step.of_no X11 s7.ok
  have s11 := s7.trans s11'
  have rA : Row w11 (grow w7 o7) (some (blk q9)) (bytesV exA.body) := Row.fresh hr11 fun ad ha => by cases ha; exact hq9
  refine (SignE (P7.step s11' id) s11.ok i1.ok (by have : (OS.init []).used.length = 0 := rfl; show S1.used.length < 1000000; omega) 1 (e := exA) (fun _ => ⟨by decide, by decide, by decide, by decide⟩) rA).mono fun v w22 ⟨o22, xa, xc, hx, s22', P22, rx, lx⟩ => ⟨_, _, _, _, _, _, _, _, _, _, _, hx, ?_⟩
  have i2 := esign_inv i1 1 exA
  have u2 := (signOf_ok i1.ok 1 (textL exA)).2
  have e2 : (signE S1 1 exA).2.used.length ≤ S1.used.length + 1 := by
    unfold signE
    split
    · split <;> exact u2
    · exact Nat.le_succ _
  rw [f2] at P22 rx lx i2 e2 ⊢
  dsimp only at e2
  have s22 := nk s11 s22'
  intro w32 q33 p34 X32 hb33 hq33 hq33' hp34
  have g34 := hp34 p34 (by simp)
  obtain ⟨w36, hc36, hr36, X36⟩ := litB Try.underlying23 Try.underlying5 [121] X32 hb33 hq33
  have k36 : Keep [p34] w32 w36 := fun p hp hl => by
    rw [show p = p34 by simpa using hp] at hl ⊢
    have e := hc36.symm.trans (conv_mark (P := Try.prog) (t := 23) Try.underlying23 Try.underlying5 (n := 1) (c := 1) hb33)
    injection e with _ e
    rw [e]
    exact ((Ext.refl (fun b => b = q33) w32).freeze (x := ⟨q33, _, none⟩) (.inl rfl) 1).block p34 hl (by omega)
  refine ⟨_, _, _, w36, hc36, k36, ?_⟩
  have s36' := Step.of_no X36 s22.ok
  have s36 := s22.trans s36'
  have l36 := X36.size
  have F36 : Free [p34] w36 (grow w22 o22) := fun p hp => by
    rw [show p = p34 by simpa using hp]
    refine ⟨?_, grow_ge g34.1⟩
    have hl := hr36.lt (by simp [bytesV]) rfl
    have : (blk q33).block = q33 := rfl
    omega
  have rB : Row w36 (grow w22 o22) (some (blk q33)) (bytesV exB.body) := Row.fresh hr36 fun ad ha => by cases ha; exact hq33
  refine (SignE (P22.step s36' id) s36.ok i2.ok (by have : (OS.init []).used.length = 0 := rfl; show S2.used.length < 1000000; omega) 1 (e := exB) (fun _ => ⟨by decide, by decide, by decide, by decide⟩) rB).mono fun v w47 ⟨o47, ya, yc, hx, s47', P47, ry, ly⟩ => ⟨_, _, _, _, _, _, _, _, _, _, _, hx, F36.keep s47', fun w56 p57 X56 hp57 => ?_⟩
  rw [f3] at P47 ry ly ⊢
  have s47 := nk s36 s47'
  have F47 := F36.step s47'
  have s56' := Step.of_no X56 s47.ok
  have s56 := s47.trans s56'
  have F56 : Free [p34, p57] w56 (grow w47 o47) := (F47.step s56').app (M := [p57]) (Free.of hp57)
  refine (NewAlarm_spec s56.ok).mono fun v w60 ⟨j, o60, hx, hj, s60', A60⟩ => ⟨_, hx, F56.keep s60', ?_⟩
  have s60 := s56.trans s60'
  have F60 := (F56.step s60').sub (M := [p34]) (by simp)
  have P60 := (P47.step s56' id).step s60' id
  have rx60 := (((rx.step s36').step s47').step s56').step s60'
  have ry60 := (ry.step s56').step s60'
  have hkj : k ≠ j := by
    have := P47.lt
    have := X56.size
    omega
  refine (Raise_spec (a := x) (b := y) A60 P60 s60.ok hkj 2 (fun _ => fx) (fun _ => fy) rx60 ry60 (by omega) (by omega)).mono fun v w63 ⟨o63, hx, s63', A63⟩ => ⟨_, hx, F60.keep s63', fun _ => ⟨fun _ => ⟨fun hr => ?_, fun hr => ?_⟩, fun h => absurd rfl h⟩, fun h => absurd rfl h⟩
  · have hra : raiseP S3 2 [] x y = (0, aput [] x.w (x, y)) := by unfold raiseP; rw [if_pos f4]; rfl
    rw [hra] at A63
    have s63 := s60.trans' s63' fun i hi => .inr (by have := s56.size; omega)
    refine (On_spec A63).mono fun v w69 ⟨he, hw⟩ => ⟨_, he, by subst hw; exact Keep.refl _ _, fun _ => ?_, fun h => by simp [aput] at h⟩
    subst hw
    refine (Check_spec (a := x) (b := x) (P60.step s63' hkj) s63.ok 2 (fun _ => fx) (fun _ => fx) (rx60.step s63').1 (rx60.step s63').1).mono fun v w73 ⟨he, X73⟩ => ⟨_, he, ?_, ?_⟩
    · rw [f5]; rfl
    · exact (s63.ext.mono fun b ⟨_, h, _⟩ _ => by cases h).trans X73
  · have hra : raiseP S3 2 [] x y = (0, aput [] x.w (x, y)) := by unfold raiseP; rw [if_pos f4]; rfl
    rw [hra] at hr
    exact absurd rfl hr
end Go.Proofs.Ytfmdpjhkojbocaa

/- Entries in a row, and where their bytes lie. -/
set_option linter.unusedVariables false
set_option linter.unusedSimpArgs false
set_option maxRecDepth 20000
namespace Go.Proofs.Ytfmdpjhkojbocaa
open Go Go.Mx Go.Proofs
/-- an entry, and where its bytes lie. -/
structure PE where
  e : Ent
  a : Option Addr
  c : Nat
def PE.C (x : PE) : List Value := entC x.e x.a x.c
def PE.ok (w : World) (o : Own) (x : PE) : Prop := Row w o x.a (bytesV x.e.body) ∧ x.e.body.length ≤ x.c ∧ x.e.fit
def PE.Cs (l : List PE) : List Value := l.flatMap PE.C
theorem PE.len (x : PE) : x.C.length = 8 := rfl
theorem PE.Cs_length (l : List PE) : (PE.Cs l).length = l.length * 8 := by
  induction l with
  | nil => rfl
  | cons x r ih => simp only [PE.Cs, List.flatMap_cons, List.length_append, List.length_cons] at ih ⊢; rw [ih, PE.len]; omega
theorem PE.Cs_get : ∀ {l : List PE} {i : Nat} {x : PE}, l[i]? = some x → ∀ j, j < 8 → (PE.Cs l)[i * 8 + j]? = x.C[j]?
  | [], i, x, hi, j, hj => by simp at hi
  | a :: r, 0, x, hi, j, hj => by
    simp only [List.getElem?_cons_zero, Option.some.injEq] at hi
    subst hi
    simp only [PE.Cs, List.flatMap_cons, Nat.zero_mul, Nat.zero_add]
    rw [List.getElem?_append_left (by rw [PE.len]; omega)]
  | a :: r, i + 1, x, hi, j, hj => by
    simp only [List.getElem?_cons_succ] at hi
    have := PE.Cs_get hi j hj
    simp only [PE.Cs, List.flatMap_cons] at this ⊢
    rw [List.getElem?_append_right (by rw [PE.len]; omega), show (i + 1) * 8 + j - a.C.length = i * 8 + j by rw [PE.len]; omega]
    exact this
theorem PE.one (x : PE) : ∀ u ∈ x.C, u.oneCell' = true := fun u hu => by
  simp only [PE.C, entC, List.mem_cons, List.not_mem_nil, or_false] at hu
  rcases hu with rfl | rfl | rfl | rfl | rfl | rfl | rfl | rfl <;> rfl
theorem PE.ok.step {w w' : World} {o o' : Own} {K : Nat → Prop} {x : PE} (h : x.ok w o) (s : Step K w o w' o') : x.ok w' o' := ⟨h.1.step s, h.2⟩
theorem PE.loads {w : World} {la : Option Addr} {ad : Addr} {l : List PE} (hr : RowAt w la (PE.Cs l)) (ha : la = some ad) {i : Nat} {x : PE} (hi : l[i]? = some x) : cellsAt w (ad.add (i * 8)) x.C 0 := by
  subst ha
  have h : ∀ j v, x.C[j]? = some v → w.cell? ((ad.add (i * 8)).add j) = some v := fun j v hv => by
    have hj : j < 8 := by have := (List.getElem?_eq_some_iff.1 hv).1; exact this
    rw [add_add]
    exact hr.at_ ((PE.Cs_get hi j hj).trans hv)
  exact ⟨h 0 _ rfl, h 1 _ rfl, h 2 _ rfl, h 3 _ rfl, h 4 _ rfl, h 5 _ rfl, h 6 _ rfl, h 7 _ rfl, trivial⟩
theorem PE.cell {w : World} {la : Option Addr} {ad : Addr} {l : List PE} (hr : RowAt w la (PE.Cs l)) (ha : la = some ad) {i : Nat} {x : PE} (hi : l[i]? = some x) {j : Nat} {v : Value} (hv : x.C[j]? = some v) : w.cell? ((ad.add (i * 8)).add j) = some v := by
  subst ha
  have hj : j < 8 := by have := (List.getElem?_eq_some_iff.1 hv).1; exact this
  rw [add_add]
  exact hr.at_ ((PE.Cs_get hi j hj).trans hv)
end Go.Proofs.Ytfmdpjhkojbocaa

/- ForkcheckChecks. -/
set_option linter.unusedVariables false
set_option linter.unusedSimpArgs false
set_option maxRecDepth 20000
set_option maxHeartbeats 2000000
namespace Go.Proofs.Ytfmdpjhkojbocaa
open Go Go.Mx Go.Proofs
open W (OwnB GivesW numR countR doneR zig unzig intR)
end Go.Proofs.Ytfmdpjhkojbocaa

/- Entries and a head that are handed in. -/
set_option linter.unusedVariables false
set_option linter.unusedSimpArgs false
set_option maxRecDepth 20000
namespace Go.Proofs.Ytfmdpjhkojbocaa
open Go Go.Mx Go.Proofs
end Go.Proofs.Ytfmdpjhkojbocaa
