/- ForkcheckClaims: predicates. -/
import Derived.Test.YtfmdpjhkojbocaaZD
import Derived.Test.YtfmdpjhkojbocaaZE
set_option linter.unusedVariables false
set_option linter.unusedSimpArgs false
set_option maxRecDepth 20000
set_option maxHeartbeats 4000000
namespace Go.Proofs.Ytfmdpjhkojbocaa
open Go Go.Mx Go.Proofs
open W (OwnB GivesW numR countR doneR zig unzig intR)
/-- forkcheck.Text -/
def forkcheck_Text.M (a7 : Int) (ak : Option Addr) (aj : Nat) (an : Nat) (R : Value → World → Prop) (w : World) : Prop :=
 Calls Try.prog 48 #[.slice ak aj an] w fun am aa => ∃ (a0 : Option Addr) (a1 : Nat) (a2 : Nat) (a5 : Int), am = .returned (.tuple #[.slice a0 a1 a2, .int .i64 a5]) ∧
 bif a5 != 0 then (
 R (.tuple #[.slice none 0 0, .int .i64 1]) aa) else (
 bif decide (a7 < 0) then (
 R (.tuple #[.slice none 0 0, .int .i64 1]) aa) else (
 bif decide (a7 ≥ 8) then (
 R (.tuple #[.slice none 0 0, .int .i64 1]) aa) else (
 thenW (aa.alloc (.cells #[.int .u8 99, .int .u8 108, .int .u8 97, .int .u8 105, .int .u8 109] 5)) fun al =>
 ∃ (af : Option Addr) (ai : Nat) (ag : Nat) (ah : World), (convert 23 23 (.slice (some (blk aa.heap.size)) 5 5)).run Try.prog al = .ok (.slice af ai ag) ah ∧
 Calls Try.prog 49 #[.slice af ai ag, .int .u64 (IntKind.u64.wrap a7)] ah fun ad ae => ∃ (a3 : Option Addr) (a6 : Nat) (a4 : Nat), ad = .returned (.slice a3 a6 a4) ∧
 ∃ (a8 : Option Addr) (ac : Nat) (a9 : Nat) (ab : World), (Builtin.append_ #[23, 23] 23 #[.slice a3 a6 a4, .slice a0 a1 a2]).run Try.prog ae = .ok (.slice a8 ac a9) ab ∧
 R (.tuple #[.slice a8 ac a9, .int .i64 0]) ab)))

theorem forkcheck_Text.eq (who1 : Int) (v2a : Option Addr) (v2n : Nat) (v2c : Nat) (R : Value → World → Prop) (w : World) : mfunc Try.prog [] 19 [.int .i64 who1, .slice v2a v2n v2c] R w = forkcheck_Text.M who1 v2a v2n v2c R w := by kernel_rfl
theorem forkcheck_Text.ok (a0 : Int) (a3 : Option Addr) (a2 : Nat) (a1 : Nat) {R : Value → World → Prop} {w : World} (h : forkcheck_Text.M a0 a3 a2 a1 R w) : Calls Try.prog 19 #[.int .i64 a0, .slice a3 a2 a1] w fun e w' => ∃ v, e = .returned v ∧ R v w' :=
  mfunc_ok follows (H := []) (args := [.int .i64 a0, .slice a3 a2 a1]) (by rw [forkcheck_Text.eq]; exact h)

def forkcheck_Text.N (a4 : Int) (am : Option Addr) (al : Nat) (ao : Nat) (R : Value → World → Prop) (w : World) : Prop :=
 Calls Try.prog 48 #[.slice am al ao] w fun an ab => ∃ (a1 : Option Addr) (a2 : Nat) (a3 : Nat) (a0 : Int), an = .returned (.tuple #[.slice a1 a2 a3, .int .i64 a0]) ∧
 (a0 ≠ 0 →
 R (.tuple #[.slice none 0 0, .int .i64 1]) ab) ∧
 (a0 = 0 →
 (a4 < 0 →
 R (.tuple #[.slice none 0 0, .int .i64 1]) ab) ∧
 ((0 : Int) ≤ a4 →
 (a4 ≥ 8 →
 R (.tuple #[.slice none 0 0, .int .i64 1]) ab) ∧
 (a4 < 8 →
 ∀ (a8 : World) (ai : Nat), Ext no ab a8 → Blk a8 ai 5 [.int .u8 99, .int .u8 108, .int .u8 97, .int .u8 105, .int .u8 109] → ab.heap.size ≤ ai → ai < a8.heap.size →
 ∃ (ac : Option Addr) (ad : Nat) (ag : Nat) (a9 : World), (convert 23 23 (.slice (some (blk ai)) 5 5)).run Try.prog a8 = .ok (.slice ac ad ag) a9 ∧
 Calls Try.prog 49 #[.slice ac ad ag, .int .u64 (IntKind.u64.wrap a4)] a9 fun aj ak => ∃ (a6 : Option Addr) (a5 : Nat) (a7 : Nat), aj = .returned (.slice a6 a5 a7) ∧
 ∃ (aa : Option Addr) (ah : Nat) (ae : Nat) (af : World), (Builtin.append_ #[23, 23] 23 #[.slice a6 a5 a7, .slice a1 a2 a3]).run Try.prog ak = .ok (.slice aa ah ae) af ∧
 R (.tuple #[.slice aa ah ae, .int .i64 0]) af)))

theorem forkcheck_Text.up (a7 : Int) (ak : Option Addr) (aj : Nat) (al : Nat) {R : Value → World → Prop} {w : World} (h : forkcheck_Text.N a7 ak aj al R w) : forkcheck_Text.M a7 ak aj al R w := by
  unfold forkcheck_Text.M
  unfold forkcheck_Text.N at h
  refine h.mono fun ao ab h => ?_
  obtain ⟨a0, a1, a2, a6, he, h⟩ := h
  refine ⟨a0, a1, a2, a6, he, ?_⟩
  refine bif_of (fun c7 => ?_) (fun c7 => ?_)
  · have h := h.1 (bne_t c7)
    exact h
  · have h := h.2 (bne_f c7)
    refine bif_of (fun c8 => ?_) (fun c8 => ?_)
    · have h := h.1 (of_decide_eq_true c8)
      exact h
    · have h := h.2 (Int.not_lt.1 (of_decide_eq_false c8))
      refine bif_of (fun c9 => ?_) (fun c9 => ?_)
      · have h := h.1 (of_decide_eq_true c9)
        exact h
      · have h := h.2 (Int.not_le.1 (of_decide_eq_false c9))
        refine thenW_in fun a9 ac => ?_
        have h := h a9 ab.heap.size ((Ext.refl no ab).x_alloc ac) (Blk.of_new ac) ((Ext.refl no ab)).size (size_lt_alloc ac)
        obtain ⟨ad, ae, ah, a8, hr, h⟩ := h
        refine ⟨ad, ae, ah, a8, hr, ?_⟩
        refine h.mono fun am an h => ?_
        obtain ⟨a4, a3, a5, he, h⟩ := h
        refine ⟨a4, a3, a5, he, ?_⟩
        obtain ⟨aa, ai, af, ag, hr, h⟩ := h
        refine ⟨aa, ai, af, ag, hr, ?_⟩
        exact h

theorem forkcheck_Text.go (a0 : Int) (a3 : Option Addr) (a2 : Nat) (a1 : Nat) {R : Value → World → Prop} {w : World} (h : forkcheck_Text.N a0 a3 a2 a1 R w) : Calls Try.prog 19 #[.int .i64 a0, .slice a3 a2 a1] w fun e w' => ∃ v, e = .returned v ∧ R v w' := forkcheck_Text.ok a0 a3 a2 a1 (forkcheck_Text.up a0 a3 a2 a1 h)
/-- forkcheck.Claim -/
def forkcheck_Claim.M (o1 : Option Addr) (fd : Int) (dt : Int) (fx : Option Addr) (fw : Nat) (fv : Nat) (R : Value → World → Prop) (w : World) : Prop :=
 thenW (w.alloc (.cells #[.int .i64 0, .int .i64 0, .int .i64 0, .int .u64 0, .int .i64 0, .int .i64 0, .int .i64 0, .slice none 0 0, .int .u64 0, .int .i64 0, .int .i64 0, .int .u64 0, .int .i64 0, .int .i64 0, .int .i64 0, .slice none 0 0, .int .u64 0, .int .i64 0, .slice none 0 0, .int .u64 0] 69)) fun fz =>
 Calls Try.prog 19 #[.int .i64 fd, .slice fx fw fv] fz fun fy ft => ∃ (dp : Option Addr) (dm : Nat) (dl : Nat) (dq : Int), fy = .returned (.tuple #[.slice dp dm dl, .int .i64 dq]) ∧
 bif dq != 0 then (
 ∃ (de : Int) (bc : Int) (c7 : Int) (d0 : Int) (d7 : Int) (d9 : Int) (bx : Int) (bv : Option Addr) (ci : Nat) (c0 : Nat) (da : Int) (bb : Int) (cf : Int) (ct : Int) (d5 : Int) (d3 : Int) (cb : Int) (cn : Option Addr) (ck : Nat) (ca : Nat) (d6 : Int) (dk : Int) (e2 : Option Addr) (ev : Nat) (es : Nat) (dr : Int), cellsAt ft (blk w.heap.size) [.int .i64 de, .int .i64 bc, .int .i64 c7, .int .u64 d0, .int .i64 d7, .int .i64 d9, .int .i64 bx, .slice bv ci c0, .int .u64 da, .int .i64 bb, .int .i64 cf, .int .u64 ct, .int .i64 d5, .int .i64 d3, .int .i64 cb, .slice cn ck ca, .int .u64 d6, .int .i64 dk, .slice e2 ev es, .int .u64 dr] 0 ∧
 canStore ft ((blk w.heap.size).add 0) ∧
 thenW (ft.setCell ((blk w.heap.size).add 0) (.int .i64 de)) fun fc =>
 canStore fc ((blk w.heap.size).add 1) ∧
 thenW (fc.setCell ((blk w.heap.size).add 1) (.int .i64 bc)) fun fp =>
 canStore fp ((blk w.heap.size).add 2) ∧
 thenW (fp.setCell ((blk w.heap.size).add 2) (.int .i64 c7)) fun fi =>
 canStore fi ((blk w.heap.size).add 3) ∧
 thenW (fi.setCell ((blk w.heap.size).add 3) (.int .u64 d0)) fun f0 =>
 canStore f0 ((blk w.heap.size).add 4) ∧
 thenW (f0.setCell ((blk w.heap.size).add 4) (.int .i64 d7)) fun f3 =>
 canStore f3 ((blk w.heap.size).add 5) ∧
 thenW (f3.setCell ((blk w.heap.size).add 5) (.int .i64 d9)) fun fa =>
 canStore fa ((blk w.heap.size).add 6) ∧
 thenW (fa.setCell ((blk w.heap.size).add 6) (.int .i64 bx)) fun fe =>
 canStore fe ((blk w.heap.size).add 7) ∧
 thenW (fe.setCell ((blk w.heap.size).add 7) (.slice bv ci c0)) fun fb =>
 canStore fb ((blk w.heap.size).add 8) ∧
 thenW (fb.setCell ((blk w.heap.size).add 8) (.int .u64 da)) fun fr =>
 canStore fr ((blk w.heap.size).add 9) ∧
 thenW (fr.setCell ((blk w.heap.size).add 9) (.int .i64 bb)) fun f2 =>
 canStore f2 ((blk w.heap.size).add 10) ∧
 thenW (f2.setCell ((blk w.heap.size).add 10) (.int .i64 cf)) fun fl =>
 canStore fl ((blk w.heap.size).add 11) ∧
 thenW (fl.setCell ((blk w.heap.size).add 11) (.int .u64 ct)) fun f8 =>
 canStore f8 ((blk w.heap.size).add 12) ∧
 thenW (f8.setCell ((blk w.heap.size).add 12) (.int .i64 d5)) fun f9 =>
 canStore f9 ((blk w.heap.size).add 13) ∧
 thenW (f9.setCell ((blk w.heap.size).add 13) (.int .i64 d3)) fun fs =>
 canStore fs ((blk w.heap.size).add 14) ∧
 thenW (fs.setCell ((blk w.heap.size).add 14) (.int .i64 cb)) fun fg =>
 canStore fg ((blk w.heap.size).add 15) ∧
 thenW (fg.setCell ((blk w.heap.size).add 15) (.slice cn ck ca)) fun f4 =>
 canStore f4 ((blk w.heap.size).add 16) ∧
 thenW (f4.setCell ((blk w.heap.size).add 16) (.int .u64 d6)) fun fj =>
 canStore fj ((blk w.heap.size).add 17) ∧
 thenW (fj.setCell ((blk w.heap.size).add 17) (.int .i64 dk)) fun fk =>
 canStore fk ((blk w.heap.size).add 18) ∧
 thenW (fk.setCell ((blk w.heap.size).add 18) (.slice e2 ev es)) fun f6 =>
 canStore f6 ((blk w.heap.size).add 19) ∧
 thenW (f6.setCell ((blk w.heap.size).add 19) (.int .u64 dr)) fun fo =>
 ∃ (c2 : Int) (ak : Int) (av : Int) (bp : Int) (co : Int) (cm : Int) (b5 : Int) (b4 : Option Addr) (au : Nat) (aq : Nat) (bs : Int) (al : Int) (b2 : Int) (b8 : Int) (c4 : Int) (br : Int) (aw : Int) (az : Option Addr) (ay : Nat) (b3 : Nat) (bt : Int) (cu : Int) (dh : Option Addr) (dd : Nat) (df : Nat) (cw : Int), cellsAt fo (blk w.heap.size) [.int .i64 c2, .int .i64 ak, .int .i64 av, .int .u64 bp, .int .i64 co, .int .i64 cm, .int .i64 b5, .slice b4 au aq, .int .u64 bs, .int .i64 al, .int .i64 b2, .int .u64 b8, .int .i64 c4, .int .i64 br, .int .i64 aw, .slice az ay b3, .int .u64 bt, .int .i64 cu, .slice dh dd df, .int .u64 cw] 0 ∧
 R (.tuple #[.agg #[.int .i64 c2, .int .i64 ak, .int .i64 av, .int .u64 bp, .int .i64 co, .int .i64 cm, .int .i64 b5, .slice b4 au aq, .int .u64 bs, .int .i64 al, .int .i64 b2, .int .u64 b8, .int .i64 c4, .int .i64 br, .int .i64 aw, .slice az ay b3, .int .u64 bt, .int .i64 cu, .slice dh dd df, .int .u64 cw], .int .i64 dq]) fo) else (
 Calls Try.prog 52 #[.pointer o1, .int .u64 dt, .slice dp dm dl] ft fun fu du => ∃ (ds : Int) (d1 : Int), fu = .returned (.tuple #[.int .u64 ds, .int .i64 d1]) ∧
 bif d1 != 0 then (
 ∃ (dc : Int) (bi : Int) (c9 : Int) (cq : Int) (db : Int) (dg : Int) (c5 : Int) (ch : Option Addr) (cc : Nat) (c8 : Nat) (d4 : Int) (b9 : Int) (cg : Int) (cs : Int) (di : Int) (d2 : Int) (c1 : Int) (c3 : Option Addr) (cj : Nat) (bw : Nat) (d8 : Int) (dj : Int) (en : Option Addr) (ej : Nat) (e6 : Nat) (dn : Int), cellsAt du (blk w.heap.size) [.int .i64 dc, .int .i64 bi, .int .i64 c9, .int .u64 cq, .int .i64 db, .int .i64 dg, .int .i64 c5, .slice ch cc c8, .int .u64 d4, .int .i64 b9, .int .i64 cg, .int .u64 cs, .int .i64 di, .int .i64 d2, .int .i64 c1, .slice c3 cj bw, .int .u64 d8, .int .i64 dj, .slice en ej e6, .int .u64 dn] 0 ∧
 canStore du ((blk w.heap.size).add 0) ∧
 thenW (du.setCell ((blk w.heap.size).add 0) (.int .i64 dc)) fun fh =>
 canStore fh ((blk w.heap.size).add 1) ∧
 thenW (fh.setCell ((blk w.heap.size).add 1) (.int .i64 bi)) fun fm =>
 canStore fm ((blk w.heap.size).add 2) ∧
 thenW (fm.setCell ((blk w.heap.size).add 2) (.int .i64 c9)) fun fq =>
 canStore fq ((blk w.heap.size).add 3) ∧
 thenW (fq.setCell ((blk w.heap.size).add 3) (.int .u64 cq)) fun f1 =>
 canStore f1 ((blk w.heap.size).add 4) ∧
 thenW (f1.setCell ((blk w.heap.size).add 4) (.int .i64 db)) fun ff =>
 canStore ff ((blk w.heap.size).add 5) ∧
 thenW (ff.setCell ((blk w.heap.size).add 5) (.int .i64 dg)) fun f5 =>
 canStore f5 ((blk w.heap.size).add 6) ∧
 thenW (f5.setCell ((blk w.heap.size).add 6) (.int .i64 c5)) fun e0 =>
 canStore e0 ((blk w.heap.size).add 7) ∧
 thenW (e0.setCell ((blk w.heap.size).add 7) (.slice ch cc c8)) fun e1 =>
 canStore e1 ((blk w.heap.size).add 8) ∧
 thenW (e1.setCell ((blk w.heap.size).add 8) (.int .u64 d4)) fun e3 =>
 canStore e3 ((blk w.heap.size).add 9) ∧
 thenW (e3.setCell ((blk w.heap.size).add 9) (.int .i64 b9)) fun e5 =>
 canStore e5 ((blk w.heap.size).add 10) ∧
 thenW (e5.setCell ((blk w.heap.size).add 10) (.int .i64 cg)) fun ey =>
 canStore ey ((blk w.heap.size).add 11) ∧
 thenW (ey.setCell ((blk w.heap.size).add 11) (.int .u64 cs)) fun ee =>
 canStore ee ((blk w.heap.size).add 12) ∧
 thenW (ee.setCell ((blk w.heap.size).add 12) (.int .i64 di)) fun e8 =>
 canStore e8 ((blk w.heap.size).add 13) ∧
 thenW (e8.setCell ((blk w.heap.size).add 13) (.int .i64 d2)) fun e4 =>
 canStore e4 ((blk w.heap.size).add 14) ∧
 thenW (e4.setCell ((blk w.heap.size).add 14) (.int .i64 c1)) fun ea =>
 canStore ea ((blk w.heap.size).add 15) ∧
 thenW (ea.setCell ((blk w.heap.size).add 15) (.slice c3 cj bw)) fun em =>
 canStore em ((blk w.heap.size).add 16) ∧
 thenW (em.setCell ((blk w.heap.size).add 16) (.int .u64 d8)) fun ed =>
 canStore ed ((blk w.heap.size).add 17) ∧
 thenW (ed.setCell ((blk w.heap.size).add 17) (.int .i64 dj)) fun ew =>
 canStore ew ((blk w.heap.size).add 18) ∧
 thenW (ew.setCell ((blk w.heap.size).add 18) (.slice en ej e6)) fun e9 =>
 canStore e9 ((blk w.heap.size).add 19) ∧
 thenW (e9.setCell ((blk w.heap.size).add 19) (.int .u64 dn)) fun ei =>
 ∃ (bf : Int) (a3 : Int) (a8 : Int) (ar : Int) (bk : Int) (bj : Int) (a4 : Int) (ac : Option Addr) (ad : Nat) (am : Nat) (bd : Int) (a0 : Int) (a7 : Int) (b0 : Int) (bo : Int) (be : Int) (ab : Int) (ag : Option Addr) (ao : Nat) (ah : Nat) (bm : Int) (cd : Int) (cp : Option Addr) (cz : Nat) (cv : Nat) (cl : Int), cellsAt ei (blk w.heap.size) [.int .i64 bf, .int .i64 a3, .int .i64 a8, .int .u64 ar, .int .i64 bk, .int .i64 bj, .int .i64 a4, .slice ac ad am, .int .u64 bd, .int .i64 a0, .int .i64 a7, .int .u64 b0, .int .i64 bo, .int .i64 be, .int .i64 ab, .slice ag ao ah, .int .u64 bm, .int .i64 cd, .slice cp cz cv, .int .u64 cl] 0 ∧
 R (.tuple #[.agg #[.int .i64 bf, .int .i64 a3, .int .i64 a8, .int .u64 ar, .int .i64 bk, .int .i64 bj, .int .i64 a4, .slice ac ad am, .int .u64 bd, .int .i64 a0, .int .i64 a7, .int .u64 b0, .int .i64 bo, .int .i64 be, .int .i64 ab, .slice ag ao ah, .int .u64 bm, .int .i64 cd, .slice cp cz cv, .int .u64 cl], .int .i64 d1]) ei) else (
 Calls Try.prog 53 #[.slice fx fw fv] du fun f7 eb => ∃ (bq : Option Addr) (c6 : Nat) (ce : Nat), f7 = .returned (.slice bq c6 ce) ∧
 canStore eb ((blk w.heap.size).add 0) ∧
 thenW (eb.setCell ((blk w.heap.size).add 0) (.int .i64 3)) fun e7 =>
 canStore e7 ((blk w.heap.size).add 1) ∧
 thenW (e7.setCell ((blk w.heap.size).add 1) (.int .i64 0)) fun ex =>
 canStore ex ((blk w.heap.size).add 2) ∧
 thenW (ex.setCell ((blk w.heap.size).add 2) (.int .i64 0)) fun ep =>
 canStore ep ((blk w.heap.size).add 3) ∧
 thenW (ep.setCell ((blk w.heap.size).add 3) (.int .u64 0)) fun eo =>
 canStore eo ((blk w.heap.size).add 4) ∧
 thenW (eo.setCell ((blk w.heap.size).add 4) (.int .i64 0)) fun dw =>
 canStore dw ((blk w.heap.size).add 5) ∧
 thenW (dw.setCell ((blk w.heap.size).add 5) (.int .i64 0)) fun el =>
 canStore el ((blk w.heap.size).add 6) ∧
 thenW (el.setCell ((blk w.heap.size).add 6) (.int .i64 0)) fun dz =>
 canStore dz ((blk w.heap.size).add 7) ∧
 thenW (dz.setCell ((blk w.heap.size).add 7) (.slice none 0 0)) fun eh =>
 canStore eh ((blk w.heap.size).add 8) ∧
 thenW (eh.setCell ((blk w.heap.size).add 8) (.int .u64 0)) fun ef =>
 canStore ef ((blk w.heap.size).add 9) ∧
 thenW (ef.setCell ((blk w.heap.size).add 9) (.int .i64 0)) fun er =>
 canStore er ((blk w.heap.size).add 10) ∧
 thenW (er.setCell ((blk w.heap.size).add 10) (.int .i64 0)) fun dy =>
 canStore dy ((blk w.heap.size).add 11) ∧
 thenW (dy.setCell ((blk w.heap.size).add 11) (.int .u64 0)) fun et =>
 canStore et ((blk w.heap.size).add 12) ∧
 thenW (et.setCell ((blk w.heap.size).add 12) (.int .i64 0)) fun eg =>
 canStore eg ((blk w.heap.size).add 13) ∧
 thenW (eg.setCell ((blk w.heap.size).add 13) (.int .i64 0)) fun ek =>
 canStore ek ((blk w.heap.size).add 14) ∧
 thenW (ek.setCell ((blk w.heap.size).add 14) (.int .i64 0)) fun dv =>
 canStore dv ((blk w.heap.size).add 15) ∧
 thenW (dv.setCell ((blk w.heap.size).add 15) (.slice none 0 0)) fun eq =>
 canStore eq ((blk w.heap.size).add 16) ∧
 thenW (eq.setCell ((blk w.heap.size).add 16) (.int .u64 0)) fun eu =>
 canStore eu ((blk w.heap.size).add 17) ∧
 thenW (eu.setCell ((blk w.heap.size).add 17) (.int .i64 fd)) fun ec =>
 canStore ec ((blk w.heap.size).add 18) ∧
 thenW (ec.setCell ((blk w.heap.size).add 18) (.slice bq c6 ce)) fun ez =>
 canStore ez ((blk w.heap.size).add 19) ∧
 thenW (ez.setCell ((blk w.heap.size).add 19) (.int .u64 ds)) fun dx =>
 ∃ (ba : Int) (a1 : Int) (af : Int) (b1 : Int) (bg : Int) (bl : Int) (ae : Int) (ai : Option Addr) (aa : Nat) (aj : Nat) (bh : Int) (a2 : Int) (a5 : Int) (ax : Int) (b7 : Int) (bn : Int) (an : Int) (a9 : Option Addr) (a6 : Nat) (ap : Nat) (b6 : Int) (bu : Int) (cr : Option Addr) (cx : Nat) (cy : Nat) (bz : Int), cellsAt dx (blk w.heap.size) [.int .i64 ba, .int .i64 a1, .int .i64 af, .int .u64 b1, .int .i64 bg, .int .i64 bl, .int .i64 ae, .slice ai aa aj, .int .u64 bh, .int .i64 a2, .int .i64 a5, .int .u64 ax, .int .i64 b7, .int .i64 bn, .int .i64 an, .slice a9 a6 ap, .int .u64 b6, .int .i64 bu, .slice cr cx cy, .int .u64 bz] 0 ∧
 R (.tuple #[.agg #[.int .i64 ba, .int .i64 a1, .int .i64 af, .int .u64 b1, .int .i64 bg, .int .i64 bl, .int .i64 ae, .slice ai aa aj, .int .u64 bh, .int .i64 a2, .int .i64 a5, .int .u64 ax, .int .i64 b7, .int .i64 bn, .int .i64 an, .slice a9 a6 ap, .int .u64 b6, .int .i64 bu, .slice cr cx cy, .int .u64 bz], .int .i64 0]) dx))

theorem forkcheck_Claim.eq (o1 : Option Addr) (who2 : Int) (secret3 : Int) (v4a : Option Addr) (v4n : Nat) (v4c : Nat) (R : Value → World → Prop) (w : World) : mfunc Try.prog [] 21 [.pointer o1, .int .i64 who2, .int .u64 secret3, .slice v4a v4n v4c] R w = forkcheck_Claim.M o1 who2 secret3 v4a v4n v4c R w := by kernel_rfl
theorem forkcheck_Claim.ok (o1 : Option Addr) (a1 : Int) (a0 : Int) (a4 : Option Addr) (a3 : Nat) (a2 : Nat) {R : Value → World → Prop} {w : World} (h : forkcheck_Claim.M o1 a1 a0 a4 a3 a2 R w) : Calls Try.prog 21 #[.pointer o1, .int .i64 a1, .int .u64 a0, .slice a4 a3 a2] w fun e w' => ∃ v, e = .returned v ∧ R v w' :=
  mfunc_ok follows (H := []) (args := [.pointer o1, .int .i64 a1, .int .u64 a0, .slice a4 a3 a2]) (by rw [forkcheck_Claim.eq]; exact h)

def forkcheck_Claim.N (o1 : Option Addr) (ae : Int) (ab : Int) (al : Option Addr) (ak : Nat) (am : Nat) (R : Value → World → Prop) (w : World) : Prop :=
 ∀ (ah : World) (p6 : Nat), Ext no w ah → Priv w ah [p6] →
 Calls Try.prog 19 #[.int .i64 ae, .slice al ak am] ah fun an aa => ∃ (a5 : Option Addr) (a6 : Nat) (a8 : Nat) (a4 : Int), an = .returned (.tuple #[.slice a5 a6 a8, .int .i64 a4]) ∧
 Keep [p6] ah aa ∧
 (a4 ≠ 0 →
 ∀ (ag : World), Ext (fun b => b = p6) aa ag →
 R (.tuple #[.agg #[.int .i64 0, .int .i64 0, .int .i64 0, .int .u64 0, .int .i64 0, .int .i64 0, .int .i64 0, .slice none 0 0, .int .u64 0, .int .i64 0, .int .i64 0, .int .u64 0, .int .i64 0, .int .i64 0, .int .i64 0, .slice none 0 0, .int .u64 0, .int .i64 0, .slice none 0 0, .int .u64 0], .int .i64 a4]) ag) ∧
 (a4 = 0 →
 Calls Try.prog 52 #[.pointer o1, .int .u64 ab, .slice a5 a6 a8] aa fun aj a9 => ∃ (a7 : Int) (a0 : Int), aj = .returned (.tuple #[.int .u64 a7, .int .i64 a0]) ∧
 Keep [p6] aa a9 ∧
 (a0 ≠ 0 →
 ∀ (af : World), Ext (fun b => b = p6) a9 af →
 R (.tuple #[.agg #[.int .i64 0, .int .i64 0, .int .i64 0, .int .u64 0, .int .i64 0, .int .i64 0, .int .i64 0, .slice none 0 0, .int .u64 0, .int .i64 0, .int .i64 0, .int .u64 0, .int .i64 0, .int .i64 0, .int .i64 0, .slice none 0 0, .int .u64 0, .int .i64 0, .slice none 0 0, .int .u64 0], .int .i64 a0]) af) ∧
 (a0 = 0 →
 Calls Try.prog 53 #[.slice al ak am] a9 fun ai ad => ∃ (a2 : Option Addr) (a1 : Nat) (a3 : Nat), ai = .returned (.slice a2 a1 a3) ∧
 Keep [p6] a9 ad ∧
 ∀ (ac : World), Ext (fun b => b = p6) ad ac →
 R (.tuple #[.agg #[.int .i64 3, .int .i64 0, .int .i64 0, .int .u64 0, .int .i64 0, .int .i64 0, .int .i64 0, .slice none 0 0, .int .u64 0, .int .i64 0, .int .i64 0, .int .u64 0, .int .i64 0, .int .i64 0, .int .i64 0, .slice none 0 0, .int .u64 0, .int .i64 ae, .slice a2 a1 a3, .int .u64 a7], .int .i64 0]) ac))

theorem forkcheck_Claim.up (o1 : Option Addr) (a6 : Int) (a5 : Int) (fk : Option Addr) (f7 : Nat) (eb : Nat) {R : Value → World → Prop} {w : World} (h : forkcheck_Claim.N o1 a6 a5 fk f7 eb R w) : forkcheck_Claim.M o1 a6 a5 fk f7 eb R w := by
  unfold forkcheck_Claim.M
  unfold forkcheck_Claim.N at h
  refine thenW_in fun ft e5 => ?_
  have a0 := Blk.of_new e5
  have fx := ((Ext.refl no w)).size
  have fv := (Ext.refl no w).x_alloc e5
  have h := h ft (w.heap.size) fv (Priv.cons fx a0.lt Priv.nil)
  refine h.mono fun fy a7 h => ?_
  obtain ⟨ab, ad, a8, ag, he, hk, h⟩ := h
  refine ⟨ab, ad, a8, ag, he, ?_⟩
  have a0 := hk.blk a0 (by simp)
  refine bif_of (fun ch => ?_) (fun ch => ?_)
  · have h := h.1 (bne_t ch)
    refine ⟨0, 0, 0, 0, 0, 0, 0, none, 0, 0, 0, 0, 0, 0, 0, 0, 0, none, 0, 0, 0, 0, none, 0, 0, 0, ⟨a0.celli 0 rfl rfl, a0.celli 1 rfl rfl, a0.celli 2 rfl rfl, a0.celli 3 rfl rfl, a0.celli 4 rfl rfl, a0.celli 5 rfl rfl, a0.celli 6 rfl rfl, a0.celli 7 rfl rfl, a0.celli 8 rfl rfl, a0.celli 9 rfl rfl, a0.celli 10 rfl rfl, a0.celli 11 rfl rfl, a0.celli 12 rfl rfl, a0.celli 13 rfl rfl, a0.celli 14 rfl rfl, a0.celli 15 rfl rfl, a0.celli 16 rfl rfl, a0.celli 17 rfl rfl, a0.celli 18 rfl rfl, a0.celli 19 rfl rfl, trivial⟩, ?_⟩
    have cq : Ext (fun b => b = w.heap.size) a7 a7 := ((Ext.refl no a7)).none
    refine ⟨a0.cani 0 rfl rfl, thenW_in fun dm ei => ?_⟩
    have d7 := cq.x_set (q := w.heap.size) (i := 0) rfl (.inl rfl) ei
    have a0 : Blk dm w.heap.size 69 [.int .i64 0, .int .i64 0, .int .i64 0, .int .u64 0, .int .i64 0, .int .i64 0, .int .i64 0, .slice none 0 0, .int .u64 0, .int .i64 0, .int .i64 0, .int .u64 0, .int .i64 0, .int .i64 0, .int .i64 0, .slice none 0 0, .int .u64 0, .int .i64 0, .slice none 0 0, .int .u64 0] := a0.seti 0 rfl ei
    refine ⟨a0.cani 1 rfl rfl, thenW_in fun ak ev => ?_⟩
    have bn := d7.x_set (q := w.heap.size) (i := 1) rfl (.inl rfl) ev
    have a0 : Blk ak w.heap.size 69 [.int .i64 0, .int .i64 0, .int .i64 0, .int .u64 0, .int .i64 0, .int .i64 0, .int .i64 0, .slice none 0 0, .int .u64 0, .int .i64 0, .int .i64 0, .int .u64 0, .int .i64 0, .int .i64 0, .int .i64 0, .slice none 0 0, .int .u64 0, .int .i64 0, .slice none 0 0, .int .u64 0] := a0.seti 1 rfl ev
    refine ⟨a0.cani 2 rfl rfl, thenW_in fun dq el => ?_⟩
    have c6 := bn.x_set (q := w.heap.size) (i := 2) rfl (.inl rfl) el
    have a0 : Blk dq w.heap.size 69 [.int .i64 0, .int .i64 0, .int .i64 0, .int .u64 0, .int .i64 0, .int .i64 0, .int .i64 0, .slice none 0 0, .int .u64 0, .int .i64 0, .int .i64 0, .int .u64 0, .int .i64 0, .int .i64 0, .int .i64 0, .slice none 0 0, .int .u64 0, .int .i64 0, .slice none 0 0, .int .u64 0] := a0.seti 2 rfl el
    refine ⟨a0.cani 3 rfl rfl, thenW_in fun c8 e3 => ?_⟩
    have bv := c6.x_set (q := w.heap.size) (i := 3) rfl (.inl rfl) e3
    have a0 : Blk c8 w.heap.size 69 [.int .i64 0, .int .i64 0, .int .i64 0, .int .u64 0, .int .i64 0, .int .i64 0, .int .i64 0, .slice none 0 0, .int .u64 0, .int .i64 0, .int .i64 0, .int .u64 0, .int .i64 0, .int .i64 0, .int .i64 0, .slice none 0 0, .int .u64 0, .int .i64 0, .slice none 0 0, .int .u64 0] := a0.seti 3 rfl e3
    refine ⟨a0.cani 4 rfl rfl, thenW_in fun ao fi => ?_⟩
    have dl := bv.x_set (q := w.heap.size) (i := 4) rfl (.inl rfl) fi
    have a0 : Blk ao w.heap.size 69 [.int .i64 0, .int .i64 0, .int .i64 0, .int .u64 0, .int .i64 0, .int .i64 0, .int .i64 0, .slice none 0 0, .int .u64 0, .int .i64 0, .int .i64 0, .int .u64 0, .int .i64 0, .int .i64 0, .int .i64 0, .slice none 0 0, .int .u64 0, .int .i64 0, .slice none 0 0, .int .u64 0] := a0.seti 4 rfl fi
    refine ⟨a0.cani 5 rfl rfl, thenW_in fun cf e1 => ?_⟩
    have dn := dl.x_set (q := w.heap.size) (i := 5) rfl (.inl rfl) e1
    have a0 : Blk cf w.heap.size 69 [.int .i64 0, .int .i64 0, .int .i64 0, .int .u64 0, .int .i64 0, .int .i64 0, .int .i64 0, .slice none 0 0, .int .u64 0, .int .i64 0, .int .i64 0, .int .u64 0, .int .i64 0, .int .i64 0, .int .i64 0, .slice none 0 0, .int .u64 0, .int .i64 0, .slice none 0 0, .int .u64 0] := a0.seti 5 rfl e1
    refine ⟨a0.cani 6 rfl rfl, thenW_in fun b7 eo => ?_⟩
    have ai := dn.x_set (q := w.heap.size) (i := 6) rfl (.inl rfl) eo
    have a0 : Blk b7 w.heap.size 69 [.int .i64 0, .int .i64 0, .int .i64 0, .int .u64 0, .int .i64 0, .int .i64 0, .int .i64 0, .slice none 0 0, .int .u64 0, .int .i64 0, .int .i64 0, .int .u64 0, .int .i64 0, .int .i64 0, .int .i64 0, .slice none 0 0, .int .u64 0, .int .i64 0, .slice none 0 0, .int .u64 0] := a0.seti 6 rfl eo
    refine ⟨a0.cani 7 rfl rfl, thenW_in fun bi ex => ?_⟩
    have c3 := ai.x_set (q := w.heap.size) (i := 7) rfl (.inl rfl) ex
    have a0 : Blk bi w.heap.size 69 [.int .i64 0, .int .i64 0, .int .i64 0, .int .u64 0, .int .i64 0, .int .i64 0, .int .i64 0, .slice none 0 0, .int .u64 0, .int .i64 0, .int .i64 0, .int .u64 0, .int .i64 0, .int .i64 0, .int .i64 0, .slice none 0 0, .int .u64 0, .int .i64 0, .slice none 0 0, .int .u64 0] := a0.seti 7 rfl ex
    refine ⟨a0.cani 8 rfl rfl, thenW_in fun b0 eu => ?_⟩
    have c1 := c3.x_set (q := w.heap.size) (i := 8) rfl (.inl rfl) eu
    have a0 : Blk b0 w.heap.size 69 [.int .i64 0, .int .i64 0, .int .i64 0, .int .u64 0, .int .i64 0, .int .i64 0, .int .i64 0, .slice none 0 0, .int .u64 0, .int .i64 0, .int .i64 0, .int .u64 0, .int .i64 0, .int .i64 0, .int .i64 0, .slice none 0 0, .int .u64 0, .int .i64 0, .slice none 0 0, .int .u64 0] := a0.seti 8 rfl eu
    refine ⟨a0.cani 9 rfl rfl, thenW_in fun db f6 => ?_⟩
    have az := c1.x_set (q := w.heap.size) (i := 9) rfl (.inl rfl) f6
    have a0 : Blk db w.heap.size 69 [.int .i64 0, .int .i64 0, .int .i64 0, .int .u64 0, .int .i64 0, .int .i64 0, .int .i64 0, .slice none 0 0, .int .u64 0, .int .i64 0, .int .i64 0, .int .u64 0, .int .i64 0, .int .i64 0, .int .i64 0, .slice none 0 0, .int .u64 0, .int .i64 0, .slice none 0 0, .int .u64 0] := a0.seti 9 rfl f6
    refine ⟨a0.cani 10 rfl rfl, thenW_in fun cv ef => ?_⟩
    have dg := az.x_set (q := w.heap.size) (i := 10) rfl (.inl rfl) ef
    have a0 : Blk cv w.heap.size 69 [.int .i64 0, .int .i64 0, .int .i64 0, .int .u64 0, .int .i64 0, .int .i64 0, .int .i64 0, .slice none 0 0, .int .u64 0, .int .i64 0, .int .i64 0, .int .u64 0, .int .i64 0, .int .i64 0, .int .i64 0, .slice none 0 0, .int .u64 0, .int .i64 0, .slice none 0 0, .int .u64 0] := a0.seti 10 rfl ef
    refine ⟨a0.cani 11 rfl rfl, thenW_in fun bs f8 => ?_⟩
    have b8 := dg.x_set (q := w.heap.size) (i := 11) rfl (.inl rfl) f8
    have a0 : Blk bs w.heap.size 69 [.int .i64 0, .int .i64 0, .int .i64 0, .int .u64 0, .int .i64 0, .int .i64 0, .int .i64 0, .slice none 0 0, .int .u64 0, .int .i64 0, .int .i64 0, .int .u64 0, .int .i64 0, .int .i64 0, .int .i64 0, .slice none 0 0, .int .u64 0, .int .i64 0, .slice none 0 0, .int .u64 0] := a0.seti 11 rfl f8
    refine ⟨a0.cani 12 rfl rfl, thenW_in fun cm e7 => ?_⟩
    have cc := b8.x_set (q := w.heap.size) (i := 12) rfl (.inl rfl) e7
    have a0 : Blk cm w.heap.size 69 [.int .i64 0, .int .i64 0, .int .i64 0, .int .u64 0, .int .i64 0, .int .i64 0, .int .i64 0, .slice none 0 0, .int .u64 0, .int .i64 0, .int .i64 0, .int .u64 0, .int .i64 0, .int .i64 0, .int .i64 0, .slice none 0 0, .int .u64 0, .int .i64 0, .slice none 0 0, .int .u64 0] := a0.seti 12 rfl e7
    refine ⟨a0.cani 13 rfl rfl, thenW_in fun b3 ey => ?_⟩
    have bu := cc.x_set (q := w.heap.size) (i := 13) rfl (.inl rfl) ey
    have a0 : Blk b3 w.heap.size 69 [.int .i64 0, .int .i64 0, .int .i64 0, .int .u64 0, .int .i64 0, .int .i64 0, .int .i64 0, .slice none 0 0, .int .u64 0, .int .i64 0, .int .i64 0, .int .u64 0, .int .i64 0, .int .i64 0, .int .i64 0, .slice none 0 0, .int .u64 0, .int .i64 0, .slice none 0 0, .int .u64 0] := a0.seti 13 rfl ey
    refine ⟨a0.cani 14 rfl rfl, thenW_in fun bd f4 => ?_⟩
    have cd := bu.x_set (q := w.heap.size) (i := 14) rfl (.inl rfl) f4
    have a0 : Blk bd w.heap.size 69 [.int .i64 0, .int .i64 0, .int .i64 0, .int .u64 0, .int .i64 0, .int .i64 0, .int .i64 0, .slice none 0 0, .int .u64 0, .int .i64 0, .int .i64 0, .int .u64 0, .int .i64 0, .int .i64 0, .int .i64 0, .slice none 0 0, .int .u64 0, .int .i64 0, .slice none 0 0, .int .u64 0] := a0.seti 14 rfl f4
    refine ⟨a0.cani 15 rfl rfl, thenW_in fun b4 ec => ?_⟩
    have bt := cd.x_set (q := w.heap.size) (i := 15) rfl (.inl rfl) ec
    have a0 : Blk b4 w.heap.size 69 [.int .i64 0, .int .i64 0, .int .i64 0, .int .u64 0, .int .i64 0, .int .i64 0, .int .i64 0, .slice none 0 0, .int .u64 0, .int .i64 0, .int .i64 0, .int .u64 0, .int .i64 0, .int .i64 0, .int .i64 0, .slice none 0 0, .int .u64 0, .int .i64 0, .slice none 0 0, .int .u64 0] := a0.seti 15 rfl ec
    refine ⟨a0.cani 16 rfl rfl, thenW_in fun aq ed => ?_⟩
    have d1 := bt.x_set (q := w.heap.size) (i := 16) rfl (.inl rfl) ed
    have a0 : Blk aq w.heap.size 69 [.int .i64 0, .int .i64 0, .int .i64 0, .int .u64 0, .int .i64 0, .int .i64 0, .int .i64 0, .slice none 0 0, .int .u64 0, .int .i64 0, .int .i64 0, .int .u64 0, .int .i64 0, .int .i64 0, .int .i64 0, .slice none 0 0, .int .u64 0, .int .i64 0, .slice none 0 0, .int .u64 0] := a0.seti 16 rfl ed
    refine ⟨a0.cani 17 rfl rfl, thenW_in fun cb f0 => ?_⟩
    have dk := d1.x_set (q := w.heap.size) (i := 17) rfl (.inl rfl) f0
    have a0 : Blk cb w.heap.size 69 [.int .i64 0, .int .i64 0, .int .i64 0, .int .u64 0, .int .i64 0, .int .i64 0, .int .i64 0, .slice none 0 0, .int .u64 0, .int .i64 0, .int .i64 0, .int .u64 0, .int .i64 0, .int .i64 0, .int .i64 0, .slice none 0 0, .int .u64 0, .int .i64 0, .slice none 0 0, .int .u64 0] := a0.seti 17 rfl f0
    refine ⟨a0.cani 18 rfl rfl, thenW_in fun bp f2 => ?_⟩
    have bj := dk.x_set (q := w.heap.size) (i := 18) rfl (.inl rfl) f2
    have a0 : Blk bp w.heap.size 69 [.int .i64 0, .int .i64 0, .int .i64 0, .int .u64 0, .int .i64 0, .int .i64 0, .int .i64 0, .slice none 0 0, .int .u64 0, .int .i64 0, .int .i64 0, .int .u64 0, .int .i64 0, .int .i64 0, .int .i64 0, .slice none 0 0, .int .u64 0, .int .i64 0, .slice none 0 0, .int .u64 0] := a0.seti 18 rfl f2
    refine ⟨a0.cani 19 rfl rfl, thenW_in fun ah fb => ?_⟩
    have cg := bj.x_set (q := w.heap.size) (i := 19) rfl (.inl rfl) fb
    have a0 : Blk ah w.heap.size 69 [.int .i64 0, .int .i64 0, .int .i64 0, .int .u64 0, .int .i64 0, .int .i64 0, .int .i64 0, .slice none 0 0, .int .u64 0, .int .i64 0, .int .i64 0, .int .u64 0, .int .i64 0, .int .i64 0, .int .i64 0, .slice none 0 0, .int .u64 0, .int .i64 0, .slice none 0 0, .int .u64 0] := a0.seti 19 rfl fb
    refine ⟨0, 0, 0, 0, 0, 0, 0, none, 0, 0, 0, 0, 0, 0, 0, 0, 0, none, 0, 0, 0, 0, none, 0, 0, 0, ⟨a0.celli 0 rfl rfl, a0.celli 1 rfl rfl, a0.celli 2 rfl rfl, a0.celli 3 rfl rfl, a0.celli 4 rfl rfl, a0.celli 5 rfl rfl, a0.celli 6 rfl rfl, a0.celli 7 rfl rfl, a0.celli 8 rfl rfl, a0.celli 9 rfl rfl, a0.celli 10 rfl rfl, a0.celli 11 rfl rfl, a0.celli 12 rfl rfl, a0.celli 13 rfl rfl, a0.celli 14 rfl rfl, a0.celli 15 rfl rfl, a0.celli 16 rfl rfl, a0.celli 17 rfl rfl, a0.celli 18 rfl rfl, a0.celli 19 rfl rfl, trivial⟩, ?_⟩
    have h := h ah cg
    exact h
  · have h := h.2 (bne_f ch)
    refine h.mono fun fw a9 h => ?_
    obtain ⟨a4, aa, he, hk, h⟩ := h
    refine ⟨a4, aa, he, ?_⟩
    have a0 := hk.blk a0 (by simp)
    refine bif_of (fun br => ?_) (fun br => ?_)
    · have h := h.1 (bne_t br)
      refine ⟨0, 0, 0, 0, 0, 0, 0, none, 0, 0, 0, 0, 0, 0, 0, 0, 0, none, 0, 0, 0, 0, none, 0, 0, 0, ⟨a0.celli 0 rfl rfl, a0.celli 1 rfl rfl, a0.celli 2 rfl rfl, a0.celli 3 rfl rfl, a0.celli 4 rfl rfl, a0.celli 5 rfl rfl, a0.celli 6 rfl rfl, a0.celli 7 rfl rfl, a0.celli 8 rfl rfl, a0.celli 9 rfl rfl, a0.celli 10 rfl rfl, a0.celli 11 rfl rfl, a0.celli 12 rfl rfl, a0.celli 13 rfl rfl, a0.celli 14 rfl rfl, a0.celli 15 rfl rfl, a0.celli 16 rfl rfl, a0.celli 17 rfl rfl, a0.celli 18 rfl rfl, a0.celli 19 rfl rfl, trivial⟩, ?_⟩
      have dx : Ext (fun b => b = w.heap.size) a9 a9 := ((Ext.refl no a9)).none
      refine ⟨a0.cani 0 rfl rfl, thenW_in fun bo ea => ?_⟩
      have dp := dx.x_set (q := w.heap.size) (i := 0) rfl (.inl rfl) ea
      have a0 : Blk bo w.heap.size 69 [.int .i64 0, .int .i64 0, .int .i64 0, .int .u64 0, .int .i64 0, .int .i64 0, .int .i64 0, .slice none 0 0, .int .u64 0, .int .i64 0, .int .i64 0, .int .u64 0, .int .i64 0, .int .i64 0, .int .i64 0, .slice none 0 0, .int .u64 0, .int .i64 0, .slice none 0 0, .int .u64 0] := a0.seti 0 rfl ea
      refine ⟨a0.cani 1 rfl rfl, thenW_in fun dv fl => ?_⟩
      have bg := dp.x_set (q := w.heap.size) (i := 1) rfl (.inl rfl) fl
      have a0 : Blk dv w.heap.size 69 [.int .i64 0, .int .i64 0, .int .i64 0, .int .u64 0, .int .i64 0, .int .i64 0, .int .i64 0, .slice none 0 0, .int .u64 0, .int .i64 0, .int .i64 0, .int .u64 0, .int .i64 0, .int .i64 0, .int .i64 0, .slice none 0 0, .int .u64 0, .int .i64 0, .slice none 0 0, .int .u64 0] := a0.seti 1 rfl fl
      refine ⟨a0.cani 2 rfl rfl, thenW_in fun al f9 => ?_⟩
      have cl := bg.x_set (q := w.heap.size) (i := 2) rfl (.inl rfl) f9
      have a0 : Blk al w.heap.size 69 [.int .i64 0, .int .i64 0, .int .i64 0, .int .u64 0, .int .i64 0, .int .i64 0, .int .i64 0, .slice none 0 0, .int .u64 0, .int .i64 0, .int .i64 0, .int .u64 0, .int .i64 0, .int .i64 0, .int .i64 0, .slice none 0 0, .int .u64 0, .int .i64 0, .slice none 0 0, .int .u64 0] := a0.seti 2 rfl f9
      refine ⟨a0.cani 3 rfl rfl, thenW_in fun cy e4 => ?_⟩
      have c5 := cl.x_set (q := w.heap.size) (i := 3) rfl (.inl rfl) e4
      have a0 : Blk cy w.heap.size 69 [.int .i64 0, .int .i64 0, .int .i64 0, .int .u64 0, .int .i64 0, .int .i64 0, .int .i64 0, .slice none 0 0, .int .u64 0, .int .i64 0, .int .i64 0, .int .u64 0, .int .i64 0, .int .i64 0, .int .i64 0, .slice none 0 0, .int .u64 0, .int .i64 0, .slice none 0 0, .int .u64 0] := a0.seti 3 rfl e4
      refine ⟨a0.cani 4 rfl rfl, thenW_in fun be ej => ?_⟩
      have cj := c5.x_set (q := w.heap.size) (i := 4) rfl (.inl rfl) ej
      have a0 : Blk be w.heap.size 69 [.int .i64 0, .int .i64 0, .int .i64 0, .int .u64 0, .int .i64 0, .int .i64 0, .int .i64 0, .slice none 0 0, .int .u64 0, .int .i64 0, .int .i64 0, .int .u64 0, .int .i64 0, .int .i64 0, .int .i64 0, .slice none 0 0, .int .u64 0, .int .i64 0, .slice none 0 0, .int .u64 0] := a0.seti 4 rfl ej
      refine ⟨a0.cani 5 rfl rfl, thenW_in fun bh f1 => ?_⟩
      have bq := cj.x_set (q := w.heap.size) (i := 5) rfl (.inl rfl) f1
      have a0 : Blk bh w.heap.size 69 [.int .i64 0, .int .i64 0, .int .i64 0, .int .u64 0, .int .i64 0, .int .i64 0, .int .i64 0, .slice none 0 0, .int .u64 0, .int .i64 0, .int .i64 0, .int .u64 0, .int .i64 0, .int .i64 0, .int .i64 0, .slice none 0 0, .int .u64 0, .int .i64 0, .slice none 0 0, .int .u64 0] := a0.seti 5 rfl f1
      refine ⟨a0.cani 6 rfl rfl, thenW_in fun dz eg => ?_⟩
      have d2 := bq.x_set (q := w.heap.size) (i := 6) rfl (.inl rfl) eg
      have a0 : Blk dz w.heap.size 69 [.int .i64 0, .int .i64 0, .int .i64 0, .int .u64 0, .int .i64 0, .int .i64 0, .int .i64 0, .slice none 0 0, .int .u64 0, .int .i64 0, .int .i64 0, .int .u64 0, .int .i64 0, .int .i64 0, .int .i64 0, .slice none 0 0, .int .u64 0, .int .i64 0, .slice none 0 0, .int .u64 0] := a0.seti 6 rfl eg
      refine ⟨a0.cani 7 rfl rfl, thenW_in fun c2 ek => ?_⟩
      have dr := d2.x_set (q := w.heap.size) (i := 7) rfl (.inl rfl) ek
      have a0 : Blk c2 w.heap.size 69 [.int .i64 0, .int .i64 0, .int .i64 0, .int .u64 0, .int .i64 0, .int .i64 0, .int .i64 0, .slice none 0 0, .int .u64 0, .int .i64 0, .int .i64 0, .int .u64 0, .int .i64 0, .int .i64 0, .int .i64 0, .slice none 0 0, .int .u64 0, .int .i64 0, .slice none 0 0, .int .u64 0] := a0.seti 7 rfl ek
      refine ⟨a0.cani 8 rfl rfl, thenW_in fun av eh => ?_⟩
      have df := dr.x_set (q := w.heap.size) (i := 8) rfl (.inl rfl) eh
      have a0 : Blk av w.heap.size 69 [.int .i64 0, .int .i64 0, .int .i64 0, .int .u64 0, .int .i64 0, .int .i64 0, .int .i64 0, .slice none 0 0, .int .u64 0, .int .i64 0, .int .i64 0, .int .u64 0, .int .i64 0, .int .i64 0, .int .i64 0, .slice none 0 0, .int .u64 0, .int .i64 0, .slice none 0 0, .int .u64 0] := a0.seti 8 rfl eh
      refine ⟨a0.cani 9 rfl rfl, thenW_in fun cs e2 => ?_⟩
      have bb := df.x_set (q := w.heap.size) (i := 9) rfl (.inl rfl) e2
      have a0 : Blk cs w.heap.size 69 [.int .i64 0, .int .i64 0, .int .i64 0, .int .u64 0, .int .i64 0, .int .i64 0, .int .i64 0, .slice none 0 0, .int .u64 0, .int .i64 0, .int .i64 0, .int .u64 0, .int .i64 0, .int .i64 0, .int .i64 0, .slice none 0 0, .int .u64 0, .int .i64 0, .slice none 0 0, .int .u64 0] := a0.seti 9 rfl e2
      refine ⟨a0.cani 10 rfl rfl, thenW_in fun ct fj => ?_⟩
      have ck := bb.x_set (q := w.heap.size) (i := 10) rfl (.inl rfl) fj
      have a0 : Blk ct w.heap.size 69 [.int .i64 0, .int .i64 0, .int .i64 0, .int .u64 0, .int .i64 0, .int .i64 0, .int .i64 0, .slice none 0 0, .int .u64 0, .int .i64 0, .int .i64 0, .int .u64 0, .int .i64 0, .int .i64 0, .int .i64 0, .slice none 0 0, .int .u64 0, .int .i64 0, .slice none 0 0, .int .u64 0] := a0.seti 10 rfl fj
      refine ⟨a0.cani 11 rfl rfl, thenW_in fun bc et => ?_⟩
      have d3 := ck.x_set (q := w.heap.size) (i := 11) rfl (.inl rfl) et
      have a0 : Blk bc w.heap.size 69 [.int .i64 0, .int .i64 0, .int .i64 0, .int .u64 0, .int .i64 0, .int .i64 0, .int .i64 0, .slice none 0 0, .int .u64 0, .int .i64 0, .int .i64 0, .int .u64 0, .int .i64 0, .int .i64 0, .int .i64 0, .slice none 0 0, .int .u64 0, .int .i64 0, .slice none 0 0, .int .u64 0] := a0.seti 11 rfl et
      refine ⟨a0.cani 12 rfl rfl, thenW_in fun dj fo => ?_⟩
      have d4 := d3.x_set (q := w.heap.size) (i := 12) rfl (.inl rfl) fo
      have a0 : Blk dj w.heap.size 69 [.int .i64 0, .int .i64 0, .int .i64 0, .int .u64 0, .int .i64 0, .int .i64 0, .int .i64 0, .slice none 0 0, .int .u64 0, .int .i64 0, .int .i64 0, .int .u64 0, .int .i64 0, .int .i64 0, .int .i64 0, .slice none 0 0, .int .u64 0, .int .i64 0, .slice none 0 0, .int .u64 0] := a0.seti 12 rfl fo
      refine ⟨a0.cani 13 rfl rfl, thenW_in fun b1 f5 => ?_⟩
      have de := d4.x_set (q := w.heap.size) (i := 13) rfl (.inl rfl) f5
      have a0 : Blk b1 w.heap.size 69 [.int .i64 0, .int .i64 0, .int .i64 0, .int .u64 0, .int .i64 0, .int .i64 0, .int .i64 0, .slice none 0 0, .int .u64 0, .int .i64 0, .int .i64 0, .int .u64 0, .int .i64 0, .int .i64 0, .int .i64 0, .slice none 0 0, .int .u64 0, .int .i64 0, .slice none 0 0, .int .u64 0] := a0.seti 13 rfl f5
      refine ⟨a0.cani 14 rfl rfl, thenW_in fun bk ez => ?_⟩
      have cz := de.x_set (q := w.heap.size) (i := 14) rfl (.inl rfl) ez
      have a0 : Blk bk w.heap.size 69 [.int .i64 0, .int .i64 0, .int .i64 0, .int .u64 0, .int .i64 0, .int .i64 0, .int .i64 0, .slice none 0 0, .int .u64 0, .int .i64 0, .int .i64 0, .int .u64 0, .int .i64 0, .int .i64 0, .int .i64 0, .slice none 0 0, .int .u64 0, .int .i64 0, .slice none 0 0, .int .u64 0] := a0.seti 14 rfl ez
      refine ⟨a0.cani 15 rfl rfl, thenW_in fun cn e9 => ?_⟩
      have cp := cz.x_set (q := w.heap.size) (i := 15) rfl (.inl rfl) e9
      have a0 : Blk cn w.heap.size 69 [.int .i64 0, .int .i64 0, .int .i64 0, .int .u64 0, .int .i64 0, .int .i64 0, .int .i64 0, .slice none 0 0, .int .u64 0, .int .i64 0, .int .i64 0, .int .u64 0, .int .i64 0, .int .i64 0, .int .i64 0, .slice none 0 0, .int .u64 0, .int .i64 0, .slice none 0 0, .int .u64 0] := a0.seti 15 rfl e9
      refine ⟨a0.cani 16 rfl rfl, thenW_in fun ca eq => ?_⟩
      have dd := cp.x_set (q := w.heap.size) (i := 16) rfl (.inl rfl) eq
      have a0 : Blk ca w.heap.size 69 [.int .i64 0, .int .i64 0, .int .i64 0, .int .u64 0, .int .i64 0, .int .i64 0, .int .i64 0, .slice none 0 0, .int .u64 0, .int .i64 0, .int .i64 0, .int .u64 0, .int .i64 0, .int .i64 0, .int .i64 0, .slice none 0 0, .int .u64 0, .int .i64 0, .slice none 0 0, .int .u64 0] := a0.seti 16 rfl eq
      refine ⟨a0.cani 17 rfl rfl, thenW_in fun ax fa => ?_⟩
      have aj := dd.x_set (q := w.heap.size) (i := 17) rfl (.inl rfl) fa
      have a0 : Blk ax w.heap.size 69 [.int .i64 0, .int .i64 0, .int .i64 0, .int .u64 0, .int .i64 0, .int .i64 0, .int .i64 0, .slice none 0 0, .int .u64 0, .int .i64 0, .int .i64 0, .int .u64 0, .int .i64 0, .int .i64 0, .int .i64 0, .slice none 0 0, .int .u64 0, .int .i64 0, .slice none 0 0, .int .u64 0] := a0.seti 17 rfl fa
      refine ⟨a0.cani 18 rfl rfl, thenW_in fun dc fs => ?_⟩
      have ay := aj.x_set (q := w.heap.size) (i := 18) rfl (.inl rfl) fs
      have a0 : Blk dc w.heap.size 69 [.int .i64 0, .int .i64 0, .int .i64 0, .int .u64 0, .int .i64 0, .int .i64 0, .int .i64 0, .slice none 0 0, .int .u64 0, .int .i64 0, .int .i64 0, .int .u64 0, .int .i64 0, .int .i64 0, .int .i64 0, .slice none 0 0, .int .u64 0, .int .i64 0, .slice none 0 0, .int .u64 0] := a0.seti 18 rfl fs
      refine ⟨a0.cani 19 rfl rfl, thenW_in fun ae e0 => ?_⟩
      have aw := ay.x_set (q := w.heap.size) (i := 19) rfl (.inl rfl) e0
      have a0 : Blk ae w.heap.size 69 [.int .i64 0, .int .i64 0, .int .i64 0, .int .u64 0, .int .i64 0, .int .i64 0, .int .i64 0, .slice none 0 0, .int .u64 0, .int .i64 0, .int .i64 0, .int .u64 0, .int .i64 0, .int .i64 0, .int .i64 0, .slice none 0 0, .int .u64 0, .int .i64 0, .slice none 0 0, .int .u64 0] := a0.seti 19 rfl e0
      refine ⟨0, 0, 0, 0, 0, 0, 0, none, 0, 0, 0, 0, 0, 0, 0, 0, 0, none, 0, 0, 0, 0, none, 0, 0, 0, ⟨a0.celli 0 rfl rfl, a0.celli 1 rfl rfl, a0.celli 2 rfl rfl, a0.celli 3 rfl rfl, a0.celli 4 rfl rfl, a0.celli 5 rfl rfl, a0.celli 6 rfl rfl, a0.celli 7 rfl rfl, a0.celli 8 rfl rfl, a0.celli 9 rfl rfl, a0.celli 10 rfl rfl, a0.celli 11 rfl rfl, a0.celli 12 rfl rfl, a0.celli 13 rfl rfl, a0.celli 14 rfl rfl, a0.celli 15 rfl rfl, a0.celli 16 rfl rfl, a0.celli 17 rfl rfl, a0.celli 18 rfl rfl, a0.celli 19 rfl rfl, trivial⟩, ?_⟩
      have h := h ae aw
      exact h
    · have h := h.2 (bne_f br)
      refine h.mono fun fu ac h => ?_
      obtain ⟨a3, a1, a2, he, hk, h⟩ := h
      refine ⟨a3, a1, a2, he, ?_⟩
      have a0 := hk.blk a0 (by simp)
      have d6 : Ext (fun b => b = w.heap.size) ac ac := ((Ext.refl no ac)).none
      refine ⟨a0.cani 0 rfl rfl, thenW_in fun cw en => ?_⟩
      have au := d6.x_set (q := w.heap.size) (i := 0) rfl (.inl rfl) en
      have a0 : Blk cw w.heap.size 69 [.int .i64 3, .int .i64 0, .int .i64 0, .int .u64 0, .int .i64 0, .int .i64 0, .int .i64 0, .slice none 0 0, .int .u64 0, .int .i64 0, .int .i64 0, .int .u64 0, .int .i64 0, .int .i64 0, .int .i64 0, .slice none 0 0, .int .u64 0, .int .i64 0, .slice none 0 0, .int .u64 0] := a0.seti 0 rfl en
      refine ⟨a0.cani 1 rfl rfl, thenW_in fun b5 ee => ?_⟩
      have c7 := au.x_set (q := w.heap.size) (i := 1) rfl (.inl rfl) ee
      have a0 : Blk b5 w.heap.size 69 [.int .i64 3, .int .i64 0, .int .i64 0, .int .u64 0, .int .i64 0, .int .i64 0, .int .i64 0, .slice none 0 0, .int .u64 0, .int .i64 0, .int .i64 0, .int .u64 0, .int .i64 0, .int .i64 0, .int .i64 0, .slice none 0 0, .int .u64 0, .int .i64 0, .slice none 0 0, .int .u64 0] := a0.seti 1 rfl ee
      refine ⟨a0.cani 2 rfl rfl, thenW_in fun da ff => ?_⟩
      have cr := c7.x_set (q := w.heap.size) (i := 2) rfl (.inl rfl) ff
      have a0 : Blk da w.heap.size 69 [.int .i64 3, .int .i64 0, .int .i64 0, .int .u64 0, .int .i64 0, .int .i64 0, .int .i64 0, .slice none 0 0, .int .u64 0, .int .i64 0, .int .i64 0, .int .u64 0, .int .i64 0, .int .i64 0, .int .i64 0, .slice none 0 0, .int .u64 0, .int .i64 0, .slice none 0 0, .int .u64 0] := a0.seti 2 rfl ff
      refine ⟨a0.cani 3 rfl rfl, thenW_in fun cu fd => ?_⟩
      have ds := cr.x_set (q := w.heap.size) (i := 3) rfl (.inl rfl) fd
      have a0 : Blk cu w.heap.size 69 [.int .i64 3, .int .i64 0, .int .i64 0, .int .u64 0, .int .i64 0, .int .i64 0, .int .i64 0, .slice none 0 0, .int .u64 0, .int .i64 0, .int .i64 0, .int .u64 0, .int .i64 0, .int .i64 0, .int .i64 0, .slice none 0 0, .int .u64 0, .int .i64 0, .slice none 0 0, .int .u64 0] := a0.seti 3 rfl fd
      refine ⟨a0.cani 4 rfl rfl, thenW_in fun bw fe => ?_⟩
      have d0 := ds.x_set (q := w.heap.size) (i := 4) rfl (.inl rfl) fe
      have a0 : Blk bw w.heap.size 69 [.int .i64 3, .int .i64 0, .int .i64 0, .int .u64 0, .int .i64 0, .int .i64 0, .int .i64 0, .slice none 0 0, .int .u64 0, .int .i64 0, .int .i64 0, .int .u64 0, .int .i64 0, .int .i64 0, .int .i64 0, .slice none 0 0, .int .u64 0, .int .i64 0, .slice none 0 0, .int .u64 0] := a0.seti 4 rfl fe
      refine ⟨a0.cani 5 rfl rfl, thenW_in fun di fr => ?_⟩
      have dw := d0.x_set (q := w.heap.size) (i := 5) rfl (.inl rfl) fr
      have a0 : Blk di w.heap.size 69 [.int .i64 3, .int .i64 0, .int .i64 0, .int .u64 0, .int .i64 0, .int .i64 0, .int .i64 0, .slice none 0 0, .int .u64 0, .int .i64 0, .int .i64 0, .int .u64 0, .int .i64 0, .int .i64 0, .int .i64 0, .slice none 0 0, .int .u64 0, .int .i64 0, .slice none 0 0, .int .u64 0] := a0.seti 5 rfl fr
      refine ⟨a0.cani 6 rfl rfl, thenW_in fun bf fp => ?_⟩
      have b2 := dw.x_set (q := w.heap.size) (i := 6) rfl (.inl rfl) fp
      have a0 : Blk bf w.heap.size 69 [.int .i64 3, .int .i64 0, .int .i64 0, .int .u64 0, .int .i64 0, .int .i64 0, .int .i64 0, .slice none 0 0, .int .u64 0, .int .i64 0, .int .i64 0, .int .u64 0, .int .i64 0, .int .i64 0, .int .i64 0, .slice none 0 0, .int .u64 0, .int .i64 0, .slice none 0 0, .int .u64 0] := a0.seti 6 rfl fp
      refine ⟨a0.cani 7 rfl rfl, thenW_in fun b6 es => ?_⟩
      have am := b2.x_set (q := w.heap.size) (i := 7) rfl (.inl rfl) es
      have a0 : Blk b6 w.heap.size 69 [.int .i64 3, .int .i64 0, .int .i64 0, .int .u64 0, .int .i64 0, .int .i64 0, .int .i64 0, .slice none 0 0, .int .u64 0, .int .i64 0, .int .i64 0, .int .u64 0, .int .i64 0, .int .i64 0, .int .i64 0, .slice none 0 0, .int .u64 0, .int .i64 0, .slice none 0 0, .int .u64 0] := a0.seti 7 rfl es
      refine ⟨a0.cani 8 rfl rfl, thenW_in fun cx fh => ?_⟩
      have bl := am.x_set (q := w.heap.size) (i := 8) rfl (.inl rfl) fh
      have a0 : Blk cx w.heap.size 69 [.int .i64 3, .int .i64 0, .int .i64 0, .int .u64 0, .int .i64 0, .int .i64 0, .int .i64 0, .slice none 0 0, .int .u64 0, .int .i64 0, .int .i64 0, .int .u64 0, .int .i64 0, .int .i64 0, .int .i64 0, .slice none 0 0, .int .u64 0, .int .i64 0, .slice none 0 0, .int .u64 0] := a0.seti 8 rfl fh
      refine ⟨a0.cani 9 rfl rfl, thenW_in fun co fg => ?_⟩
      have dt := bl.x_set (q := w.heap.size) (i := 9) rfl (.inl rfl) fg
      have a0 : Blk co w.heap.size 69 [.int .i64 3, .int .i64 0, .int .i64 0, .int .u64 0, .int .i64 0, .int .i64 0, .int .i64 0, .slice none 0 0, .int .u64 0, .int .i64 0, .int .i64 0, .int .u64 0, .int .i64 0, .int .i64 0, .int .i64 0, .slice none 0 0, .int .u64 0, .int .i64 0, .slice none 0 0, .int .u64 0] := a0.seti 9 rfl fg
      refine ⟨a0.cani 10 rfl rfl, thenW_in fun dy f3 => ?_⟩
      have d8 := dt.x_set (q := w.heap.size) (i := 10) rfl (.inl rfl) f3
      have a0 : Blk dy w.heap.size 69 [.int .i64 3, .int .i64 0, .int .i64 0, .int .u64 0, .int .i64 0, .int .i64 0, .int .i64 0, .slice none 0 0, .int .u64 0, .int .i64 0, .int .i64 0, .int .u64 0, .int .i64 0, .int .i64 0, .int .i64 0, .slice none 0 0, .int .u64 0, .int .i64 0, .slice none 0 0, .int .u64 0] := a0.seti 10 rfl f3
      refine ⟨a0.cani 11 rfl rfl, thenW_in fun bx fm => ?_⟩
      have bz := d8.x_set (q := w.heap.size) (i := 11) rfl (.inl rfl) fm
      have a0 : Blk bx w.heap.size 69 [.int .i64 3, .int .i64 0, .int .i64 0, .int .u64 0, .int .i64 0, .int .i64 0, .int .i64 0, .slice none 0 0, .int .u64 0, .int .i64 0, .int .i64 0, .int .u64 0, .int .i64 0, .int .i64 0, .int .i64 0, .slice none 0 0, .int .u64 0, .int .i64 0, .slice none 0 0, .int .u64 0] := a0.seti 11 rfl fm
      refine ⟨a0.cani 12 rfl rfl, thenW_in fun an er => ?_⟩
      have d9 := bz.x_set (q := w.heap.size) (i := 12) rfl (.inl rfl) er
      have a0 : Blk an w.heap.size 69 [.int .i64 3, .int .i64 0, .int .i64 0, .int .u64 0, .int .i64 0, .int .i64 0, .int .i64 0, .slice none 0 0, .int .u64 0, .int .i64 0, .int .i64 0, .int .u64 0, .int .i64 0, .int .i64 0, .int .i64 0, .slice none 0 0, .int .u64 0, .int .i64 0, .slice none 0 0, .int .u64 0] := a0.seti 12 rfl er
      refine ⟨a0.cani 13 rfl rfl, thenW_in fun c9 e6 => ?_⟩
      have du := d9.x_set (q := w.heap.size) (i := 13) rfl (.inl rfl) e6
      have a0 : Blk c9 w.heap.size 69 [.int .i64 3, .int .i64 0, .int .i64 0, .int .u64 0, .int .i64 0, .int .i64 0, .int .i64 0, .slice none 0 0, .int .u64 0, .int .i64 0, .int .i64 0, .int .u64 0, .int .i64 0, .int .i64 0, .int .i64 0, .slice none 0 0, .int .u64 0, .int .i64 0, .slice none 0 0, .int .u64 0] := a0.seti 13 rfl e6
      refine ⟨a0.cani 14 rfl rfl, thenW_in fun c4 em => ?_⟩
      have d5 := du.x_set (q := w.heap.size) (i := 14) rfl (.inl rfl) em
      have a0 : Blk c4 w.heap.size 69 [.int .i64 3, .int .i64 0, .int .i64 0, .int .u64 0, .int .i64 0, .int .i64 0, .int .i64 0, .slice none 0 0, .int .u64 0, .int .i64 0, .int .i64 0, .int .u64 0, .int .i64 0, .int .i64 0, .int .i64 0, .slice none 0 0, .int .u64 0, .int .i64 0, .slice none 0 0, .int .u64 0] := a0.seti 14 rfl em
      refine ⟨a0.cani 15 rfl rfl, thenW_in fun ci ew => ?_⟩
      have ba := d5.x_set (q := w.heap.size) (i := 15) rfl (.inl rfl) ew
      have a0 : Blk ci w.heap.size 69 [.int .i64 3, .int .i64 0, .int .i64 0, .int .u64 0, .int .i64 0, .int .i64 0, .int .i64 0, .slice none 0 0, .int .u64 0, .int .i64 0, .int .i64 0, .int .u64 0, .int .i64 0, .int .i64 0, .int .i64 0, .slice none 0 0, .int .u64 0, .int .i64 0, .slice none 0 0, .int .u64 0] := a0.seti 15 rfl ew
      refine ⟨a0.cani 16 rfl rfl, thenW_in fun bm e8 => ?_⟩
      have ce := ba.x_set (q := w.heap.size) (i := 16) rfl (.inl rfl) e8
      have a0 : Blk bm w.heap.size 69 [.int .i64 3, .int .i64 0, .int .i64 0, .int .u64 0, .int .i64 0, .int .i64 0, .int .i64 0, .slice none 0 0, .int .u64 0, .int .i64 0, .int .i64 0, .int .u64 0, .int .i64 0, .int .i64 0, .int .i64 0, .slice none 0 0, .int .u64 0, .int .i64 0, .slice none 0 0, .int .u64 0] := a0.seti 16 rfl e8
      refine ⟨a0.cani 17 rfl rfl, thenW_in fun ar fc => ?_⟩
      have b9 := ce.x_set (q := w.heap.size) (i := 17) rfl (.inl rfl) fc
      have a0 : Blk ar w.heap.size 69 [.int .i64 3, .int .i64 0, .int .i64 0, .int .u64 0, .int .i64 0, .int .i64 0, .int .i64 0, .slice none 0 0, .int .u64 0, .int .i64 0, .int .i64 0, .int .u64 0, .int .i64 0, .int .i64 0, .int .i64 0, .slice none 0 0, .int .u64 0, .int .i64 a6, .slice none 0 0, .int .u64 0] := a0.seti 17 rfl fc
      refine ⟨a0.cani 18 rfl rfl, thenW_in fun c0 fq => ?_⟩
      have dh := b9.x_set (q := w.heap.size) (i := 18) rfl (.inl rfl) fq
      have a0 : Blk c0 w.heap.size 69 [.int .i64 3, .int .i64 0, .int .i64 0, .int .u64 0, .int .i64 0, .int .i64 0, .int .i64 0, .slice none 0 0, .int .u64 0, .int .i64 0, .int .i64 0, .int .u64 0, .int .i64 0, .int .i64 0, .int .i64 0, .slice none 0 0, .int .u64 0, .int .i64 a6, .slice a3 a1 a2, .int .u64 0] := a0.seti 18 rfl fq
      refine ⟨a0.cani 19 rfl rfl, thenW_in fun af ep => ?_⟩
      have ap := dh.x_set (q := w.heap.size) (i := 19) rfl (.inl rfl) ep
      have a0 : Blk af w.heap.size 69 [.int .i64 3, .int .i64 0, .int .i64 0, .int .u64 0, .int .i64 0, .int .i64 0, .int .i64 0, .slice none 0 0, .int .u64 0, .int .i64 0, .int .i64 0, .int .u64 0, .int .i64 0, .int .i64 0, .int .i64 0, .slice none 0 0, .int .u64 0, .int .i64 a6, .slice a3 a1 a2, .int .u64 a4] := a0.seti 19 rfl ep
      refine ⟨3, 0, 0, 0, 0, 0, 0, none, 0, 0, 0, 0, 0, 0, 0, 0, 0, none, 0, 0, 0, a6, a3, a1, a2, a4, ⟨a0.celli 0 rfl rfl, a0.celli 1 rfl rfl, a0.celli 2 rfl rfl, a0.celli 3 rfl rfl, a0.celli 4 rfl rfl, a0.celli 5 rfl rfl, a0.celli 6 rfl rfl, a0.celli 7 rfl rfl, a0.celli 8 rfl rfl, a0.celli 9 rfl rfl, a0.celli 10 rfl rfl, a0.celli 11 rfl rfl, a0.celli 12 rfl rfl, a0.celli 13 rfl rfl, a0.celli 14 rfl rfl, a0.celli 15 rfl rfl, a0.celli 16 rfl rfl, a0.celli 17 rfl rfl, a0.celli 18 rfl rfl, a0.celli 19 rfl rfl, trivial⟩, ?_⟩
      have h := h af ap
      exact h

theorem forkcheck_Claim.go (o1 : Option Addr) (a1 : Int) (a0 : Int) (a4 : Option Addr) (a3 : Nat) (a2 : Nat) {R : Value → World → Prop} {w : World} (h : forkcheck_Claim.N o1 a1 a0 a4 a3 a2 R w) : Calls Try.prog 21 #[.pointer o1, .int .i64 a1, .int .u64 a0, .slice a4 a3 a2] w fun e w' => ∃ v, e = .returned v ∧ R v w' := forkcheck_Claim.ok o1 a1 a0 a4 a3 a2 (forkcheck_Claim.up o1 a1 a0 a4 a3 a2 h)
/-- forkcheck.Holds -/
def forkcheck_Holds.M (o1 : Option Addr) (b4 : Int) (bp : Int) (az : Int) (b6 : Int) (b9 : Int) (bn : Int) (bm : Int) (b7 : Int) (av : Option Addr) (b1 : Nat) (b0 : Nat) (bb : Int) (af : Int) (aw : Int) (b3 : Int) (bd : Int) (bc : Int) (au : Int) (ay : Option Addr) (ar : Nat) (ax : Nat) (bf : Int) (bq : Int) (bx : Option Addr) (bu : Nat) (bw : Nat) (bo : Int) (R : Value → World → Prop) (w : World) : Prop :=
 thenW (w.alloc (.cells #[.int .i64 bp, .int .i64 az, .int .i64 b6, .int .u64 b9, .int .i64 bn, .int .i64 bm, .int .i64 b7, .slice av b1 b0, .int .u64 bb, .int .i64 af, .int .i64 aw, .int .u64 b3, .int .i64 bd, .int .i64 bc, .int .i64 au, .slice ay ar ax, .int .u64 bf, .int .i64 bq, .slice bx bu bw, .int .u64 bo] 69)) fun ba =>
 ∃ (b8 : Int), ba.cell? ((blk w.heap.size).add 0) = some (.int .i64 b8) ∧
 bif b8 != 3 then (
 R (.bool false) ba) else (
 ∃ (aq : Int) (a1 : Int) (a8 : Int) (ac : Int) (ak : Int) (ap : Int) (ab : Int) (a4 : Option Addr) (a6 : Nat) (a7 : Nat) (ai : Int) (a0 : Int) (aa : Int) (ad : Int) (am : Int) (ao : Int) (a9 : Int) (a2 : Option Addr) (a5 : Nat) (a3 : Nat) (aj : Int) (b2 : Int) (bi : Option Addr) (bk : Nat) (bj : Nat) (b5 : Int), cellsAt ba (blk w.heap.size) [.int .i64 aq, .int .i64 a1, .int .i64 a8, .int .u64 ac, .int .i64 ak, .int .i64 ap, .int .i64 ab, .slice a4 a6 a7, .int .u64 ai, .int .i64 a0, .int .i64 aa, .int .u64 ad, .int .i64 am, .int .i64 ao, .int .i64 a9, .slice a2 a5 a3, .int .u64 aj, .int .i64 b2, .slice bi bk bj, .int .u64 b5] 0 ∧
 Calls Try.prog 56 #[.agg #[.int .i64 aq, .int .i64 a1, .int .i64 a8, .int .u64 ac, .int .i64 ak, .int .i64 ap, .int .i64 ab, .slice a4 a6 a7, .int .u64 ai, .int .i64 a0, .int .i64 aa, .int .u64 ad, .int .i64 am, .int .i64 ao, .int .i64 a9, .slice a2 a5 a3, .int .u64 aj, .int .i64 b2, .slice bi bk bj, .int .u64 b5]] ba fun bz be => ∃ (ag : Bool), bz = .returned (.bool ag) ∧
 bif !ag then (
 R (.bool false) be) else (
 ∃ (bh : Int), be.cell? ((blk w.heap.size).add 17) = some (.int .i64 bh) ∧
 ∃ (bv : Option Addr) (bt : Nat) (bs : Nat), be.cell? ((blk w.heap.size).add 18) = some (.slice bv bt bs) ∧
 Calls Try.prog 19 #[.int .i64 bh, .slice bv bt bs] be fun c1 br => ∃ (ah : Option Addr) (al : Nat) (an : Nat) (bl : Int), c1 = .returned (.tuple #[.slice ah al an, .int .i64 bl]) ∧
 ∃ (bg : Int), br.cell? ((blk w.heap.size).add 19) = some (.int .u64 bg) ∧
 Calls Try.prog 57 #[.pointer o1, .int .u64 b4, .slice ah al an, .int .u64 bg] br fun c0 c2 => ∃ (ae : Bool), c0 = .returned (.bool ae) ∧
 R (.bool ae) c2))

theorem forkcheck_Holds.eq (o1 : Option Addr) (publicv2 : Int) (fKind3 : Int) (fEWriter4 : Int) (fEIndex5 : Int) (fEPrev6 : Int) (fEAtT7 : Int) (fEAtW8 : Int) (fEEpoch9 : Int) (fEBody10a : Option Addr) (fEBody10n : Nat) (fEBody10c : Nat) (fESig11 : Int) (fFWriter12 : Int) (fFIndex13 : Int) (fFPrev14 : Int) (fFAtT15 : Int) (fFAtW16 : Int) (fFEpoch17 : Int) (fFBody18a : Option Addr) (fFBody18n : Nat) (fFBody18c : Nat) (fFSig19 : Int) (fWho20 : Int) (fV21a : Option Addr) (fV21n : Nat) (fV21c : Nat) (fSig22 : Int) (R : Value → World → Prop) (w : World) : mfunc Try.prog [] 25 [.pointer o1, .int .u64 publicv2, .agg #[.int .i64 fKind3, .int .i64 fEWriter4, .int .i64 fEIndex5, .int .u64 fEPrev6, .int .i64 fEAtT7, .int .i64 fEAtW8, .int .i64 fEEpoch9, .slice fEBody10a fEBody10n fEBody10c, .int .u64 fESig11, .int .i64 fFWriter12, .int .i64 fFIndex13, .int .u64 fFPrev14, .int .i64 fFAtT15, .int .i64 fFAtW16, .int .i64 fFEpoch17, .slice fFBody18a fFBody18n fFBody18c, .int .u64 fFSig19, .int .i64 fWho20, .slice fV21a fV21n fV21c, .int .u64 fSig22]] R w = forkcheck_Holds.M o1 publicv2 fKind3 fEWriter4 fEIndex5 fEPrev6 fEAtT7 fEAtW8 fEEpoch9 fEBody10a fEBody10n fEBody10c fESig11 fFWriter12 fFIndex13 fFPrev14 fFAtT15 fFAtW16 fFEpoch17 fFBody18a fFBody18n fFBody18c fFSig19 fWho20 fV21a fV21n fV21c fSig22 R w := by kernel_rfl
theorem forkcheck_Holds.ok (o1 : Option Addr) (ab : Int) (am : Int) (a7 : Int) (ac : Int) (ae : Int) (ak : Int) (aj : Int) (ad : Int) (a3 : Option Addr) (a9 : Nat) (a8 : Nat) (af : Int) (a0 : Int) (a4 : Int) (aa : Int) (ah : Int) (ag : Int) (a2 : Int) (a6 : Option Addr) (a1 : Nat) (a5 : Nat) (ai : Int) (an : Int) (aq : Option Addr) (ao : Nat) (ap : Nat) (al : Int) {R : Value → World → Prop} {w : World} (h : forkcheck_Holds.M o1 ab am a7 ac ae ak aj ad a3 a9 a8 af a0 a4 aa ah ag a2 a6 a1 a5 ai an aq ao ap al R w) : Calls Try.prog 25 #[.pointer o1, .int .u64 ab, .agg #[.int .i64 am, .int .i64 a7, .int .i64 ac, .int .u64 ae, .int .i64 ak, .int .i64 aj, .int .i64 ad, .slice a3 a9 a8, .int .u64 af, .int .i64 a0, .int .i64 a4, .int .u64 aa, .int .i64 ah, .int .i64 ag, .int .i64 a2, .slice a6 a1 a5, .int .u64 ai, .int .i64 an, .slice aq ao ap, .int .u64 al]] w fun e w' => ∃ v, e = .returned v ∧ R v w' :=
  mfunc_ok follows (H := []) (args := [.pointer o1, .int .u64 ab, .agg #[.int .i64 am, .int .i64 a7, .int .i64 ac, .int .u64 ae, .int .i64 ak, .int .i64 aj, .int .i64 ad, .slice a3 a9 a8, .int .u64 af, .int .i64 a0, .int .i64 a4, .int .u64 aa, .int .i64 ah, .int .i64 ag, .int .i64 a2, .slice a6 a1 a5, .int .u64 ai, .int .i64 an, .slice aq ao ap, .int .u64 al]]) (by rw [forkcheck_Holds.eq]; exact h)

def forkcheck_Holds.N (o1 : Option Addr) (ai : Int) (a4 : Int) (ae : Int) (ak : Int) (ao : Int) (az : Int) (ay : Int) (al : Int) (aa : Option Addr) (ag : Nat) (af : Nat) (ap : Int) (a3 : Int) (ab : Int) (ah : Int) (ar : Int) (aq : Int) (a9 : Int) (ad : Option Addr) (a8 : Nat) (ac : Nat) (au : Int) (am : Int) (ax : Option Addr) (av : Nat) (aw : Nat) (aj : Int) (R : Value → World → Prop) (w : World) : Prop :=
 (a4 ≠ 3 →
 ∀ (a2 : World), Ext no w a2 →
 R (.bool false) a2) ∧
 (a4 = 3 →
 ∀ (a2 : World) (b4 : Nat), Ext no w a2 → Priv w a2 [b4] →
 Calls Try.prog 56 #[.agg #[.int .i64 a4, .int .i64 ae, .int .i64 ak, .int .u64 ao, .int .i64 az, .int .i64 ay, .int .i64 al, .slice aa ag af, .int .u64 ap, .int .i64 a3, .int .i64 ab, .int .u64 ah, .int .i64 ar, .int .i64 aq, .int .i64 a9, .slice ad a8 ac, .int .u64 au, .int .i64 am, .slice ax av aw, .int .u64 aj]] a2 fun b5 an => ∃ (a0 : Bool), b5 = .returned (.bool a0) ∧
 Keep [b4] a2 an ∧
 (a0 = false →
 R (.bool false) an) ∧
 (a0 = true →
 Calls Try.prog 19 #[.int .i64 am, .slice ax av aw] an fun b6 b1 => ∃ (a6 : Option Addr) (a7 : Nat) (a5 : Nat) (b0 : Int), b6 = .returned (.tuple #[.slice a6 a7 a5, .int .i64 b0]) ∧
 Keep [b4] an b1 ∧
 Calls Try.prog 57 #[.pointer o1, .int .u64 ai, .slice a6 a7 a5, .int .u64 aj] b1 fun b3 b2 => ∃ (a1 : Bool), b3 = .returned (.bool a1) ∧
 R (.bool a1) b2))

theorem forkcheck_Holds.up (o1 : Option Addr) (am : Int) (aj : Int) (a8 : Int) (ac : Int) (ae : Int) (ao : Int) (an : Int) (ad : Int) (a4 : Option Addr) (aa : Nat) (a9 : Nat) (af : Int) (a0 : Int) (a5 : Int) (ab : Int) (ah : Int) (ag : Int) (a3 : Int) (a7 : Option Addr) (a2 : Nat) (a6 : Nat) (al : Int) (ak : Int) (ar : Option Addr) (ap : Nat) (aq : Nat) (ai : Int) {R : Value → World → Prop} {w : World} (h : forkcheck_Holds.N o1 am aj a8 ac ae ao an ad a4 aa a9 af a0 a5 ab ah ag a3 a7 a2 a6 al ak ar ap aq ai R w) : forkcheck_Holds.M o1 am aj a8 ac ae ao an ad a4 aa a9 af a0 a5 ab ah ag a3 a7 a2 a6 al ak ar ap aq ai R w := by
  unfold forkcheck_Holds.M
  unfold forkcheck_Holds.N at h
  refine thenW_in fun b0 b4 => ?_
  have a1 := Blk.of_new b4
  have b5 := ((Ext.refl no w)).size
  have b1 := (Ext.refl no w).x_alloc b4
  refine ⟨aj, a1.celli 0 rfl rfl, ?_⟩
  refine bif_of (fun b3 => ?_) (fun b3 => ?_)
  · have h := h.1 (bne_t b3)
    have h := h b0 b1
    exact h
  · have h := h.2 (bne_f b3)
    refine ⟨aj, a8, ac, ae, ao, an, ad, a4, aa, a9, af, a0, a5, ab, ah, ag, a3, a7, a2, a6, al, ak, ar, ap, aq, ai, ⟨a1.celli 0 rfl rfl, a1.celli 1 rfl rfl, a1.celli 2 rfl rfl, a1.celli 3 rfl rfl, a1.celli 4 rfl rfl, a1.celli 5 rfl rfl, a1.celli 6 rfl rfl, a1.celli 7 rfl rfl, a1.celli 8 rfl rfl, a1.celli 9 rfl rfl, a1.celli 10 rfl rfl, a1.celli 11 rfl rfl, a1.celli 12 rfl rfl, a1.celli 13 rfl rfl, a1.celli 14 rfl rfl, a1.celli 15 rfl rfl, a1.celli 16 rfl rfl, a1.celli 17 rfl rfl, a1.celli 18 rfl rfl, a1.celli 19 rfl rfl, trivial⟩, ?_⟩
    have h := h b0 (w.heap.size) b1 (Priv.cons b5 a1.lt Priv.nil)
    refine h.mono fun ba b6 h => ?_
    obtain ⟨ax, he, hk, h⟩ := h
    refine ⟨ax, he, ?_⟩
    have a1 := hk.blk a1 (by simp)
    refine bif_of (fun b2 => ?_) (fun b2 => ?_)
    · have h := h.1 (not_t b2)
      exact h
    · have h := h.2 (not_f b2)
      refine ⟨ak, a1.celli 17 rfl rfl, ?_⟩
      refine ⟨ar, ap, aq, a1.celli 18 rfl rfl, ?_⟩
      refine h.mono fun bb b9 h => ?_
      obtain ⟨aw, ay, av, az, he, hk, h⟩ := h
      refine ⟨aw, ay, av, az, he, ?_⟩
      have a1 := hk.blk a1 (by simp)
      refine ⟨ai, a1.celli 19 rfl rfl, ?_⟩
      refine h.mono fun b8 b7 h => ?_
      obtain ⟨au, he, h⟩ := h
      refine ⟨au, he, ?_⟩
      exact h

theorem forkcheck_Holds.go (o1 : Option Addr) (ab : Int) (am : Int) (a7 : Int) (ac : Int) (ae : Int) (ak : Int) (aj : Int) (ad : Int) (a3 : Option Addr) (a9 : Nat) (a8 : Nat) (af : Int) (a0 : Int) (a4 : Int) (aa : Int) (ah : Int) (ag : Int) (a2 : Int) (a6 : Option Addr) (a1 : Nat) (a5 : Nat) (ai : Int) (an : Int) (aq : Option Addr) (ao : Nat) (ap : Nat) (al : Int) {R : Value → World → Prop} {w : World} (h : forkcheck_Holds.N o1 ab am a7 ac ae ak aj ad a3 a9 a8 af a0 a4 aa ah ag a2 a6 a1 a5 ai an aq ao ap al R w) : Calls Try.prog 25 #[.pointer o1, .int .u64 ab, .agg #[.int .i64 am, .int .i64 a7, .int .i64 ac, .int .u64 ae, .int .i64 ak, .int .i64 aj, .int .i64 ad, .slice a3 a9 a8, .int .u64 af, .int .i64 a0, .int .i64 a4, .int .u64 aa, .int .i64 ah, .int .i64 ag, .int .i64 a2, .slice a6 a1 a5, .int .u64 ai, .int .i64 an, .slice aq ao ap, .int .u64 al]] w fun e w' => ∃ v, e = .returned v ∧ R v w' := forkcheck_Holds.ok o1 ab am a7 ac ae ak aj ad a3 a9 a8 af a0 a4 aa ah ag a2 a6 a1 a5 ai an aq ao ap al (forkcheck_Holds.up o1 ab am a7 ac ae ak aj ad a3 a9 a8 af a0 a4 aa ah ag a2 a6 a1 a5 ai an aq ao ap al h)
theorem forkcheck_Holds.run (o1 : Option Addr) (ab : Int) (am : Int) (a7 : Int) (ac : Int) (ae : Int) (ak : Int) (aj : Int) (ad : Int) (a3 : Option Addr) (a9 : Nat) (a8 : Nat) (af : Int) (a0 : Int) (a4 : Int) (aa : Int) (ah : Int) (ag : Int) (a2 : Int) (a6 : Option Addr) (a1 : Nat) (a5 : Nat) (ai : Int) (an : Int) (aq : Option Addr) (ao : Nat) (ap : Nat) (al : Int) {V : Value} {Q : World → Prop} {w : World} (h : forkcheck_Holds.N o1 ab am a7 ac ae ak aj ad a3 a9 a8 af a0 a4 aa ah ag a2 a6 a1 a5 ai an aq ao ap al (fun v w' => v = V ∧ Q w') w) : Calls Try.prog 25 #[.pointer o1, .int .u64 ab, .agg #[.int .i64 am, .int .i64 a7, .int .i64 ac, .int .u64 ae, .int .i64 ak, .int .i64 aj, .int .i64 ad, .slice a3 a9 a8, .int .u64 af, .int .i64 a0, .int .i64 a4, .int .u64 aa, .int .i64 ah, .int .i64 ag, .int .i64 a2, .slice a6 a1 a5, .int .u64 ai, .int .i64 an, .slice aq ao ap, .int .u64 al]] w (Ret V Q) := (forkcheck_Holds.go o1 ab am a7 ac ae ak aj ad a3 a9 a8 af a0 a4 aa ah ag a2 a6 a1 a5 ai an aq ao ap al h).mono fun e w' ⟨v, he, hv, hq⟩ => ⟨by rw [he, hv], hq⟩

/-- cachetteref23.Text -/
def cachetteref23_Text.M (a7 : Int) (ao : Option Addr) (an : Nat) (ar : Nat) (R : Value → World → Prop) (w : World) : Prop :=
 Calls Try.prog 50 #[.slice ao an ar] w fun aq ab => ∃ (a0 : Option Addr) (a1 : Nat) (a2 : Nat) (a5 : Int), aq = .returned (.tuple #[.slice a0 a1 a2, .int .i64 a5]) ∧
 bif decide (a7 < 0) then (
 R (.tuple #[.slice none 0 0, .int .i64 1]) ab) else (
 bif decide (a7 ≥ 8) then (
 R (.tuple #[.slice none 0 0, .int .i64 1]) ab) else (
 bif a5 != 0 then (
 R (.tuple #[.slice none 0 0, .int .i64 1]) ab) else (
 thenW (ab.alloc (.cells #[.int .u8 99, .int .u8 108, .int .u8 97, .int .u8 105, .int .u8 109] 5)) fun ap =>
 ∃ (aj : Option Addr) (am : Nat) (ak : Nat) (al : World), (convert 23 23 (.slice (some (blk ab.heap.size)) 5 5)).run Try.prog ap = .ok (.slice aj am ak) al ∧
 Calls Try.prog 51 #[.int .u64 (IntKind.u64.wrap a7)] al fun ah ai => ∃ (a3 : Option Addr) (a6 : Nat) (a4 : Nat), ah = .returned (.slice a3 a6 a4) ∧
 ∃ (a9 : Option Addr) (ae : Nat) (aa : Nat) (ad : World), (Builtin.append_ #[23, 23] 23 #[.slice aj am ak, .slice a3 a6 a4]).run Try.prog ai = .ok (.slice a9 ae aa) ad ∧
 ∃ (af : Option Addr) (ac : Nat) (ag : Nat) (a8 : World), (Builtin.append_ #[23, 23] 23 #[.slice a9 ae aa, .slice a0 a1 a2]).run Try.prog ad = .ok (.slice af ac ag) a8 ∧
 R (.tuple #[.slice af ac ag, .int .i64 0]) a8)))

theorem cachetteref23_Text.eq (who1 : Int) (v2a : Option Addr) (v2n : Nat) (v2c : Nat) (R : Value → World → Prop) (w : World) : mfunc Try.prog [] 20 [.int .i64 who1, .slice v2a v2n v2c] R w = cachetteref23_Text.M who1 v2a v2n v2c R w := by kernel_rfl
theorem cachetteref23_Text.ok (a0 : Int) (a3 : Option Addr) (a2 : Nat) (a1 : Nat) {R : Value → World → Prop} {w : World} (h : cachetteref23_Text.M a0 a3 a2 a1 R w) : Calls Try.prog 20 #[.int .i64 a0, .slice a3 a2 a1] w fun e w' => ∃ v, e = .returned v ∧ R v w' :=
  mfunc_ok follows (H := []) (args := [.int .i64 a0, .slice a3 a2 a1]) (by rw [cachetteref23_Text.eq]; exact h)

def cachetteref23_Text.N (a4 : Int) (aq : Option Addr) (ap : Nat) (au : Nat) (R : Value → World → Prop) (w : World) : Prop :=
 Calls Try.prog 50 #[.slice aq ap au] w fun ar ae => ∃ (a1 : Option Addr) (a2 : Nat) (a3 : Nat) (a0 : Int), ar = .returned (.tuple #[.slice a1 a2 a3, .int .i64 a0]) ∧
 (a4 < 0 →
 R (.tuple #[.slice none 0 0, .int .i64 1]) ae) ∧
 ((0 : Int) ≤ a4 →
 (a4 ≥ 8 →
 R (.tuple #[.slice none 0 0, .int .i64 1]) ae) ∧
 (a4 < 8 →
 (a0 ≠ 0 →
 R (.tuple #[.slice none 0 0, .int .i64 1]) ae) ∧
 (a0 = 0 →
 ∀ (a8 : World) (am : Nat), Ext no ae a8 → Blk a8 am 5 [.int .u8 99, .int .u8 108, .int .u8 97, .int .u8 105, .int .u8 109] → ae.heap.size ≤ am → am < a8.heap.size →
 ∃ (af : Option Addr) (ag : Nat) (ak : Nat) (aa : World), (convert 23 23 (.slice (some (blk am)) 5 5)).run Try.prog a8 = .ok (.slice af ag ak) aa ∧
 Calls Try.prog 51 #[.int .u64 (IntKind.u64.wrap a4)] aa fun an ao => ∃ (a6 : Option Addr) (a5 : Nat) (a7 : Nat), an = .returned (.slice a6 a5 a7) ∧
 ∃ (ac : Option Addr) (al : Nat) (ah : Nat) (aj : World), (Builtin.append_ #[23, 23] 23 #[.slice af ag ak, .slice a6 a5 a7]).run Try.prog ao = .ok (.slice ac al ah) aj ∧
 ∃ (a9 : Option Addr) (ai : Nat) (ab : Nat) (ad : World), (Builtin.append_ #[23, 23] 23 #[.slice ac al ah, .slice a1 a2 a3]).run Try.prog aj = .ok (.slice a9 ai ab) ad ∧
 R (.tuple #[.slice a9 ai ab, .int .i64 0]) ad)))

theorem cachetteref23_Text.up (a7 : Int) (ao : Option Addr) (an : Nat) (ap : Nat) {R : Value → World → Prop} {w : World} (h : cachetteref23_Text.N a7 ao an ap R w) : cachetteref23_Text.M a7 ao an ap R w := by
  unfold cachetteref23_Text.M
  unfold cachetteref23_Text.N at h
  refine h.mono fun au ad h => ?_
  obtain ⟨a0, a1, a2, a6, he, h⟩ := h
  refine ⟨a0, a1, a2, a6, he, ?_⟩
  refine bif_of (fun c7 => ?_) (fun c7 => ?_)
  · have h := h.1 (of_decide_eq_true c7)
    exact h
  · have h := h.2 (Int.not_lt.1 (of_decide_eq_false c7))
    refine bif_of (fun c8 => ?_) (fun c8 => ?_)
    · have h := h.1 (of_decide_eq_true c8)
      exact h
    · have h := h.2 (Int.not_le.1 (of_decide_eq_false c8))
      refine bif_of (fun c9 => ?_) (fun c9 => ?_)
      · have h := h.1 (bne_t c9)
        exact h
      · have h := h.2 (bne_f c9)
        refine thenW_in fun aa af => ?_
        have h := h aa ad.heap.size ((Ext.refl no ad).x_alloc af) (Blk.of_new af) ((Ext.refl no ad)).size (size_lt_alloc af)
        obtain ⟨ag, ah, al, a9, hr, h⟩ := h
        refine ⟨ag, ah, al, a9, hr, ?_⟩
        refine h.mono fun aq ar h => ?_
        obtain ⟨a4, a3, a5, he, h⟩ := h
        refine ⟨a4, a3, a5, he, ?_⟩
        obtain ⟨ac, am, ai, ak, hr, h⟩ := h
        refine ⟨ac, am, ai, ak, hr, ?_⟩
        obtain ⟨a8, aj, ab, ae, hr, h⟩ := h
        refine ⟨a8, aj, ab, ae, hr, ?_⟩
        exact h

theorem cachetteref23_Text.go (a0 : Int) (a3 : Option Addr) (a2 : Nat) (a1 : Nat) {R : Value → World → Prop} {w : World} (h : cachetteref23_Text.N a0 a3 a2 a1 R w) : Calls Try.prog 20 #[.int .i64 a0, .slice a3 a2 a1] w fun e w' => ∃ v, e = .returned v ∧ R v w' := cachetteref23_Text.ok a0 a3 a2 a1 (cachetteref23_Text.up a0 a3 a2 a1 h)
/-- cachetteref23.Claim -/
def cachetteref23_Claim.M (o1 : Option Addr) (df : Int) (cf : Int) (eb : Option Addr) (ea : Nat) (e9 : Nat) (R : Value → World → Prop) (w : World) : Prop :=
 thenW (w.alloc (.cells #[.int .i64 0, .int .i64 0, .int .i64 0, .int .u64 0, .int .i64 0, .int .i64 0, .int .i64 0, .slice none 0 0, .int .u64 0, .int .i64 0, .int .i64 0, .int .u64 0, .int .i64 0, .int .i64 0, .int .i64 0, .slice none 0 0, .int .u64 0, .int .i64 0, .slice none 0 0, .int .u64 0] 58)) fun ed =>
 Calls Try.prog 20 #[.int .i64 df, .slice eb ea e9] ed fun ec e8 => ∃ (cd : Option Addr) (cc : Nat) (cb : Nat) (ce : Int), ec = .returned (.tuple #[.slice cd cc cb, .int .i64 ce]) ∧
 bif ce != 0 then (
 canStore e8 ((blk w.heap.size).add 0) ∧
 thenW (e8.setCell ((blk w.heap.size).add 0) (.int .i64 0)) fun cz =>
 canStore cz ((blk w.heap.size).add 1) ∧
 thenW (cz.setCell ((blk w.heap.size).add 1) (.int .i64 0)) fun ds =>
 canStore ds ((blk w.heap.size).add 2) ∧
 thenW (ds.setCell ((blk w.heap.size).add 2) (.int .i64 0)) fun e2 =>
 canStore e2 ((blk w.heap.size).add 3) ∧
 thenW (e2.setCell ((blk w.heap.size).add 3) (.int .u64 0)) fun cw =>
 canStore cw ((blk w.heap.size).add 4) ∧
 thenW (cw.setCell ((blk w.heap.size).add 4) (.int .i64 0)) fun e3 =>
 canStore e3 ((blk w.heap.size).add 5) ∧
 thenW (e3.setCell ((blk w.heap.size).add 5) (.int .i64 0)) fun dj =>
 canStore dj ((blk w.heap.size).add 6) ∧
 thenW (dj.setCell ((blk w.heap.size).add 6) (.int .i64 0)) fun cy =>
 canStore cy ((blk w.heap.size).add 7) ∧
 thenW (cy.setCell ((blk w.heap.size).add 7) (.slice none 0 0)) fun dp =>
 canStore dp ((blk w.heap.size).add 8) ∧
 thenW (dp.setCell ((blk w.heap.size).add 8) (.int .u64 0)) fun d9 =>
 canStore d9 ((blk w.heap.size).add 9) ∧
 thenW (d9.setCell ((blk w.heap.size).add 9) (.int .i64 0)) fun dc =>
 canStore dc ((blk w.heap.size).add 10) ∧
 thenW (dc.setCell ((blk w.heap.size).add 10) (.int .i64 0)) fun d4 =>
 canStore d4 ((blk w.heap.size).add 11) ∧
 thenW (d4.setCell ((blk w.heap.size).add 11) (.int .u64 0)) fun dz =>
 canStore dz ((blk w.heap.size).add 12) ∧
 thenW (dz.setCell ((blk w.heap.size).add 12) (.int .i64 0)) fun dv =>
 canStore dv ((blk w.heap.size).add 13) ∧
 thenW (dv.setCell ((blk w.heap.size).add 13) (.int .i64 0)) fun de =>
 canStore de ((blk w.heap.size).add 14) ∧
 thenW (de.setCell ((blk w.heap.size).add 14) (.int .i64 0)) fun dq =>
 canStore dq ((blk w.heap.size).add 15) ∧
 thenW (dq.setCell ((blk w.heap.size).add 15) (.slice none 0 0)) fun d5 =>
 canStore d5 ((blk w.heap.size).add 16) ∧
 thenW (d5.setCell ((blk w.heap.size).add 16) (.int .u64 0)) fun da =>
 canStore da ((blk w.heap.size).add 17) ∧
 thenW (da.setCell ((blk w.heap.size).add 17) (.int .i64 0)) fun d6 =>
 canStore d6 ((blk w.heap.size).add 18) ∧
 thenW (d6.setCell ((blk w.heap.size).add 18) (.slice none 0 0)) fun d0 =>
 canStore d0 ((blk w.heap.size).add 19) ∧
 thenW (d0.setCell ((blk w.heap.size).add 19) (.int .u64 0)) fun dl =>
 ∃ (bu : Int) (a9 : Int) (b3 : Int) (be : Int) (bq : Int) (bh : Int) (ak : Int) (ah : Option Addr) (av : Nat) (b2 : Nat) (bl : Int) (a7 : Int) (ap : Int) (b4 : Int) (bj : Int) (bs : Int) (aq : Int) (b1 : Option Addr) (ao : Nat) (am : Nat) (br : Int) (c0 : Int) (c6 : Option Addr) (c9 : Nat) (c4 : Nat) (bv : Int), cellsAt dl (blk w.heap.size) [.int .i64 bu, .int .i64 a9, .int .i64 b3, .int .u64 be, .int .i64 bq, .int .i64 bh, .int .i64 ak, .slice ah av b2, .int .u64 bl, .int .i64 a7, .int .i64 ap, .int .u64 b4, .int .i64 bj, .int .i64 bs, .int .i64 aq, .slice b1 ao am, .int .u64 br, .int .i64 c0, .slice c6 c9 c4, .int .u64 bv] 0 ∧
 R (.tuple #[.agg #[.int .i64 bu, .int .i64 a9, .int .i64 b3, .int .u64 be, .int .i64 bq, .int .i64 bh, .int .i64 ak, .slice ah av b2, .int .u64 bl, .int .i64 a7, .int .i64 ap, .int .u64 b4, .int .i64 bj, .int .i64 bs, .int .i64 aq, .slice b1 ao am, .int .u64 br, .int .i64 c0, .slice c6 c9 c4, .int .u64 bv], .int .i64 ce]) dl) else (
 Calls Try.prog 54 #[.pointer o1, .int .u64 cf, .slice cd cc cb] e8 fun e7 cg => ∃ (ca : Int) (c3 : Int), e7 = .returned (.tuple #[.int .u64 ca, .int .i64 c3]) ∧
 bif c3 != 0 then (
 canStore cg ((blk w.heap.size).add 0) ∧
 thenW (cg.setCell ((blk w.heap.size).add 0) (.int .i64 0)) fun d2 =>
 canStore d2 ((blk w.heap.size).add 1) ∧
 thenW (d2.setCell ((blk w.heap.size).add 1) (.int .i64 0)) fun e0 =>
 canStore e0 ((blk w.heap.size).add 2) ∧
 thenW (e0.setCell ((blk w.heap.size).add 2) (.int .i64 0)) fun d1 =>
 canStore d1 ((blk w.heap.size).add 3) ∧
 thenW (d1.setCell ((blk w.heap.size).add 3) (.int .u64 0)) fun e6 =>
 canStore e6 ((blk w.heap.size).add 4) ∧
 thenW (e6.setCell ((blk w.heap.size).add 4) (.int .i64 0)) fun dd =>
 canStore dd ((blk w.heap.size).add 5) ∧
 thenW (dd.setCell ((blk w.heap.size).add 5) (.int .i64 0)) fun dn =>
 canStore dn ((blk w.heap.size).add 6) ∧
 thenW (dn.setCell ((blk w.heap.size).add 6) (.int .i64 0)) fun du =>
 canStore du ((blk w.heap.size).add 7) ∧
 thenW (du.setCell ((blk w.heap.size).add 7) (.slice none 0 0)) fun d7 =>
 canStore d7 ((blk w.heap.size).add 8) ∧
 thenW (d7.setCell ((blk w.heap.size).add 8) (.int .u64 0)) fun dx =>
 canStore dx ((blk w.heap.size).add 9) ∧
 thenW (dx.setCell ((blk w.heap.size).add 9) (.int .i64 0)) fun dt =>
 canStore dt ((blk w.heap.size).add 10) ∧
 thenW (dt.setCell ((blk w.heap.size).add 10) (.int .i64 0)) fun dg =>
 canStore dg ((blk w.heap.size).add 11) ∧
 thenW (dg.setCell ((blk w.heap.size).add 11) (.int .u64 0)) fun e1 =>
 canStore e1 ((blk w.heap.size).add 12) ∧
 thenW (e1.setCell ((blk w.heap.size).add 12) (.int .i64 0)) fun db =>
 canStore db ((blk w.heap.size).add 13) ∧
 thenW (db.setCell ((blk w.heap.size).add 13) (.int .i64 0)) fun d8 =>
 canStore d8 ((blk w.heap.size).add 14) ∧
 thenW (d8.setCell ((blk w.heap.size).add 14) (.int .i64 0)) fun dw =>
 canStore dw ((blk w.heap.size).add 15) ∧
 thenW (dw.setCell ((blk w.heap.size).add 15) (.slice none 0 0)) fun dr =>
 canStore dr ((blk w.heap.size).add 16) ∧
 thenW (dr.setCell ((blk w.heap.size).add 16) (.int .u64 0)) fun e4 =>
 canStore e4 ((blk w.heap.size).add 17) ∧
 thenW (e4.setCell ((blk w.heap.size).add 17) (.int .i64 0)) fun dh =>
 canStore dh ((blk w.heap.size).add 18) ∧
 thenW (dh.setCell ((blk w.heap.size).add 18) (.slice none 0 0)) fun cx =>
 canStore cx ((blk w.heap.size).add 19) ∧
 thenW (cx.setCell ((blk w.heap.size).add 19) (.int .u64 0)) fun dk =>
 ∃ (bp : Int) (ae : Int) (b0 : Int) (b6 : Int) (bi : Int) (bf : Int) (ar : Int) (az : Option Addr) (ag : Nat) (an : Nat) (bk : Int) (ac : Int) (al : Int) (b5 : Int) (bm : Int) (bn : Int) (aw : Int) (ai : Option Addr) (ay : Nat) (au : Nat) (bg : Int) (c2 : Int) (c5 : Option Addr) (c7 : Nat) (c8 : Nat) (bz : Int), cellsAt dk (blk w.heap.size) [.int .i64 bp, .int .i64 ae, .int .i64 b0, .int .u64 b6, .int .i64 bi, .int .i64 bf, .int .i64 ar, .slice az ag an, .int .u64 bk, .int .i64 ac, .int .i64 al, .int .u64 b5, .int .i64 bm, .int .i64 bn, .int .i64 aw, .slice ai ay au, .int .u64 bg, .int .i64 c2, .slice c5 c7 c8, .int .u64 bz] 0 ∧
 R (.tuple #[.agg #[.int .i64 bp, .int .i64 ae, .int .i64 b0, .int .u64 b6, .int .i64 bi, .int .i64 bf, .int .i64 ar, .slice az ag an, .int .u64 bk, .int .i64 ac, .int .i64 al, .int .u64 b5, .int .i64 bm, .int .i64 bn, .int .i64 aw, .slice ai ay au, .int .u64 bg, .int .i64 c2, .slice c5 c7 c8, .int .u64 bz], .int .i64 c3]) dk) else (
 canStore cg ((blk w.heap.size).add 0) ∧
 thenW (cg.setCell ((blk w.heap.size).add 0) (.int .i64 3)) fun dm =>
 canStore dm ((blk w.heap.size).add 1) ∧
 thenW (dm.setCell ((blk w.heap.size).add 1) (.int .i64 0)) fun dy =>
 canStore dy ((blk w.heap.size).add 2) ∧
 thenW (dy.setCell ((blk w.heap.size).add 2) (.int .i64 0)) fun e5 =>
 canStore e5 ((blk w.heap.size).add 3) ∧
 thenW (e5.setCell ((blk w.heap.size).add 3) (.int .u64 0)) fun cv =>
 canStore cv ((blk w.heap.size).add 4) ∧
 thenW (cv.setCell ((blk w.heap.size).add 4) (.int .i64 0)) fun di =>
 canStore di ((blk w.heap.size).add 5) ∧
 thenW (di.setCell ((blk w.heap.size).add 5) (.int .i64 0)) fun d3 =>
 canStore d3 ((blk w.heap.size).add 6) ∧
 thenW (d3.setCell ((blk w.heap.size).add 6) (.int .i64 0)) fun ch =>
 canStore ch ((blk w.heap.size).add 7) ∧
 thenW (ch.setCell ((blk w.heap.size).add 7) (.slice none 0 0)) fun ci =>
 canStore ci ((blk w.heap.size).add 8) ∧
 thenW (ci.setCell ((blk w.heap.size).add 8) (.int .u64 0)) fun cj =>
 canStore cj ((blk w.heap.size).add 9) ∧
 thenW (cj.setCell ((blk w.heap.size).add 9) (.int .i64 0)) fun cl =>
 canStore cl ((blk w.heap.size).add 10) ∧
 thenW (cl.setCell ((blk w.heap.size).add 10) (.int .i64 0)) fun cu =>
 canStore cu ((blk w.heap.size).add 11) ∧
 thenW (cu.setCell ((blk w.heap.size).add 11) (.int .u64 0)) fun cq =>
 canStore cq ((blk w.heap.size).add 12) ∧
 thenW (cq.setCell ((blk w.heap.size).add 12) (.int .i64 0)) fun cm =>
 canStore cm ((blk w.heap.size).add 13) ∧
 thenW (cm.setCell ((blk w.heap.size).add 13) (.int .i64 0)) fun ck =>
 canStore ck ((blk w.heap.size).add 14) ∧
 thenW (ck.setCell ((blk w.heap.size).add 14) (.int .i64 0)) fun co =>
 canStore co ((blk w.heap.size).add 15) ∧
 thenW (co.setCell ((blk w.heap.size).add 15) (.slice none 0 0)) fun cs =>
 canStore cs ((blk w.heap.size).add 16) ∧
 thenW (cs.setCell ((blk w.heap.size).add 16) (.int .u64 0)) fun cp =>
 canStore cp ((blk w.heap.size).add 17) ∧
 thenW (cp.setCell ((blk w.heap.size).add 17) (.int .i64 df)) fun ct =>
 canStore ct ((blk w.heap.size).add 18) ∧
 thenW (ct.setCell ((blk w.heap.size).add 18) (.slice eb ea e9)) fun cn =>
 canStore cn ((blk w.heap.size).add 19) ∧
 thenW (cn.setCell ((blk w.heap.size).add 19) (.int .u64 ca)) fun cr =>
 ∃ (b9 : Int) (a1 : Int) (a4 : Int) (aj : Int) (bb : Int) (ba : Int) (a2 : Int) (a6 : Option Addr) (a8 : Nat) (ad : Nat) (b7 : Int) (a0 : Int) (a3 : Int) (ax : Int) (bd : Int) (b8 : Int) (a5 : Int) (aa : Option Addr) (af : Nat) (ab : Nat) (bc : Int) (bo : Int) (bw : Option Addr) (c1 : Nat) (bx : Nat) (bt : Int), cellsAt cr (blk w.heap.size) [.int .i64 b9, .int .i64 a1, .int .i64 a4, .int .u64 aj, .int .i64 bb, .int .i64 ba, .int .i64 a2, .slice a6 a8 ad, .int .u64 b7, .int .i64 a0, .int .i64 a3, .int .u64 ax, .int .i64 bd, .int .i64 b8, .int .i64 a5, .slice aa af ab, .int .u64 bc, .int .i64 bo, .slice bw c1 bx, .int .u64 bt] 0 ∧
 R (.tuple #[.agg #[.int .i64 b9, .int .i64 a1, .int .i64 a4, .int .u64 aj, .int .i64 bb, .int .i64 ba, .int .i64 a2, .slice a6 a8 ad, .int .u64 b7, .int .i64 a0, .int .i64 a3, .int .u64 ax, .int .i64 bd, .int .i64 b8, .int .i64 a5, .slice aa af ab, .int .u64 bc, .int .i64 bo, .slice bw c1 bx, .int .u64 bt], .int .i64 0]) cr))

theorem cachetteref23_Claim.eq (o1 : Option Addr) (who2 : Int) (secret3 : Int) (v4a : Option Addr) (v4n : Nat) (v4c : Nat) (R : Value → World → Prop) (w : World) : mfunc Try.prog [] 22 [.pointer o1, .int .i64 who2, .int .u64 secret3, .slice v4a v4n v4c] R w = cachetteref23_Claim.M o1 who2 secret3 v4a v4n v4c R w := by kernel_rfl
theorem cachetteref23_Claim.ok (o1 : Option Addr) (a1 : Int) (a0 : Int) (a4 : Option Addr) (a3 : Nat) (a2 : Nat) {R : Value → World → Prop} {w : World} (h : cachetteref23_Claim.M o1 a1 a0 a4 a3 a2 R w) : Calls Try.prog 22 #[.pointer o1, .int .i64 a1, .int .u64 a0, .slice a4 a3 a2] w fun e w' => ∃ v, e = .returned v ∧ R v w' :=
  mfunc_ok follows (H := []) (args := [.pointer o1, .int .i64 a1, .int .u64 a0, .slice a4 a3 a2]) (by rw [cachetteref23_Claim.eq]; exact h)

def cachetteref23_Claim.N (o1 : Option Addr) (aa : Int) (a7 : Int) (ag : Option Addr) (af : Nat) (ah : Nat) (R : Value → World → Prop) (w : World) : Prop :=
 ∀ (ad : World) (p6 : Nat), Ext no w ad → Priv w ad [p6] →
 Calls Try.prog 20 #[.int .i64 aa, .slice ag af ah] ad fun ai a6 => ∃ (a2 : Option Addr) (a3 : Nat) (a5 : Nat) (a1 : Int), ai = .returned (.tuple #[.slice a2 a3 a5, .int .i64 a1]) ∧
 Keep [p6] ad a6 ∧
 (a1 ≠ 0 →
 ∀ (ac : World), Ext (fun b => b = p6) a6 ac →
 R (.tuple #[.agg #[.int .i64 0, .int .i64 0, .int .i64 0, .int .u64 0, .int .i64 0, .int .i64 0, .int .i64 0, .slice none 0 0, .int .u64 0, .int .i64 0, .int .i64 0, .int .u64 0, .int .i64 0, .int .i64 0, .int .i64 0, .slice none 0 0, .int .u64 0, .int .i64 0, .slice none 0 0, .int .u64 0], .int .i64 a1]) ac) ∧
 (a1 = 0 →
 Calls Try.prog 54 #[.pointer o1, .int .u64 a7, .slice a2 a3 a5] a6 fun ae a8 => ∃ (a4 : Int) (a0 : Int), ae = .returned (.tuple #[.int .u64 a4, .int .i64 a0]) ∧
 Keep [p6] a6 a8 ∧
 (a0 ≠ 0 →
 ∀ (ab : World), Ext (fun b => b = p6) a8 ab →
 R (.tuple #[.agg #[.int .i64 0, .int .i64 0, .int .i64 0, .int .u64 0, .int .i64 0, .int .i64 0, .int .i64 0, .slice none 0 0, .int .u64 0, .int .i64 0, .int .i64 0, .int .u64 0, .int .i64 0, .int .i64 0, .int .i64 0, .slice none 0 0, .int .u64 0, .int .i64 0, .slice none 0 0, .int .u64 0], .int .i64 a0]) ab) ∧
 (a0 = 0 →
 ∀ (a9 : World), Ext (fun b => b = p6) a8 a9 →
 R (.tuple #[.agg #[.int .i64 3, .int .i64 0, .int .i64 0, .int .u64 0, .int .i64 0, .int .i64 0, .int .i64 0, .slice none 0 0, .int .u64 0, .int .i64 0, .int .i64 0, .int .u64 0, .int .i64 0, .int .i64 0, .int .i64 0, .slice none 0 0, .int .u64 0, .int .i64 aa, .slice ag af ah, .int .u64 a4], .int .i64 0]) a9))

theorem cachetteref23_Claim.up (o1 : Option Addr) (a4 : Int) (a2 : Int) (ag : Option Addr) (ad : Nat) (ab : Nat) {R : Value → World → Prop} {w : World} (h : cachetteref23_Claim.N o1 a4 a2 ag ad ab R w) : cachetteref23_Claim.M o1 a4 a2 ag ad ab R w := by
  unfold cachetteref23_Claim.M
  unfold cachetteref23_Claim.N at h
  refine thenW_in fun fp e5 => ?_
  have a0 := Blk.of_new e5
  have fs := ((Ext.refl no w)).size
  have fq := (Ext.refl no w).x_alloc e5
  have h := h fp (w.heap.size) fq (Priv.cons fs a0.lt Priv.nil)
  refine h.mono fun ft a5 h => ?_
  obtain ⟨a8, a9, a6, ae, he, hk, h⟩ := h
  refine ⟨a8, a9, a6, ae, he, ?_⟩
  have a0 := hk.blk a0 (by simp)
  refine bif_of (fun cg => ?_) (fun cg => ?_)
  · have h := h.1 (bne_t cg)
    have cp : Ext (fun b => b = w.heap.size) a5 a5 := ((Ext.refl no a5)).none
    refine ⟨a0.cani 0 rfl rfl, thenW_in fun dj eg => ?_⟩
    have d5 := cp.x_set (q := w.heap.size) (i := 0) rfl (.inl rfl) eg
    have a0 : Blk dj w.heap.size 58 [.int .i64 0, .int .i64 0, .int .i64 0, .int .u64 0, .int .i64 0, .int .i64 0, .int .i64 0, .slice none 0 0, .int .u64 0, .int .i64 0, .int .i64 0, .int .u64 0, .int .i64 0, .int .i64 0, .int .i64 0, .slice none 0 0, .int .u64 0, .int .i64 0, .slice none 0 0, .int .u64 0] := a0.seti 0 rfl eg
    refine ⟨a0.cani 1 rfl rfl, thenW_in fun am es => ?_⟩
    have bl := d5.x_set (q := w.heap.size) (i := 1) rfl (.inl rfl) es
    have a0 : Blk am w.heap.size 58 [.int .i64 0, .int .i64 0, .int .i64 0, .int .u64 0, .int .i64 0, .int .i64 0, .int .i64 0, .slice none 0 0, .int .u64 0, .int .i64 0, .int .i64 0, .int .u64 0, .int .i64 0, .int .i64 0, .int .i64 0, .slice none 0 0, .int .u64 0, .int .i64 0, .slice none 0 0, .int .u64 0] := a0.seti 1 rfl es
    refine ⟨a0.cani 2 rfl rfl, thenW_in fun dm ej => ?_⟩
    have c4 := bl.x_set (q := w.heap.size) (i := 2) rfl (.inl rfl) ej
    have a0 : Blk dm w.heap.size 58 [.int .i64 0, .int .i64 0, .int .i64 0, .int .u64 0, .int .i64 0, .int .i64 0, .int .i64 0, .slice none 0 0, .int .u64 0, .int .i64 0, .int .i64 0, .int .u64 0, .int .i64 0, .int .i64 0, .int .i64 0, .slice none 0 0, .int .u64 0, .int .i64 0, .slice none 0 0, .int .u64 0] := a0.seti 2 rfl ej
    refine ⟨a0.cani 3 rfl rfl, thenW_in fun c6 e2 => ?_⟩
    have bu := c4.x_set (q := w.heap.size) (i := 3) rfl (.inl rfl) e2
    have a0 : Blk c6 w.heap.size 58 [.int .i64 0, .int .i64 0, .int .i64 0, .int .u64 0, .int .i64 0, .int .i64 0, .int .i64 0, .slice none 0 0, .int .u64 0, .int .i64 0, .int .i64 0, .int .u64 0, .int .i64 0, .int .i64 0, .int .i64 0, .slice none 0 0, .int .u64 0, .int .i64 0, .slice none 0 0, .int .u64 0] := a0.seti 3 rfl e2
    refine ⟨a0.cani 4 rfl rfl, thenW_in fun aq fe => ?_⟩
    have di := bu.x_set (q := w.heap.size) (i := 4) rfl (.inl rfl) fe
    have a0 : Blk aq w.heap.size 58 [.int .i64 0, .int .i64 0, .int .i64 0, .int .u64 0, .int .i64 0, .int .i64 0, .int .i64 0, .slice none 0 0, .int .u64 0, .int .i64 0, .int .i64 0, .int .u64 0, .int .i64 0, .int .i64 0, .int .i64 0, .slice none 0 0, .int .u64 0, .int .i64 0, .slice none 0 0, .int .u64 0] := a0.seti 4 rfl fe
    refine ⟨a0.cani 5 rfl rfl, thenW_in fun ce dz => ?_⟩
    have dk := di.x_set (q := w.heap.size) (i := 5) rfl (.inl rfl) dz
    have a0 : Blk ce w.heap.size 58 [.int .i64 0, .int .i64 0, .int .i64 0, .int .u64 0, .int .i64 0, .int .i64 0, .int .i64 0, .slice none 0 0, .int .u64 0, .int .i64 0, .int .i64 0, .int .u64 0, .int .i64 0, .int .i64 0, .int .i64 0, .slice none 0 0, .int .u64 0, .int .i64 0, .slice none 0 0, .int .u64 0] := a0.seti 5 rfl dz
    refine ⟨a0.cani 6 rfl rfl, thenW_in fun b7 em => ?_⟩
    have ai := dk.x_set (q := w.heap.size) (i := 6) rfl (.inl rfl) em
    have a0 : Blk b7 w.heap.size 58 [.int .i64 0, .int .i64 0, .int .i64 0, .int .u64 0, .int .i64 0, .int .i64 0, .int .i64 0, .slice none 0 0, .int .u64 0, .int .i64 0, .int .i64 0, .int .u64 0, .int .i64 0, .int .i64 0, .int .i64 0, .slice none 0 0, .int .u64 0, .int .i64 0, .slice none 0 0, .int .u64 0] := a0.seti 6 rfl em
    refine ⟨a0.cani 7 rfl rfl, thenW_in fun bh eu => ?_⟩
    have c1 := ai.x_set (q := w.heap.size) (i := 7) rfl (.inl rfl) eu
    have a0 : Blk bh w.heap.size 58 [.int .i64 0, .int .i64 0, .int .i64 0, .int .u64 0, .int .i64 0, .int .i64 0, .int .i64 0, .slice none 0 0, .int .u64 0, .int .i64 0, .int .i64 0, .int .u64 0, .int .i64 0, .int .i64 0, .int .i64 0, .slice none 0 0, .int .u64 0, .int .i64 0, .slice none 0 0, .int .u64 0] := a0.seti 7 rfl eu
    refine ⟨a0.cani 8 rfl rfl, thenW_in fun b0 er => ?_⟩
    have bz := c1.x_set (q := w.heap.size) (i := 8) rfl (.inl rfl) er
    have a0 : Blk b0 w.heap.size 58 [.int .i64 0, .int .i64 0, .int .i64 0, .int .u64 0, .int .i64 0, .int .i64 0, .int .i64 0, .slice none 0 0, .int .u64 0, .int .i64 0, .int .i64 0, .int .u64 0, .int .i64 0, .int .i64 0, .int .i64 0, .slice none 0 0, .int .u64 0, .int .i64 0, .slice none 0 0, .int .u64 0] := a0.seti 8 rfl er
    refine ⟨a0.cani 9 rfl rfl, thenW_in fun d9 f4 => ?_⟩
    have az := bz.x_set (q := w.heap.size) (i := 9) rfl (.inl rfl) f4
    have a0 : Blk d9 w.heap.size 58 [.int .i64 0, .int .i64 0, .int .i64 0, .int .u64 0, .int .i64 0, .int .i64 0, .int .i64 0, .slice none 0 0, .int .u64 0, .int .i64 0, .int .i64 0, .int .u64 0, .int .i64 0, .int .i64 0, .int .i64 0, .slice none 0 0, .int .u64 0, .int .i64 0, .slice none 0 0, .int .u64 0] := a0.seti 9 rfl f4
    refine ⟨a0.cani 10 rfl rfl, thenW_in fun cu ed => ?_⟩
    have de := az.x_set (q := w.heap.size) (i := 10) rfl (.inl rfl) ed
    have a0 : Blk cu w.heap.size 58 [.int .i64 0, .int .i64 0, .int .i64 0, .int .u64 0, .int .i64 0, .int .i64 0, .int .i64 0, .slice none 0 0, .int .u64 0, .int .i64 0, .int .i64 0, .int .u64 0, .int .i64 0, .int .i64 0, .int .i64 0, .slice none 0 0, .int .u64 0, .int .i64 0, .slice none 0 0, .int .u64 0] := a0.seti 10 rfl ed
    refine ⟨a0.cani 11 rfl rfl, thenW_in fun br f5 => ?_⟩
    have b8 := de.x_set (q := w.heap.size) (i := 11) rfl (.inl rfl) f5
    have a0 : Blk br w.heap.size 58 [.int .i64 0, .int .i64 0, .int .i64 0, .int .u64 0, .int .i64 0, .int .i64 0, .int .i64 0, .slice none 0 0, .int .u64 0, .int .i64 0, .int .i64 0, .int .u64 0, .int .i64 0, .int .i64 0, .int .i64 0, .slice none 0 0, .int .u64 0, .int .i64 0, .slice none 0 0, .int .u64 0] := a0.seti 11 rfl f5
    refine ⟨a0.cani 12 rfl rfl, thenW_in fun cl e6 => ?_⟩
    have ca := b8.x_set (q := w.heap.size) (i := 12) rfl (.inl rfl) e6
    have a0 : Blk cl w.heap.size 58 [.int .i64 0, .int .i64 0, .int .i64 0, .int .u64 0, .int .i64 0, .int .i64 0, .int .i64 0, .slice none 0 0, .int .u64 0, .int .i64 0, .int .i64 0, .int .u64 0, .int .i64 0, .int .i64 0, .int .i64 0, .slice none 0 0, .int .u64 0, .int .i64 0, .slice none 0 0, .int .u64 0] := a0.seti 12 rfl e6
    refine ⟨a0.cani 13 rfl rfl, thenW_in fun b3 ev => ?_⟩
    have bt := ca.x_set (q := w.heap.size) (i := 13) rfl (.inl rfl) ev
    have a0 : Blk b3 w.heap.size 58 [.int .i64 0, .int .i64 0, .int .i64 0, .int .u64 0, .int .i64 0, .int .i64 0, .int .i64 0, .slice none 0 0, .int .u64 0, .int .i64 0, .int .i64 0, .int .u64 0, .int .i64 0, .int .i64 0, .int .i64 0, .slice none 0 0, .int .u64 0, .int .i64 0, .slice none 0 0, .int .u64 0] := a0.seti 13 rfl ev
    refine ⟨a0.cani 14 rfl rfl, thenW_in fun bc f2 => ?_⟩
    have cc := bt.x_set (q := w.heap.size) (i := 14) rfl (.inl rfl) f2
    have a0 : Blk bc w.heap.size 58 [.int .i64 0, .int .i64 0, .int .i64 0, .int .u64 0, .int .i64 0, .int .i64 0, .int .i64 0, .slice none 0 0, .int .u64 0, .int .i64 0, .int .i64 0, .int .u64 0, .int .i64 0, .int .i64 0, .int .i64 0, .slice none 0 0, .int .u64 0, .int .i64 0, .slice none 0 0, .int .u64 0] := a0.seti 14 rfl f2
    refine ⟨a0.cani 15 rfl rfl, thenW_in fun b4 ea => ?_⟩
    have bs := cc.x_set (q := w.heap.size) (i := 15) rfl (.inl rfl) ea
    have a0 : Blk b4 w.heap.size 58 [.int .i64 0, .int .i64 0, .int .i64 0, .int .u64 0, .int .i64 0, .int .i64 0, .int .i64 0, .slice none 0 0, .int .u64 0, .int .i64 0, .int .i64 0, .int .u64 0, .int .i64 0, .int .i64 0, .int .i64 0, .slice none 0 0, .int .u64 0, .int .i64 0, .slice none 0 0, .int .u64 0] := a0.seti 15 rfl ea
    refine ⟨a0.cani 16 rfl rfl, thenW_in fun ar eb => ?_⟩
    have d0 := bs.x_set (q := w.heap.size) (i := 16) rfl (.inl rfl) eb
    have a0 : Blk ar w.heap.size 58 [.int .i64 0, .int .i64 0, .int .i64 0, .int .u64 0, .int .i64 0, .int .i64 0, .int .i64 0, .slice none 0 0, .int .u64 0, .int .i64 0, .int .i64 0, .int .u64 0, .int .i64 0, .int .i64 0, .int .i64 0, .slice none 0 0, .int .u64 0, .int .i64 0, .slice none 0 0, .int .u64 0] := a0.seti 16 rfl eb
    refine ⟨a0.cani 17 rfl rfl, thenW_in fun c9 ex => ?_⟩
    have dh := d0.x_set (q := w.heap.size) (i := 17) rfl (.inl rfl) ex
    have a0 : Blk c9 w.heap.size 58 [.int .i64 0, .int .i64 0, .int .i64 0, .int .u64 0, .int .i64 0, .int .i64 0, .int .i64 0, .slice none 0 0, .int .u64 0, .int .i64 0, .int .i64 0, .int .u64 0, .int .i64 0, .int .i64 0, .int .i64 0, .slice none 0 0, .int .u64 0, .int .i64 0, .slice none 0 0, .int .u64 0] := a0.seti 17 rfl ex
    refine ⟨a0.cani 18 rfl rfl, thenW_in fun bo ez => ?_⟩
    have bi := dh.x_set (q := w.heap.size) (i := 18) rfl (.inl rfl) ez
    have a0 : Blk bo w.heap.size 58 [.int .i64 0, .int .i64 0, .int .i64 0, .int .u64 0, .int .i64 0, .int .i64 0, .int .i64 0, .slice none 0 0, .int .u64 0, .int .i64 0, .int .i64 0, .int .u64 0, .int .i64 0, .int .i64 0, .int .i64 0, .slice none 0 0, .int .u64 0, .int .i64 0, .slice none 0 0, .int .u64 0] := a0.seti 18 rfl ez
    refine ⟨a0.cani 19 rfl rfl, thenW_in fun af f8 => ?_⟩
    have cf := bi.x_set (q := w.heap.size) (i := 19) rfl (.inl rfl) f8
    have a0 : Blk af w.heap.size 58 [.int .i64 0, .int .i64 0, .int .i64 0, .int .u64 0, .int .i64 0, .int .i64 0, .int .i64 0, .slice none 0 0, .int .u64 0, .int .i64 0, .int .i64 0, .int .u64 0, .int .i64 0, .int .i64 0, .int .i64 0, .slice none 0 0, .int .u64 0, .int .i64 0, .slice none 0 0, .int .u64 0] := a0.seti 19 rfl f8
    refine ⟨0, 0, 0, 0, 0, 0, 0, none, 0, 0, 0, 0, 0, 0, 0, 0, 0, none, 0, 0, 0, 0, none, 0, 0, 0, ⟨a0.celli 0 rfl rfl, a0.celli 1 rfl rfl, a0.celli 2 rfl rfl, a0.celli 3 rfl rfl, a0.celli 4 rfl rfl, a0.celli 5 rfl rfl, a0.celli 6 rfl rfl, a0.celli 7 rfl rfl, a0.celli 8 rfl rfl, a0.celli 9 rfl rfl, a0.celli 10 rfl rfl, a0.celli 11 rfl rfl, a0.celli 12 rfl rfl, a0.celli 13 rfl rfl, a0.celli 14 rfl rfl, a0.celli 15 rfl rfl, a0.celli 16 rfl rfl, a0.celli 17 rfl rfl, a0.celli 18 rfl rfl, a0.celli 19 rfl rfl, trivial⟩, ?_⟩
    have h := h af cf
    exact h
  · have h := h.2 (bne_f cg)
    refine h.mono fun fr a3 h => ?_
    obtain ⟨a1, a7, he, hk, h⟩ := h
    refine ⟨a1, a7, he, ?_⟩
    have a0 := hk.blk a0 (by simp)
    refine bif_of (fun bq => ?_) (fun bq => ?_)
    · have h := h.1 (bne_t bq)
      have dw : Ext (fun b => b = w.heap.size) a3 a3 := ((Ext.refl no a3)).none
      refine ⟨a0.cani 0 rfl rfl, thenW_in fun bm e9 => ?_⟩
      have dl := dw.x_set (q := w.heap.size) (i := 0) rfl (.inl rfl) e9
      have a0 : Blk bm w.heap.size 58 [.int .i64 0, .int .i64 0, .int .i64 0, .int .u64 0, .int .i64 0, .int .i64 0, .int .i64 0, .slice none 0 0, .int .u64 0, .int .i64 0, .int .i64 0, .int .u64 0, .int .i64 0, .int .i64 0, .int .i64 0, .slice none 0 0, .int .u64 0, .int .i64 0, .slice none 0 0, .int .u64 0] := a0.seti 0 rfl e9
      refine ⟨a0.cani 1 rfl rfl, thenW_in fun dt fh => ?_⟩
      have bf := dl.x_set (q := w.heap.size) (i := 1) rfl (.inl rfl) fh
      have a0 : Blk dt w.heap.size 58 [.int .i64 0, .int .i64 0, .int .i64 0, .int .u64 0, .int .i64 0, .int .i64 0, .int .i64 0, .slice none 0 0, .int .u64 0, .int .i64 0, .int .i64 0, .int .u64 0, .int .i64 0, .int .i64 0, .int .i64 0, .slice none 0 0, .int .u64 0, .int .i64 0, .slice none 0 0, .int .u64 0] := a0.seti 1 rfl fh
      refine ⟨a0.cani 2 rfl rfl, thenW_in fun an f6 => ?_⟩
      have ck := bf.x_set (q := w.heap.size) (i := 2) rfl (.inl rfl) f6
      have a0 : Blk an w.heap.size 58 [.int .i64 0, .int .i64 0, .int .i64 0, .int .u64 0, .int .i64 0, .int .i64 0, .int .i64 0, .slice none 0 0, .int .u64 0, .int .i64 0, .int .i64 0, .int .u64 0, .int .i64 0, .int .i64 0, .int .i64 0, .slice none 0 0, .int .u64 0, .int .i64 0, .slice none 0 0, .int .u64 0] := a0.seti 2 rfl f6
      refine ⟨a0.cani 3 rfl rfl, thenW_in fun cx e3 => ?_⟩
      have c3 := ck.x_set (q := w.heap.size) (i := 3) rfl (.inl rfl) e3
      have a0 : Blk cx w.heap.size 58 [.int .i64 0, .int .i64 0, .int .i64 0, .int .u64 0, .int .i64 0, .int .i64 0, .int .i64 0, .slice none 0 0, .int .u64 0, .int .i64 0, .int .i64 0, .int .u64 0, .int .i64 0, .int .i64 0, .int .i64 0, .slice none 0 0, .int .u64 0, .int .i64 0, .slice none 0 0, .int .u64 0] := a0.seti 3 rfl e3
      refine ⟨a0.cani 4 rfl rfl, thenW_in fun bd eh => ?_⟩
      have ci := c3.x_set (q := w.heap.size) (i := 4) rfl (.inl rfl) eh
      have a0 : Blk bd w.heap.size 58 [.int .i64 0, .int .i64 0, .int .i64 0, .int .u64 0, .int .i64 0, .int .i64 0, .int .i64 0, .slice none 0 0, .int .u64 0, .int .i64 0, .int .i64 0, .int .u64 0, .int .i64 0, .int .i64 0, .int .i64 0, .slice none 0 0, .int .u64 0, .int .i64 0, .slice none 0 0, .int .u64 0] := a0.seti 4 rfl eh
      refine ⟨a0.cani 5 rfl rfl, thenW_in fun bg ey => ?_⟩
      have bp := ci.x_set (q := w.heap.size) (i := 5) rfl (.inl rfl) ey
      have a0 : Blk bg w.heap.size 58 [.int .i64 0, .int .i64 0, .int .i64 0, .int .u64 0, .int .i64 0, .int .i64 0, .int .i64 0, .slice none 0 0, .int .u64 0, .int .i64 0, .int .i64 0, .int .u64 0, .int .i64 0, .int .i64 0, .int .i64 0, .slice none 0 0, .int .u64 0, .int .i64 0, .slice none 0 0, .int .u64 0] := a0.seti 5 rfl ey
      refine ⟨a0.cani 6 rfl rfl, thenW_in fun dy ee => ?_⟩
      have d1 := bp.x_set (q := w.heap.size) (i := 6) rfl (.inl rfl) ee
      have a0 : Blk dy w.heap.size 58 [.int .i64 0, .int .i64 0, .int .i64 0, .int .u64 0, .int .i64 0, .int .i64 0, .int .i64 0, .slice none 0 0, .int .u64 0, .int .i64 0, .int .i64 0, .int .u64 0, .int .i64 0, .int .i64 0, .int .i64 0, .slice none 0 0, .int .u64 0, .int .i64 0, .slice none 0 0, .int .u64 0] := a0.seti 6 rfl ee
      refine ⟨a0.cani 7 rfl rfl, thenW_in fun c0 ei => ?_⟩
      have dn := d1.x_set (q := w.heap.size) (i := 7) rfl (.inl rfl) ei
      have a0 : Blk c0 w.heap.size 58 [.int .i64 0, .int .i64 0, .int .i64 0, .int .u64 0, .int .i64 0, .int .i64 0, .int .i64 0, .slice none 0 0, .int .u64 0, .int .i64 0, .int .i64 0, .int .u64 0, .int .i64 0, .int .i64 0, .int .i64 0, .slice none 0 0, .int .u64 0, .int .i64 0, .slice none 0 0, .int .u64 0] := a0.seti 7 rfl ei
      refine ⟨a0.cani 8 rfl rfl, thenW_in fun av ef => ?_⟩
      have dd := dn.x_set (q := w.heap.size) (i := 8) rfl (.inl rfl) ef
      have a0 : Blk av w.heap.size 58 [.int .i64 0, .int .i64 0, .int .i64 0, .int .u64 0, .int .i64 0, .int .i64 0, .int .i64 0, .slice none 0 0, .int .u64 0, .int .i64 0, .int .i64 0, .int .u64 0, .int .i64 0, .int .i64 0, .int .i64 0, .slice none 0 0, .int .u64 0, .int .i64 0, .slice none 0 0, .int .u64 0] := a0.seti 8 rfl ef
      refine ⟨a0.cani 9 rfl rfl, thenW_in fun cr e0 => ?_⟩
      have ba := dd.x_set (q := w.heap.size) (i := 9) rfl (.inl rfl) e0
      have a0 : Blk cr w.heap.size 58 [.int .i64 0, .int .i64 0, .int .i64 0, .int .u64 0, .int .i64 0, .int .i64 0, .int .i64 0, .slice none 0 0, .int .u64 0, .int .i64 0, .int .i64 0, .int .u64 0, .int .i64 0, .int .i64 0, .int .i64 0, .slice none 0 0, .int .u64 0, .int .i64 0, .slice none 0 0, .int .u64 0] := a0.seti 9 rfl e0
      refine ⟨a0.cani 10 rfl rfl, thenW_in fun cs fg => ?_⟩
      have cj := ba.x_set (q := w.heap.size) (i := 10) rfl (.inl rfl) fg
      have a0 : Blk cs w.heap.size 58 [.int .i64 0, .int .i64 0, .int .i64 0, .int .u64 0, .int .i64 0, .int .i64 0, .int .i64 0, .slice none 0 0, .int .u64 0, .int .i64 0, .int .i64 0, .int .u64 0, .int .i64 0, .int .i64 0, .int .i64 0, .slice none 0 0, .int .u64 0, .int .i64 0, .slice none 0 0, .int .u64 0] := a0.seti 10 rfl fg
      refine ⟨a0.cani 11 rfl rfl, thenW_in fun bb eq => ?_⟩
      have d2 := cj.x_set (q := w.heap.size) (i := 11) rfl (.inl rfl) eq
      have a0 : Blk bb w.heap.size 58 [.int .i64 0, .int .i64 0, .int .i64 0, .int .u64 0, .int .i64 0, .int .i64 0, .int .i64 0, .slice none 0 0, .int .u64 0, .int .i64 0, .int .i64 0, .int .u64 0, .int .i64 0, .int .i64 0, .int .i64 0, .slice none 0 0, .int .u64 0, .int .i64 0, .slice none 0 0, .int .u64 0] := a0.seti 11 rfl eq
      refine ⟨a0.cani 12 rfl rfl, thenW_in fun dg fj => ?_⟩
      have d3 := d2.x_set (q := w.heap.size) (i := 12) rfl (.inl rfl) fj
      have a0 : Blk dg w.heap.size 58 [.int .i64 0, .int .i64 0, .int .i64 0, .int .u64 0, .int .i64 0, .int .i64 0, .int .i64 0, .slice none 0 0, .int .u64 0, .int .i64 0, .int .i64 0, .int .u64 0, .int .i64 0, .int .i64 0, .int .i64 0, .slice none 0 0, .int .u64 0, .int .i64 0, .slice none 0 0, .int .u64 0] := a0.seti 12 rfl fj
      refine ⟨a0.cani 13 rfl rfl, thenW_in fun b1 f3 => ?_⟩
      have dc := d3.x_set (q := w.heap.size) (i := 13) rfl (.inl rfl) f3
      have a0 : Blk b1 w.heap.size 58 [.int .i64 0, .int .i64 0, .int .i64 0, .int .u64 0, .int .i64 0, .int .i64 0, .int .i64 0, .slice none 0 0, .int .u64 0, .int .i64 0, .int .i64 0, .int .u64 0, .int .i64 0, .int .i64 0, .int .i64 0, .slice none 0 0, .int .u64 0, .int .i64 0, .slice none 0 0, .int .u64 0] := a0.seti 13 rfl f3
      refine ⟨a0.cani 14 rfl rfl, thenW_in fun bj ew => ?_⟩
      have cy := dc.x_set (q := w.heap.size) (i := 14) rfl (.inl rfl) ew
      have a0 : Blk bj w.heap.size 58 [.int .i64 0, .int .i64 0, .int .i64 0, .int .u64 0, .int .i64 0, .int .i64 0, .int .i64 0, .slice none 0 0, .int .u64 0, .int .i64 0, .int .i64 0, .int .u64 0, .int .i64 0, .int .i64 0, .int .i64 0, .slice none 0 0, .int .u64 0, .int .i64 0, .slice none 0 0, .int .u64 0] := a0.seti 14 rfl ew
      refine ⟨a0.cani 15 rfl rfl, thenW_in fun cm e8 => ?_⟩
      have co := cy.x_set (q := w.heap.size) (i := 15) rfl (.inl rfl) e8
      have a0 : Blk cm w.heap.size 58 [.int .i64 0, .int .i64 0, .int .i64 0, .int .u64 0, .int .i64 0, .int .i64 0, .int .i64 0, .slice none 0 0, .int .u64 0, .int .i64 0, .int .i64 0, .int .u64 0, .int .i64 0, .int .i64 0, .int .i64 0, .slice none 0 0, .int .u64 0, .int .i64 0, .slice none 0 0, .int .u64 0] := a0.seti 15 rfl e8
      refine ⟨a0.cani 16 rfl rfl, thenW_in fun c8 en => ?_⟩
      have db := co.x_set (q := w.heap.size) (i := 16) rfl (.inl rfl) en
      have a0 : Blk c8 w.heap.size 58 [.int .i64 0, .int .i64 0, .int .i64 0, .int .u64 0, .int .i64 0, .int .i64 0, .int .i64 0, .slice none 0 0, .int .u64 0, .int .i64 0, .int .i64 0, .int .u64 0, .int .i64 0, .int .i64 0, .int .i64 0, .slice none 0 0, .int .u64 0, .int .i64 0, .slice none 0 0, .int .u64 0] := a0.seti 16 rfl en
      refine ⟨a0.cani 17 rfl rfl, thenW_in fun ax f7 => ?_⟩
      have al := db.x_set (q := w.heap.size) (i := 17) rfl (.inl rfl) f7
      have a0 : Blk ax w.heap.size 58 [.int .i64 0, .int .i64 0, .int .i64 0, .int .u64 0, .int .i64 0, .int .i64 0, .int .i64 0, .slice none 0 0, .int .u64 0, .int .i64 0, .int .i64 0, .int .u64 0, .int .i64 0, .int .i64 0, .int .i64 0, .slice none 0 0, .int .u64 0, .int .i64 0, .slice none 0 0, .int .u64 0] := a0.seti 17 rfl f7
      refine ⟨a0.cani 18 rfl rfl, thenW_in fun da fo => ?_⟩
      have ay := al.x_set (q := w.heap.size) (i := 18) rfl (.inl rfl) fo
      have a0 : Blk da w.heap.size 58 [.int .i64 0, .int .i64 0, .int .i64 0, .int .u64 0, .int .i64 0, .int .i64 0, .int .i64 0, .slice none 0 0, .int .u64 0, .int .i64 0, .int .i64 0, .int .u64 0, .int .i64 0, .int .i64 0, .int .i64 0, .slice none 0 0, .int .u64 0, .int .i64 0, .slice none 0 0, .int .u64 0] := a0.seti 18 rfl fo
      refine ⟨a0.cani 19 rfl rfl, thenW_in fun aa e1 => ?_⟩
      have aw := ay.x_set (q := w.heap.size) (i := 19) rfl (.inl rfl) e1
      have a0 : Blk aa w.heap.size 58 [.int .i64 0, .int .i64 0, .int .i64 0, .int .u64 0, .int .i64 0, .int .i64 0, .int .i64 0, .slice none 0 0, .int .u64 0, .int .i64 0, .int .i64 0, .int .u64 0, .int .i64 0, .int .i64 0, .int .i64 0, .slice none 0 0, .int .u64 0, .int .i64 0, .slice none 0 0, .int .u64 0] := a0.seti 19 rfl e1
      refine ⟨0, 0, 0, 0, 0, 0, 0, none, 0, 0, 0, 0, 0, 0, 0, 0, 0, none, 0, 0, 0, 0, none, 0, 0, 0, ⟨a0.celli 0 rfl rfl, a0.celli 1 rfl rfl, a0.celli 2 rfl rfl, a0.celli 3 rfl rfl, a0.celli 4 rfl rfl, a0.celli 5 rfl rfl, a0.celli 6 rfl rfl, a0.celli 7 rfl rfl, a0.celli 8 rfl rfl, a0.celli 9 rfl rfl, a0.celli 10 rfl rfl, a0.celli 11 rfl rfl, a0.celli 12 rfl rfl, a0.celli 13 rfl rfl, a0.celli 14 rfl rfl, a0.celli 15 rfl rfl, a0.celli 16 rfl rfl, a0.celli 17 rfl rfl, a0.celli 18 rfl rfl, a0.celli 19 rfl rfl, trivial⟩, ?_⟩
      have h := h aa aw
      exact h
    · have h := h.2 (bne_f bq)
      have ak : Ext (fun b => b = w.heap.size) a3 a3 := ((Ext.refl no a3)).none
      refine ⟨a0.cani 0 rfl rfl, thenW_in fun dx f1 => ?_⟩
      have ah := ak.x_set (q := w.heap.size) (i := 0) rfl (.inl rfl) f1
      have a0 : Blk dx w.heap.size 58 [.int .i64 3, .int .i64 0, .int .i64 0, .int .u64 0, .int .i64 0, .int .i64 0, .int .i64 0, .slice none 0 0, .int .u64 0, .int .i64 0, .int .i64 0, .int .u64 0, .int .i64 0, .int .i64 0, .int .i64 0, .slice none 0 0, .int .u64 0, .int .i64 0, .slice none 0 0, .int .u64 0] := a0.seti 0 rfl f1
      refine ⟨a0.cani 1 rfl rfl, thenW_in fun bn fm => ?_⟩
      have dp := ah.x_set (q := w.heap.size) (i := 1) rfl (.inl rfl) fm
      have a0 : Blk bn w.heap.size 58 [.int .i64 3, .int .i64 0, .int .i64 0, .int .u64 0, .int .i64 0, .int .i64 0, .int .i64 0, .slice none 0 0, .int .u64 0, .int .i64 0, .int .i64 0, .int .u64 0, .int .i64 0, .int .i64 0, .int .i64 0, .slice none 0 0, .int .u64 0, .int .i64 0, .slice none 0 0, .int .u64 0] := a0.seti 1 rfl fm
      refine ⟨a0.cani 2 rfl rfl, thenW_in fun cb ff => ?_⟩
      have aj := dp.x_set (q := w.heap.size) (i := 2) rfl (.inl rfl) ff
      have a0 : Blk cb w.heap.size 58 [.int .i64 3, .int .i64 0, .int .i64 0, .int .u64 0, .int .i64 0, .int .i64 0, .int .i64 0, .slice none 0 0, .int .u64 0, .int .i64 0, .int .i64 0, .int .u64 0, .int .i64 0, .int .i64 0, .int .i64 0, .slice none 0 0, .int .u64 0, .int .i64 0, .slice none 0 0, .int .u64 0] := a0.seti 2 rfl ff
      refine ⟨a0.cani 3 rfl rfl, thenW_in fun cv el => ?_⟩
      have au := aj.x_set (q := w.heap.size) (i := 3) rfl (.inl rfl) el
      have a0 : Blk cv w.heap.size 58 [.int .i64 3, .int .i64 0, .int .i64 0, .int .u64 0, .int .i64 0, .int .i64 0, .int .i64 0, .slice none 0 0, .int .u64 0, .int .i64 0, .int .i64 0, .int .u64 0, .int .i64 0, .int .i64 0, .int .i64 0, .slice none 0 0, .int .u64 0, .int .i64 0, .slice none 0 0, .int .u64 0] := a0.seti 3 rfl el
      refine ⟨a0.cani 4 rfl rfl, thenW_in fun b5 ec => ?_⟩
      have c5 := au.x_set (q := w.heap.size) (i := 4) rfl (.inl rfl) ec
      have a0 : Blk b5 w.heap.size 58 [.int .i64 3, .int .i64 0, .int .i64 0, .int .u64 0, .int .i64 0, .int .i64 0, .int .i64 0, .slice none 0 0, .int .u64 0, .int .i64 0, .int .i64 0, .int .u64 0, .int .i64 0, .int .i64 0, .int .i64 0, .slice none 0 0, .int .u64 0, .int .i64 0, .slice none 0 0, .int .u64 0] := a0.seti 4 rfl ec
      refine ⟨a0.cani 5 rfl rfl, thenW_in fun d8 fb => ?_⟩
      have cq := c5.x_set (q := w.heap.size) (i := 5) rfl (.inl rfl) fb
      have a0 : Blk d8 w.heap.size 58 [.int .i64 3, .int .i64 0, .int .i64 0, .int .u64 0, .int .i64 0, .int .i64 0, .int .i64 0, .slice none 0 0, .int .u64 0, .int .i64 0, .int .i64 0, .int .u64 0, .int .i64 0, .int .i64 0, .int .i64 0, .slice none 0 0, .int .u64 0, .int .i64 0, .slice none 0 0, .int .u64 0] := a0.seti 5 rfl fb
      refine ⟨a0.cani 6 rfl rfl, thenW_in fun ct f9 => ?_⟩
      have dq := cq.x_set (q := w.heap.size) (i := 6) rfl (.inl rfl) f9
      have a0 : Blk ct w.heap.size 58 [.int .i64 3, .int .i64 0, .int .i64 0, .int .u64 0, .int .i64 0, .int .i64 0, .int .i64 0, .slice none 0 0, .int .u64 0, .int .i64 0, .int .i64 0, .int .u64 0, .int .i64 0, .int .i64 0, .int .i64 0, .slice none 0 0, .int .u64 0, .int .i64 0, .slice none 0 0, .int .u64 0] := a0.seti 6 rfl f9
      refine ⟨a0.cani 7 rfl rfl, thenW_in fun bv fa => ?_⟩
      have cz := dq.x_set (q := w.heap.size) (i := 7) rfl (.inl rfl) fa
      have a0 : Blk bv w.heap.size 58 [.int .i64 3, .int .i64 0, .int .i64 0, .int .u64 0, .int .i64 0, .int .i64 0, .int .i64 0, .slice none 0 0, .int .u64 0, .int .i64 0, .int .i64 0, .int .u64 0, .int .i64 0, .int .i64 0, .int .i64 0, .slice none 0 0, .int .u64 0, .int .i64 0, .slice none 0 0, .int .u64 0] := a0.seti 7 rfl fa
      refine ⟨a0.cani 8 rfl rfl, thenW_in fun df fl => ?_⟩
      have dv := cz.x_set (q := w.heap.size) (i := 8) rfl (.inl rfl) fl
      have a0 : Blk df w.heap.size 58 [.int .i64 3, .int .i64 0, .int .i64 0, .int .u64 0, .int .i64 0, .int .i64 0, .int .i64 0, .slice none 0 0, .int .u64 0, .int .i64 0, .int .i64 0, .int .u64 0, .int .i64 0, .int .i64 0, .int .i64 0, .slice none 0 0, .int .u64 0, .int .i64 0, .slice none 0 0, .int .u64 0] := a0.seti 8 rfl fl
      refine ⟨a0.cani 9 rfl rfl, thenW_in fun be fk => ?_⟩
      have b2 := dv.x_set (q := w.heap.size) (i := 9) rfl (.inl rfl) fk
      have a0 : Blk be w.heap.size 58 [.int .i64 3, .int .i64 0, .int .i64 0, .int .u64 0, .int .i64 0, .int .i64 0, .int .i64 0, .slice none 0 0, .int .u64 0, .int .i64 0, .int .i64 0, .int .u64 0, .int .i64 0, .int .i64 0, .int .i64 0, .slice none 0 0, .int .u64 0, .int .i64 0, .slice none 0 0, .int .u64 0] := a0.seti 9 rfl fk
      refine ⟨a0.cani 10 rfl rfl, thenW_in fun b6 ep => ?_⟩
      have ao := b2.x_set (q := w.heap.size) (i := 10) rfl (.inl rfl) ep
      have a0 : Blk b6 w.heap.size 58 [.int .i64 3, .int .i64 0, .int .i64 0, .int .u64 0, .int .i64 0, .int .i64 0, .int .i64 0, .slice none 0 0, .int .u64 0, .int .i64 0, .int .i64 0, .int .u64 0, .int .i64 0, .int .i64 0, .int .i64 0, .slice none 0 0, .int .u64 0, .int .i64 0, .slice none 0 0, .int .u64 0] := a0.seti 10 rfl ep
      refine ⟨a0.cani 11 rfl rfl, thenW_in fun cw fd => ?_⟩
      have bk := ao.x_set (q := w.heap.size) (i := 11) rfl (.inl rfl) fd
      have a0 : Blk cw w.heap.size 58 [.int .i64 3, .int .i64 0, .int .i64 0, .int .u64 0, .int .i64 0, .int .i64 0, .int .i64 0, .slice none 0 0, .int .u64 0, .int .i64 0, .int .i64 0, .int .u64 0, .int .i64 0, .int .i64 0, .int .i64 0, .slice none 0 0, .int .u64 0, .int .i64 0, .slice none 0 0, .int .u64 0] := a0.seti 11 rfl fd
      refine ⟨a0.cani 12 rfl rfl, thenW_in fun cn fc => ?_⟩
      have dr := bk.x_set (q := w.heap.size) (i := 12) rfl (.inl rfl) fc
      have a0 : Blk cn w.heap.size 58 [.int .i64 3, .int .i64 0, .int .i64 0, .int .u64 0, .int .i64 0, .int .i64 0, .int .i64 0, .slice none 0 0, .int .u64 0, .int .i64 0, .int .i64 0, .int .u64 0, .int .i64 0, .int .i64 0, .int .i64 0, .slice none 0 0, .int .u64 0, .int .i64 0, .slice none 0 0, .int .u64 0] := a0.seti 12 rfl fc
      refine ⟨a0.cani 13 rfl rfl, thenW_in fun du f0 => ?_⟩
      have d6 := dr.x_set (q := w.heap.size) (i := 13) rfl (.inl rfl) f0
      have a0 : Blk du w.heap.size 58 [.int .i64 3, .int .i64 0, .int .i64 0, .int .u64 0, .int .i64 0, .int .i64 0, .int .i64 0, .slice none 0 0, .int .u64 0, .int .i64 0, .int .i64 0, .int .u64 0, .int .i64 0, .int .i64 0, .int .i64 0, .slice none 0 0, .int .u64 0, .int .i64 0, .slice none 0 0, .int .u64 0] := a0.seti 13 rfl f0
      refine ⟨a0.cani 14 rfl rfl, thenW_in fun bw fi => ?_⟩
      have bx := d6.x_set (q := w.heap.size) (i := 14) rfl (.inl rfl) fi
      have a0 : Blk bw w.heap.size 58 [.int .i64 3, .int .i64 0, .int .i64 0, .int .u64 0, .int .i64 0, .int .i64 0, .int .i64 0, .slice none 0 0, .int .u64 0, .int .i64 0, .int .i64 0, .int .u64 0, .int .i64 0, .int .i64 0, .int .i64 0, .slice none 0 0, .int .u64 0, .int .i64 0, .slice none 0 0, .int .u64 0] := a0.seti 14 rfl fi
      refine ⟨a0.cani 15 rfl rfl, thenW_in fun ap eo => ?_⟩
      have d7 := bx.x_set (q := w.heap.size) (i := 15) rfl (.inl rfl) eo
      have a0 : Blk ap w.heap.size 58 [.int .i64 3, .int .i64 0, .int .i64 0, .int .u64 0, .int .i64 0, .int .i64 0, .int .i64 0, .slice none 0 0, .int .u64 0, .int .i64 0, .int .i64 0, .int .u64 0, .int .i64 0, .int .i64 0, .int .i64 0, .slice none 0 0, .int .u64 0, .int .i64 0, .slice none 0 0, .int .u64 0] := a0.seti 15 rfl eo
      refine ⟨a0.cani 16 rfl rfl, thenW_in fun c7 e4 => ?_⟩
      have ds := d7.x_set (q := w.heap.size) (i := 16) rfl (.inl rfl) e4
      have a0 : Blk c7 w.heap.size 58 [.int .i64 3, .int .i64 0, .int .i64 0, .int .u64 0, .int .i64 0, .int .i64 0, .int .i64 0, .slice none 0 0, .int .u64 0, .int .i64 0, .int .i64 0, .int .u64 0, .int .i64 0, .int .i64 0, .int .i64 0, .slice none 0 0, .int .u64 0, .int .i64 0, .slice none 0 0, .int .u64 0] := a0.seti 16 rfl e4
      refine ⟨a0.cani 17 rfl rfl, thenW_in fun c2 ek => ?_⟩
      have d4 := ds.x_set (q := w.heap.size) (i := 17) rfl (.inl rfl) ek
      have a0 : Blk c2 w.heap.size 58 [.int .i64 3, .int .i64 0, .int .i64 0, .int .u64 0, .int .i64 0, .int .i64 0, .int .i64 0, .slice none 0 0, .int .u64 0, .int .i64 0, .int .i64 0, .int .u64 0, .int .i64 0, .int .i64 0, .int .i64 0, .slice none 0 0, .int .u64 0, .int .i64 a4, .slice none 0 0, .int .u64 0] := a0.seti 17 rfl ek
      refine ⟨a0.cani 18 rfl rfl, thenW_in fun ch et => ?_⟩
      have b9 := d4.x_set (q := w.heap.size) (i := 18) rfl (.inl rfl) et
      have a0 : Blk ch w.heap.size 58 [.int .i64 3, .int .i64 0, .int .i64 0, .int .u64 0, .int .i64 0, .int .i64 0, .int .i64 0, .slice none 0 0, .int .u64 0, .int .i64 0, .int .i64 0, .int .u64 0, .int .i64 0, .int .i64 0, .int .i64 0, .slice none 0 0, .int .u64 0, .int .i64 a4, .slice ag ad ab, .int .u64 0] := a0.seti 18 rfl et
      refine ⟨a0.cani 19 rfl rfl, thenW_in fun ac e7 => ?_⟩
      have cd := b9.x_set (q := w.heap.size) (i := 19) rfl (.inl rfl) e7
      have a0 : Blk ac w.heap.size 58 [.int .i64 3, .int .i64 0, .int .i64 0, .int .u64 0, .int .i64 0, .int .i64 0, .int .i64 0, .slice none 0 0, .int .u64 0, .int .i64 0, .int .i64 0, .int .u64 0, .int .i64 0, .int .i64 0, .int .i64 0, .slice none 0 0, .int .u64 0, .int .i64 a4, .slice ag ad ab, .int .u64 a1] := a0.seti 19 rfl e7
      refine ⟨3, 0, 0, 0, 0, 0, 0, none, 0, 0, 0, 0, 0, 0, 0, 0, 0, none, 0, 0, 0, a4, ag, ad, ab, a1, ⟨a0.celli 0 rfl rfl, a0.celli 1 rfl rfl, a0.celli 2 rfl rfl, a0.celli 3 rfl rfl, a0.celli 4 rfl rfl, a0.celli 5 rfl rfl, a0.celli 6 rfl rfl, a0.celli 7 rfl rfl, a0.celli 8 rfl rfl, a0.celli 9 rfl rfl, a0.celli 10 rfl rfl, a0.celli 11 rfl rfl, a0.celli 12 rfl rfl, a0.celli 13 rfl rfl, a0.celli 14 rfl rfl, a0.celli 15 rfl rfl, a0.celli 16 rfl rfl, a0.celli 17 rfl rfl, a0.celli 18 rfl rfl, a0.celli 19 rfl rfl, trivial⟩, ?_⟩
      have h := h ac cd
      exact h

theorem cachetteref23_Claim.go (o1 : Option Addr) (a1 : Int) (a0 : Int) (a4 : Option Addr) (a3 : Nat) (a2 : Nat) {R : Value → World → Prop} {w : World} (h : cachetteref23_Claim.N o1 a1 a0 a4 a3 a2 R w) : Calls Try.prog 22 #[.pointer o1, .int .i64 a1, .int .u64 a0, .slice a4 a3 a2] w fun e w' => ∃ v, e = .returned v ∧ R v w' := cachetteref23_Claim.ok o1 a1 a0 a4 a3 a2 (cachetteref23_Claim.up o1 a1 a0 a4 a3 a2 h)
/-- cachetteref23.Holds -/
def cachetteref23_Holds.M (o1 : Option Addr) (b4 : Int) (bq : Int) (az : Int) (b5 : Int) (ba : Int) (bn : Int) (bm : Int) (b7 : Int) (av : Option Addr) (b1 : Nat) (b0 : Nat) (bb : Int) (af : Int) (aw : Int) (b3 : Int) (bd : Int) (bc : Int) (au : Int) (ay : Option Addr) (ar : Nat) (ax : Nat) (be : Int) (br : Int) (bx : Option Addr) (bu : Nat) (bw : Nat) (bo : Int) (R : Value → World → Prop) (w : World) : Prop :=
 thenW (w.alloc (.cells #[.int .i64 bq, .int .i64 az, .int .i64 b5, .int .u64 ba, .int .i64 bn, .int .i64 bm, .int .i64 b7, .slice av b1 b0, .int .u64 bb, .int .i64 af, .int .i64 aw, .int .u64 b3, .int .i64 bd, .int .i64 bc, .int .i64 au, .slice ay ar ax, .int .u64 be, .int .i64 br, .slice bx bu bw, .int .u64 bo] 58)) fun bl =>
 ∃ (bi : Int), bl.cell? ((blk w.heap.size).add 17) = some (.int .i64 bi) ∧
 ∃ (bv : Option Addr) (bs : Nat) (bt : Nat), bl.cell? ((blk w.heap.size).add 18) = some (.slice bv bs bt) ∧
 Calls Try.prog 20 #[.int .i64 bi, .slice bv bs bt] bl fun bz b9 => ∃ (aq : Option Addr) (ao : Nat) (am : Nat) (bp : Int), bz = .returned (.tuple #[.slice aq ao am, .int .i64 bp]) ∧
 ∃ (b2 : Int), b9.cell? ((blk w.heap.size).add 0) = some (.int .i64 b2) ∧
 bif b2 == 3 then (
 ∃ (ah : Int) (a0 : Int) (a6 : Int) (ae : Int) (ak : Int) (an : Int) (a4 : Int) (a9 : Option Addr) (a8 : Nat) (ab : Nat) (ag : Int) (a1 : Int) (a5 : Int) (ad : Int) (ai : Int) (al : Int) (a3 : Int) (a2 : Option Addr) (a7 : Nat) (aa : Nat) (ap : Int) (b6 : Int) (bg : Option Addr) (bh : Nat) (bj : Nat) (b8 : Int), cellsAt b9 (blk w.heap.size) [.int .i64 ah, .int .i64 a0, .int .i64 a6, .int .u64 ae, .int .i64 ak, .int .i64 an, .int .i64 a4, .slice a9 a8 ab, .int .u64 ag, .int .i64 a1, .int .i64 a5, .int .u64 ad, .int .i64 ai, .int .i64 al, .int .i64 a3, .slice a2 a7 aa, .int .u64 ap, .int .i64 b6, .slice bg bh bj, .int .u64 b8] 0 ∧
 Calls Try.prog 58 #[.agg #[.int .i64 ah, .int .i64 a0, .int .i64 a6, .int .u64 ae, .int .i64 ak, .int .i64 an, .int .i64 a4, .slice a9 a8 ab, .int .u64 ag, .int .i64 a1, .int .i64 a5, .int .u64 ad, .int .i64 ai, .int .i64 al, .int .i64 a3, .slice a2 a7 aa, .int .u64 ap, .int .i64 b6, .slice bg bh bj, .int .u64 b8]] b9 fun c1 bk => ∃ (aj : Bool), c1 = .returned (.bool aj) ∧
 bif aj then (
 ∃ (bf : Int), bk.cell? ((blk w.heap.size).add 19) = some (.int .u64 bf) ∧
 Calls Try.prog 59 #[.pointer o1, .int .u64 b4, .slice aq ao am, .int .u64 bf] bk fun c0 c2 => ∃ (ac : Bool), c0 = .returned (.bool ac) ∧
 R (.bool ac) c2) else (
 R (.bool false) bk)) else (
 R (.bool false) b9)

theorem cachetteref23_Holds.eq (o1 : Option Addr) (publicv2 : Int) (fKind3 : Int) (fEWriter4 : Int) (fEIndex5 : Int) (fEPrev6 : Int) (fEAtT7 : Int) (fEAtW8 : Int) (fEEpoch9 : Int) (fEBody10a : Option Addr) (fEBody10n : Nat) (fEBody10c : Nat) (fESig11 : Int) (fFWriter12 : Int) (fFIndex13 : Int) (fFPrev14 : Int) (fFAtT15 : Int) (fFAtW16 : Int) (fFEpoch17 : Int) (fFBody18a : Option Addr) (fFBody18n : Nat) (fFBody18c : Nat) (fFSig19 : Int) (fWho20 : Int) (fV21a : Option Addr) (fV21n : Nat) (fV21c : Nat) (fSig22 : Int) (R : Value → World → Prop) (w : World) : mfunc Try.prog [] 26 [.pointer o1, .int .u64 publicv2, .agg #[.int .i64 fKind3, .int .i64 fEWriter4, .int .i64 fEIndex5, .int .u64 fEPrev6, .int .i64 fEAtT7, .int .i64 fEAtW8, .int .i64 fEEpoch9, .slice fEBody10a fEBody10n fEBody10c, .int .u64 fESig11, .int .i64 fFWriter12, .int .i64 fFIndex13, .int .u64 fFPrev14, .int .i64 fFAtT15, .int .i64 fFAtW16, .int .i64 fFEpoch17, .slice fFBody18a fFBody18n fFBody18c, .int .u64 fFSig19, .int .i64 fWho20, .slice fV21a fV21n fV21c, .int .u64 fSig22]] R w = cachetteref23_Holds.M o1 publicv2 fKind3 fEWriter4 fEIndex5 fEPrev6 fEAtT7 fEAtW8 fEEpoch9 fEBody10a fEBody10n fEBody10c fESig11 fFWriter12 fFIndex13 fFPrev14 fFAtT15 fFAtW16 fFEpoch17 fFBody18a fFBody18n fFBody18c fFSig19 fWho20 fV21a fV21n fV21c fSig22 R w := by kernel_rfl
theorem cachetteref23_Holds.ok (o1 : Option Addr) (ab : Int) (am : Int) (a7 : Int) (ac : Int) (ae : Int) (ak : Int) (aj : Int) (ad : Int) (a3 : Option Addr) (a9 : Nat) (a8 : Nat) (af : Int) (a0 : Int) (a4 : Int) (aa : Int) (ah : Int) (ag : Int) (a2 : Int) (a6 : Option Addr) (a1 : Nat) (a5 : Nat) (ai : Int) (an : Int) (aq : Option Addr) (ao : Nat) (ap : Nat) (al : Int) {R : Value → World → Prop} {w : World} (h : cachetteref23_Holds.M o1 ab am a7 ac ae ak aj ad a3 a9 a8 af a0 a4 aa ah ag a2 a6 a1 a5 ai an aq ao ap al R w) : Calls Try.prog 26 #[.pointer o1, .int .u64 ab, .agg #[.int .i64 am, .int .i64 a7, .int .i64 ac, .int .u64 ae, .int .i64 ak, .int .i64 aj, .int .i64 ad, .slice a3 a9 a8, .int .u64 af, .int .i64 a0, .int .i64 a4, .int .u64 aa, .int .i64 ah, .int .i64 ag, .int .i64 a2, .slice a6 a1 a5, .int .u64 ai, .int .i64 an, .slice aq ao ap, .int .u64 al]] w fun e w' => ∃ v, e = .returned v ∧ R v w' :=
  mfunc_ok follows (H := []) (args := [.pointer o1, .int .u64 ab, .agg #[.int .i64 am, .int .i64 a7, .int .i64 ac, .int .u64 ae, .int .i64 ak, .int .i64 aj, .int .i64 ad, .slice a3 a9 a8, .int .u64 af, .int .i64 a0, .int .i64 a4, .int .u64 aa, .int .i64 ah, .int .i64 ag, .int .i64 a2, .slice a6 a1 a5, .int .u64 ai, .int .i64 an, .slice aq ao ap, .int .u64 al]]) (by rw [cachetteref23_Holds.eq]; exact h)

def cachetteref23_Holds.N (o1 : Option Addr) (ah : Int) (a3 : Int) (ad : Int) (aj : Int) (am : Int) (b0 : Int) (az : Int) (ak : Int) (a9 : Option Addr) (af : Nat) (ae : Nat) (ap : Int) (a2 : Int) (aa : Int) (ag : Int) (ar : Int) (aq : Int) (a8 : Int) (ac : Option Addr) (a7 : Nat) (ab : Nat) (au : Int) (al : Int) (ax : Option Addr) (av : Nat) (aw : Nat) (ai : Int) (R : Value → World → Prop) (w : World) : Prop :=
 ∀ (an : World) (b6 : Nat), Ext no w an → Priv w an [b6] →
 Calls Try.prog 20 #[.int .i64 al, .slice ax av aw] an fun b2 ao => ∃ (a5 : Option Addr) (a4 : Nat) (a6 : Nat) (b1 : Int), b2 = .returned (.tuple #[.slice a5 a4 a6, .int .i64 b1]) ∧
 Keep [b6] an ao ∧
 (a3 = 3 →
 Calls Try.prog 58 #[.agg #[.int .i64 a3, .int .i64 ad, .int .i64 aj, .int .u64 am, .int .i64 b0, .int .i64 az, .int .i64 ak, .slice a9 af ae, .int .u64 ap, .int .i64 a2, .int .i64 aa, .int .u64 ag, .int .i64 ar, .int .i64 aq, .int .i64 a8, .slice ac a7 ab, .int .u64 au, .int .i64 al, .slice ax av aw, .int .u64 ai]] ao fun b5 ay => ∃ (a0 : Bool), b5 = .returned (.bool a0) ∧
 Keep [b6] ao ay ∧
 (a0 = true →
 Calls Try.prog 59 #[.pointer o1, .int .u64 ah, .slice a5 a4 a6, .int .u64 ai] ay fun b3 b4 => ∃ (a1 : Bool), b3 = .returned (.bool a1) ∧
 R (.bool a1) b4) ∧
 (a0 = false →
 R (.bool false) ay)) ∧
 (a3 ≠ 3 →
 R (.bool false) ao)

theorem cachetteref23_Holds.up (o1 : Option Addr) (am : Int) (aj : Int) (a8 : Int) (ac : Int) (ae : Int) (ao : Int) (an : Int) (ad : Int) (a4 : Option Addr) (aa : Nat) (a9 : Nat) (af : Int) (a0 : Int) (a5 : Int) (ab : Int) (ah : Int) (ag : Int) (a3 : Int) (a7 : Option Addr) (a2 : Nat) (a6 : Nat) (al : Int) (ak : Int) (ar : Option Addr) (ap : Nat) (aq : Nat) (ai : Int) {R : Value → World → Prop} {w : World} (h : cachetteref23_Holds.N o1 am aj a8 ac ae ao an ad a4 aa a9 af a0 a5 ab ah ag a3 a7 a2 a6 al ak ar ap aq ai R w) : cachetteref23_Holds.M o1 am aj a8 ac ae ao an ad a4 aa a9 af a0 a5 ab ah ag a3 a7 a2 a6 al ak ar ap aq ai R w := by
  unfold cachetteref23_Holds.M
  unfold cachetteref23_Holds.N at h
  refine thenW_in fun b1 b4 => ?_
  have a1 := Blk.of_new b4
  have b5 := ((Ext.refl no w)).size
  have b3 := (Ext.refl no w).x_alloc b4
  refine ⟨ak, a1.celli 17 rfl rfl, ?_⟩
  refine ⟨ar, ap, aq, a1.celli 18 rfl rfl, ?_⟩
  have h := h b1 (w.heap.size) b3 (Priv.cons b5 a1.lt Priv.nil)
  refine h.mono fun b7 b8 h => ?_
  obtain ⟨aw, av, ax, az, he, hk, h⟩ := h
  refine ⟨aw, av, ax, az, he, ?_⟩
  have a1 := hk.blk a1 (by simp)
  refine ⟨aj, a1.celli 0 rfl rfl, ?_⟩
  refine bif_of (fun b2 => ?_) (fun b2 => ?_)
  · have h := h.1 (beq_t b2)
    refine ⟨aj, a8, ac, ae, ao, an, ad, a4, aa, a9, af, a0, a5, ab, ah, ag, a3, a7, a2, a6, al, ak, ar, ap, aq, ai, ⟨a1.celli 0 rfl rfl, a1.celli 1 rfl rfl, a1.celli 2 rfl rfl, a1.celli 3 rfl rfl, a1.celli 4 rfl rfl, a1.celli 5 rfl rfl, a1.celli 6 rfl rfl, a1.celli 7 rfl rfl, a1.celli 8 rfl rfl, a1.celli 9 rfl rfl, a1.celli 10 rfl rfl, a1.celli 11 rfl rfl, a1.celli 12 rfl rfl, a1.celli 13 rfl rfl, a1.celli 14 rfl rfl, a1.celli 15 rfl rfl, a1.celli 16 rfl rfl, a1.celli 17 rfl rfl, a1.celli 18 rfl rfl, a1.celli 19 rfl rfl, trivial⟩, ?_⟩
    refine h.mono fun bb b6 h => ?_
    obtain ⟨ay, he, hk, h⟩ := h
    refine ⟨ay, he, ?_⟩
    have a1 := hk.blk a1 (by simp)
    refine bif_of (fun b0 => ?_) (fun b0 => ?_)
    · have h := h.1 b0
      refine ⟨ai, a1.celli 19 rfl rfl, ?_⟩
      refine h.mono fun b9 ba h => ?_
      obtain ⟨au, he, h⟩ := h
      refine ⟨au, he, ?_⟩
      exact h
    · have h := h.2 b0
      exact h
  · have h := h.2 (beq_f b2)
    exact h

theorem cachetteref23_Holds.go (o1 : Option Addr) (ab : Int) (am : Int) (a7 : Int) (ac : Int) (ae : Int) (ak : Int) (aj : Int) (ad : Int) (a3 : Option Addr) (a9 : Nat) (a8 : Nat) (af : Int) (a0 : Int) (a4 : Int) (aa : Int) (ah : Int) (ag : Int) (a2 : Int) (a6 : Option Addr) (a1 : Nat) (a5 : Nat) (ai : Int) (an : Int) (aq : Option Addr) (ao : Nat) (ap : Nat) (al : Int) {R : Value → World → Prop} {w : World} (h : cachetteref23_Holds.N o1 ab am a7 ac ae ak aj ad a3 a9 a8 af a0 a4 aa ah ag a2 a6 a1 a5 ai an aq ao ap al R w) : Calls Try.prog 26 #[.pointer o1, .int .u64 ab, .agg #[.int .i64 am, .int .i64 a7, .int .i64 ac, .int .u64 ae, .int .i64 ak, .int .i64 aj, .int .i64 ad, .slice a3 a9 a8, .int .u64 af, .int .i64 a0, .int .i64 a4, .int .u64 aa, .int .i64 ah, .int .i64 ag, .int .i64 a2, .slice a6 a1 a5, .int .u64 ai, .int .i64 an, .slice aq ao ap, .int .u64 al]] w fun e w' => ∃ v, e = .returned v ∧ R v w' := cachetteref23_Holds.ok o1 ab am a7 ac ae ak aj ad a3 a9 a8 af a0 a4 aa ah ag a2 a6 a1 a5 ai an aq ao ap al (cachetteref23_Holds.up o1 ab am a7 ac ae ak aj ad a3 a9 a8 af a0 a4 aa ah ag a2 a6 a1 a5 ai an aq ao ap al h)
theorem cachetteref23_Holds.run (o1 : Option Addr) (ab : Int) (am : Int) (a7 : Int) (ac : Int) (ae : Int) (ak : Int) (aj : Int) (ad : Int) (a3 : Option Addr) (a9 : Nat) (a8 : Nat) (af : Int) (a0 : Int) (a4 : Int) (aa : Int) (ah : Int) (ag : Int) (a2 : Int) (a6 : Option Addr) (a1 : Nat) (a5 : Nat) (ai : Int) (an : Int) (aq : Option Addr) (ao : Nat) (ap : Nat) (al : Int) {V : Value} {Q : World → Prop} {w : World} (h : cachetteref23_Holds.N o1 ab am a7 ac ae ak aj ad a3 a9 a8 af a0 a4 aa ah ag a2 a6 a1 a5 ai an aq ao ap al (fun v w' => v = V ∧ Q w') w) : Calls Try.prog 26 #[.pointer o1, .int .u64 ab, .agg #[.int .i64 am, .int .i64 a7, .int .i64 ac, .int .u64 ae, .int .i64 ak, .int .i64 aj, .int .i64 ad, .slice a3 a9 a8, .int .u64 af, .int .i64 a0, .int .i64 a4, .int .u64 aa, .int .i64 ah, .int .i64 ag, .int .i64 a2, .slice a6 a1 a5, .int .u64 ai, .int .i64 an, .slice aq ao ap, .int .u64 al]] w (Ret V Q) := (cachetteref23_Holds.go o1 ab am a7 ac ae ak aj ad a3 a9 a8 af a0 a4 aa ah ag a2 a6 a1 a5 ai an aq ao ap al h).mono fun e w' ⟨v, he, hv, hq⟩ => ⟨by rw [he, hv], hq⟩

/-- cachettelaw21.Light -/
def cachettelaw21_Light.M (au : Int) (a7 : Int) (ac : Int) (am : Int) (ar : Int) (ap : Int) (ae : Int) (ab : Option Addr) (ad : Nat) (aa : Nat) (aq : Int) (a0 : Int) (a5 : Int) (af : Int) (ah : Int) (an : Int) (a8 : Int) (a3 : Option Addr) (a4 : Nat) (a9 : Nat) (aj : Int) (ao : Int) (aw : Option Addr) (az : Nat) (ax : Nat) (av : Int) (R : Value → World → Prop) (w : World) : Prop :=
 thenW (w.alloc (.cells #[.int .i64 au, .int .i64 a7, .int .i64 ac, .int .u64 am, .int .i64 ar, .int .i64 ap, .int .i64 ae, .slice ab ad aa, .int .u64 aq, .int .i64 a0, .int .i64 a5, .int .u64 af, .int .i64 ah, .int .i64 an, .int .i64 a8, .slice a3 a4 a9, .int .u64 aj, .int .i64 ao, .slice aw az ax, .int .u64 av] 58)) fun a6 =>
 ∃ (ak : Option Addr) (a1 : Nat) (ai : Nat), a6.cell? (((blk w.heap.size).add 1).add 6) = some (.slice ak a1 ai) ∧
 bif decide ((a1 : Int) ≤ 1500) then (
 ∃ (ag : Option Addr) (a2 : Nat) (al : Nat), a6.cell? (((blk w.heap.size).add 9).add 6) = some (.slice ag a2 al) ∧
 bif decide ((a2 : Int) ≤ 1500) then (
 ∃ (b1 : Option Addr) (ay : Nat) (b0 : Nat), a6.cell? ((blk w.heap.size).add 18) = some (.slice b1 ay b0) ∧
 R (.bool (decide ((ay : Int) ≤ 30))) a6) else (
 R (.bool false) a6)) else (
 R (.bool false) a6)

theorem cachettelaw21_Light.eq (fKind1 : Int) (fEWriter2 : Int) (fEIndex3 : Int) (fEPrev4 : Int) (fEAtT5 : Int) (fEAtW6 : Int) (fEEpoch7 : Int) (fEBody8a : Option Addr) (fEBody8n : Nat) (fEBody8c : Nat) (fESig9 : Int) (fFWriter10 : Int) (fFIndex11 : Int) (fFPrev12 : Int) (fFAtT13 : Int) (fFAtW14 : Int) (fFEpoch15 : Int) (fFBody16a : Option Addr) (fFBody16n : Nat) (fFBody16c : Nat) (fFSig17 : Int) (fWho18 : Int) (fV19a : Option Addr) (fV19n : Nat) (fV19c : Nat) (fSig20 : Int) (R : Value → World → Prop) (w : World) : mfunc Try.prog [] 17 [.agg #[.int .i64 fKind1, .int .i64 fEWriter2, .int .i64 fEIndex3, .int .u64 fEPrev4, .int .i64 fEAtT5, .int .i64 fEAtW6, .int .i64 fEEpoch7, .slice fEBody8a fEBody8n fEBody8c, .int .u64 fESig9, .int .i64 fFWriter10, .int .i64 fFIndex11, .int .u64 fFPrev12, .int .i64 fFAtT13, .int .i64 fFAtW14, .int .i64 fFEpoch15, .slice fFBody16a fFBody16n fFBody16c, .int .u64 fFSig17, .int .i64 fWho18, .slice fV19a fV19n fV19c, .int .u64 fSig20]] R w = cachettelaw21_Light.M fKind1 fEWriter2 fEIndex3 fEPrev4 fEAtT5 fEAtW6 fEEpoch7 fEBody8a fEBody8n fEBody8c fESig9 fFWriter10 fFIndex11 fFPrev12 fFAtT13 fFAtW14 fFEpoch15 fFBody16a fFBody16n fFBody16c fFSig17 fWho18 fV19a fV19n fV19c fSig20 R w := by kernel_rfl
theorem cachettelaw21_Light.ok (al : Int) (a4 : Int) (a9 : Int) (af : Int) (ak : Int) (ai : Int) (ab : Int) (a8 : Option Addr) (aa : Nat) (a7 : Nat) (aj : Int) (a0 : Int) (a3 : Int) (ac : Int) (ad : Int) (ag : Int) (a5 : Int) (a1 : Option Addr) (a2 : Nat) (a6 : Nat) (ae : Int) (ah : Int) (an : Option Addr) (ap : Nat) (ao : Nat) (am : Int) {R : Value → World → Prop} {w : World} (h : cachettelaw21_Light.M al a4 a9 af ak ai ab a8 aa a7 aj a0 a3 ac ad ag a5 a1 a2 a6 ae ah an ap ao am R w) : Calls Try.prog 17 #[.agg #[.int .i64 al, .int .i64 a4, .int .i64 a9, .int .u64 af, .int .i64 ak, .int .i64 ai, .int .i64 ab, .slice a8 aa a7, .int .u64 aj, .int .i64 a0, .int .i64 a3, .int .u64 ac, .int .i64 ad, .int .i64 ag, .int .i64 a5, .slice a1 a2 a6, .int .u64 ae, .int .i64 ah, .slice an ap ao, .int .u64 am]] w fun e w' => ∃ v, e = .returned v ∧ R v w' :=
  mfunc_ok follows (H := []) (args := [.agg #[.int .i64 al, .int .i64 a4, .int .i64 a9, .int .u64 af, .int .i64 ak, .int .i64 ai, .int .i64 ab, .slice a8 aa a7, .int .u64 aj, .int .i64 a0, .int .i64 a3, .int .u64 ac, .int .i64 ad, .int .i64 ag, .int .i64 a5, .slice a1 a2 a6, .int .u64 ae, .int .i64 ah, .slice an ap ao, .int .u64 am]]) (by rw [cachettelaw21_Light.eq]; exact h)

def cachettelaw21_Light.N (an : Int) (a6 : Int) (ab : Int) (ah : Int) (am : Int) (ak : Int) (ad : Int) (aa : Option Addr) (a2 : Nat) (a9 : Nat) (al : Int) (a3 : Int) (a5 : Int) (ae : Int) (af : Int) (ai : Int) (a7 : Int) (a4 : Option Addr) (a0 : Nat) (a8 : Nat) (ag : Int) (aj : Int) (ap : Option Addr) (ac : Nat) (aq : Nat) (ao : Int) (R : Value → World → Prop) (w : World) : Prop :=
 ((a2 : Int) ≤ 1500 →
 ((a0 : Int) ≤ 1500 →
 ∀ (a1 : World), Ext no w a1 →
 R (.bool (decide ((ac : Int) ≤ 30))) a1) ∧
 ((1500 : Int) < (a0 : Int) →
 ∀ (a1 : World), Ext no w a1 →
 R (.bool false) a1)) ∧
 ((1500 : Int) < (a2 : Int) →
 ∀ (a1 : World), Ext no w a1 →
 R (.bool false) a1)

theorem cachettelaw21_Light.up (ao : Int) (a8 : Int) (aa : Int) (af : Int) (am : Int) (ak : Int) (ab : Int) (a4 : Option Addr) (a5 : Nat) (a3 : Nat) (al : Int) (a6 : Int) (a7 : Int) (ac : Int) (ad : Int) (ag : Int) (a9 : Int) (a0 : Option Addr) (a1 : Nat) (a2 : Nat) (ae : Int) (ah : Int) (ai : Option Addr) (an : Nat) (aj : Nat) (ap : Int) {R : Value → World → Prop} {w : World} (h : cachettelaw21_Light.N ao a8 aa af am ak ab a4 a5 a3 al a6 a7 ac ad ag a9 a0 a1 a2 ae ah ai an aj ap R w) : cachettelaw21_Light.M ao a8 aa af am ak ab a4 a5 a3 al a6 a7 ac ad ag a9 a0 a1 a2 ae ah ai an aj ap R w := by
  unfold cachettelaw21_Light.M
  unfold cachettelaw21_Light.N at h
  refine thenW_in fun aq ax => ?_
  have av := Blk.of_new ax
  have ay := ((Ext.refl no w)).size
  have ar := (Ext.refl no w).x_alloc ax
  refine ⟨a4, a5, a3, av.celli 7 rfl rfl, ?_⟩
  refine bif_of (fun au => ?_) (fun au => ?_)
  · have h := h.1 (of_decide_eq_true au)
    refine ⟨a0, a1, a2, av.celli 15 rfl rfl, ?_⟩
    refine bif_of (fun aw => ?_) (fun aw => ?_)
    · have h := h.1 (of_decide_eq_true aw)
      refine ⟨ai, an, aj, av.celli 18 rfl rfl, ?_⟩
      have h := h aq ar
      exact h
    · have h := h.2 (Int.not_le.1 (of_decide_eq_false aw))
      have h := h aq ar
      exact h
  · have h := h.2 (Int.not_le.1 (of_decide_eq_false au))
    have h := h aq ar
    exact h

theorem cachettelaw21_Light.go (al : Int) (a4 : Int) (a9 : Int) (af : Int) (ak : Int) (ai : Int) (ab : Int) (a8 : Option Addr) (aa : Nat) (a7 : Nat) (aj : Int) (a0 : Int) (a3 : Int) (ac : Int) (ad : Int) (ag : Int) (a5 : Int) (a1 : Option Addr) (a2 : Nat) (a6 : Nat) (ae : Int) (ah : Int) (an : Option Addr) (ap : Nat) (ao : Nat) (am : Int) {R : Value → World → Prop} {w : World} (h : cachettelaw21_Light.N al a4 a9 af ak ai ab a8 aa a7 aj a0 a3 ac ad ag a5 a1 a2 a6 ae ah an ap ao am R w) : Calls Try.prog 17 #[.agg #[.int .i64 al, .int .i64 a4, .int .i64 a9, .int .u64 af, .int .i64 ak, .int .i64 ai, .int .i64 ab, .slice a8 aa a7, .int .u64 aj, .int .i64 a0, .int .i64 a3, .int .u64 ac, .int .i64 ad, .int .i64 ag, .int .i64 a5, .slice a1 a2 a6, .int .u64 ae, .int .i64 ah, .slice an ap ao, .int .u64 am]] w fun e w' => ∃ v, e = .returned v ∧ R v w' := cachettelaw21_Light.ok al a4 a9 af ak ai ab a8 aa a7 aj a0 a3 ac ad ag a5 a1 a2 a6 ae ah an ap ao am (cachettelaw21_Light.up al a4 a9 af ak ai ab a8 aa a7 aj a0 a3 ac ad ag a5 a1 a2 a6 ae ah an ap ao am h)
theorem cachettelaw21_Light.run (al : Int) (a4 : Int) (a9 : Int) (af : Int) (ak : Int) (ai : Int) (ab : Int) (a8 : Option Addr) (aa : Nat) (a7 : Nat) (aj : Int) (a0 : Int) (a3 : Int) (ac : Int) (ad : Int) (ag : Int) (a5 : Int) (a1 : Option Addr) (a2 : Nat) (a6 : Nat) (ae : Int) (ah : Int) (an : Option Addr) (ap : Nat) (ao : Nat) (am : Int) {V : Value} {Q : World → Prop} {w : World} (h : cachettelaw21_Light.N al a4 a9 af ak ai ab a8 aa a7 aj a0 a3 ac ad ag a5 a1 a2 a6 ae ah an ap ao am (fun v w' => v = V ∧ Q w') w) : Calls Try.prog 17 #[.agg #[.int .i64 al, .int .i64 a4, .int .i64 a9, .int .u64 af, .int .i64 ak, .int .i64 ai, .int .i64 ab, .slice a8 aa a7, .int .u64 aj, .int .i64 a0, .int .i64 a3, .int .u64 ac, .int .i64 ad, .int .i64 ag, .int .i64 a5, .slice a1 a2 a6, .int .u64 ae, .int .i64 ah, .slice an ap ao, .int .u64 am]] w (Ret V Q) := (cachettelaw21_Light.go al a4 a9 af ak ai ab a8 aa a7 aj a0 a3 ac ad ag a5 a1 a2 a6 ae ah an ap ao am h).mono fun e w' ⟨v, he, hv, hq⟩ => ⟨by rw [he, hv], hq⟩

/-- cachettelaw21.Own -/
def cachettelaw21_Own.M (c1 : Int) (bb : Int) (br : Int) (bv : Int) (c0 : Int) (c2 : Int) (bl : Int) (bf : Option Addr) (bj : Nat) (bq : Nat) (c3 : Int) (b3 : Int) (ba : Int) (bm : Int) (bs : Int) (bu : Int) (bd : Int) (b9 : Option Addr) (bc : Nat) (be : Nat) (bt : Int) (bz : Int) (cp : Option Addr) (cg : Nat) (ck : Nat) (c4 : Int) (R : Value → World → Prop) (w : World) : Prop :=
 thenW (w.alloc (.cells #[.int .i64 c1, .int .i64 bb, .int .i64 br, .int .u64 bv, .int .i64 c0, .int .i64 c2, .int .i64 bl, .slice bf bj bq, .int .u64 c3, .int .i64 b3, .int .i64 ba, .int .u64 bm, .int .i64 bs, .int .i64 bu, .int .i64 bd, .slice b9 bc be, .int .u64 bt, .int .i64 bz, .slice cp cg ck, .int .u64 c4] 58)) fun a0 =>
 thenW (a0.alloc (.cells #[.int .i64 0, .int .i64 0, .int .i64 0, .int .u64 0, .int .i64 0, .int .i64 0, .int .i64 0, .slice none 0 0, .int .u64 0, .int .i64 0, .int .i64 0, .int .u64 0, .int .i64 0, .int .i64 0, .int .i64 0, .slice none 0 0, .int .u64 0, .int .i64 0, .slice none 0 0, .int .u64 0] 69)) fun b1 =>
 ∃ (bg : Int), b1.cell? ((blk w.heap.size).add 0) = some (.int .i64 bg) ∧
 ∃ (an : Int) (ax : Int) (b8 : Int) (bp : Int) (bk : Int) (aw : Int) (av : Option Addr) (az : Nat) (ap : Nat) (bo : Int), cellsAt b1 ((blk w.heap.size).add 1) [.int .i64 an, .int .i64 ax, .int .u64 b8, .int .i64 bp, .int .i64 bk, .int .i64 aw, .slice av az ap, .int .u64 bo] 0 ∧
 ∃ (ak : Int) (au : Int) (b7 : Int) (bn : Int) (bi : Int) (ay : Int) (ao : Option Addr) (ar : Nat) (b0 : Nat) (bh : Int), cellsAt b1 ((blk w.heap.size).add 9) [.int .i64 ak, .int .i64 au, .int .u64 b7, .int .i64 bn, .int .i64 bi, .int .i64 ay, .slice ao ar b0, .int .u64 bh] 0 ∧
 ∃ (bw : Int), b1.cell? ((blk w.heap.size).add 17) = some (.int .i64 bw) ∧
 ∃ (ce : Option Addr) (c5 : Nat) (ch : Nat), b1.cell? ((blk w.heap.size).add 18) = some (.slice ce c5 ch) ∧
 ∃ (bx : Int), b1.cell? ((blk w.heap.size).add 19) = some (.int .u64 bx) ∧
 canStore b1 ((blk a0.heap.size).add 0) ∧
 thenW (b1.setCell ((blk a0.heap.size).add 0) (.int .i64 bg)) fun cu =>
 canStore cu ((blk a0.heap.size).add 1) ∧
 thenW (cu.setCell ((blk a0.heap.size).add 1) (.int .i64 an)) fun cf =>
 canStore cf ((blk a0.heap.size).add 2) ∧
 thenW (cf.setCell ((blk a0.heap.size).add 2) (.int .i64 ax)) fun c6 =>
 canStore c6 ((blk a0.heap.size).add 3) ∧
 thenW (c6.setCell ((blk a0.heap.size).add 3) (.int .u64 b8)) fun cm =>
 canStore cm ((blk a0.heap.size).add 4) ∧
 thenW (cm.setCell ((blk a0.heap.size).add 4) (.int .i64 bp)) fun cn =>
 canStore cn ((blk a0.heap.size).add 5) ∧
 thenW (cn.setCell ((blk a0.heap.size).add 5) (.int .i64 bk)) fun cb =>
 canStore cb ((blk a0.heap.size).add 6) ∧
 thenW (cb.setCell ((blk a0.heap.size).add 6) (.int .i64 aw)) fun cs =>
 canStore cs ((blk a0.heap.size).add 7) ∧
 thenW (cs.setCell ((blk a0.heap.size).add 7) (.slice av az ap)) fun c9 =>
 canStore c9 ((blk a0.heap.size).add 8) ∧
 thenW (c9.setCell ((blk a0.heap.size).add 8) (.int .u64 bo)) fun cc =>
 canStore cc ((blk a0.heap.size).add 9) ∧
 thenW (cc.setCell ((blk a0.heap.size).add 9) (.int .i64 ak)) fun cl =>
 canStore cl ((blk a0.heap.size).add 10) ∧
 thenW (cl.setCell ((blk a0.heap.size).add 10) (.int .i64 au)) fun ci =>
 canStore ci ((blk a0.heap.size).add 11) ∧
 thenW (ci.setCell ((blk a0.heap.size).add 11) (.int .u64 b7)) fun c8 =>
 canStore c8 ((blk a0.heap.size).add 12) ∧
 thenW (c8.setCell ((blk a0.heap.size).add 12) (.int .i64 bn)) fun cr =>
 canStore cr ((blk a0.heap.size).add 13) ∧
 thenW (cr.setCell ((blk a0.heap.size).add 13) (.int .i64 bi)) fun c7 =>
 canStore c7 ((blk a0.heap.size).add 14) ∧
 thenW (c7.setCell ((blk a0.heap.size).add 14) (.int .i64 ay)) fun ct =>
 canStore ct ((blk a0.heap.size).add 15) ∧
 thenW (ct.setCell ((blk a0.heap.size).add 15) (.slice ao ar b0)) fun cd =>
 canStore cd ((blk a0.heap.size).add 16) ∧
 thenW (cd.setCell ((blk a0.heap.size).add 16) (.int .u64 bh)) fun cj =>
 canStore cj ((blk a0.heap.size).add 17) ∧
 thenW (cj.setCell ((blk a0.heap.size).add 17) (.int .i64 bw)) fun co =>
 canStore co ((blk a0.heap.size).add 18) ∧
 thenW (co.setCell ((blk a0.heap.size).add 18) (.slice ce c5 ch)) fun ca =>
 canStore ca ((blk a0.heap.size).add 19) ∧
 thenW (ca.setCell ((blk a0.heap.size).add 19) (.int .u64 bx)) fun cq =>
 ∃ (al : Int) (a1 : Int) (a7 : Int) (ad : Int) (af : Int) (am : Int) (aa : Int) (ab : Option Addr) (a3 : Nat) (a4 : Nat) (ah : Int) (a2 : Int) (a8 : Int) (ae : Int) (ai : Int) (aj : Int) (a5 : Int) (a9 : Option Addr) (ac : Nat) (a6 : Nat) (ag : Int) (b2 : Int) (b5 : Option Addr) (b6 : Nat) (b4 : Nat) (aq : Int), cellsAt cq (blk a0.heap.size) [.int .i64 al, .int .i64 a1, .int .i64 a7, .int .u64 ad, .int .i64 af, .int .i64 am, .int .i64 aa, .slice ab a3 a4, .int .u64 ah, .int .i64 a2, .int .i64 a8, .int .u64 ae, .int .i64 ai, .int .i64 aj, .int .i64 a5, .slice a9 ac a6, .int .u64 ag, .int .i64 b2, .slice b5 b6 b4, .int .u64 aq] 0 ∧
 R (.agg #[.int .i64 al, .int .i64 a1, .int .i64 a7, .int .u64 ad, .int .i64 af, .int .i64 am, .int .i64 aa, .slice ab a3 a4, .int .u64 ah, .int .i64 a2, .int .i64 a8, .int .u64 ae, .int .i64 ai, .int .i64 aj, .int .i64 a5, .slice a9 ac a6, .int .u64 ag, .int .i64 b2, .slice b5 b6 b4, .int .u64 aq]) cq

theorem cachettelaw21_Own.eq (fKind1 : Int) (fEWriter2 : Int) (fEIndex3 : Int) (fEPrev4 : Int) (fEAtT5 : Int) (fEAtW6 : Int) (fEEpoch7 : Int) (fEBody8a : Option Addr) (fEBody8n : Nat) (fEBody8c : Nat) (fESig9 : Int) (fFWriter10 : Int) (fFIndex11 : Int) (fFPrev12 : Int) (fFAtT13 : Int) (fFAtW14 : Int) (fFEpoch15 : Int) (fFBody16a : Option Addr) (fFBody16n : Nat) (fFBody16c : Nat) (fFSig17 : Int) (fWho18 : Int) (fV19a : Option Addr) (fV19n : Nat) (fV19c : Nat) (fSig20 : Int) (R : Value → World → Prop) (w : World) : mfunc Try.prog [] 27 [.agg #[.int .i64 fKind1, .int .i64 fEWriter2, .int .i64 fEIndex3, .int .u64 fEPrev4, .int .i64 fEAtT5, .int .i64 fEAtW6, .int .i64 fEEpoch7, .slice fEBody8a fEBody8n fEBody8c, .int .u64 fESig9, .int .i64 fFWriter10, .int .i64 fFIndex11, .int .u64 fFPrev12, .int .i64 fFAtT13, .int .i64 fFAtW14, .int .i64 fFEpoch15, .slice fFBody16a fFBody16n fFBody16c, .int .u64 fFSig17, .int .i64 fWho18, .slice fV19a fV19n fV19c, .int .u64 fSig20]] R w = cachettelaw21_Own.M fKind1 fEWriter2 fEIndex3 fEPrev4 fEAtT5 fEAtW6 fEEpoch7 fEBody8a fEBody8n fEBody8c fESig9 fFWriter10 fFIndex11 fFPrev12 fFAtT13 fFAtW14 fFEpoch15 fFBody16a fFBody16n fFBody16c fFSig17 fWho18 fV19a fV19n fV19c fSig20 R w := by kernel_rfl
theorem cachettelaw21_Own.ok (al : Int) (a4 : Int) (a9 : Int) (af : Int) (ak : Int) (ai : Int) (ab : Int) (a8 : Option Addr) (aa : Nat) (a7 : Nat) (aj : Int) (a0 : Int) (a3 : Int) (ac : Int) (ad : Int) (ag : Int) (a5 : Int) (a1 : Option Addr) (a2 : Nat) (a6 : Nat) (ae : Int) (ah : Int) (an : Option Addr) (ap : Nat) (ao : Nat) (am : Int) {R : Value → World → Prop} {w : World} (h : cachettelaw21_Own.M al a4 a9 af ak ai ab a8 aa a7 aj a0 a3 ac ad ag a5 a1 a2 a6 ae ah an ap ao am R w) : Calls Try.prog 27 #[.agg #[.int .i64 al, .int .i64 a4, .int .i64 a9, .int .u64 af, .int .i64 ak, .int .i64 ai, .int .i64 ab, .slice a8 aa a7, .int .u64 aj, .int .i64 a0, .int .i64 a3, .int .u64 ac, .int .i64 ad, .int .i64 ag, .int .i64 a5, .slice a1 a2 a6, .int .u64 ae, .int .i64 ah, .slice an ap ao, .int .u64 am]] w fun e w' => ∃ v, e = .returned v ∧ R v w' :=
  mfunc_ok follows (H := []) (args := [.agg #[.int .i64 al, .int .i64 a4, .int .i64 a9, .int .u64 af, .int .i64 ak, .int .i64 ai, .int .i64 ab, .slice a8 aa a7, .int .u64 aj, .int .i64 a0, .int .i64 a3, .int .u64 ac, .int .i64 ad, .int .i64 ag, .int .i64 a5, .slice a1 a2 a6, .int .u64 ae, .int .i64 ah, .slice an ap ao, .int .u64 am]]) (by rw [cachettelaw21_Own.eq]; exact h)

def cachettelaw21_Own.N (al : Int) (a4 : Int) (a9 : Int) (af : Int) (ak : Int) (ai : Int) (ab : Int) (a8 : Option Addr) (aa : Nat) (a7 : Nat) (aj : Int) (a0 : Int) (a3 : Int) (ac : Int) (ad : Int) (ag : Int) (a5 : Int) (a1 : Option Addr) (a2 : Nat) (a6 : Nat) (ae : Int) (ah : Int) (an : Option Addr) (ap : Nat) (ao : Nat) (am : Int) (R : Value → World → Prop) (w : World) : Prop :=
 ∀ (aq : World), Ext no w aq →
 R (.agg #[.int .i64 al, .int .i64 a4, .int .i64 a9, .int .u64 af, .int .i64 ak, .int .i64 ai, .int .i64 ab, .slice a8 aa a7, .int .u64 aj, .int .i64 a0, .int .i64 a3, .int .u64 ac, .int .i64 ad, .int .i64 ag, .int .i64 a5, .slice a1 a2 a6, .int .u64 ae, .int .i64 ah, .slice an ap ao, .int .u64 am]) aq

theorem cachettelaw21_Own.up (a9 : Int) (a0 : Int) (a1 : Int) (a4 : Int) (ab : Int) (ae : Int) (a3 : Int) (a5 : Option Addr) (a6 : Nat) (a7 : Nat) (aj : Int) (a2 : Int) (a8 : Int) (aa : Int) (ak : Int) (al : Int) (af : Int) (ag : Option Addr) (ah : Nat) (ai : Nat) (am : Int) (an : Int) (av : Option Addr) (aq : Nat) (au : Nat) (ap : Int) {R : Value → World → Prop} {w : World} (h : cachettelaw21_Own.N a9 a0 a1 a4 ab ae a3 a5 a6 a7 aj a2 a8 aa ak al af ag ah ai am an av aq au ap R w) : cachettelaw21_Own.M a9 a0 a1 a4 ab ae a3 a5 a6 a7 aj a2 a8 aa ak al af ag ah ai am an av aq au ap R w := by
  unfold cachettelaw21_Own.M
  unfold cachettelaw21_Own.N at h
  refine thenW_in fun ac ch => ?_
  have ao := Blk.of_new ch
  have cr := ((Ext.refl no w)).size
  have aw := (Ext.refl no w).x_alloc ch
  refine thenW_in fun cq bb => ?_
  have ad := Blk.of_new bb
  have ar := (aw).size
  have cb := Nat.ne_of_lt ao.lt
  have ao := ao.x_alloc bb
  have bx := aw.x_alloc bb
  refine ⟨a9, ao.celli 0 rfl rfl, ?_⟩
  refine ⟨a0, a1, a4, ab, ae, a3, a5, a6, a7, aj, ⟨ao.celli 1 rfl rfl, ao.celli 2 rfl rfl, ao.celli 3 rfl rfl, ao.celli 4 rfl rfl, ao.celli 5 rfl rfl, ao.celli 6 rfl rfl, ao.celli 7 rfl rfl, ao.celli 8 rfl rfl, trivial⟩, ?_⟩
  refine ⟨a2, a8, aa, ak, al, af, ag, ah, ai, am, ⟨ao.celli 9 rfl rfl, ao.celli 10 rfl rfl, ao.celli 11 rfl rfl, ao.celli 12 rfl rfl, ao.celli 13 rfl rfl, ao.celli 14 rfl rfl, ao.celli 15 rfl rfl, ao.celli 16 rfl rfl, trivial⟩, ?_⟩
  refine ⟨an, ao.celli 17 rfl rfl, ?_⟩
  refine ⟨av, aq, au, ao.celli 18 rfl rfl, ?_⟩
  refine ⟨ap, ao.celli 19 rfl rfl, ?_⟩
  refine ⟨ad.cani 0 rfl rfl, thenW_in fun bf ci => ?_⟩
  have b4 := bx.x_set (q := ac.heap.size) (i := 0) rfl (.inr ar) ci
  have ad : Blk bf ac.heap.size 69 [.int .i64 a9, .int .i64 0, .int .i64 0, .int .u64 0, .int .i64 0, .int .i64 0, .int .i64 0, .slice none 0 0, .int .u64 0, .int .i64 0, .int .i64 0, .int .u64 0, .int .i64 0, .int .i64 0, .int .i64 0, .slice none 0 0, .int .u64 0, .int .i64 0, .slice none 0 0, .int .u64 0] := ad.seti 0 rfl ci
  refine ⟨ad.cani 1 rfl rfl, thenW_in fun bt c5 => ?_⟩
  have bn := b4.x_set (q := ac.heap.size) (i := 1) rfl (.inr ar) c5
  have ad : Blk bt ac.heap.size 69 [.int .i64 a9, .int .i64 a0, .int .i64 0, .int .u64 0, .int .i64 0, .int .i64 0, .int .i64 0, .slice none 0 0, .int .u64 0, .int .i64 0, .int .i64 0, .int .u64 0, .int .i64 0, .int .i64 0, .int .i64 0, .slice none 0 0, .int .u64 0, .int .i64 0, .slice none 0 0, .int .u64 0] := ad.seti 1 rfl c5
  refine ⟨ad.cani 2 rfl rfl, thenW_in fun b2 cc => ?_⟩
  have bj := bn.x_set (q := ac.heap.size) (i := 2) rfl (.inr ar) cc
  have ad : Blk b2 ac.heap.size 69 [.int .i64 a9, .int .i64 a0, .int .i64 a1, .int .u64 0, .int .i64 0, .int .i64 0, .int .i64 0, .slice none 0 0, .int .u64 0, .int .i64 0, .int .i64 0, .int .u64 0, .int .i64 0, .int .i64 0, .int .i64 0, .slice none 0 0, .int .u64 0, .int .i64 0, .slice none 0 0, .int .u64 0] := ad.seti 2 rfl cc
  refine ⟨ad.cani 3 rfl rfl, thenW_in fun b5 cg => ?_⟩
  have bo := bj.x_set (q := ac.heap.size) (i := 3) rfl (.inr ar) cg
  have ad : Blk b5 ac.heap.size 69 [.int .i64 a9, .int .i64 a0, .int .i64 a1, .int .u64 a4, .int .i64 0, .int .i64 0, .int .i64 0, .slice none 0 0, .int .u64 0, .int .i64 0, .int .i64 0, .int .u64 0, .int .i64 0, .int .i64 0, .int .i64 0, .slice none 0 0, .int .u64 0, .int .i64 0, .slice none 0 0, .int .u64 0] := ad.seti 3 rfl cg
  refine ⟨ad.cani 4 rfl rfl, thenW_in fun b3 c7 => ?_⟩
  have bi := bo.x_set (q := ac.heap.size) (i := 4) rfl (.inr ar) c7
  have ad : Blk b3 ac.heap.size 69 [.int .i64 a9, .int .i64 a0, .int .i64 a1, .int .u64 a4, .int .i64 ab, .int .i64 0, .int .i64 0, .slice none 0 0, .int .u64 0, .int .i64 0, .int .i64 0, .int .u64 0, .int .i64 0, .int .i64 0, .int .i64 0, .slice none 0 0, .int .u64 0, .int .i64 0, .slice none 0 0, .int .u64 0] := ad.seti 4 rfl c7
  refine ⟨ad.cani 5 rfl rfl, thenW_in fun b1 c8 => ?_⟩
  have bw := bi.x_set (q := ac.heap.size) (i := 5) rfl (.inr ar) c8
  have ad : Blk b1 ac.heap.size 69 [.int .i64 a9, .int .i64 a0, .int .i64 a1, .int .u64 a4, .int .i64 ab, .int .i64 ae, .int .i64 0, .slice none 0 0, .int .u64 0, .int .i64 0, .int .i64 0, .int .u64 0, .int .i64 0, .int .i64 0, .int .i64 0, .slice none 0 0, .int .u64 0, .int .i64 0, .slice none 0 0, .int .u64 0] := ad.seti 5 rfl c8
  refine ⟨ad.cani 6 rfl rfl, thenW_in fun bm cd => ?_⟩
  have bz := bw.x_set (q := ac.heap.size) (i := 6) rfl (.inr ar) cd
  have ad : Blk bm ac.heap.size 69 [.int .i64 a9, .int .i64 a0, .int .i64 a1, .int .u64 a4, .int .i64 ab, .int .i64 ae, .int .i64 a3, .slice none 0 0, .int .u64 0, .int .i64 0, .int .i64 0, .int .u64 0, .int .i64 0, .int .i64 0, .int .i64 0, .slice none 0 0, .int .u64 0, .int .i64 0, .slice none 0 0, .int .u64 0] := ad.seti 6 rfl cd
  refine ⟨ad.cani 7 rfl rfl, thenW_in fun bd cf => ?_⟩
  have b9 := bz.x_set (q := ac.heap.size) (i := 7) rfl (.inr ar) cf
  have ad : Blk bd ac.heap.size 69 [.int .i64 a9, .int .i64 a0, .int .i64 a1, .int .u64 a4, .int .i64 ab, .int .i64 ae, .int .i64 a3, .slice a5 a6 a7, .int .u64 0, .int .i64 0, .int .i64 0, .int .u64 0, .int .i64 0, .int .i64 0, .int .i64 0, .slice none 0 0, .int .u64 0, .int .i64 0, .slice none 0 0, .int .u64 0] := ad.seti 7 rfl cf
  refine ⟨ad.cani 8 rfl rfl, thenW_in fun c0 cl => ?_⟩
  have bp := b9.x_set (q := ac.heap.size) (i := 8) rfl (.inr ar) cl
  have ad : Blk c0 ac.heap.size 69 [.int .i64 a9, .int .i64 a0, .int .i64 a1, .int .u64 a4, .int .i64 ab, .int .i64 ae, .int .i64 a3, .slice a5 a6 a7, .int .u64 aj, .int .i64 0, .int .i64 0, .int .u64 0, .int .i64 0, .int .i64 0, .int .i64 0, .slice none 0 0, .int .u64 0, .int .i64 0, .slice none 0 0, .int .u64 0] := ad.seti 8 rfl cl
  refine ⟨ad.cani 9 rfl rfl, thenW_in fun bq co => ?_⟩
  have b6 := bp.x_set (q := ac.heap.size) (i := 9) rfl (.inr ar) co
  have ad : Blk bq ac.heap.size 69 [.int .i64 a9, .int .i64 a0, .int .i64 a1, .int .u64 a4, .int .i64 ab, .int .i64 ae, .int .i64 a3, .slice a5 a6 a7, .int .u64 aj, .int .i64 a2, .int .i64 0, .int .u64 0, .int .i64 0, .int .i64 0, .int .i64 0, .slice none 0 0, .int .u64 0, .int .i64 0, .slice none 0 0, .int .u64 0] := ad.seti 9 rfl co
  refine ⟨ad.cani 10 rfl rfl, thenW_in fun ay c9 => ?_⟩
  have c3 := b6.x_set (q := ac.heap.size) (i := 10) rfl (.inr ar) c9
  have ad : Blk ay ac.heap.size 69 [.int .i64 a9, .int .i64 a0, .int .i64 a1, .int .u64 a4, .int .i64 ab, .int .i64 ae, .int .i64 a3, .slice a5 a6 a7, .int .u64 aj, .int .i64 a2, .int .i64 a8, .int .u64 0, .int .i64 0, .int .i64 0, .int .i64 0, .slice none 0 0, .int .u64 0, .int .i64 0, .slice none 0 0, .int .u64 0] := ad.seti 10 rfl c9
  refine ⟨ad.cani 11 rfl rfl, thenW_in fun b0 cm => ?_⟩
  have bu := c3.x_set (q := ac.heap.size) (i := 11) rfl (.inr ar) cm
  have ad : Blk b0 ac.heap.size 69 [.int .i64 a9, .int .i64 a0, .int .i64 a1, .int .u64 a4, .int .i64 ab, .int .i64 ae, .int .i64 a3, .slice a5 a6 a7, .int .u64 aj, .int .i64 a2, .int .i64 a8, .int .u64 aa, .int .i64 0, .int .i64 0, .int .i64 0, .slice none 0 0, .int .u64 0, .int .i64 0, .slice none 0 0, .int .u64 0] := ad.seti 11 rfl cm
  refine ⟨ad.cani 12 rfl rfl, thenW_in fun ba cp => ?_⟩
  have bl := bu.x_set (q := ac.heap.size) (i := 12) rfl (.inr ar) cp
  have ad : Blk ba ac.heap.size 69 [.int .i64 a9, .int .i64 a0, .int .i64 a1, .int .u64 a4, .int .i64 ab, .int .i64 ae, .int .i64 a3, .slice a5 a6 a7, .int .u64 aj, .int .i64 a2, .int .i64 a8, .int .u64 aa, .int .i64 ak, .int .i64 0, .int .i64 0, .slice none 0 0, .int .u64 0, .int .i64 0, .slice none 0 0, .int .u64 0] := ad.seti 12 rfl cp
  refine ⟨ad.cani 13 rfl rfl, thenW_in fun bg ck => ?_⟩
  have bh := bl.x_set (q := ac.heap.size) (i := 13) rfl (.inr ar) ck
  have ad : Blk bg ac.heap.size 69 [.int .i64 a9, .int .i64 a0, .int .i64 a1, .int .u64 a4, .int .i64 ab, .int .i64 ae, .int .i64 a3, .slice a5 a6 a7, .int .u64 aj, .int .i64 a2, .int .i64 a8, .int .u64 aa, .int .i64 ak, .int .i64 al, .int .i64 0, .slice none 0 0, .int .u64 0, .int .i64 0, .slice none 0 0, .int .u64 0] := ad.seti 13 rfl ck
  refine ⟨ad.cani 14 rfl rfl, thenW_in fun bc c6 => ?_⟩
  have c1 := bh.x_set (q := ac.heap.size) (i := 14) rfl (.inr ar) c6
  have ad : Blk bc ac.heap.size 69 [.int .i64 a9, .int .i64 a0, .int .i64 a1, .int .u64 a4, .int .i64 ab, .int .i64 ae, .int .i64 a3, .slice a5 a6 a7, .int .u64 aj, .int .i64 a2, .int .i64 a8, .int .u64 aa, .int .i64 ak, .int .i64 al, .int .i64 af, .slice none 0 0, .int .u64 0, .int .i64 0, .slice none 0 0, .int .u64 0] := ad.seti 14 rfl c6
  refine ⟨ad.cani 15 rfl rfl, thenW_in fun c2 cn => ?_⟩
  have b8 := c1.x_set (q := ac.heap.size) (i := 15) rfl (.inr ar) cn
  have ad : Blk c2 ac.heap.size 69 [.int .i64 a9, .int .i64 a0, .int .i64 a1, .int .u64 a4, .int .i64 ab, .int .i64 ae, .int .i64 a3, .slice a5 a6 a7, .int .u64 aj, .int .i64 a2, .int .i64 a8, .int .u64 aa, .int .i64 ak, .int .i64 al, .int .i64 af, .slice ag ah ai, .int .u64 0, .int .i64 0, .slice none 0 0, .int .u64 0] := ad.seti 15 rfl cn
  refine ⟨ad.cani 16 rfl rfl, thenW_in fun az cj => ?_⟩
  have bs := b8.x_set (q := ac.heap.size) (i := 16) rfl (.inr ar) cj
  have ad : Blk az ac.heap.size 69 [.int .i64 a9, .int .i64 a0, .int .i64 a1, .int .u64 a4, .int .i64 ab, .int .i64 ae, .int .i64 a3, .slice a5 a6 a7, .int .u64 aj, .int .i64 a2, .int .i64 a8, .int .u64 aa, .int .i64 ak, .int .i64 al, .int .i64 af, .slice ag ah ai, .int .u64 am, .int .i64 0, .slice none 0 0, .int .u64 0] := ad.seti 16 rfl cj
  refine ⟨ad.cani 17 rfl rfl, thenW_in fun bv c4 => ?_⟩
  have bk := bs.x_set (q := ac.heap.size) (i := 17) rfl (.inr ar) c4
  have ad : Blk bv ac.heap.size 69 [.int .i64 a9, .int .i64 a0, .int .i64 a1, .int .u64 a4, .int .i64 ab, .int .i64 ae, .int .i64 a3, .slice a5 a6 a7, .int .u64 aj, .int .i64 a2, .int .i64 a8, .int .u64 aa, .int .i64 ak, .int .i64 al, .int .i64 af, .slice ag ah ai, .int .u64 am, .int .i64 an, .slice none 0 0, .int .u64 0] := ad.seti 17 rfl c4
  refine ⟨ad.cani 18 rfl rfl, thenW_in fun b7 ca => ?_⟩
  have br := bk.x_set (q := ac.heap.size) (i := 18) rfl (.inr ar) ca
  have ad : Blk b7 ac.heap.size 69 [.int .i64 a9, .int .i64 a0, .int .i64 a1, .int .u64 a4, .int .i64 ab, .int .i64 ae, .int .i64 a3, .slice a5 a6 a7, .int .u64 aj, .int .i64 a2, .int .i64 a8, .int .u64 aa, .int .i64 ak, .int .i64 al, .int .i64 af, .slice ag ah ai, .int .u64 am, .int .i64 an, .slice av aq au, .int .u64 0] := ad.seti 18 rfl ca
  refine ⟨ad.cani 19 rfl rfl, thenW_in fun ax ce => ?_⟩
  have be := br.x_set (q := ac.heap.size) (i := 19) rfl (.inr ar) ce
  have ad : Blk ax ac.heap.size 69 [.int .i64 a9, .int .i64 a0, .int .i64 a1, .int .u64 a4, .int .i64 ab, .int .i64 ae, .int .i64 a3, .slice a5 a6 a7, .int .u64 aj, .int .i64 a2, .int .i64 a8, .int .u64 aa, .int .i64 ak, .int .i64 al, .int .i64 af, .slice ag ah ai, .int .u64 am, .int .i64 an, .slice av aq au, .int .u64 ap] := ad.seti 19 rfl ce
  refine ⟨a9, a0, a1, a4, ab, ae, a3, a5, a6, a7, aj, a2, a8, aa, ak, al, af, ag, ah, ai, am, an, av, aq, au, ap, ⟨ad.celli 0 rfl rfl, ad.celli 1 rfl rfl, ad.celli 2 rfl rfl, ad.celli 3 rfl rfl, ad.celli 4 rfl rfl, ad.celli 5 rfl rfl, ad.celli 6 rfl rfl, ad.celli 7 rfl rfl, ad.celli 8 rfl rfl, ad.celli 9 rfl rfl, ad.celli 10 rfl rfl, ad.celli 11 rfl rfl, ad.celli 12 rfl rfl, ad.celli 13 rfl rfl, ad.celli 14 rfl rfl, ad.celli 15 rfl rfl, ad.celli 16 rfl rfl, ad.celli 17 rfl rfl, ad.celli 18 rfl rfl, ad.celli 19 rfl rfl, trivial⟩, ?_⟩
  have h := h ax be
  exact h

theorem cachettelaw21_Own.go (al : Int) (a4 : Int) (a9 : Int) (af : Int) (ak : Int) (ai : Int) (ab : Int) (a8 : Option Addr) (aa : Nat) (a7 : Nat) (aj : Int) (a0 : Int) (a3 : Int) (ac : Int) (ad : Int) (ag : Int) (a5 : Int) (a1 : Option Addr) (a2 : Nat) (a6 : Nat) (ae : Int) (ah : Int) (an : Option Addr) (ap : Nat) (ao : Nat) (am : Int) {R : Value → World → Prop} {w : World} (h : cachettelaw21_Own.N al a4 a9 af ak ai ab a8 aa a7 aj a0 a3 ac ad ag a5 a1 a2 a6 ae ah an ap ao am R w) : Calls Try.prog 27 #[.agg #[.int .i64 al, .int .i64 a4, .int .i64 a9, .int .u64 af, .int .i64 ak, .int .i64 ai, .int .i64 ab, .slice a8 aa a7, .int .u64 aj, .int .i64 a0, .int .i64 a3, .int .u64 ac, .int .i64 ad, .int .i64 ag, .int .i64 a5, .slice a1 a2 a6, .int .u64 ae, .int .i64 ah, .slice an ap ao, .int .u64 am]] w fun e w' => ∃ v, e = .returned v ∧ R v w' := cachettelaw21_Own.ok al a4 a9 af ak ai ab a8 aa a7 aj a0 a3 ac ad ag a5 a1 a2 a6 ae ah an ap ao am (cachettelaw21_Own.up al a4 a9 af ak ai ab a8 aa a7 aj a0 a3 ac ad ag a5 a1 a2 a6 ae ah an ap ao am h)
theorem cachettelaw21_Own.run (al : Int) (a4 : Int) (a9 : Int) (af : Int) (ak : Int) (ai : Int) (ab : Int) (a8 : Option Addr) (aa : Nat) (a7 : Nat) (aj : Int) (a0 : Int) (a3 : Int) (ac : Int) (ad : Int) (ag : Int) (a5 : Int) (a1 : Option Addr) (a2 : Nat) (a6 : Nat) (ae : Int) (ah : Int) (an : Option Addr) (ap : Nat) (ao : Nat) (am : Int) {V : Value} {Q : World → Prop} {w : World} (h : cachettelaw21_Own.N al a4 a9 af ak ai ab a8 aa a7 aj a0 a3 ac ad ag a5 a1 a2 a6 ae ah an ap ao am (fun v w' => v = V ∧ Q w') w) : Calls Try.prog 27 #[.agg #[.int .i64 al, .int .i64 a4, .int .i64 a9, .int .u64 af, .int .i64 ak, .int .i64 ai, .int .i64 ab, .slice a8 aa a7, .int .u64 aj, .int .i64 a0, .int .i64 a3, .int .u64 ac, .int .i64 ad, .int .i64 ag, .int .i64 a5, .slice a1 a2 a6, .int .u64 ae, .int .i64 ah, .slice an ap ao, .int .u64 am]] w (Ret V Q) := (cachettelaw21_Own.go al a4 a9 af ak ai ab a8 aa a7 aj a0 a3 ac ad ag a5 a1 a2 a6 ae ah an ap ao am h).mono fun e w' ⟨v, he, hv, hq⟩ => ⟨by rw [he, hv], hq⟩

/-- cachettelaw21.Back -/
def cachettelaw21_Back.M (c1 : Int) (bb : Int) (br : Int) (bv : Int) (c0 : Int) (c2 : Int) (bl : Int) (bf : Option Addr) (bj : Nat) (bq : Nat) (c3 : Int) (b3 : Int) (ba : Int) (bm : Int) (bs : Int) (bu : Int) (bd : Int) (b9 : Option Addr) (bc : Nat) (be : Nat) (bt : Int) (bz : Int) (cp : Option Addr) (cg : Nat) (ck : Nat) (c4 : Int) (R : Value → World → Prop) (w : World) : Prop :=
 thenW (w.alloc (.cells #[.int .i64 c1, .int .i64 bb, .int .i64 br, .int .u64 bv, .int .i64 c0, .int .i64 c2, .int .i64 bl, .slice bf bj bq, .int .u64 c3, .int .i64 b3, .int .i64 ba, .int .u64 bm, .int .i64 bs, .int .i64 bu, .int .i64 bd, .slice b9 bc be, .int .u64 bt, .int .i64 bz, .slice cp cg ck, .int .u64 c4] 69)) fun a0 =>
 thenW (a0.alloc (.cells #[.int .i64 0, .int .i64 0, .int .i64 0, .int .u64 0, .int .i64 0, .int .i64 0, .int .i64 0, .slice none 0 0, .int .u64 0, .int .i64 0, .int .i64 0, .int .u64 0, .int .i64 0, .int .i64 0, .int .i64 0, .slice none 0 0, .int .u64 0, .int .i64 0, .slice none 0 0, .int .u64 0] 58)) fun b1 =>
 ∃ (bg : Int), b1.cell? ((blk w.heap.size).add 0) = some (.int .i64 bg) ∧
 ∃ (an : Int) (ax : Int) (b8 : Int) (bp : Int) (bk : Int) (aw : Int) (av : Option Addr) (az : Nat) (ap : Nat) (bo : Int), cellsAt b1 ((blk w.heap.size).add 1) [.int .i64 an, .int .i64 ax, .int .u64 b8, .int .i64 bp, .int .i64 bk, .int .i64 aw, .slice av az ap, .int .u64 bo] 0 ∧
 ∃ (ak : Int) (au : Int) (b7 : Int) (bn : Int) (bi : Int) (ay : Int) (ao : Option Addr) (ar : Nat) (b0 : Nat) (bh : Int), cellsAt b1 ((blk w.heap.size).add 9) [.int .i64 ak, .int .i64 au, .int .u64 b7, .int .i64 bn, .int .i64 bi, .int .i64 ay, .slice ao ar b0, .int .u64 bh] 0 ∧
 ∃ (bw : Int), b1.cell? ((blk w.heap.size).add 17) = some (.int .i64 bw) ∧
 ∃ (ce : Option Addr) (c5 : Nat) (ch : Nat), b1.cell? ((blk w.heap.size).add 18) = some (.slice ce c5 ch) ∧
 ∃ (bx : Int), b1.cell? ((blk w.heap.size).add 19) = some (.int .u64 bx) ∧
 canStore b1 ((blk a0.heap.size).add 0) ∧
 thenW (b1.setCell ((blk a0.heap.size).add 0) (.int .i64 bg)) fun cu =>
 canStore cu ((blk a0.heap.size).add 1) ∧
 thenW (cu.setCell ((blk a0.heap.size).add 1) (.int .i64 an)) fun cf =>
 canStore cf ((blk a0.heap.size).add 2) ∧
 thenW (cf.setCell ((blk a0.heap.size).add 2) (.int .i64 ax)) fun c6 =>
 canStore c6 ((blk a0.heap.size).add 3) ∧
 thenW (c6.setCell ((blk a0.heap.size).add 3) (.int .u64 b8)) fun cm =>
 canStore cm ((blk a0.heap.size).add 4) ∧
 thenW (cm.setCell ((blk a0.heap.size).add 4) (.int .i64 bp)) fun cn =>
 canStore cn ((blk a0.heap.size).add 5) ∧
 thenW (cn.setCell ((blk a0.heap.size).add 5) (.int .i64 bk)) fun cb =>
 canStore cb ((blk a0.heap.size).add 6) ∧
 thenW (cb.setCell ((blk a0.heap.size).add 6) (.int .i64 aw)) fun cs =>
 canStore cs ((blk a0.heap.size).add 7) ∧
 thenW (cs.setCell ((blk a0.heap.size).add 7) (.slice av az ap)) fun c9 =>
 canStore c9 ((blk a0.heap.size).add 8) ∧
 thenW (c9.setCell ((blk a0.heap.size).add 8) (.int .u64 bo)) fun cc =>
 canStore cc ((blk a0.heap.size).add 9) ∧
 thenW (cc.setCell ((blk a0.heap.size).add 9) (.int .i64 ak)) fun cl =>
 canStore cl ((blk a0.heap.size).add 10) ∧
 thenW (cl.setCell ((blk a0.heap.size).add 10) (.int .i64 au)) fun ci =>
 canStore ci ((blk a0.heap.size).add 11) ∧
 thenW (ci.setCell ((blk a0.heap.size).add 11) (.int .u64 b7)) fun c8 =>
 canStore c8 ((blk a0.heap.size).add 12) ∧
 thenW (c8.setCell ((blk a0.heap.size).add 12) (.int .i64 bn)) fun cr =>
 canStore cr ((blk a0.heap.size).add 13) ∧
 thenW (cr.setCell ((blk a0.heap.size).add 13) (.int .i64 bi)) fun c7 =>
 canStore c7 ((blk a0.heap.size).add 14) ∧
 thenW (c7.setCell ((blk a0.heap.size).add 14) (.int .i64 ay)) fun ct =>
 canStore ct ((blk a0.heap.size).add 15) ∧
 thenW (ct.setCell ((blk a0.heap.size).add 15) (.slice ao ar b0)) fun cd =>
 canStore cd ((blk a0.heap.size).add 16) ∧
 thenW (cd.setCell ((blk a0.heap.size).add 16) (.int .u64 bh)) fun cj =>
 canStore cj ((blk a0.heap.size).add 17) ∧
 thenW (cj.setCell ((blk a0.heap.size).add 17) (.int .i64 bw)) fun co =>
 canStore co ((blk a0.heap.size).add 18) ∧
 thenW (co.setCell ((blk a0.heap.size).add 18) (.slice ce c5 ch)) fun ca =>
 canStore ca ((blk a0.heap.size).add 19) ∧
 thenW (ca.setCell ((blk a0.heap.size).add 19) (.int .u64 bx)) fun cq =>
 ∃ (al : Int) (a1 : Int) (a7 : Int) (ad : Int) (af : Int) (am : Int) (aa : Int) (ab : Option Addr) (a3 : Nat) (a4 : Nat) (ah : Int) (a2 : Int) (a8 : Int) (ae : Int) (ai : Int) (aj : Int) (a5 : Int) (a9 : Option Addr) (ac : Nat) (a6 : Nat) (ag : Int) (b2 : Int) (b5 : Option Addr) (b6 : Nat) (b4 : Nat) (aq : Int), cellsAt cq (blk a0.heap.size) [.int .i64 al, .int .i64 a1, .int .i64 a7, .int .u64 ad, .int .i64 af, .int .i64 am, .int .i64 aa, .slice ab a3 a4, .int .u64 ah, .int .i64 a2, .int .i64 a8, .int .u64 ae, .int .i64 ai, .int .i64 aj, .int .i64 a5, .slice a9 ac a6, .int .u64 ag, .int .i64 b2, .slice b5 b6 b4, .int .u64 aq] 0 ∧
 R (.agg #[.int .i64 al, .int .i64 a1, .int .i64 a7, .int .u64 ad, .int .i64 af, .int .i64 am, .int .i64 aa, .slice ab a3 a4, .int .u64 ah, .int .i64 a2, .int .i64 a8, .int .u64 ae, .int .i64 ai, .int .i64 aj, .int .i64 a5, .slice a9 ac a6, .int .u64 ag, .int .i64 b2, .slice b5 b6 b4, .int .u64 aq]) cq

theorem cachettelaw21_Back.eq (fKind1 : Int) (fEWriter2 : Int) (fEIndex3 : Int) (fEPrev4 : Int) (fEAtT5 : Int) (fEAtW6 : Int) (fEEpoch7 : Int) (fEBody8a : Option Addr) (fEBody8n : Nat) (fEBody8c : Nat) (fESig9 : Int) (fFWriter10 : Int) (fFIndex11 : Int) (fFPrev12 : Int) (fFAtT13 : Int) (fFAtW14 : Int) (fFEpoch15 : Int) (fFBody16a : Option Addr) (fFBody16n : Nat) (fFBody16c : Nat) (fFSig17 : Int) (fWho18 : Int) (fV19a : Option Addr) (fV19n : Nat) (fV19c : Nat) (fSig20 : Int) (R : Value → World → Prop) (w : World) : mfunc Try.prog [] 24 [.agg #[.int .i64 fKind1, .int .i64 fEWriter2, .int .i64 fEIndex3, .int .u64 fEPrev4, .int .i64 fEAtT5, .int .i64 fEAtW6, .int .i64 fEEpoch7, .slice fEBody8a fEBody8n fEBody8c, .int .u64 fESig9, .int .i64 fFWriter10, .int .i64 fFIndex11, .int .u64 fFPrev12, .int .i64 fFAtT13, .int .i64 fFAtW14, .int .i64 fFEpoch15, .slice fFBody16a fFBody16n fFBody16c, .int .u64 fFSig17, .int .i64 fWho18, .slice fV19a fV19n fV19c, .int .u64 fSig20]] R w = cachettelaw21_Back.M fKind1 fEWriter2 fEIndex3 fEPrev4 fEAtT5 fEAtW6 fEEpoch7 fEBody8a fEBody8n fEBody8c fESig9 fFWriter10 fFIndex11 fFPrev12 fFAtT13 fFAtW14 fFEpoch15 fFBody16a fFBody16n fFBody16c fFSig17 fWho18 fV19a fV19n fV19c fSig20 R w := by kernel_rfl
theorem cachettelaw21_Back.ok (al : Int) (a4 : Int) (a9 : Int) (af : Int) (ak : Int) (ai : Int) (ab : Int) (a8 : Option Addr) (aa : Nat) (a7 : Nat) (aj : Int) (a0 : Int) (a3 : Int) (ac : Int) (ad : Int) (ag : Int) (a5 : Int) (a1 : Option Addr) (a2 : Nat) (a6 : Nat) (ae : Int) (ah : Int) (an : Option Addr) (ap : Nat) (ao : Nat) (am : Int) {R : Value → World → Prop} {w : World} (h : cachettelaw21_Back.M al a4 a9 af ak ai ab a8 aa a7 aj a0 a3 ac ad ag a5 a1 a2 a6 ae ah an ap ao am R w) : Calls Try.prog 24 #[.agg #[.int .i64 al, .int .i64 a4, .int .i64 a9, .int .u64 af, .int .i64 ak, .int .i64 ai, .int .i64 ab, .slice a8 aa a7, .int .u64 aj, .int .i64 a0, .int .i64 a3, .int .u64 ac, .int .i64 ad, .int .i64 ag, .int .i64 a5, .slice a1 a2 a6, .int .u64 ae, .int .i64 ah, .slice an ap ao, .int .u64 am]] w fun e w' => ∃ v, e = .returned v ∧ R v w' :=
  mfunc_ok follows (H := []) (args := [.agg #[.int .i64 al, .int .i64 a4, .int .i64 a9, .int .u64 af, .int .i64 ak, .int .i64 ai, .int .i64 ab, .slice a8 aa a7, .int .u64 aj, .int .i64 a0, .int .i64 a3, .int .u64 ac, .int .i64 ad, .int .i64 ag, .int .i64 a5, .slice a1 a2 a6, .int .u64 ae, .int .i64 ah, .slice an ap ao, .int .u64 am]]) (by rw [cachettelaw21_Back.eq]; exact h)

def cachettelaw21_Back.N (al : Int) (a4 : Int) (a9 : Int) (af : Int) (ak : Int) (ai : Int) (ab : Int) (a8 : Option Addr) (aa : Nat) (a7 : Nat) (aj : Int) (a0 : Int) (a3 : Int) (ac : Int) (ad : Int) (ag : Int) (a5 : Int) (a1 : Option Addr) (a2 : Nat) (a6 : Nat) (ae : Int) (ah : Int) (an : Option Addr) (ap : Nat) (ao : Nat) (am : Int) (R : Value → World → Prop) (w : World) : Prop :=
 ∀ (aq : World), Ext no w aq →
 R (.agg #[.int .i64 al, .int .i64 a4, .int .i64 a9, .int .u64 af, .int .i64 ak, .int .i64 ai, .int .i64 ab, .slice a8 aa a7, .int .u64 aj, .int .i64 a0, .int .i64 a3, .int .u64 ac, .int .i64 ad, .int .i64 ag, .int .i64 a5, .slice a1 a2 a6, .int .u64 ae, .int .i64 ah, .slice an ap ao, .int .u64 am]) aq

theorem cachettelaw21_Back.up (a9 : Int) (a0 : Int) (a1 : Int) (a4 : Int) (ab : Int) (ae : Int) (a3 : Int) (a5 : Option Addr) (a6 : Nat) (a7 : Nat) (aj : Int) (a2 : Int) (a8 : Int) (aa : Int) (ak : Int) (al : Int) (af : Int) (ag : Option Addr) (ah : Nat) (ai : Nat) (am : Int) (an : Int) (av : Option Addr) (aq : Nat) (au : Nat) (ap : Int) {R : Value → World → Prop} {w : World} (h : cachettelaw21_Back.N a9 a0 a1 a4 ab ae a3 a5 a6 a7 aj a2 a8 aa ak al af ag ah ai am an av aq au ap R w) : cachettelaw21_Back.M a9 a0 a1 a4 ab ae a3 a5 a6 a7 aj a2 a8 aa ak al af ag ah ai am an av aq au ap R w := by
  unfold cachettelaw21_Back.M
  unfold cachettelaw21_Back.N at h
  refine thenW_in fun ac ch => ?_
  have ao := Blk.of_new ch
  have cr := ((Ext.refl no w)).size
  have aw := (Ext.refl no w).x_alloc ch
  refine thenW_in fun cq bb => ?_
  have ad := Blk.of_new bb
  have ar := (aw).size
  have cb := Nat.ne_of_lt ao.lt
  have ao := ao.x_alloc bb
  have bx := aw.x_alloc bb
  refine ⟨a9, ao.celli 0 rfl rfl, ?_⟩
  refine ⟨a0, a1, a4, ab, ae, a3, a5, a6, a7, aj, ⟨ao.celli 1 rfl rfl, ao.celli 2 rfl rfl, ao.celli 3 rfl rfl, ao.celli 4 rfl rfl, ao.celli 5 rfl rfl, ao.celli 6 rfl rfl, ao.celli 7 rfl rfl, ao.celli 8 rfl rfl, trivial⟩, ?_⟩
  refine ⟨a2, a8, aa, ak, al, af, ag, ah, ai, am, ⟨ao.celli 9 rfl rfl, ao.celli 10 rfl rfl, ao.celli 11 rfl rfl, ao.celli 12 rfl rfl, ao.celli 13 rfl rfl, ao.celli 14 rfl rfl, ao.celli 15 rfl rfl, ao.celli 16 rfl rfl, trivial⟩, ?_⟩
  refine ⟨an, ao.celli 17 rfl rfl, ?_⟩
  refine ⟨av, aq, au, ao.celli 18 rfl rfl, ?_⟩
  refine ⟨ap, ao.celli 19 rfl rfl, ?_⟩
  refine ⟨ad.cani 0 rfl rfl, thenW_in fun bf ci => ?_⟩
  have b4 := bx.x_set (q := ac.heap.size) (i := 0) rfl (.inr ar) ci
  have ad : Blk bf ac.heap.size 58 [.int .i64 a9, .int .i64 0, .int .i64 0, .int .u64 0, .int .i64 0, .int .i64 0, .int .i64 0, .slice none 0 0, .int .u64 0, .int .i64 0, .int .i64 0, .int .u64 0, .int .i64 0, .int .i64 0, .int .i64 0, .slice none 0 0, .int .u64 0, .int .i64 0, .slice none 0 0, .int .u64 0] := ad.seti 0 rfl ci
  refine ⟨ad.cani 1 rfl rfl, thenW_in fun bt c5 => ?_⟩
  have bn := b4.x_set (q := ac.heap.size) (i := 1) rfl (.inr ar) c5
  have ad : Blk bt ac.heap.size 58 [.int .i64 a9, .int .i64 a0, .int .i64 0, .int .u64 0, .int .i64 0, .int .i64 0, .int .i64 0, .slice none 0 0, .int .u64 0, .int .i64 0, .int .i64 0, .int .u64 0, .int .i64 0, .int .i64 0, .int .i64 0, .slice none 0 0, .int .u64 0, .int .i64 0, .slice none 0 0, .int .u64 0] := ad.seti 1 rfl c5
  refine ⟨ad.cani 2 rfl rfl, thenW_in fun b2 cc => ?_⟩
  have bj := bn.x_set (q := ac.heap.size) (i := 2) rfl (.inr ar) cc
  have ad : Blk b2 ac.heap.size 58 [.int .i64 a9, .int .i64 a0, .int .i64 a1, .int .u64 0, .int .i64 0, .int .i64 0, .int .i64 0, .slice none 0 0, .int .u64 0, .int .i64 0, .int .i64 0, .int .u64 0, .int .i64 0, .int .i64 0, .int .i64 0, .slice none 0 0, .int .u64 0, .int .i64 0, .slice none 0 0, .int .u64 0] := ad.seti 2 rfl cc
  refine ⟨ad.cani 3 rfl rfl, thenW_in fun b5 cg => ?_⟩
  have bo := bj.x_set (q := ac.heap.size) (i := 3) rfl (.inr ar) cg
  have ad : Blk b5 ac.heap.size 58 [.int .i64 a9, .int .i64 a0, .int .i64 a1, .int .u64 a4, .int .i64 0, .int .i64 0, .int .i64 0, .slice none 0 0, .int .u64 0, .int .i64 0, .int .i64 0, .int .u64 0, .int .i64 0, .int .i64 0, .int .i64 0, .slice none 0 0, .int .u64 0, .int .i64 0, .slice none 0 0, .int .u64 0] := ad.seti 3 rfl cg
  refine ⟨ad.cani 4 rfl rfl, thenW_in fun b3 c7 => ?_⟩
  have bi := bo.x_set (q := ac.heap.size) (i := 4) rfl (.inr ar) c7
  have ad : Blk b3 ac.heap.size 58 [.int .i64 a9, .int .i64 a0, .int .i64 a1, .int .u64 a4, .int .i64 ab, .int .i64 0, .int .i64 0, .slice none 0 0, .int .u64 0, .int .i64 0, .int .i64 0, .int .u64 0, .int .i64 0, .int .i64 0, .int .i64 0, .slice none 0 0, .int .u64 0, .int .i64 0, .slice none 0 0, .int .u64 0] := ad.seti 4 rfl c7
  refine ⟨ad.cani 5 rfl rfl, thenW_in fun b1 c8 => ?_⟩
  have bw := bi.x_set (q := ac.heap.size) (i := 5) rfl (.inr ar) c8
  have ad : Blk b1 ac.heap.size 58 [.int .i64 a9, .int .i64 a0, .int .i64 a1, .int .u64 a4, .int .i64 ab, .int .i64 ae, .int .i64 0, .slice none 0 0, .int .u64 0, .int .i64 0, .int .i64 0, .int .u64 0, .int .i64 0, .int .i64 0, .int .i64 0, .slice none 0 0, .int .u64 0, .int .i64 0, .slice none 0 0, .int .u64 0] := ad.seti 5 rfl c8
  refine ⟨ad.cani 6 rfl rfl, thenW_in fun bm cd => ?_⟩
  have bz := bw.x_set (q := ac.heap.size) (i := 6) rfl (.inr ar) cd
  have ad : Blk bm ac.heap.size 58 [.int .i64 a9, .int .i64 a0, .int .i64 a1, .int .u64 a4, .int .i64 ab, .int .i64 ae, .int .i64 a3, .slice none 0 0, .int .u64 0, .int .i64 0, .int .i64 0, .int .u64 0, .int .i64 0, .int .i64 0, .int .i64 0, .slice none 0 0, .int .u64 0, .int .i64 0, .slice none 0 0, .int .u64 0] := ad.seti 6 rfl cd
  refine ⟨ad.cani 7 rfl rfl, thenW_in fun bd cf => ?_⟩
  have b9 := bz.x_set (q := ac.heap.size) (i := 7) rfl (.inr ar) cf
  have ad : Blk bd ac.heap.size 58 [.int .i64 a9, .int .i64 a0, .int .i64 a1, .int .u64 a4, .int .i64 ab, .int .i64 ae, .int .i64 a3, .slice a5 a6 a7, .int .u64 0, .int .i64 0, .int .i64 0, .int .u64 0, .int .i64 0, .int .i64 0, .int .i64 0, .slice none 0 0, .int .u64 0, .int .i64 0, .slice none 0 0, .int .u64 0] := ad.seti 7 rfl cf
  refine ⟨ad.cani 8 rfl rfl, thenW_in fun c0 cl => ?_⟩
  have bp := b9.x_set (q := ac.heap.size) (i := 8) rfl (.inr ar) cl
  have ad : Blk c0 ac.heap.size 58 [.int .i64 a9, .int .i64 a0, .int .i64 a1, .int .u64 a4, .int .i64 ab, .int .i64 ae, .int .i64 a3, .slice a5 a6 a7, .int .u64 aj, .int .i64 0, .int .i64 0, .int .u64 0, .int .i64 0, .int .i64 0, .int .i64 0, .slice none 0 0, .int .u64 0, .int .i64 0, .slice none 0 0, .int .u64 0] := ad.seti 8 rfl cl
  refine ⟨ad.cani 9 rfl rfl, thenW_in fun bq co => ?_⟩
  have b6 := bp.x_set (q := ac.heap.size) (i := 9) rfl (.inr ar) co
  have ad : Blk bq ac.heap.size 58 [.int .i64 a9, .int .i64 a0, .int .i64 a1, .int .u64 a4, .int .i64 ab, .int .i64 ae, .int .i64 a3, .slice a5 a6 a7, .int .u64 aj, .int .i64 a2, .int .i64 0, .int .u64 0, .int .i64 0, .int .i64 0, .int .i64 0, .slice none 0 0, .int .u64 0, .int .i64 0, .slice none 0 0, .int .u64 0] := ad.seti 9 rfl co
  refine ⟨ad.cani 10 rfl rfl, thenW_in fun ay c9 => ?_⟩
  have c3 := b6.x_set (q := ac.heap.size) (i := 10) rfl (.inr ar) c9
  have ad : Blk ay ac.heap.size 58 [.int .i64 a9, .int .i64 a0, .int .i64 a1, .int .u64 a4, .int .i64 ab, .int .i64 ae, .int .i64 a3, .slice a5 a6 a7, .int .u64 aj, .int .i64 a2, .int .i64 a8, .int .u64 0, .int .i64 0, .int .i64 0, .int .i64 0, .slice none 0 0, .int .u64 0, .int .i64 0, .slice none 0 0, .int .u64 0] := ad.seti 10 rfl c9
  refine ⟨ad.cani 11 rfl rfl, thenW_in fun b0 cm => ?_⟩
  have bu := c3.x_set (q := ac.heap.size) (i := 11) rfl (.inr ar) cm
  have ad : Blk b0 ac.heap.size 58 [.int .i64 a9, .int .i64 a0, .int .i64 a1, .int .u64 a4, .int .i64 ab, .int .i64 ae, .int .i64 a3, .slice a5 a6 a7, .int .u64 aj, .int .i64 a2, .int .i64 a8, .int .u64 aa, .int .i64 0, .int .i64 0, .int .i64 0, .slice none 0 0, .int .u64 0, .int .i64 0, .slice none 0 0, .int .u64 0] := ad.seti 11 rfl cm
  refine ⟨ad.cani 12 rfl rfl, thenW_in fun ba cp => ?_⟩
  have bl := bu.x_set (q := ac.heap.size) (i := 12) rfl (.inr ar) cp
  have ad : Blk ba ac.heap.size 58 [.int .i64 a9, .int .i64 a0, .int .i64 a1, .int .u64 a4, .int .i64 ab, .int .i64 ae, .int .i64 a3, .slice a5 a6 a7, .int .u64 aj, .int .i64 a2, .int .i64 a8, .int .u64 aa, .int .i64 ak, .int .i64 0, .int .i64 0, .slice none 0 0, .int .u64 0, .int .i64 0, .slice none 0 0, .int .u64 0] := ad.seti 12 rfl cp
  refine ⟨ad.cani 13 rfl rfl, thenW_in fun bg ck => ?_⟩
  have bh := bl.x_set (q := ac.heap.size) (i := 13) rfl (.inr ar) ck
  have ad : Blk bg ac.heap.size 58 [.int .i64 a9, .int .i64 a0, .int .i64 a1, .int .u64 a4, .int .i64 ab, .int .i64 ae, .int .i64 a3, .slice a5 a6 a7, .int .u64 aj, .int .i64 a2, .int .i64 a8, .int .u64 aa, .int .i64 ak, .int .i64 al, .int .i64 0, .slice none 0 0, .int .u64 0, .int .i64 0, .slice none 0 0, .int .u64 0] := ad.seti 13 rfl ck
  refine ⟨ad.cani 14 rfl rfl, thenW_in fun bc c6 => ?_⟩
  have c1 := bh.x_set (q := ac.heap.size) (i := 14) rfl (.inr ar) c6
  have ad : Blk bc ac.heap.size 58 [.int .i64 a9, .int .i64 a0, .int .i64 a1, .int .u64 a4, .int .i64 ab, .int .i64 ae, .int .i64 a3, .slice a5 a6 a7, .int .u64 aj, .int .i64 a2, .int .i64 a8, .int .u64 aa, .int .i64 ak, .int .i64 al, .int .i64 af, .slice none 0 0, .int .u64 0, .int .i64 0, .slice none 0 0, .int .u64 0] := ad.seti 14 rfl c6
  refine ⟨ad.cani 15 rfl rfl, thenW_in fun c2 cn => ?_⟩
  have b8 := c1.x_set (q := ac.heap.size) (i := 15) rfl (.inr ar) cn
  have ad : Blk c2 ac.heap.size 58 [.int .i64 a9, .int .i64 a0, .int .i64 a1, .int .u64 a4, .int .i64 ab, .int .i64 ae, .int .i64 a3, .slice a5 a6 a7, .int .u64 aj, .int .i64 a2, .int .i64 a8, .int .u64 aa, .int .i64 ak, .int .i64 al, .int .i64 af, .slice ag ah ai, .int .u64 0, .int .i64 0, .slice none 0 0, .int .u64 0] := ad.seti 15 rfl cn
  refine ⟨ad.cani 16 rfl rfl, thenW_in fun az cj => ?_⟩
  have bs := b8.x_set (q := ac.heap.size) (i := 16) rfl (.inr ar) cj
  have ad : Blk az ac.heap.size 58 [.int .i64 a9, .int .i64 a0, .int .i64 a1, .int .u64 a4, .int .i64 ab, .int .i64 ae, .int .i64 a3, .slice a5 a6 a7, .int .u64 aj, .int .i64 a2, .int .i64 a8, .int .u64 aa, .int .i64 ak, .int .i64 al, .int .i64 af, .slice ag ah ai, .int .u64 am, .int .i64 0, .slice none 0 0, .int .u64 0] := ad.seti 16 rfl cj
  refine ⟨ad.cani 17 rfl rfl, thenW_in fun bv c4 => ?_⟩
  have bk := bs.x_set (q := ac.heap.size) (i := 17) rfl (.inr ar) c4
  have ad : Blk bv ac.heap.size 58 [.int .i64 a9, .int .i64 a0, .int .i64 a1, .int .u64 a4, .int .i64 ab, .int .i64 ae, .int .i64 a3, .slice a5 a6 a7, .int .u64 aj, .int .i64 a2, .int .i64 a8, .int .u64 aa, .int .i64 ak, .int .i64 al, .int .i64 af, .slice ag ah ai, .int .u64 am, .int .i64 an, .slice none 0 0, .int .u64 0] := ad.seti 17 rfl c4
  refine ⟨ad.cani 18 rfl rfl, thenW_in fun b7 ca => ?_⟩
  have br := bk.x_set (q := ac.heap.size) (i := 18) rfl (.inr ar) ca
  have ad : Blk b7 ac.heap.size 58 [.int .i64 a9, .int .i64 a0, .int .i64 a1, .int .u64 a4, .int .i64 ab, .int .i64 ae, .int .i64 a3, .slice a5 a6 a7, .int .u64 aj, .int .i64 a2, .int .i64 a8, .int .u64 aa, .int .i64 ak, .int .i64 al, .int .i64 af, .slice ag ah ai, .int .u64 am, .int .i64 an, .slice av aq au, .int .u64 0] := ad.seti 18 rfl ca
  refine ⟨ad.cani 19 rfl rfl, thenW_in fun ax ce => ?_⟩
  have be := br.x_set (q := ac.heap.size) (i := 19) rfl (.inr ar) ce
  have ad : Blk ax ac.heap.size 58 [.int .i64 a9, .int .i64 a0, .int .i64 a1, .int .u64 a4, .int .i64 ab, .int .i64 ae, .int .i64 a3, .slice a5 a6 a7, .int .u64 aj, .int .i64 a2, .int .i64 a8, .int .u64 aa, .int .i64 ak, .int .i64 al, .int .i64 af, .slice ag ah ai, .int .u64 am, .int .i64 an, .slice av aq au, .int .u64 ap] := ad.seti 19 rfl ce
  refine ⟨a9, a0, a1, a4, ab, ae, a3, a5, a6, a7, aj, a2, a8, aa, ak, al, af, ag, ah, ai, am, an, av, aq, au, ap, ⟨ad.celli 0 rfl rfl, ad.celli 1 rfl rfl, ad.celli 2 rfl rfl, ad.celli 3 rfl rfl, ad.celli 4 rfl rfl, ad.celli 5 rfl rfl, ad.celli 6 rfl rfl, ad.celli 7 rfl rfl, ad.celli 8 rfl rfl, ad.celli 9 rfl rfl, ad.celli 10 rfl rfl, ad.celli 11 rfl rfl, ad.celli 12 rfl rfl, ad.celli 13 rfl rfl, ad.celli 14 rfl rfl, ad.celli 15 rfl rfl, ad.celli 16 rfl rfl, ad.celli 17 rfl rfl, ad.celli 18 rfl rfl, ad.celli 19 rfl rfl, trivial⟩, ?_⟩
  have h := h ax be
  exact h

theorem cachettelaw21_Back.go (al : Int) (a4 : Int) (a9 : Int) (af : Int) (ak : Int) (ai : Int) (ab : Int) (a8 : Option Addr) (aa : Nat) (a7 : Nat) (aj : Int) (a0 : Int) (a3 : Int) (ac : Int) (ad : Int) (ag : Int) (a5 : Int) (a1 : Option Addr) (a2 : Nat) (a6 : Nat) (ae : Int) (ah : Int) (an : Option Addr) (ap : Nat) (ao : Nat) (am : Int) {R : Value → World → Prop} {w : World} (h : cachettelaw21_Back.N al a4 a9 af ak ai ab a8 aa a7 aj a0 a3 ac ad ag a5 a1 a2 a6 ae ah an ap ao am R w) : Calls Try.prog 24 #[.agg #[.int .i64 al, .int .i64 a4, .int .i64 a9, .int .u64 af, .int .i64 ak, .int .i64 ai, .int .i64 ab, .slice a8 aa a7, .int .u64 aj, .int .i64 a0, .int .i64 a3, .int .u64 ac, .int .i64 ad, .int .i64 ag, .int .i64 a5, .slice a1 a2 a6, .int .u64 ae, .int .i64 ah, .slice an ap ao, .int .u64 am]] w fun e w' => ∃ v, e = .returned v ∧ R v w' := cachettelaw21_Back.ok al a4 a9 af ak ai ab a8 aa a7 aj a0 a3 ac ad ag a5 a1 a2 a6 ae ah an ap ao am (cachettelaw21_Back.up al a4 a9 af ak ai ab a8 aa a7 aj a0 a3 ac ad ag a5 a1 a2 a6 ae ah an ap ao am h)
theorem cachettelaw21_Back.run (al : Int) (a4 : Int) (a9 : Int) (af : Int) (ak : Int) (ai : Int) (ab : Int) (a8 : Option Addr) (aa : Nat) (a7 : Nat) (aj : Int) (a0 : Int) (a3 : Int) (ac : Int) (ad : Int) (ag : Int) (a5 : Int) (a1 : Option Addr) (a2 : Nat) (a6 : Nat) (ae : Int) (ah : Int) (an : Option Addr) (ap : Nat) (ao : Nat) (am : Int) {V : Value} {Q : World → Prop} {w : World} (h : cachettelaw21_Back.N al a4 a9 af ak ai ab a8 aa a7 aj a0 a3 ac ad ag a5 a1 a2 a6 ae ah an ap ao am (fun v w' => v = V ∧ Q w') w) : Calls Try.prog 24 #[.agg #[.int .i64 al, .int .i64 a4, .int .i64 a9, .int .u64 af, .int .i64 ak, .int .i64 ai, .int .i64 ab, .slice a8 aa a7, .int .u64 aj, .int .i64 a0, .int .i64 a3, .int .u64 ac, .int .i64 ad, .int .i64 ag, .int .i64 a5, .slice a1 a2 a6, .int .u64 ae, .int .i64 ah, .slice an ap ao, .int .u64 am]] w (Ret V Q) := (cachettelaw21_Back.go al a4 a9 af ak ai ab a8 aa a7 aj a0 a3 ac ad ag a5 a1 a2 a6 ae ah an ap ao am h).mono fun e w' ⟨v, he, hv, hq⟩ => ⟨by rw [he, hv], hq⟩

/-- cachettelaw23.ForkcheckClaims -/
def cachettelaw23_ForkcheckClaims.M (i8 : Option Addr) (er : Nat) (gq : Nat) (k4 : Int) (mo : Option Addr) (m4 : Nat) (mp : Nat) (lz : Int) (j3 : Int) (j9 : Int) (k1 : Int) (lx : Int) (ly : Int) (j5 : Int) (j6 : Option Addr) (j2 : Nat) (iz : Nat) (k5 : Int) (g9 : Int) (j7 : Int) (jn : Int) (k7 : Int) (k2 : Int) (j0 : Int) (j4 : Option Addr) (iy : Nat) (j1 : Nat) (k3 : Int) (m1 : Int) (mn : Option Addr) (m5 : Nat) (mh : Nat) (lw : Int) (R : Value → World → Prop) (w : World) : Prop :=
 thenW (w.alloc (.cells #[.int .i64 lz, .int .i64 j3, .int .i64 j9, .int .u64 k1, .int .i64 lx, .int .i64 ly, .int .i64 j5, .slice j6 j2 iz, .int .u64 k5, .int .i64 g9, .int .i64 j7, .int .u64 jn, .int .i64 k7, .int .i64 k2, .int .i64 j0, .slice j4 iy j1, .int .u64 k3, .int .i64 m1, .slice mn m5 mh, .int .u64 lw] 58)) fun k6 =>
 bif decide ((er : Int) > 50) then (
 Calls Try.prog 5 #[] k6 fun n4 ms => ∃ (gs : Bool), n4 = .returned (.bool gs) ∧
 R (.bool gs) ms) else (
 bif decide ((m4 : Int) > 30) then (
 Calls Try.prog 5 #[] k6 fun n5 n2 => ∃ (gu : Bool), n5 = .returned (.bool gu) ∧
 R (.bool gu) n2) else (
 ∃ (ii : Int) (cv : Int) (e4 : Int) (fi : Int) (ik : Int) (ig : Int) (ec : Int) (ea : Option Addr) (dq : Nat) (ef : Nat) (gw : Int) (cm : Int) (eh : Int) (fe : Int) (gx : Int) (i9 : Int) (dg : Int) (e3 : Option Addr) (dh : Nat) (eb : Nat) (gi : Int) (jo : Int) (kx : Option Addr) (lu : Nat) (l0 : Nat) (ju : Int), cellsAt k6 (blk w.heap.size) [.int .i64 ii, .int .i64 cv, .int .i64 e4, .int .u64 fi, .int .i64 ik, .int .i64 ig, .int .i64 ec, .slice ea dq ef, .int .u64 gw, .int .i64 cm, .int .i64 eh, .int .u64 fe, .int .i64 gx, .int .i64 i9, .int .i64 dg, .slice e3 dh eb, .int .u64 gi, .int .i64 jo, .slice kx lu l0, .int .u64 ju] 0 ∧
 Calls Try.prog 17 #[.agg #[.int .i64 ii, .int .i64 cv, .int .i64 e4, .int .u64 fi, .int .i64 ik, .int .i64 ig, .int .i64 ec, .slice ea dq ef, .int .u64 gw, .int .i64 cm, .int .i64 eh, .int .u64 fe, .int .i64 gx, .int .i64 i9, .int .i64 dg, .slice e3 dh eb, .int .u64 gi, .int .i64 jo, .slice kx lu l0, .int .u64 ju]] k6 fun mv m2 => ∃ (ib : Bool), mv = .returned (.bool ib) ∧
 bif !ib then (
 Calls Try.prog 5 #[] m2 fun mx mr => ∃ (gv : Bool), mx = .returned (.bool gv) ∧
 R (.bool gv) mr) else (
 Calls Try.prog 6 #[.slice i8 er gq] m2 fun my jw => ∃ (ev : Option Addr), my = .returned (.pointer ev) ∧
 thenW (jw.alloc (.cells #[.slice i8 er gq, .slice none 0 0] 63)) fun n6 =>
 Calls Try.prog 7 #[.pointer ev] n6 fun mz mu => ∃ (gc : Int) (c6 : Int), mz = .returned (.tuple #[.int .u64 gc, .int .u64 c6]) ∧
 Calls Try.prog 18 #[.pointer (some (blk jw.heap.size))] mu fun n7 n0 => ∃ (m0 : Int) (lv : Int), n7 = .returned (.tuple #[.int .u64 m0, .int .u64 lv]) ∧
 Calls Try.prog 19 #[.int .i64 k4, .slice mo m4 mp] n0 fun mq n3 => ∃ (io : Option Addr) (i1 : Nat) (i6 : Nat) (j8 : Int), mq = .returned (.tuple #[.slice io i1 i6, .int .i64 j8]) ∧
 Calls Try.prog 20 #[.int .i64 k4, .slice mo m4 mp] n3 fun mw mt => ∃ (i4 : Option Addr) (iq : Nat) (gy : Nat) (jp : Int), mw = .returned (.tuple #[.slice i4 iq gy, .int .i64 jp]) ∧
 Calls Try.prog 21 #[.pointer ev, .int .i64 k4, .int .u64 gc, .slice mo m4 mp] mt fun n1 a1 => ∃ (jj : Int) (d8 : Int) (fk : Int) (gm : Int) (jy : Int) (jb : Int) (f6 : Int) (f8 : Option Addr) (ew : Nat) (fm : Nat) (jl : Int) (ej : Int) (fw : Int) (ip : Int) (jk : Int) (jz : Int) (es : Int) (ff : Option Addr) (fu : Nat) (fr : Nat) (jd : Int) (lm : Int) (mj : Option Addr) (mm : Nat) (md : Nat) (ko : Int) (i2 : Int), n1 = .returned (.tuple #[.agg #[.int .i64 jj, .int .i64 d8, .int .i64 fk, .int .u64 gm, .int .i64 jy, .int .i64 jb, .int .i64 f6, .slice f8 ew fm, .int .u64 jl, .int .i64 ej, .int .i64 fw, .int .u64 ip, .int .i64 jk, .int .i64 jz, .int .i64 es, .slice ff fu fr, .int .u64 jd, .int .i64 lm, .slice mj mm md, .int .u64 ko], .int .i64 i2]) ∧
 thenW (a1.alloc (.cells #[.int .i64 0, .int .i64 0, .int .i64 0, .int .u64 0, .int .i64 0, .int .i64 0, .int .i64 0, .slice none 0 0, .int .u64 0, .int .i64 0, .int .i64 0, .int .u64 0, .int .i64 0, .int .i64 0, .int .i64 0, .slice none 0 0, .int .u64 0, .int .i64 0, .slice none 0 0, .int .u64 0] 69)) fun l9 =>
 canStore l9 ((blk a1.heap.size).add 0) ∧
 thenW (l9.setCell ((blk a1.heap.size).add 0) (.int .i64 jj)) fun lj =>
 canStore lj ((blk a1.heap.size).add 1) ∧
 thenW (lj.setCell ((blk a1.heap.size).add 1) (.int .i64 d8)) fun kc =>
 canStore kc ((blk a1.heap.size).add 2) ∧
 thenW (kc.setCell ((blk a1.heap.size).add 2) (.int .i64 fk)) fun ks =>
 canStore ks ((blk a1.heap.size).add 3) ∧
 thenW (ks.setCell ((blk a1.heap.size).add 3) (.int .u64 gm)) fun lh =>
 canStore lh ((blk a1.heap.size).add 4) ∧
 thenW (lh.setCell ((blk a1.heap.size).add 4) (.int .i64 jy)) fun kg =>
 canStore kg ((blk a1.heap.size).add 5) ∧
 thenW (kg.setCell ((blk a1.heap.size).add 5) (.int .i64 jb)) fun kt =>
 canStore kt ((blk a1.heap.size).add 6) ∧
 thenW (kt.setCell ((blk a1.heap.size).add 6) (.int .i64 f6)) fun ll =>
 canStore ll ((blk a1.heap.size).add 7) ∧
 thenW (ll.setCell ((blk a1.heap.size).add 7) (.slice f8 ew fm)) fun ln =>
 canStore ln ((blk a1.heap.size).add 8) ∧
 thenW (ln.setCell ((blk a1.heap.size).add 8) (.int .u64 jl)) fun kj =>
 canStore kj ((blk a1.heap.size).add 9) ∧
 thenW (kj.setCell ((blk a1.heap.size).add 9) (.int .i64 ej)) fun ku =>
 canStore ku ((blk a1.heap.size).add 10) ∧
 thenW (ku.setCell ((blk a1.heap.size).add 10) (.int .i64 fw)) fun l4 =>
 canStore l4 ((blk a1.heap.size).add 11) ∧
 thenW (l4.setCell ((blk a1.heap.size).add 11) (.int .u64 ip)) fun kd =>
 canStore kd ((blk a1.heap.size).add 12) ∧
 thenW (kd.setCell ((blk a1.heap.size).add 12) (.int .i64 jk)) fun lq =>
 canStore lq ((blk a1.heap.size).add 13) ∧
 thenW (lq.setCell ((blk a1.heap.size).add 13) (.int .i64 jz)) fun kl =>
 canStore kl ((blk a1.heap.size).add 14) ∧
 thenW (kl.setCell ((blk a1.heap.size).add 14) (.int .i64 es)) fun kn =>
 canStore kn ((blk a1.heap.size).add 15) ∧
 thenW (kn.setCell ((blk a1.heap.size).add 15) (.slice ff fu fr)) fun l1 =>
 canStore l1 ((blk a1.heap.size).add 16) ∧
 thenW (l1.setCell ((blk a1.heap.size).add 16) (.int .u64 jd)) fun lp =>
 canStore lp ((blk a1.heap.size).add 17) ∧
 thenW (lp.setCell ((blk a1.heap.size).add 17) (.int .i64 lm)) fun kq =>
 canStore kq ((blk a1.heap.size).add 18) ∧
 thenW (kq.setCell ((blk a1.heap.size).add 18) (.slice mj mm md)) fun kr =>
 canStore kr ((blk a1.heap.size).add 19) ∧
 thenW (kr.setCell ((blk a1.heap.size).add 19) (.int .u64 ko)) fun ma =>
 Calls Try.prog 22 #[.pointer (some (blk jw.heap.size)), .int .i64 k4, .int .u64 gc, .slice mo m4 mp] ma fun mk a0 => ∃ (ir : Int) (c3 : Int) (e1 : Int) (fo : Int) (ge : Int) (ia : Int) (ei : Int) (dw : Option Addr) (de : Nat) (db : Nat) (ih : Int) (bp : Int) (e8 : Int) (fs : Int) (i5 : Int) (iu : Int) (ed : Int) (e2 : Option Addr) (e9 : Nat) (d7 : Nat) (i7 : Int) (jh : Int) (lb : Option Addr) (lf : Nat) (ls : Nat) (je : Int) (ex : Int), mk = .returned (.tuple #[.agg #[.int .i64 ir, .int .i64 c3, .int .i64 e1, .int .u64 fo, .int .i64 ge, .int .i64 ia, .int .i64 ei, .slice dw de db, .int .u64 ih, .int .i64 bp, .int .i64 e8, .int .u64 fs, .int .i64 i5, .int .i64 iu, .int .i64 ed, .slice e2 e9 d7, .int .u64 i7, .int .i64 jh, .slice lb lf ls, .int .u64 je], .int .i64 ex]) ∧
 thenW (a0.alloc (.cells #[.int .i64 0, .int .i64 0, .int .i64 0, .int .u64 0, .int .i64 0, .int .i64 0, .int .i64 0, .slice none 0 0, .int .u64 0, .int .i64 0, .int .i64 0, .int .u64 0, .int .i64 0, .int .i64 0, .int .i64 0, .slice none 0 0, .int .u64 0, .int .i64 0, .slice none 0 0, .int .u64 0] 58)) fun kh =>
 canStore kh ((blk a0.heap.size).add 0) ∧
 thenW (kh.setCell ((blk a0.heap.size).add 0) (.int .i64 ir)) fun lo =>
 canStore lo ((blk a0.heap.size).add 1) ∧
 thenW (lo.setCell ((blk a0.heap.size).add 1) (.int .i64 c3)) fun l2 =>
 canStore l2 ((blk a0.heap.size).add 2) ∧
 thenW (l2.setCell ((blk a0.heap.size).add 2) (.int .i64 e1)) fun l8 =>
 canStore l8 ((blk a0.heap.size).add 3) ∧
 thenW (l8.setCell ((blk a0.heap.size).add 3) (.int .u64 fo)) fun l3 =>
 canStore l3 ((blk a0.heap.size).add 4) ∧
 thenW (l3.setCell ((blk a0.heap.size).add 4) (.int .i64 ge)) fun kv =>
 canStore kv ((blk a0.heap.size).add 5) ∧
 thenW (kv.setCell ((blk a0.heap.size).add 5) (.int .i64 ia)) fun le =>
 canStore le ((blk a0.heap.size).add 6) ∧
 thenW (le.setCell ((blk a0.heap.size).add 6) (.int .i64 ei)) fun l7 =>
 canStore l7 ((blk a0.heap.size).add 7) ∧
 thenW (l7.setCell ((blk a0.heap.size).add 7) (.slice dw de db)) fun km =>
 canStore km ((blk a0.heap.size).add 8) ∧
 thenW (km.setCell ((blk a0.heap.size).add 8) (.int .u64 ih)) fun lt =>
 canStore lt ((blk a0.heap.size).add 9) ∧
 thenW (lt.setCell ((blk a0.heap.size).add 9) (.int .i64 bp)) fun ld =>
 canStore ld ((blk a0.heap.size).add 10) ∧
 thenW (ld.setCell ((blk a0.heap.size).add 10) (.int .i64 e8)) fun l6 =>
 canStore l6 ((blk a0.heap.size).add 11) ∧
 thenW (l6.setCell ((blk a0.heap.size).add 11) (.int .u64 fs)) fun k9 =>
 canStore k9 ((blk a0.heap.size).add 12) ∧
 thenW (k9.setCell ((blk a0.heap.size).add 12) (.int .i64 i5)) fun lk =>
 canStore lk ((blk a0.heap.size).add 13) ∧
 thenW (lk.setCell ((blk a0.heap.size).add 13) (.int .i64 iu)) fun kz =>
 canStore kz ((blk a0.heap.size).add 14) ∧
 thenW (kz.setCell ((blk a0.heap.size).add 14) (.int .i64 ed)) fun ky =>
 canStore ky ((blk a0.heap.size).add 15) ∧
 thenW (ky.setCell ((blk a0.heap.size).add 15) (.slice e2 e9 d7)) fun lr =>
 canStore lr ((blk a0.heap.size).add 16) ∧
 thenW (lr.setCell ((blk a0.heap.size).add 16) (.int .u64 i7)) fun li =>
 canStore li ((blk a0.heap.size).add 17) ∧
 thenW (li.setCell ((blk a0.heap.size).add 17) (.int .i64 jh)) fun l5 =>
 canStore l5 ((blk a0.heap.size).add 18) ∧
 thenW (l5.setCell ((blk a0.heap.size).add 18) (.slice lb lf ls)) fun k8 =>
 canStore k8 ((blk a0.heap.size).add 19) ∧
 thenW (k8.setCell ((blk a0.heap.size).add 19) (.int .u64 je)) fun mg =>
 thenW (mg.drew) fun m7 =>
 Calls Try.prog 13 #[.slice io i1 i6, .slice i4 iq gy] m7 fun m6 fx => ∃ (i3 : Bool), m6 = .returned (.bool i3) ∧
 bif i3 then (
 bif j8 == jp then (
 ∃ (fh : Int) (bh : Int) (c9 : Int) (di : Int) (fc : Int) (eu : Int) (cq : Int) (co : Option Addr) (br : Nat) (ct : Nat) (ey : Int) (bj : Int) (cn : Int) (dv : Int) (f7 : Int) (g1 : Int) (cs : Int) (c7 : Option Addr) (ce : Nat) (c0 : Nat) (fq : Int) (ix : Int) (jf : Option Addr) (jq : Nat) (jg : Nat) (gg : Int), cellsAt fx (blk a1.heap.size) [.int .i64 fh, .int .i64 bh, .int .i64 c9, .int .u64 di, .int .i64 fc, .int .i64 eu, .int .i64 cq, .slice co br ct, .int .u64 ey, .int .i64 bj, .int .i64 cn, .int .u64 dv, .int .i64 f7, .int .i64 g1, .int .i64 cs, .slice c7 ce c0, .int .u64 fq, .int .i64 ix, .slice jf jq jg, .int .u64 gg] 0 ∧
 ∃ (bv : Int) (ah : Int) (av : Int) (bd : Int) (bu : Int) (ca : Int) (aq : Int) (b4 : Option Addr) (ak : Nat) (an : Nat) (bw : Int) (ag : Int) (aw : Int) (bg : Int) (ci : Int) (c5 : Int) (b1 : Int) (am : Option Addr) (al : Nat) (b2 : Nat) (cr : Int) (ep : Int) (gb : Option Addr) (g5 : Nat) (ga : Nat) (ek : Int), cellsAt fx (blk a0.heap.size) [.int .i64 bv, .int .i64 ah, .int .i64 av, .int .u64 bd, .int .i64 bu, .int .i64 ca, .int .i64 aq, .slice b4 ak an, .int .u64 bw, .int .i64 ag, .int .i64 aw, .int .u64 bg, .int .i64 ci, .int .i64 c5, .int .i64 b1, .slice am al b2, .int .u64 cr, .int .i64 ep, .slice gb g5 ga, .int .u64 ek] 0 ∧
 Calls Try.prog 24 #[.agg #[.int .i64 fh, .int .i64 bh, .int .i64 c9, .int .u64 di, .int .i64 fc, .int .i64 eu, .int .i64 cq, .slice co br ct, .int .u64 ey, .int .i64 bj, .int .i64 cn, .int .u64 dv, .int .i64 f7, .int .i64 g1, .int .i64 cs, .slice c7 ce c0, .int .u64 fq, .int .i64 ix, .slice jf jq jg, .int .u64 gg]] fx fun m8 kk => ∃ (gr : Int) (d3 : Int) (e6 : Int) (f0 : Int) (gn : Int) (gd : Int) (dj : Int) (eg : Option Addr) (dc : Nat) (da : Nat) (gj : Int) (cp : Int) (dn : Int) (f3 : Int) (i0 : Int) (it : Int) (dx : Int) (dl : Option Addr) (dz : Nat) (e7 : Nat) (gf : Int) (k0 : Int) (kp : Option Addr) (ke : Nat) (la : Nat) (jt : Int), m8 = .returned (.agg #[.int .i64 gr, .int .i64 d3, .int .i64 e6, .int .u64 f0, .int .i64 gn, .int .i64 gd, .int .i64 dj, .slice eg dc da, .int .u64 gj, .int .i64 cp, .int .i64 dn, .int .u64 f3, .int .i64 i0, .int .i64 it, .int .i64 dx, .slice dl dz e7, .int .u64 gf, .int .i64 k0, .slice kp ke la, .int .u64 jt]) ∧
 cellsAt kk (blk a0.heap.size) [.int .i64 bv, .int .i64 ah, .int .i64 av, .int .u64 bd, .int .i64 bu, .int .i64 ca, .int .i64 aq, .slice b4 ak an, .int .u64 bw, .int .i64 ag, .int .i64 aw, .int .u64 bg, .int .i64 ci, .int .i64 c5, .int .i64 b1, .slice am al b2, .int .u64 cr, .int .i64 ep, .slice gb g5 ga, .int .u64 ek] 0 ∧
 Calls Try.prog 23 #[.agg #[.int .i64 gr, .int .i64 d3, .int .i64 e6, .int .u64 f0, .int .i64 gn, .int .i64 gd, .int .i64 dj, .slice eg dc da, .int .u64 gj, .int .i64 cp, .int .i64 dn, .int .u64 f3, .int .i64 i0, .int .i64 it, .int .i64 dx, .slice dl dz e7, .int .u64 gf, .int .i64 k0, .slice kp ke la, .int .u64 jt], .agg #[.int .i64 bv, .int .i64 ah, .int .i64 av, .int .u64 bd, .int .i64 bu, .int .i64 ca, .int .i64 aq, .slice b4 ak an, .int .u64 bw, .int .i64 ag, .int .i64 aw, .int .u64 bg, .int .i64 ci, .int .i64 c5, .int .i64 b1, .slice am al b2, .int .u64 cr, .int .i64 ep, .slice gb g5 ga, .int .u64 ek]] kk fun m9 fy => ∃ (gl : Bool), m9 = .returned (.bool gl) ∧
 bif gl then (
 bif i2 == ex then (
 ∃ (fp : Int) (bl : Int) (d1 : Int) (e5 : Int) (f5 : Int) (fv : Int) (cc : Int) (d2 : Option Addr) (cy : Nat) (bt : Nat) (fj : Int) (bk : Int) (bx : Int) (dt : Int) (g3 : Int) (fg : Int) (c2 : Int) (cu : Option Addr) (bs : Nat) (c1 : Nat) (fz : Int) (iv : Int) (ji : Option Addr) (jr : Nat) (jc : Nat) (ie : Int), cellsAt fy (blk a1.heap.size) [.int .i64 fp, .int .i64 bl, .int .i64 d1, .int .u64 e5, .int .i64 f5, .int .i64 fv, .int .i64 cc, .slice d2 cy bt, .int .u64 fj, .int .i64 bk, .int .i64 bx, .int .u64 dt, .int .i64 g3, .int .i64 fg, .int .i64 c2, .slice cu bs c1, .int .u64 fz, .int .i64 iv, .slice ji jr jc, .int .u64 ie] 0 ∧
 ∃ (c8 : Int) (af : Int) (ao : Int) (bf : Int) (cf : Int) (cz : Int) (ar : Int) (ay : Option Addr) (b0 : Nat) (b5 : Nat) (d4 : Int) (ae : Int) (ax : Int) (be : Int) (d6 : Int) (c4 : Int) (ap : Int) (az : Option Addr) (b3 : Nat) (au : Nat) (cj : Int) (el : Int) (g8 : Option Addr) (g7 : Nat) (g6 : Nat) (en : Int), cellsAt fy (blk a0.heap.size) [.int .i64 c8, .int .i64 af, .int .i64 ao, .int .u64 bf, .int .i64 cf, .int .i64 cz, .int .i64 ar, .slice ay b0 b5, .int .u64 d4, .int .i64 ae, .int .i64 ax, .int .u64 be, .int .i64 d6, .int .i64 c4, .int .i64 ap, .slice az b3 au, .int .u64 cj, .int .i64 el, .slice g8 g7 g6, .int .u64 en] 0 ∧
 Calls Try.prog 25 #[.pointer ev, .int .u64 c6, .agg #[.int .i64 fp, .int .i64 bl, .int .i64 d1, .int .u64 e5, .int .i64 f5, .int .i64 fv, .int .i64 cc, .slice d2 cy bt, .int .u64 fj, .int .i64 bk, .int .i64 bx, .int .u64 dt, .int .i64 g3, .int .i64 fg, .int .i64 c2, .slice cu bs c1, .int .u64 fz, .int .i64 iv, .slice ji jr jc, .int .u64 ie]] fy fun mc ka => ∃ (ft : Bool), mc = .returned (.bool ft) ∧
 cellsAt ka (blk a0.heap.size) [.int .i64 c8, .int .i64 af, .int .i64 ao, .int .u64 bf, .int .i64 cf, .int .i64 cz, .int .i64 ar, .slice ay b0 b5, .int .u64 d4, .int .i64 ae, .int .i64 ax, .int .u64 be, .int .i64 d6, .int .i64 c4, .int .i64 ap, .slice az b3 au, .int .u64 cj, .int .i64 el, .slice g8 g7 g6, .int .u64 en] 0 ∧
 Calls Try.prog 26 #[.pointer (some (blk jw.heap.size)), .int .u64 c6, .agg #[.int .i64 c8, .int .i64 af, .int .i64 ao, .int .u64 bf, .int .i64 cf, .int .i64 cz, .int .i64 ar, .slice ay b0 b5, .int .u64 d4, .int .i64 ae, .int .i64 ax, .int .u64 be, .int .i64 d6, .int .i64 c4, .int .i64 ap, .slice az b3 au, .int .u64 cj, .int .i64 el, .slice g8 g7 g6, .int .u64 en]] ka fun mb gz => ∃ (fl : Bool), mb = .returned (.bool fl) ∧
 bif ft == fl then (
 ∃ (fa : Int) (bm : Int) (cl : Int) (dr : Int) (f9 : Int) (g4 : Int) (d0 : Int) (d5 : Option Addr) (cd : Nat) (ch : Nat) (g2 : Int) (bi : Int) (ck : Int) (df : Int) (f1 : Int) (fb : Int) (cw : Int) (cg : Option Addr) (cx : Nat) (bq : Nat) (ez : Int) (iw : Int) (js : Option Addr) (jx : Nat) (ja : Nat) (gk : Int), cellsAt gz (blk w.heap.size) [.int .i64 fa, .int .i64 bm, .int .i64 cl, .int .u64 dr, .int .i64 f9, .int .i64 g4, .int .i64 d0, .slice d5 cd ch, .int .u64 g2, .int .i64 bi, .int .i64 ck, .int .u64 df, .int .i64 f1, .int .i64 fb, .int .i64 cw, .slice cg cx bq, .int .u64 ez, .int .i64 iw, .slice js jx ja, .int .u64 gk] 0 ∧
 ∃ (ba : Int) (a2 : Int) (a7 : Int) (aj : Int) (b9 : Int) (b7 : Int) (a4 : Int) (a5 : Option Addr) (ac : Nat) (a8 : Nat) (b8 : Int) (a3 : Int) (aa : Int) (ai : Int) (bc : Int) (bb : Int) (ad : Int) (a6 : Option Addr) (a9 : Nat) (ab : Nat) (b6 : Int) (bo : Int) (eo : Option Addr) (eq : Nat) (em : Nat) (bn : Int), cellsAt gz (blk w.heap.size) [.int .i64 ba, .int .i64 a2, .int .i64 a7, .int .u64 aj, .int .i64 b9, .int .i64 b7, .int .i64 a4, .slice a5 ac a8, .int .u64 b8, .int .i64 a3, .int .i64 aa, .int .u64 ai, .int .i64 bc, .int .i64 bb, .int .i64 ad, .slice a6 a9 ab, .int .u64 b6, .int .i64 bo, .slice eo eq em, .int .u64 bn] 0 ∧
 Calls Try.prog 27 #[.agg #[.int .i64 fa, .int .i64 bm, .int .i64 cl, .int .u64 dr, .int .i64 f9, .int .i64 g4, .int .i64 d0, .slice d5 cd ch, .int .u64 g2, .int .i64 bi, .int .i64 ck, .int .u64 df, .int .i64 f1, .int .i64 fb, .int .i64 cw, .slice cg cx bq, .int .u64 ez, .int .i64 iw, .slice js jx ja, .int .u64 gk]] gz fun mi kf => ∃ (gt : Int) (cb : Int) (dd : Int) (et : Int) (ic : Int) (gh : Int) (dk : Int) (du : Option Addr) (d9 : Nat) (dm : Nat) (im : Int) (bz : Int) (ee : Int) (f4 : Int) (il : Int) (gp : Int) (e0 : Int) (dp : Option Addr) (ds : Nat) (dy : Nat) (ij : Int) (jm : Int) (kb : Option Addr) (lg : Nat) (lc : Nat) (jv : Int), mi = .returned (.agg #[.int .i64 gt, .int .i64 cb, .int .i64 dd, .int .u64 et, .int .i64 ic, .int .i64 gh, .int .i64 dk, .slice du d9 dm, .int .u64 im, .int .i64 bz, .int .i64 ee, .int .u64 f4, .int .i64 il, .int .i64 gp, .int .i64 e0, .slice dp ds dy, .int .u64 ij, .int .i64 jm, .slice kb lg lc, .int .u64 jv]) ∧
 cellsAt kf (blk w.heap.size) [.int .i64 ba, .int .i64 a2, .int .i64 a7, .int .u64 aj, .int .i64 b9, .int .i64 b7, .int .i64 a4, .slice a5 ac a8, .int .u64 b8, .int .i64 a3, .int .i64 aa, .int .u64 ai, .int .i64 bc, .int .i64 bb, .int .i64 ad, .slice a6 a9 ab, .int .u64 b6, .int .i64 bo, .slice eo eq em, .int .u64 bn] 0 ∧
 Calls Try.prog 25 #[.pointer ev, .int .u64 c6, .agg #[.int .i64 gt, .int .i64 cb, .int .i64 dd, .int .u64 et, .int .i64 ic, .int .i64 gh, .int .i64 dk, .slice du d9 dm, .int .u64 im, .int .i64 bz, .int .i64 ee, .int .u64 f4, .int .i64 il, .int .i64 gp, .int .i64 e0, .slice dp ds dy, .int .u64 ij, .int .i64 jm, .slice kb lg lc, .int .u64 jv]] kf fun me ki => ∃ (fd : Bool), me = .returned (.bool fd) ∧
 cellsAt ki (blk w.heap.size) [.int .i64 ba, .int .i64 a2, .int .i64 a7, .int .u64 aj, .int .i64 b9, .int .i64 b7, .int .i64 a4, .slice a5 ac a8, .int .u64 b8, .int .i64 a3, .int .i64 aa, .int .u64 ai, .int .i64 bc, .int .i64 bb, .int .i64 ad, .slice a6 a9 ab, .int .u64 b6, .int .i64 bo, .slice eo eq em, .int .u64 bn] 0 ∧
 Calls Try.prog 26 #[.pointer (some (blk jw.heap.size)), .int .u64 c6, .agg #[.int .i64 ba, .int .i64 a2, .int .i64 a7, .int .u64 aj, .int .i64 b9, .int .i64 b7, .int .i64 a4, .slice a5 ac a8, .int .u64 b8, .int .i64 a3, .int .i64 aa, .int .u64 ai, .int .i64 bc, .int .i64 bb, .int .i64 ad, .slice a6 a9 ab, .int .u64 b6, .int .i64 bo, .slice eo eq em, .int .u64 bn]] ki fun mf kw => ∃ (g0 : Bool), mf = .returned (.bool g0) ∧
 bif fd == g0 then (
 Calls Try.prog 5 #[] kw fun m3 ml => ∃ (f2 : Bool), m3 = .returned (.bool f2) ∧
 R (.bool f2) ml) else (
 R (.bool false) kw)) else (
 R (.bool false) gz)) else (
 R (.bool false) fy)) else (
 R (.bool false) fy)) else (
 R (.bool false) fx)) else (
 R (.bool false) fx))))

theorem cachettelaw23_ForkcheckClaims.eq (draws1a : Option Addr) (draws1n : Nat) (draws1c : Nat) (who2 : Int) (v3a : Option Addr) (v3n : Nat) (v3c : Nat) (fKind4 : Int) (fEWriter5 : Int) (fEIndex6 : Int) (fEPrev7 : Int) (fEAtT8 : Int) (fEAtW9 : Int) (fEEpoch10 : Int) (fEBody11a : Option Addr) (fEBody11n : Nat) (fEBody11c : Nat) (fESig12 : Int) (fFWriter13 : Int) (fFIndex14 : Int) (fFPrev15 : Int) (fFAtT16 : Int) (fFAtW17 : Int) (fFEpoch18 : Int) (fFBody19a : Option Addr) (fFBody19n : Nat) (fFBody19c : Nat) (fFSig20 : Int) (fWho21 : Int) (fV22a : Option Addr) (fV22n : Nat) (fV22c : Nat) (fSig23 : Int) (R : Value → World → Prop) (w : World) : mfunc Try.prog [] 4 [.slice draws1a draws1n draws1c, .int .i64 who2, .slice v3a v3n v3c, .agg #[.int .i64 fKind4, .int .i64 fEWriter5, .int .i64 fEIndex6, .int .u64 fEPrev7, .int .i64 fEAtT8, .int .i64 fEAtW9, .int .i64 fEEpoch10, .slice fEBody11a fEBody11n fEBody11c, .int .u64 fESig12, .int .i64 fFWriter13, .int .i64 fFIndex14, .int .u64 fFPrev15, .int .i64 fFAtT16, .int .i64 fFAtW17, .int .i64 fFEpoch18, .slice fFBody19a fFBody19n fFBody19c, .int .u64 fFSig20, .int .i64 fWho21, .slice fV22a fV22n fV22c, .int .u64 fSig23]] R w = cachettelaw23_ForkcheckClaims.M draws1a draws1n draws1c who2 v3a v3n v3c fKind4 fEWriter5 fEIndex6 fEPrev7 fEAtT8 fEAtW9 fEEpoch10 fEBody11a fEBody11n fEBody11c fESig12 fFWriter13 fFIndex14 fFPrev15 fFAtT16 fFAtW17 fFEpoch18 fFBody19a fFBody19n fFBody19c fFSig20 fWho21 fV22a fV22n fV22c fSig23 R w := by kernel_rfl
theorem cachettelaw23_ForkcheckClaims.ok (ag : Option Addr) (ae : Nat) (ad : Nat) (av : Int) (ay : Option Addr) (aw : Nat) (ax : Nat) (am : Int) (a8 : Int) (ab : Int) (aj : Int) (an : Int) (ao : Int) (a4 : Int) (a5 : Option Addr) (a6 : Nat) (a7 : Nat) (ah : Int) (a0 : Int) (aa : Int) (ac : Int) (ai : Int) (ak : Int) (a9 : Int) (a3 : Option Addr) (a1 : Nat) (a2 : Nat) (af : Int) (al : Int) (au : Option Addr) (aq : Nat) (ar : Nat) (ap : Int) {R : Value → World → Prop} {w : World} (h : cachettelaw23_ForkcheckClaims.M ag ae ad av ay aw ax am a8 ab aj an ao a4 a5 a6 a7 ah a0 aa ac ai ak a9 a3 a1 a2 af al au aq ar ap R w) : Calls Try.prog 4 #[.slice ag ae ad, .int .i64 av, .slice ay aw ax, .agg #[.int .i64 am, .int .i64 a8, .int .i64 ab, .int .u64 aj, .int .i64 an, .int .i64 ao, .int .i64 a4, .slice a5 a6 a7, .int .u64 ah, .int .i64 a0, .int .i64 aa, .int .u64 ac, .int .i64 ai, .int .i64 ak, .int .i64 a9, .slice a3 a1 a2, .int .u64 af, .int .i64 al, .slice au aq ar, .int .u64 ap]] w fun e w' => ∃ v, e = .returned v ∧ R v w' :=
  mfunc_ok follows (H := []) (args := [.slice ag ae ad, .int .i64 av, .slice ay aw ax, .agg #[.int .i64 am, .int .i64 a8, .int .i64 ab, .int .u64 aj, .int .i64 an, .int .i64 ao, .int .i64 a4, .slice a5 a6 a7, .int .u64 ah, .int .i64 a0, .int .i64 aa, .int .u64 ac, .int .i64 ai, .int .i64 ak, .int .i64 a9, .slice a3 a1 a2, .int .u64 af, .int .i64 al, .slice au aq ar, .int .u64 ap]]) (by rw [cachettelaw23_ForkcheckClaims.eq]; exact h)

def cachettelaw23_ForkcheckClaims.N (dj : Option Addr) (ap : Nat) (dp : Nat) (em : Int) (fk : Option Addr) (f8 : Nat) (fl : Nat) (d0 : Int) (ai : Int) (aw : Int) (cf : Int) (cu : Int) (cv : Int) (a8 : Int) (a9 : Option Addr) (ah : Nat) (af : Nat) (cj : Int) (a1 : Int) (ao : Int) (b5 : Int) (c5 : Int) (cg : Int) (ab : Int) (a5 : Option Addr) (a3 : Nat) (ad : Nat) (ci : Int) (ct : Int) (ek : Option Addr) (e4 : Nat) (e6 : Nat) (d9 : Int) (R : Value → World → Prop) (w : World) : Prop :=
 ((ap : Int) > 50 →
 ∀ (bg : World), Ext no w bg →
 Calls Try.prog 5 #[] bg fun fz fv => ∃ (dc : Bool), fz = .returned (.bool dc) ∧
 R (.bool dc) fv) ∧
 ((ap : Int) ≤ 50 →
 ((f8 : Int) > 30 →
 ∀ (bg : World), Ext no w bg →
 Calls Try.prog 5 #[] bg fun fo fm => ∃ (dd : Bool), fo = .returned (.bool dd) ∧
 R (.bool dd) fm) ∧
 ((f8 : Int) ≤ 30 →
 ∀ (bg : World) (cs : Nat), Ext no w bg → Priv w bg [cs] →
 Calls Try.prog 17 #[.agg #[.int .i64 d0, .int .i64 ai, .int .i64 aw, .int .u64 cf, .int .i64 cu, .int .i64 cv, .int .i64 a8, .slice a9 ah af, .int .u64 cj, .int .i64 a1, .int .i64 ao, .int .u64 b5, .int .i64 c5, .int .i64 cg, .int .i64 ab, .slice a5 a3 ad, .int .u64 ci, .int .i64 ct, .slice ek e4 e6, .int .u64 d9]] bg fun fw en => ∃ (ch : Bool), fw = .returned (.bool ch) ∧
 Keep [cs] bg en ∧
 (ch = false →
 Calls Try.prog 5 #[] en fun fq fp => ∃ (db : Bool), fq = .returned (.bool db) ∧
 R (.bool db) fp) ∧
 (ch = true →
 Calls Try.prog 6 #[.slice dj ap dp] en fun fr ex => ∃ (cm : Option Addr), fr = .returned (.pointer cm) ∧
 Keep [cs] en ex ∧
 ∀ (eg : World) (ew : Nat), Ext no ex eg → Blk eg ew 63 [.slice dj ap dp, .slice none 0 0] → ex.heap.size ≤ ew → ew < eg.heap.size →
 Calls Try.prog 7 #[.pointer cm] eg fun fx ey => ∃ (d5 : Int) (aq : Int), fx = .returned (.tuple #[.int .u64 d5, .int .u64 aq]) ∧
 Keep [cs] eg ey ∧
 Calls Try.prog 18 #[.pointer (some (blk ew))] ey fun fy f4 => ∃ (f5 : Int) (f7 : Int), fy = .returned (.tuple #[.int .u64 f5, .int .u64 f7]) ∧
 Keep [cs] ey f4 ∧
 Calls Try.prog 19 #[.int .i64 em, .slice fk f8 fl] f4 fun ft f1 => ∃ (da : Option Addr) (de : Nat) (ds : Nat) (d8 : Int), ft = .returned (.tuple #[.slice da de ds, .int .i64 d8]) ∧
 Keep [cs] f4 f1 ∧
 Calls Try.prog 20 #[.int .i64 em, .slice fk f8 fl] f1 fun fu f2 => ∃ (dz : Option Addr) (du : Nat) (dt : Nat) (cz : Int), fu = .returned (.tuple #[.slice dz du dt, .int .i64 cz]) ∧
 Keep [cs] f1 f2 ∧
 Calls Try.prog 21 #[.pointer cm, .int .i64 em, .int .u64 d5, .slice fk f8 fl] f2 fun fs f0 => ∃ (d4 : Int) (ac : Int) (b2 : Int) (c9 : Int) (cy : Int) (d2 : Int) (az : Int) (b8 : Option Addr) (ba : Nat) (bb : Nat) (d7 : Int) (aj : Int) (au : Int) (cb : Int) (d1 : Int) (d3 : Int) (b3 : Int) (b7 : Option Addr) (b9 : Nat) (ay : Nat) (d6 : Int) (ee : Int) (f6 : Option Addr) (ez : Nat) (f3 : Nat) (ec : Int) (ce : Int), fs = .returned (.tuple #[.agg #[.int .i64 d4, .int .i64 ac, .int .i64 b2, .int .u64 c9, .int .i64 cy, .int .i64 d2, .int .i64 az, .slice b8 ba bb, .int .u64 d7, .int .i64 aj, .int .i64 au, .int .u64 cb, .int .i64 d1, .int .i64 d3, .int .i64 b3, .slice b7 b9 ay, .int .u64 d6, .int .i64 ee, .slice f6 ez f3, .int .u64 ec], .int .i64 ce]) ∧
 Keep [cs] f2 f0 ∧
 ∀ (dg : World) (ej : Nat), Ext no f0 dg → Priv f0 dg [ej] →
 Calls Try.prog 22 #[.pointer (some (blk ew)), .int .i64 em, .int .u64 d5, .slice fk f8 fl] dg fun fd eb => ∃ (c4 : Int) (a0 : Int) (aa : Int) (bf : Int) (c3 : Int) (cd : Int) (a4 : Int) (a7 : Option Addr) (a6 : Nat) (al : Nat) (c7 : Int) (a2 : Int) (ak : Int) (bc : Int) (ca : Int) (cc : Int) (an : Int) (am : Option Addr) (ae : Nat) (ag : Nat) (c8 : Int) (cw : Int) (ea : Option Addr) (e8 : Nat) (el : Nat) (cx : Int) (b1 : Int), fd = .returned (.tuple #[.agg #[.int .i64 c4, .int .i64 a0, .int .i64 aa, .int .u64 bf, .int .i64 c3, .int .i64 cd, .int .i64 a4, .slice a7 a6 al, .int .u64 c7, .int .i64 a2, .int .i64 ak, .int .u64 bc, .int .i64 ca, .int .i64 cc, .int .i64 an, .slice am ae ag, .int .u64 c8, .int .i64 cw, .slice ea e8 el, .int .u64 cx], .int .i64 b1]) ∧
 Keep [cs, ej] dg eb ∧
 ∀ (dx : World) (eh : Nat), Ext no eb dx → Priv eb dx [eh] →
 Calls Try.prog 13 #[.slice da de ds, .slice dz du dt] dx fun f9 cn => ∃ (c6 : Bool), f9 = .returned (.bool c6) ∧
 Keep [cs, ej, eh] dx cn ∧
 (c6 = true →
 (d8 = cz →
 Calls Try.prog 24 #[.agg #[.int .i64 d4, .int .i64 ac, .int .i64 b2, .int .u64 c9, .int .i64 cy, .int .i64 d2, .int .i64 az, .slice b8 ba bb, .int .u64 d7, .int .i64 aj, .int .i64 au, .int .u64 cb, .int .i64 d1, .int .i64 d3, .int .i64 b3, .slice b7 b9 ay, .int .u64 d6, .int .i64 ee, .slice f6 ez f3, .int .u64 ec]] cn fun fi ef => ∃ (dq : Int) (av : Int) (bz : Int) (cl : Int) (dm : Int) (dk : Int) (bu : Int) (c0 : Option Addr) (bw : Nat) (bm : Nat) (dv : Int) (b6 : Int) (bk : Int) (ck : Int) (dy : Int) (dw : Int) (bp : Int) (bn : Option Addr) (bq : Nat) (bt : Nat) (df : Int) (e9 : Int) (ep : Option Addr) (er : Nat) (et : Nat) (e5 : Int), fi = .returned (.agg #[.int .i64 dq, .int .i64 av, .int .i64 bz, .int .u64 cl, .int .i64 dm, .int .i64 dk, .int .i64 bu, .slice c0 bw bm, .int .u64 dv, .int .i64 b6, .int .i64 bk, .int .u64 ck, .int .i64 dy, .int .i64 dw, .int .i64 bp, .slice bn bq bt, .int .u64 df, .int .i64 e9, .slice ep er et, .int .u64 e5]) ∧
 Keep [cs, ej, eh] cn ef ∧
 Calls Try.prog 23 #[.agg #[.int .i64 dq, .int .i64 av, .int .i64 bz, .int .u64 cl, .int .i64 dm, .int .i64 dk, .int .i64 bu, .slice c0 bw bm, .int .u64 dv, .int .i64 b6, .int .i64 bk, .int .u64 ck, .int .i64 dy, .int .i64 dw, .int .i64 bp, .slice bn bq bt, .int .u64 df, .int .i64 e9, .slice ep er et, .int .u64 e5], .agg #[.int .i64 c4, .int .i64 a0, .int .i64 aa, .int .u64 bf, .int .i64 c3, .int .i64 cd, .int .i64 a4, .slice a7 a6 al, .int .u64 c7, .int .i64 a2, .int .i64 ak, .int .u64 bc, .int .i64 ca, .int .i64 cc, .int .i64 an, .slice am ae ag, .int .u64 c8, .int .i64 cw, .slice ea e8 el, .int .u64 cx]] ef fun fa co => ∃ (c2 : Bool), fa = .returned (.bool c2) ∧
 Keep [cs, ej, eh] ef co ∧
 (c2 = true →
 (ce = b1 →
 Calls Try.prog 25 #[.pointer cm, .int .u64 aq, .agg #[.int .i64 d4, .int .i64 ac, .int .i64 b2, .int .u64 c9, .int .i64 cy, .int .i64 d2, .int .i64 az, .slice b8 ba bb, .int .u64 d7, .int .i64 aj, .int .i64 au, .int .u64 cb, .int .i64 d1, .int .i64 d3, .int .i64 b3, .slice b7 b9 ay, .int .u64 d6, .int .i64 ee, .slice f6 ez f3, .int .u64 ec]] co fun fc ei => ∃ (b4 : Bool), fc = .returned (.bool b4) ∧
 Keep [cs, eh] co ei ∧
 Calls Try.prog 26 #[.pointer (some (blk ew)), .int .u64 aq, .agg #[.int .i64 c4, .int .i64 a0, .int .i64 aa, .int .u64 bf, .int .i64 c3, .int .i64 cd, .int .i64 a4, .slice a7 a6 al, .int .u64 c7, .int .i64 a2, .int .i64 ak, .int .u64 bc, .int .i64 ca, .int .i64 cc, .int .i64 an, .slice am ae ag, .int .u64 c8, .int .i64 cw, .slice ea e8 el, .int .u64 cx]] ei fun fe e2 => ∃ (b0 : Bool), fe = .returned (.bool b0) ∧
 Keep [cs] ei e2 ∧
 (b4 = b0 →
 Calls Try.prog 27 #[.agg #[.int .i64 d0, .int .i64 ai, .int .i64 aw, .int .u64 cf, .int .i64 cu, .int .i64 cv, .int .i64 a8, .slice a9 ah af, .int .u64 cj, .int .i64 a1, .int .i64 ao, .int .u64 b5, .int .i64 c5, .int .i64 cg, .int .i64 ab, .slice a5 a3 ad, .int .u64 ci, .int .i64 ct, .slice ek e4 e6, .int .u64 d9]] e2 fun ff e3 => ∃ (e1 : Int) (ar : Int) (c1 : Int) (cr : Int) (dn : Int) (dl : Int) (bs : Int) (bl : Option Addr) (bj : Nat) (bv : Nat) (dh : Int) (be : Int) (bo : Int) (cp : Int) (dr : Int) (di : Int) (bh : Int) (bx : Option Addr) (bi : Nat) (br : Nat) (e0 : Int) (ed : Int) (eo : Option Addr) (es : Nat) (eq : Nat) (e7 : Int), ff = .returned (.agg #[.int .i64 e1, .int .i64 ar, .int .i64 c1, .int .u64 cr, .int .i64 dn, .int .i64 dl, .int .i64 bs, .slice bl bj bv, .int .u64 dh, .int .i64 be, .int .i64 bo, .int .u64 cp, .int .i64 dr, .int .i64 di, .int .i64 bh, .slice bx bi br, .int .u64 e0, .int .i64 ed, .slice eo es eq, .int .u64 e7]) ∧
 Keep [cs] e2 e3 ∧
 Calls Try.prog 25 #[.pointer cm, .int .u64 aq, .agg #[.int .i64 e1, .int .i64 ar, .int .i64 c1, .int .u64 cr, .int .i64 dn, .int .i64 dl, .int .i64 bs, .slice bl bj bv, .int .u64 dh, .int .i64 be, .int .i64 bo, .int .u64 cp, .int .i64 dr, .int .i64 di, .int .i64 bh, .slice bx bi br, .int .u64 e0, .int .i64 ed, .slice eo es eq, .int .u64 e7]] e3 fun fh ev => ∃ (bd : Bool), fh = .returned (.bool bd) ∧
 Keep [cs] e3 ev ∧
 Calls Try.prog 26 #[.pointer (some (blk ew)), .int .u64 aq, .agg #[.int .i64 d0, .int .i64 ai, .int .i64 aw, .int .u64 cf, .int .i64 cu, .int .i64 cv, .int .i64 a8, .slice a9 ah af, .int .u64 cj, .int .i64 a1, .int .i64 ao, .int .u64 b5, .int .i64 c5, .int .i64 cg, .int .i64 ab, .slice a5 a3 ad, .int .u64 ci, .int .i64 ct, .slice ek e4 e6, .int .u64 d9]] ev fun fg eu => ∃ (ax : Bool), fg = .returned (.bool ax) ∧
 (bd = ax →
 Calls Try.prog 5 #[] eu fun fj fb => ∃ (cq : Bool), fj = .returned (.bool cq) ∧
 R (.bool cq) fb) ∧
 (bd ≠ ax →
 R (.bool false) eu)) ∧
 (b4 ≠ b0 →
 R (.bool false) e2)) ∧
 (ce ≠ b1 →
 R (.bool false) co)) ∧
 (c2 = false →
 R (.bool false) co)) ∧
 (d8 ≠ cz →
 R (.bool false) cn)) ∧
 (c6 = false →
 R (.bool false) cn))))

theorem cachettelaw23_ForkcheckClaims.up (cl : Option Addr) (cm : Nat) (cj : Nat) (gf : Int) (kb : Option Addr) (k4 : Nat) (kk : Nat) (c3 : Int) (bk : Int) (bq : Int) (bt : Int) (c1 : Int) (c2 : Int) (bm : Int) (bn : Option Addr) (bj : Nat) (bg : Nat) (bw : Int) (bd : Int) (bo : Int) (br : Int) (bx : Int) (bu : Int) (bh : Int) (bl : Option Addr) (bf : Nat) (bi : Nat) (bv : Int) (c4 : Int) (ce : Option Addr) (ca : Nat) (cc : Nat) (c0 : Int) {R : Value → World → Prop} {w : World} (h : cachettelaw23_ForkcheckClaims.N cl cm cj gf kb k4 kk c3 bk bq bt c1 c2 bm bn bj bg bw bd bo br bx bu bh bl bf bi bv c4 ce ca cc c0 R w) : cachettelaw23_ForkcheckClaims.M cl cm cj gf kb k4 kk c3 bk bq bt c1 c2 bm bn bj bg bw bd bo br bx bu bh bl bf bi bv c4 ce ca cc c0 R w := by
  unfold cachettelaw23_ForkcheckClaims.M
  unfold cachettelaw23_ForkcheckClaims.N at h
  refine thenW_in fun fh kf => ?_
  have a1 := Blk.of_new kf
  have ky := ((Ext.refl no w)).size
  have fb := (Ext.refl no w).x_alloc kf
  refine bif_of (fun ja => ?_) (fun ja => ?_)
  · have h := h.1 (of_decide_eq_true ja)
    have h := h fh fb
    refine h.mono fun kn kv h => ?_
    obtain ⟨dl, he, h⟩ := h
    refine ⟨dl, he, ?_⟩
    exact h
  · have h := h.2 (Int.not_lt.1 (of_decide_eq_false ja))
    refine bif_of (fun ji => ?_) (fun ji => ?_)
    · have h := h.1 (of_decide_eq_true ji)
      have h := h fh fb
      refine h.mono fun ku kz h => ?_
      obtain ⟨ea, he, h⟩ := h
      refine ⟨ea, he, ?_⟩
      exact h
    · have h := h.2 (Int.not_lt.1 (of_decide_eq_false ji))
      refine ⟨c3, bk, bq, bt, c1, c2, bm, bn, bj, bg, bw, bd, bo, br, bx, bu, bh, bl, bf, bi, bv, c4, ce, ca, cc, c0, ⟨a1.celli 0 rfl rfl, a1.celli 1 rfl rfl, a1.celli 2 rfl rfl, a1.celli 3 rfl rfl, a1.celli 4 rfl rfl, a1.celli 5 rfl rfl, a1.celli 6 rfl rfl, a1.celli 7 rfl rfl, a1.celli 8 rfl rfl, a1.celli 9 rfl rfl, a1.celli 10 rfl rfl, a1.celli 11 rfl rfl, a1.celli 12 rfl rfl, a1.celli 13 rfl rfl, a1.celli 14 rfl rfl, a1.celli 15 rfl rfl, a1.celli 16 rfl rfl, a1.celli 17 rfl rfl, a1.celli 18 rfl rfl, a1.celli 19 rfl rfl, trivial⟩, ?_⟩
      have h := h fh (w.heap.size) fb (Priv.cons ky a1.lt Priv.nil)
      refine h.mono fun kt l4 h => ?_
      obtain ⟨ej, he, hk, h⟩ := h
      refine ⟨ej, he, ?_⟩
      have a1 := hk.blk a1 (by simp)
      refine bif_of (fun jl => ?_) (fun jl => ?_)
      · have h := h.1 (not_t jl)
        refine h.mono fun kq ko h => ?_
        obtain ⟨eo, he, h⟩ := h
        refine ⟨eo, he, ?_⟩
        exact h
      · have h := h.2 (not_f jl)
        refine h.mono fun l0 ez h => ?_
        obtain ⟨ga, he, hk, h⟩ := h
        refine ⟨ga, he, ?_⟩
        have a1 := hk.blk a1 (by simp)
        refine thenW_in fun ix ip => ?_
        have a1 := a1.x_alloc ip
        have h := h ix ez.heap.size ((Ext.refl no ez).x_alloc ip) (Blk.of_new ip) ((Ext.refl no ez)).size (size_lt_alloc ip)
        refine h.mono fun l2 kp h => ?_
        obtain ⟨fe, f5, he, hk, h⟩ := h
        refine ⟨fe, f5, he, ?_⟩
        have a1 := hk.blk a1 (by simp)
        refine h.mono fun km l3 h => ?_
        obtain ⟨fd, fq, he, hk, h⟩ := h
        refine ⟨fd, fq, he, ?_⟩
        have a1 := hk.blk a1 (by simp)
        refine h.mono fun kr l1 h => ?_
        obtain ⟨e9, dm, ei, fj, he, hk, h⟩ := h
        refine ⟨e9, dm, ei, fj, he, ?_⟩
        have a1 := hk.blk a1 (by simp)
        refine h.mono fun ks kx h => ?_
        obtain ⟨ek, e1, ev, fg, he, hk, h⟩ := h
        refine ⟨ek, e1, ev, fg, he, ?_⟩
        have a1 := hk.blk a1 (by simp)
        refine h.mono fun kl a8 h => ?_
        obtain ⟨ao, a3, a7, ah, ar, aw, ag, ak, al, aj, az, ai, aq, ay, bc, be, b6, b9, bb, ba, bs, c7, dd, di, dg, ck, dt, he, hk, h⟩ := h
        refine ⟨ao, a3, a7, ah, ar, aw, ag, ak, al, aj, az, ai, aq, ay, bc, be, b6, b9, bb, ba, bs, c7, dd, di, dg, ck, dt, he, ?_⟩
        have a1 := hk.blk a1 (by simp)
        refine thenW_in fun kw ir => ?_
        have a4 := Blk.of_new ir
        have c5 := ((Ext.refl no a8)).size
        have b4 := Nat.ne_of_lt a1.lt
        have a1 := a1.x_alloc ir
        have jb := (Ext.refl no a8).x_alloc ir
        refine ⟨a4.cani 0 rfl rfl, thenW_in fun jo jv => ?_⟩
        have iu := jb.x_set (q := a8.heap.size) (i := 0) rfl (.inr c5) jv
        have a1 := a1.oth (q := a8.heap.size) (i := 0) rfl b4 jv
        have a4 : Blk jo a8.heap.size 69 [.int .i64 ao, .int .i64 0, .int .i64 0, .int .u64 0, .int .i64 0, .int .i64 0, .int .i64 0, .slice none 0 0, .int .u64 0, .int .i64 0, .int .i64 0, .int .u64 0, .int .i64 0, .int .i64 0, .int .i64 0, .slice none 0 0, .int .u64 0, .int .i64 0, .slice none 0 0, .int .u64 0] := a4.seti 0 rfl jv
        refine ⟨a4.cani 1 rfl rfl, thenW_in fun j8 j6 => ?_⟩
        have iw := iu.x_set (q := a8.heap.size) (i := 1) rfl (.inr c5) j6
        have a1 := a1.oth (q := a8.heap.size) (i := 1) rfl b4 j6
        have a4 : Blk j8 a8.heap.size 69 [.int .i64 ao, .int .i64 a3, .int .i64 0, .int .u64 0, .int .i64 0, .int .i64 0, .int .i64 0, .slice none 0 0, .int .u64 0, .int .i64 0, .int .i64 0, .int .u64 0, .int .i64 0, .int .i64 0, .int .i64 0, .slice none 0 0, .int .u64 0, .int .i64 0, .slice none 0 0, .int .u64 0] := a4.seti 1 rfl j6
        refine ⟨a4.cani 2 rfl rfl, thenW_in fun js jm => ?_⟩
        have jc := iw.x_set (q := a8.heap.size) (i := 2) rfl (.inr c5) jm
        have a1 := a1.oth (q := a8.heap.size) (i := 2) rfl b4 jm
        have a4 : Blk js a8.heap.size 69 [.int .i64 ao, .int .i64 a3, .int .i64 a7, .int .u64 0, .int .i64 0, .int .i64 0, .int .i64 0, .slice none 0 0, .int .u64 0, .int .i64 0, .int .i64 0, .int .u64 0, .int .i64 0, .int .i64 0, .int .i64 0, .slice none 0 0, .int .u64 0, .int .i64 0, .slice none 0 0, .int .u64 0] := a4.seti 2 rfl jm
        refine ⟨a4.cani 3 rfl rfl, thenW_in fun iq iy => ?_⟩
        have j3 := jc.x_set (q := a8.heap.size) (i := 3) rfl (.inr c5) iy
        have a1 := a1.oth (q := a8.heap.size) (i := 3) rfl b4 iy
        have a4 : Blk iq a8.heap.size 69 [.int .i64 ao, .int .i64 a3, .int .i64 a7, .int .u64 ah, .int .i64 0, .int .i64 0, .int .i64 0, .slice none 0 0, .int .u64 0, .int .i64 0, .int .i64 0, .int .u64 0, .int .i64 0, .int .i64 0, .int .i64 0, .slice none 0 0, .int .u64 0, .int .i64 0, .slice none 0 0, .int .u64 0] := a4.seti 3 rfl iy
        refine ⟨a4.cani 4 rfl rfl, thenW_in fun jp jn => ?_⟩
        have j4 := j3.x_set (q := a8.heap.size) (i := 4) rfl (.inr c5) jn
        have a1 := a1.oth (q := a8.heap.size) (i := 4) rfl b4 jn
        have a4 : Blk jp a8.heap.size 69 [.int .i64 ao, .int .i64 a3, .int .i64 a7, .int .u64 ah, .int .i64 ar, .int .i64 0, .int .i64 0, .slice none 0 0, .int .u64 0, .int .i64 0, .int .i64 0, .int .u64 0, .int .i64 0, .int .i64 0, .int .i64 0, .slice none 0 0, .int .u64 0, .int .i64 0, .slice none 0 0, .int .u64 0] := a4.seti 4 rfl jn
        refine ⟨a4.cani 5 rfl rfl, thenW_in fun jk jh => ?_⟩
        have iz := j4.x_set (q := a8.heap.size) (i := 5) rfl (.inr c5) jh
        have a1 := a1.oth (q := a8.heap.size) (i := 5) rfl b4 jh
        have a4 : Blk jk a8.heap.size 69 [.int .i64 ao, .int .i64 a3, .int .i64 a7, .int .u64 ah, .int .i64 ar, .int .i64 aw, .int .i64 0, .slice none 0 0, .int .u64 0, .int .i64 0, .int .i64 0, .int .u64 0, .int .i64 0, .int .i64 0, .int .i64 0, .slice none 0 0, .int .u64 0, .int .i64 0, .slice none 0 0, .int .u64 0] := a4.seti 5 rfl jh
        refine ⟨a4.cani 6 rfl rfl, thenW_in fun jt jj => ?_⟩
        have jd := iz.x_set (q := a8.heap.size) (i := 6) rfl (.inr c5) jj
        have a1 := a1.oth (q := a8.heap.size) (i := 6) rfl b4 jj
        have a4 : Blk jt a8.heap.size 69 [.int .i64 ao, .int .i64 a3, .int .i64 a7, .int .u64 ah, .int .i64 ar, .int .i64 aw, .int .i64 ag, .slice none 0 0, .int .u64 0, .int .i64 0, .int .i64 0, .int .u64 0, .int .i64 0, .int .i64 0, .int .i64 0, .slice none 0 0, .int .u64 0, .int .i64 0, .slice none 0 0, .int .u64 0] := a4.seti 6 rfl jj
        refine ⟨a4.cani 7 rfl rfl, thenW_in fun j0 je => ?_⟩
        have j9 := jd.x_set (q := a8.heap.size) (i := 7) rfl (.inr c5) je
        have a1 := a1.oth (q := a8.heap.size) (i := 7) rfl b4 je
        have a4 : Blk j0 a8.heap.size 69 [.int .i64 ao, .int .i64 a3, .int .i64 a7, .int .u64 ah, .int .i64 ar, .int .i64 aw, .int .i64 ag, .slice ak al aj, .int .u64 0, .int .i64 0, .int .i64 0, .int .u64 0, .int .i64 0, .int .i64 0, .int .i64 0, .slice none 0 0, .int .u64 0, .int .i64 0, .slice none 0 0, .int .u64 0] := a4.seti 7 rfl je
        refine ⟨a4.cani 8 rfl rfl, thenW_in fun j2 ju => ?_⟩
        have jw := j9.x_set (q := a8.heap.size) (i := 8) rfl (.inr c5) ju
        have a1 := a1.oth (q := a8.heap.size) (i := 8) rfl b4 ju
        have a4 : Blk j2 a8.heap.size 69 [.int .i64 ao, .int .i64 a3, .int .i64 a7, .int .u64 ah, .int .i64 ar, .int .i64 aw, .int .i64 ag, .slice ak al aj, .int .u64 az, .int .i64 0, .int .i64 0, .int .u64 0, .int .i64 0, .int .i64 0, .int .i64 0, .slice none 0 0, .int .u64 0, .int .i64 0, .slice none 0 0, .int .u64 0] := a4.seti 8 rfl ju
        refine ⟨a4.cani 9 rfl rfl, thenW_in fun jq iv => ?_⟩
        have jg := jw.x_set (q := a8.heap.size) (i := 9) rfl (.inr c5) iv
        have a1 := a1.oth (q := a8.heap.size) (i := 9) rfl b4 iv
        have a4 : Blk jq a8.heap.size 69 [.int .i64 ao, .int .i64 a3, .int .i64 a7, .int .u64 ah, .int .i64 ar, .int .i64 aw, .int .i64 ag, .slice ak al aj, .int .u64 az, .int .i64 ai, .int .i64 0, .int .u64 0, .int .i64 0, .int .i64 0, .int .i64 0, .slice none 0 0, .int .u64 0, .int .i64 0, .slice none 0 0, .int .u64 0] := a4.seti 9 rfl iv
        refine ⟨a4.cani 10 rfl rfl, thenW_in fun j7 jf => ?_⟩
        have jr := jg.x_set (q := a8.heap.size) (i := 10) rfl (.inr c5) jf
        have a1 := a1.oth (q := a8.heap.size) (i := 10) rfl b4 jf
        have a4 : Blk j7 a8.heap.size 69 [.int .i64 ao, .int .i64 a3, .int .i64 a7, .int .u64 ah, .int .i64 ar, .int .i64 aw, .int .i64 ag, .slice ak al aj, .int .u64 az, .int .i64 ai, .int .i64 aq, .int .u64 0, .int .i64 0, .int .i64 0, .int .i64 0, .slice none 0 0, .int .u64 0, .int .i64 0, .slice none 0 0, .int .u64 0] := a4.seti 10 rfl jf
        refine ⟨a4.cani 11 rfl rfl, thenW_in fun j5 it => ?_⟩
        have j1 := jr.x_set (q := a8.heap.size) (i := 11) rfl (.inr c5) it
        have a1 := a1.oth (q := a8.heap.size) (i := 11) rfl b4 it
        have a4 : Blk j5 a8.heap.size 69 [.int .i64 ao, .int .i64 a3, .int .i64 a7, .int .u64 ah, .int .i64 ar, .int .i64 aw, .int .i64 ag, .slice ak al aj, .int .u64 az, .int .i64 ai, .int .i64 aq, .int .u64 ay, .int .i64 0, .int .i64 0, .int .i64 0, .slice none 0 0, .int .u64 0, .int .i64 0, .slice none 0 0, .int .u64 0] := a4.seti 11 rfl it
        refine ⟨a4.cani 12 rfl rfl, thenW_in fun gu f2 => ?_⟩
        have g8 := j1.x_set (q := a8.heap.size) (i := 12) rfl (.inr c5) f2
        have a1 := a1.oth (q := a8.heap.size) (i := 12) rfl b4 f2
        have a4 : Blk gu a8.heap.size 69 [.int .i64 ao, .int .i64 a3, .int .i64 a7, .int .u64 ah, .int .i64 ar, .int .i64 aw, .int .i64 ag, .slice ak al aj, .int .u64 az, .int .i64 ai, .int .i64 aq, .int .u64 ay, .int .i64 bc, .int .i64 0, .int .i64 0, .slice none 0 0, .int .u64 0, .int .i64 0, .slice none 0 0, .int .u64 0] := a4.seti 12 rfl f2
        refine ⟨a4.cani 13 rfl rfl, thenW_in fun i5 f6 => ?_⟩
        have g2 := g8.x_set (q := a8.heap.size) (i := 13) rfl (.inr c5) f6
        have a1 := a1.oth (q := a8.heap.size) (i := 13) rfl b4 f6
        have a4 : Blk i5 a8.heap.size 69 [.int .i64 ao, .int .i64 a3, .int .i64 a7, .int .u64 ah, .int .i64 ar, .int .i64 aw, .int .i64 ag, .slice ak al aj, .int .u64 az, .int .i64 ai, .int .i64 aq, .int .u64 ay, .int .i64 bc, .int .i64 be, .int .i64 0, .slice none 0 0, .int .u64 0, .int .i64 0, .slice none 0 0, .int .u64 0] := a4.seti 13 rfl f6
        refine ⟨a4.cani 14 rfl rfl, thenW_in fun fr f8 => ?_⟩
        have ic := g2.x_set (q := a8.heap.size) (i := 14) rfl (.inr c5) f8
        have a1 := a1.oth (q := a8.heap.size) (i := 14) rfl b4 f8
        have a4 : Blk fr a8.heap.size 69 [.int .i64 ao, .int .i64 a3, .int .i64 a7, .int .u64 ah, .int .i64 ar, .int .i64 aw, .int .i64 ag, .slice ak al aj, .int .u64 az, .int .i64 ai, .int .i64 aq, .int .u64 ay, .int .i64 bc, .int .i64 be, .int .i64 b6, .slice none 0 0, .int .u64 0, .int .i64 0, .slice none 0 0, .int .u64 0] := a4.seti 14 rfl f8
        refine ⟨a4.cani 15 rfl rfl, thenW_in fun gb f3 => ?_⟩
        have i3 := ic.x_set (q := a8.heap.size) (i := 15) rfl (.inr c5) f3
        have a1 := a1.oth (q := a8.heap.size) (i := 15) rfl b4 f3
        have a4 : Blk gb a8.heap.size 69 [.int .i64 ao, .int .i64 a3, .int .i64 a7, .int .u64 ah, .int .i64 ar, .int .i64 aw, .int .i64 ag, .slice ak al aj, .int .u64 az, .int .i64 ai, .int .i64 aq, .int .u64 ay, .int .i64 bc, .int .i64 be, .int .i64 b6, .slice b9 bb ba, .int .u64 0, .int .i64 0, .slice none 0 0, .int .u64 0] := a4.seti 15 rfl f3
        refine ⟨a4.cani 16 rfl rfl, thenW_in fun i4 fm => ?_⟩
        have ij := i3.x_set (q := a8.heap.size) (i := 16) rfl (.inr c5) fm
        have a1 := a1.oth (q := a8.heap.size) (i := 16) rfl b4 fm
        have a4 : Blk i4 a8.heap.size 69 [.int .i64 ao, .int .i64 a3, .int .i64 a7, .int .u64 ah, .int .i64 ar, .int .i64 aw, .int .i64 ag, .slice ak al aj, .int .u64 az, .int .i64 ai, .int .i64 aq, .int .u64 ay, .int .i64 bc, .int .i64 be, .int .i64 b6, .slice b9 bb ba, .int .u64 bs, .int .i64 0, .slice none 0 0, .int .u64 0] := a4.seti 16 rfl fm
        refine ⟨a4.cani 17 rfl rfl, thenW_in fun fu fl => ?_⟩
        have i8 := ij.x_set (q := a8.heap.size) (i := 17) rfl (.inr c5) fl
        have a1 := a1.oth (q := a8.heap.size) (i := 17) rfl b4 fl
        have a4 : Blk fu a8.heap.size 69 [.int .i64 ao, .int .i64 a3, .int .i64 a7, .int .u64 ah, .int .i64 ar, .int .i64 aw, .int .i64 ag, .slice ak al aj, .int .u64 az, .int .i64 ai, .int .i64 aq, .int .u64 ay, .int .i64 bc, .int .i64 be, .int .i64 b6, .slice b9 bb ba, .int .u64 bs, .int .i64 c7, .slice none 0 0, .int .u64 0] := a4.seti 17 rfl fl
        refine ⟨a4.cani 18 rfl rfl, thenW_in fun gd f0 => ?_⟩
        have ia := i8.x_set (q := a8.heap.size) (i := 18) rfl (.inr c5) f0
        have a1 := a1.oth (q := a8.heap.size) (i := 18) rfl b4 f0
        have a4 : Blk gd a8.heap.size 69 [.int .i64 ao, .int .i64 a3, .int .i64 a7, .int .u64 ah, .int .i64 ar, .int .i64 aw, .int .i64 ag, .slice ak al aj, .int .u64 az, .int .i64 ai, .int .i64 aq, .int .u64 ay, .int .i64 bc, .int .i64 be, .int .i64 b6, .slice b9 bb ba, .int .u64 bs, .int .i64 c7, .slice dd di dg, .int .u64 0] := a4.seti 18 rfl f0
        refine ⟨a4.cani 19 rfl rfl, thenW_in fun ey f4 => ?_⟩
        have gq := ia.x_set (q := a8.heap.size) (i := 19) rfl (.inr c5) f4
        have a1 := a1.oth (q := a8.heap.size) (i := 19) rfl b4 f4
        have a4 : Blk ey a8.heap.size 69 [.int .i64 ao, .int .i64 a3, .int .i64 a7, .int .u64 ah, .int .i64 ar, .int .i64 aw, .int .i64 ag, .slice ak al aj, .int .u64 az, .int .i64 ai, .int .i64 aq, .int .u64 ay, .int .i64 bc, .int .i64 be, .int .i64 b6, .slice b9 bb ba, .int .u64 bs, .int .i64 c7, .slice dd di dg, .int .u64 ck] := a4.seti 19 rfl f4
        have h := h ey (a8.heap.size) gq (Priv.cons c5 a4.lt Priv.nil)
        refine h.mono fun jz a0 h => ?_
        obtain ⟨ab, a2, a5, aa, am, ap, a9, ad, ae, af, au, ac, an, av, b7, b8, ax, b3, b0, b1, bp, bz, cd, cb, c9, c8, d8, he, hk, h⟩ := h
        refine ⟨ab, a2, a5, aa, am, ap, a9, ad, ae, af, au, ac, an, av, b7, b8, ax, b3, b0, b1, bp, bz, cd, cb, c9, c8, d8, he, ?_⟩
        have a1 := hk.blk a1 (by simp)
        have a4 := hk.blk a4 (by simp)
        refine thenW_in fun k2 eb => ?_
        have a6 := Blk.of_new eb
        have c6 := ((Ext.refl no a0)).size
        have b5 := Nat.ne_of_lt a1.lt
        have a1 := a1.x_alloc eb
        have b2 := Nat.ne_of_lt a4.lt
        have a4 := a4.x_alloc eb
        have im := (Ext.refl no a0).x_alloc eb
        refine ⟨a6.cani 0 rfl rfl, thenW_in fun i7 dz => ?_⟩
        have gs := im.x_set (q := a0.heap.size) (i := 0) rfl (.inr c6) dz
        have a1 := a1.oth (q := a0.heap.size) (i := 0) rfl b5 dz
        have a4 := a4.oth (q := a0.heap.size) (i := 0) rfl b2 dz
        have a6 : Blk i7 a0.heap.size 58 [.int .i64 ab, .int .i64 0, .int .i64 0, .int .u64 0, .int .i64 0, .int .i64 0, .int .i64 0, .slice none 0 0, .int .u64 0, .int .i64 0, .int .i64 0, .int .u64 0, .int .i64 0, .int .i64 0, .int .i64 0, .slice none 0 0, .int .u64 0, .int .i64 0, .slice none 0 0, .int .u64 0] := a6.seti 0 rfl dz
        refine ⟨a6.cani 1 rfl rfl, thenW_in fun i0 ep => ?_⟩
        have ii := gs.x_set (q := a0.heap.size) (i := 1) rfl (.inr c6) ep
        have a1 := a1.oth (q := a0.heap.size) (i := 1) rfl b5 ep
        have a4 := a4.oth (q := a0.heap.size) (i := 1) rfl b2 ep
        have a6 : Blk i0 a0.heap.size 58 [.int .i64 ab, .int .i64 a2, .int .i64 0, .int .u64 0, .int .i64 0, .int .i64 0, .int .i64 0, .slice none 0 0, .int .u64 0, .int .i64 0, .int .i64 0, .int .u64 0, .int .i64 0, .int .i64 0, .int .i64 0, .slice none 0 0, .int .u64 0, .int .i64 0, .slice none 0 0, .int .u64 0] := a6.seti 1 rfl ep
        refine ⟨a6.cani 2 rfl rfl, thenW_in fun gc ef => ?_⟩
        have gg := ii.x_set (q := a0.heap.size) (i := 2) rfl (.inr c6) ef
        have a1 := a1.oth (q := a0.heap.size) (i := 2) rfl b5 ef
        have a4 := a4.oth (q := a0.heap.size) (i := 2) rfl b2 ef
        have a6 : Blk gc a0.heap.size 58 [.int .i64 ab, .int .i64 a2, .int .i64 a5, .int .u64 0, .int .i64 0, .int .i64 0, .int .i64 0, .slice none 0 0, .int .u64 0, .int .i64 0, .int .i64 0, .int .u64 0, .int .i64 0, .int .i64 0, .int .i64 0, .slice none 0 0, .int .u64 0, .int .i64 0, .slice none 0 0, .int .u64 0] := a6.seti 2 rfl ef
        refine ⟨a6.cani 3 rfl rfl, thenW_in fun gy e0 => ?_⟩
        have gp := gg.x_set (q := a0.heap.size) (i := 3) rfl (.inr c6) e0
        have a1 := a1.oth (q := a0.heap.size) (i := 3) rfl b5 e0
        have a4 := a4.oth (q := a0.heap.size) (i := 3) rfl b2 e0
        have a6 : Blk gy a0.heap.size 58 [.int .i64 ab, .int .i64 a2, .int .i64 a5, .int .u64 aa, .int .i64 0, .int .i64 0, .int .i64 0, .slice none 0 0, .int .u64 0, .int .i64 0, .int .i64 0, .int .u64 0, .int .i64 0, .int .i64 0, .int .i64 0, .slice none 0 0, .int .u64 0, .int .i64 0, .slice none 0 0, .int .u64 0] := a6.seti 3 rfl e0
        refine ⟨a6.cani 4 rfl rfl, thenW_in fun i9 em => ?_⟩
        have gj := gp.x_set (q := a0.heap.size) (i := 4) rfl (.inr c6) em
        have a1 := a1.oth (q := a0.heap.size) (i := 4) rfl b5 em
        have a4 := a4.oth (q := a0.heap.size) (i := 4) rfl b2 em
        have a6 : Blk i9 a0.heap.size 58 [.int .i64 ab, .int .i64 a2, .int .i64 a5, .int .u64 aa, .int .i64 am, .int .i64 0, .int .i64 0, .slice none 0 0, .int .u64 0, .int .i64 0, .int .i64 0, .int .u64 0, .int .i64 0, .int .i64 0, .int .i64 0, .slice none 0 0, .int .u64 0, .int .i64 0, .slice none 0 0, .int .u64 0] := a6.seti 4 rfl em
        refine ⟨a6.cani 5 rfl rfl, thenW_in fun g3 en => ?_⟩
        have gw := gj.x_set (q := a0.heap.size) (i := 5) rfl (.inr c6) en
        have a1 := a1.oth (q := a0.heap.size) (i := 5) rfl b5 en
        have a4 := a4.oth (q := a0.heap.size) (i := 5) rfl b2 en
        have a6 : Blk g3 a0.heap.size 58 [.int .i64 ab, .int .i64 a2, .int .i64 a5, .int .u64 aa, .int .i64 am, .int .i64 ap, .int .i64 0, .slice none 0 0, .int .u64 0, .int .i64 0, .int .i64 0, .int .u64 0, .int .i64 0, .int .i64 0, .int .i64 0, .slice none 0 0, .int .u64 0, .int .i64 0, .slice none 0 0, .int .u64 0] := a6.seti 5 rfl en
        refine ⟨a6.cani 6 rfl rfl, thenW_in fun fz ex => ?_⟩
        have ig := gw.x_set (q := a0.heap.size) (i := 6) rfl (.inr c6) ex
        have a1 := a1.oth (q := a0.heap.size) (i := 6) rfl b5 ex
        have a4 := a4.oth (q := a0.heap.size) (i := 6) rfl b2 ex
        have a6 : Blk fz a0.heap.size 58 [.int .i64 ab, .int .i64 a2, .int .i64 a5, .int .u64 aa, .int .i64 am, .int .i64 ap, .int .i64 a9, .slice none 0 0, .int .u64 0, .int .i64 0, .int .i64 0, .int .u64 0, .int .i64 0, .int .i64 0, .int .i64 0, .slice none 0 0, .int .u64 0, .int .i64 0, .slice none 0 0, .int .u64 0] := a6.seti 6 rfl ex
        refine ⟨a6.cani 7 rfl rfl, thenW_in fun gl dp => ?_⟩
        have ft := ig.x_set (q := a0.heap.size) (i := 7) rfl (.inr c6) dp
        have a1 := a1.oth (q := a0.heap.size) (i := 7) rfl b5 dp
        have a4 := a4.oth (q := a0.heap.size) (i := 7) rfl b2 dp
        have a6 : Blk gl a0.heap.size 58 [.int .i64 ab, .int .i64 a2, .int .i64 a5, .int .u64 aa, .int .i64 am, .int .i64 ap, .int .i64 a9, .slice ad ae af, .int .u64 0, .int .i64 0, .int .i64 0, .int .u64 0, .int .i64 0, .int .i64 0, .int .i64 0, .slice none 0 0, .int .u64 0, .int .i64 0, .slice none 0 0, .int .u64 0] := a6.seti 7 rfl dp
        refine ⟨a6.cani 8 rfl rfl, thenW_in fun g5 ee => ?_⟩
        have il := ft.x_set (q := a0.heap.size) (i := 8) rfl (.inr c6) ee
        have a1 := a1.oth (q := a0.heap.size) (i := 8) rfl b5 ee
        have a4 := a4.oth (q := a0.heap.size) (i := 8) rfl b2 ee
        have a6 : Blk g5 a0.heap.size 58 [.int .i64 ab, .int .i64 a2, .int .i64 a5, .int .u64 aa, .int .i64 am, .int .i64 ap, .int .i64 a9, .slice ad ae af, .int .u64 au, .int .i64 0, .int .i64 0, .int .u64 0, .int .i64 0, .int .i64 0, .int .i64 0, .slice none 0 0, .int .u64 0, .int .i64 0, .slice none 0 0, .int .u64 0] := a6.seti 8 rfl ee
        refine ⟨a6.cani 9 rfl rfl, thenW_in fun fy el => ?_⟩
        have gi := il.x_set (q := a0.heap.size) (i := 9) rfl (.inr c6) el
        have a1 := a1.oth (q := a0.heap.size) (i := 9) rfl b5 el
        have a4 := a4.oth (q := a0.heap.size) (i := 9) rfl b2 el
        have a6 : Blk fy a0.heap.size 58 [.int .i64 ab, .int .i64 a2, .int .i64 a5, .int .u64 aa, .int .i64 am, .int .i64 ap, .int .i64 a9, .slice ad ae af, .int .u64 au, .int .i64 ac, .int .i64 0, .int .u64 0, .int .i64 0, .int .i64 0, .int .i64 0, .slice none 0 0, .int .u64 0, .int .i64 0, .slice none 0 0, .int .u64 0] := a6.seti 9 rfl el
        refine ⟨a6.cani 10 rfl rfl, thenW_in fun g6 eu => ?_⟩
        have fx := gi.x_set (q := a0.heap.size) (i := 10) rfl (.inr c6) eu
        have a1 := a1.oth (q := a0.heap.size) (i := 10) rfl b5 eu
        have a4 := a4.oth (q := a0.heap.size) (i := 10) rfl b2 eu
        have a6 : Blk g6 a0.heap.size 58 [.int .i64 ab, .int .i64 a2, .int .i64 a5, .int .u64 aa, .int .i64 am, .int .i64 ap, .int .i64 a9, .slice ad ae af, .int .u64 au, .int .i64 ac, .int .i64 an, .int .u64 0, .int .i64 0, .int .i64 0, .int .i64 0, .slice none 0 0, .int .u64 0, .int .i64 0, .slice none 0 0, .int .u64 0] := a6.seti 10 rfl eu
        refine ⟨a6.cani 11 rfl rfl, thenW_in fun fv ec => ?_⟩
        have i6 := fx.x_set (q := a0.heap.size) (i := 11) rfl (.inr c6) ec
        have a1 := a1.oth (q := a0.heap.size) (i := 11) rfl b5 ec
        have a4 := a4.oth (q := a0.heap.size) (i := 11) rfl b2 ec
        have a6 : Blk fv a0.heap.size 58 [.int .i64 ab, .int .i64 a2, .int .i64 a5, .int .u64 aa, .int .i64 am, .int .i64 ap, .int .i64 a9, .slice ad ae af, .int .u64 au, .int .i64 ac, .int .i64 an, .int .u64 av, .int .i64 0, .int .i64 0, .int .i64 0, .slice none 0 0, .int .u64 0, .int .i64 0, .slice none 0 0, .int .u64 0] := a6.seti 11 rfl ec
        refine ⟨a6.cani 12 rfl rfl, thenW_in fun ib e2 => ?_⟩
        have gx := i6.x_set (q := a0.heap.size) (i := 12) rfl (.inr c6) e2
        have a1 := a1.oth (q := a0.heap.size) (i := 12) rfl b5 e2
        have a4 := a4.oth (q := a0.heap.size) (i := 12) rfl b2 e2
        have a6 : Blk ib a0.heap.size 58 [.int .i64 ab, .int .i64 a2, .int .i64 a5, .int .u64 aa, .int .i64 am, .int .i64 ap, .int .i64 a9, .slice ad ae af, .int .u64 au, .int .i64 ac, .int .i64 an, .int .u64 av, .int .i64 b7, .int .i64 0, .int .i64 0, .slice none 0 0, .int .u64 0, .int .i64 0, .slice none 0 0, .int .u64 0] := a6.seti 12 rfl e2
        refine ⟨a6.cani 13 rfl rfl, thenW_in fun gm e8 => ?_⟩
        have io := gx.x_set (q := a0.heap.size) (i := 13) rfl (.inr c6) e8
        have a1 := a1.oth (q := a0.heap.size) (i := 13) rfl b5 e8
        have a4 := a4.oth (q := a0.heap.size) (i := 13) rfl b2 e8
        have a6 : Blk gm a0.heap.size 58 [.int .i64 ab, .int .i64 a2, .int .i64 a5, .int .u64 aa, .int .i64 am, .int .i64 ap, .int .i64 a9, .slice ad ae af, .int .u64 au, .int .i64 ac, .int .i64 an, .int .u64 av, .int .i64 b7, .int .i64 b8, .int .i64 0, .slice none 0 0, .int .u64 0, .int .i64 0, .slice none 0 0, .int .u64 0] := a6.seti 13 rfl e8
        refine ⟨a6.cani 14 rfl rfl, thenW_in fun gt dv => ?_⟩
        have ie := io.x_set (q := a0.heap.size) (i := 14) rfl (.inr c6) dv
        have a1 := a1.oth (q := a0.heap.size) (i := 14) rfl b5 dv
        have a4 := a4.oth (q := a0.heap.size) (i := 14) rfl b2 dv
        have a6 : Blk gt a0.heap.size 58 [.int .i64 ab, .int .i64 a2, .int .i64 a5, .int .u64 aa, .int .i64 am, .int .i64 ap, .int .i64 a9, .slice ad ae af, .int .u64 au, .int .i64 ac, .int .i64 an, .int .u64 av, .int .i64 b7, .int .i64 b8, .int .i64 ax, .slice none 0 0, .int .u64 0, .int .i64 0, .slice none 0 0, .int .u64 0] := a6.seti 14 rfl dv
        refine ⟨a6.cani 15 rfl rfl, thenW_in fun gn e7 => ?_⟩
        have g4 := ie.x_set (q := a0.heap.size) (i := 15) rfl (.inr c6) e7
        have a1 := a1.oth (q := a0.heap.size) (i := 15) rfl b5 e7
        have a4 := a4.oth (q := a0.heap.size) (i := 15) rfl b2 e7
        have a6 : Blk gn a0.heap.size 58 [.int .i64 ab, .int .i64 a2, .int .i64 a5, .int .u64 aa, .int .i64 am, .int .i64 ap, .int .i64 a9, .slice ad ae af, .int .u64 au, .int .i64 ac, .int .i64 an, .int .u64 av, .int .i64 b7, .int .i64 b8, .int .i64 ax, .slice b3 b0 b1, .int .u64 0, .int .i64 0, .slice none 0 0, .int .u64 0] := a6.seti 15 rfl e7
        refine ⟨a6.cani 16 rfl rfl, thenW_in fun gh dr => ?_⟩
        have g1 := g4.x_set (q := a0.heap.size) (i := 16) rfl (.inr c6) dr
        have a1 := a1.oth (q := a0.heap.size) (i := 16) rfl b5 dr
        have a4 := a4.oth (q := a0.heap.size) (i := 16) rfl b2 dr
        have a6 : Blk gh a0.heap.size 58 [.int .i64 ab, .int .i64 a2, .int .i64 a5, .int .u64 aa, .int .i64 am, .int .i64 ap, .int .i64 a9, .slice ad ae af, .int .u64 au, .int .i64 ac, .int .i64 an, .int .u64 av, .int .i64 b7, .int .i64 b8, .int .i64 ax, .slice b3 b0 b1, .int .u64 bp, .int .i64 0, .slice none 0 0, .int .u64 0] := a6.seti 16 rfl dr
        refine ⟨a6.cani 17 rfl rfl, thenW_in fun i2 dn => ?_⟩
        have ih := g1.x_set (q := a0.heap.size) (i := 17) rfl (.inr c6) dn
        have a1 := a1.oth (q := a0.heap.size) (i := 17) rfl b5 dn
        have a4 := a4.oth (q := a0.heap.size) (i := 17) rfl b2 dn
        have a6 : Blk i2 a0.heap.size 58 [.int .i64 ab, .int .i64 a2, .int .i64 a5, .int .u64 aa, .int .i64 am, .int .i64 ap, .int .i64 a9, .slice ad ae af, .int .u64 au, .int .i64 ac, .int .i64 an, .int .u64 av, .int .i64 b7, .int .i64 b8, .int .i64 ax, .slice b3 b0 b1, .int .u64 bp, .int .i64 bz, .slice none 0 0, .int .u64 0] := a6.seti 17 rfl dn
        refine ⟨a6.cani 18 rfl rfl, thenW_in fun gr es => ?_⟩
        have gv := ih.x_set (q := a0.heap.size) (i := 18) rfl (.inr c6) es
        have a1 := a1.oth (q := a0.heap.size) (i := 18) rfl b5 es
        have a4 := a4.oth (q := a0.heap.size) (i := 18) rfl b2 es
        have a6 : Blk gr a0.heap.size 58 [.int .i64 ab, .int .i64 a2, .int .i64 a5, .int .u64 aa, .int .i64 am, .int .i64 ap, .int .i64 a9, .slice ad ae af, .int .u64 au, .int .i64 ac, .int .i64 an, .int .u64 av, .int .i64 b7, .int .i64 b8, .int .i64 ax, .slice b3 b0 b1, .int .u64 bp, .int .i64 bz, .slice cd cb c9, .int .u64 0] := a6.seti 18 rfl es
        refine ⟨a6.cani 19 rfl rfl, thenW_in fun g0 ed => ?_⟩
        have gz := gv.x_set (q := a0.heap.size) (i := 19) rfl (.inr c6) ed
        have a1 := a1.oth (q := a0.heap.size) (i := 19) rfl b5 ed
        have a4 := a4.oth (q := a0.heap.size) (i := 19) rfl b2 ed
        have a6 : Blk g0 a0.heap.size 58 [.int .i64 ab, .int .i64 a2, .int .i64 a5, .int .u64 aa, .int .i64 am, .int .i64 ap, .int .i64 a9, .slice ad ae af, .int .u64 au, .int .i64 ac, .int .i64 an, .int .u64 av, .int .i64 b7, .int .i64 b8, .int .i64 ax, .slice b3 b0 b1, .int .u64 bp, .int .i64 bz, .slice cd cb c9, .int .u64 c8] := a6.seti 19 rfl ed
        refine thenW_in fun ik e5 => ?_
        have fw := gz.x_drew e5
        have a1 := a1.x_drew e5
        have a4 := a4.x_drew e5
        have a6 := a6.x_drew e5
        have h := h ik (a0.heap.size) fw (Priv.cons c6 a6.lt Priv.nil)
        refine h.mono fun jx kg h => ?_
        obtain ⟨dw, he, hk, h⟩ := h
        refine ⟨dw, he, ?_⟩
        have a1 := hk.blk a1 (by simp)
        have a4 := hk.blk a4 (by simp)
        have a6 := hk.blk a6 (by simp)
        refine bif_of (fun fa => ?_) (fun fa => ?_)
        · have h := h.1 fa
          refine bif_of (fun f7 => ?_) (fun f7 => ?_)
          · have h := h.1 (beq_t f7)
            refine ⟨ao, a3, a7, ah, ar, aw, ag, ak, al, aj, az, ai, aq, ay, bc, be, b6, b9, bb, ba, bs, c7, dd, di, dg, ck, ⟨a4.celli 0 rfl rfl, a4.celli 1 rfl rfl, a4.celli 2 rfl rfl, a4.celli 3 rfl rfl, a4.celli 4 rfl rfl, a4.celli 5 rfl rfl, a4.celli 6 rfl rfl, a4.celli 7 rfl rfl, a4.celli 8 rfl rfl, a4.celli 9 rfl rfl, a4.celli 10 rfl rfl, a4.celli 11 rfl rfl, a4.celli 12 rfl rfl, a4.celli 13 rfl rfl, a4.celli 14 rfl rfl, a4.celli 15 rfl rfl, a4.celli 16 rfl rfl, a4.celli 17 rfl rfl, a4.celli 18 rfl rfl, a4.celli 19 rfl rfl, trivial⟩, ?_⟩
            refine ⟨ab, a2, a5, aa, am, ap, a9, ad, ae, af, au, ac, an, av, b7, b8, ax, b3, b0, b1, bp, bz, cd, cb, c9, c8, ⟨a6.celli 0 rfl rfl, a6.celli 1 rfl rfl, a6.celli 2 rfl rfl, a6.celli 3 rfl rfl, a6.celli 4 rfl rfl, a6.celli 5 rfl rfl, a6.celli 6 rfl rfl, a6.celli 7 rfl rfl, a6.celli 8 rfl rfl, a6.celli 9 rfl rfl, a6.celli 10 rfl rfl, a6.celli 11 rfl rfl, a6.celli 12 rfl rfl, a6.celli 13 rfl rfl, a6.celli 14 rfl rfl, a6.celli 15 rfl rfl, a6.celli 16 rfl rfl, a6.celli 17 rfl rfl, a6.celli 18 rfl rfl, a6.celli 19 rfl rfl, trivial⟩, ?_⟩
            refine h.mono fun k1 k0 h => ?_
            obtain ⟨eg, ch, cx, d7, er, dy, cw, d0, cr, cv, ew, cf, cy, da, e4, e3, d3, d2, d4, cq, eq, f1, g9, ge, gk, ff, he, hk, h⟩ := h
            refine ⟨eg, ch, cx, d7, er, dy, cw, d0, cr, cv, ew, cf, cy, da, e4, e3, d3, d2, d4, cq, eq, f1, g9, ge, gk, ff, he, ?_⟩
            have a1 := hk.blk a1 (by simp)
            have a4 := hk.blk a4 (by simp)
            have a6 := hk.blk a6 (by simp)
            refine ⟨⟨a6.celli 0 rfl rfl, a6.celli 1 rfl rfl, a6.celli 2 rfl rfl, a6.celli 3 rfl rfl, a6.celli 4 rfl rfl, a6.celli 5 rfl rfl, a6.celli 6 rfl rfl, a6.celli 7 rfl rfl, a6.celli 8 rfl rfl, a6.celli 9 rfl rfl, a6.celli 10 rfl rfl, a6.celli 11 rfl rfl, a6.celli 12 rfl rfl, a6.celli 13 rfl rfl, a6.celli 14 rfl rfl, a6.celli 15 rfl rfl, a6.celli 16 rfl rfl, a6.celli 17 rfl rfl, a6.celli 18 rfl rfl, a6.celli 19 rfl rfl, trivial⟩, ?_⟩
            refine h.mono fun jy k6 h => ?_
            obtain ⟨dk, he, hk, h⟩ := h
            refine ⟨dk, he, ?_⟩
            have a1 := hk.blk a1 (by simp)
            have a4 := hk.blk a4 (by simp)
            have a6 := hk.blk a6 (by simp)
            refine bif_of (fun fi => ?_) (fun fi => ?_)
            · have h := h.1 fi
              refine bif_of (fun fc => ?_) (fun fc => ?_)
              · have h := h.1 (beq_t fc)
                refine ⟨ao, a3, a7, ah, ar, aw, ag, ak, al, aj, az, ai, aq, ay, bc, be, b6, b9, bb, ba, bs, c7, dd, di, dg, ck, ⟨a4.celli 0 rfl rfl, a4.celli 1 rfl rfl, a4.celli 2 rfl rfl, a4.celli 3 rfl rfl, a4.celli 4 rfl rfl, a4.celli 5 rfl rfl, a4.celli 6 rfl rfl, a4.celli 7 rfl rfl, a4.celli 8 rfl rfl, a4.celli 9 rfl rfl, a4.celli 10 rfl rfl, a4.celli 11 rfl rfl, a4.celli 12 rfl rfl, a4.celli 13 rfl rfl, a4.celli 14 rfl rfl, a4.celli 15 rfl rfl, a4.celli 16 rfl rfl, a4.celli 17 rfl rfl, a4.celli 18 rfl rfl, a4.celli 19 rfl rfl, trivial⟩, ?_⟩
                refine ⟨ab, a2, a5, aa, am, ap, a9, ad, ae, af, au, ac, an, av, b7, b8, ax, b3, b0, b1, bp, bz, cd, cb, c9, c8, ⟨a6.celli 0 rfl rfl, a6.celli 1 rfl rfl, a6.celli 2 rfl rfl, a6.celli 3 rfl rfl, a6.celli 4 rfl rfl, a6.celli 5 rfl rfl, a6.celli 6 rfl rfl, a6.celli 7 rfl rfl, a6.celli 8 rfl rfl, a6.celli 9 rfl rfl, a6.celli 10 rfl rfl, a6.celli 11 rfl rfl, a6.celli 12 rfl rfl, a6.celli 13 rfl rfl, a6.celli 14 rfl rfl, a6.celli 15 rfl rfl, a6.celli 16 rfl rfl, a6.celli 17 rfl rfl, a6.celli 18 rfl rfl, a6.celli 19 rfl rfl, trivial⟩, ?_⟩
                refine h.mono fun ka k8 h => ?_
                obtain ⟨db, he, hk, h⟩ := h
                refine ⟨db, he, ?_⟩
                have a1 := hk.blk a1 (by simp)
                have a6 := hk.blk a6 (by simp)
                refine ⟨⟨a6.celli 0 rfl rfl, a6.celli 1 rfl rfl, a6.celli 2 rfl rfl, a6.celli 3 rfl rfl, a6.celli 4 rfl rfl, a6.celli 5 rfl rfl, a6.celli 6 rfl rfl, a6.celli 7 rfl rfl, a6.celli 8 rfl rfl, a6.celli 9 rfl rfl, a6.celli 10 rfl rfl, a6.celli 11 rfl rfl, a6.celli 12 rfl rfl, a6.celli 13 rfl rfl, a6.celli 14 rfl rfl, a6.celli 15 rfl rfl, a6.celli 16 rfl rfl, a6.celli 17 rfl rfl, a6.celli 18 rfl rfl, a6.celli 19 rfl rfl, trivial⟩, ?_⟩
                refine h.mono fun kh ke h => ?_
                obtain ⟨df, he, hk, h⟩ := h
                refine ⟨df, he, ?_⟩
                have a1 := hk.blk a1 (by simp)
                refine bif_of (fun fk => ?_) (fun fk => ?_)
                · have h := h.1 (bbeq_t fk)
                  refine ⟨c3, bk, bq, bt, c1, c2, bm, bn, bj, bg, bw, bd, bo, br, bx, bu, bh, bl, bf, bi, bv, c4, ce, ca, cc, c0, ⟨a1.celli 0 rfl rfl, a1.celli 1 rfl rfl, a1.celli 2 rfl rfl, a1.celli 3 rfl rfl, a1.celli 4 rfl rfl, a1.celli 5 rfl rfl, a1.celli 6 rfl rfl, a1.celli 7 rfl rfl, a1.celli 8 rfl rfl, a1.celli 9 rfl rfl, a1.celli 10 rfl rfl, a1.celli 11 rfl rfl, a1.celli 12 rfl rfl, a1.celli 13 rfl rfl, a1.celli 14 rfl rfl, a1.celli 15 rfl rfl, a1.celli 16 rfl rfl, a1.celli 17 rfl rfl, a1.celli 18 rfl rfl, a1.celli 19 rfl rfl, trivial⟩, ?_⟩
                  refine ⟨c3, bk, bq, bt, c1, c2, bm, bn, bj, bg, bw, bd, bo, br, bx, bu, bh, bl, bf, bi, bv, c4, ce, ca, cc, c0, ⟨a1.celli 0 rfl rfl, a1.celli 1 rfl rfl, a1.celli 2 rfl rfl, a1.celli 3 rfl rfl, a1.celli 4 rfl rfl, a1.celli 5 rfl rfl, a1.celli 6 rfl rfl, a1.celli 7 rfl rfl, a1.celli 8 rfl rfl, a1.celli 9 rfl rfl, a1.celli 10 rfl rfl, a1.celli 11 rfl rfl, a1.celli 12 rfl rfl, a1.celli 13 rfl rfl, a1.celli 14 rfl rfl, a1.celli 15 rfl rfl, a1.celli 16 rfl rfl, a1.celli 17 rfl rfl, a1.celli 18 rfl rfl, a1.celli 19 rfl rfl, trivial⟩, ?_⟩
                  refine h.mono fun k7 k3 h => ?_
                  obtain ⟨e6, cg, d6, dh, et, ds, d5, cu, ct, cz, dx, ci, co, d9, eh, dq, cn, cs, d1, cp, du, fo, g7, i1, fs, f9, he, hk, h⟩ := h
                  refine ⟨e6, cg, d6, dh, et, ds, d5, cu, ct, cz, dx, ci, co, d9, eh, dq, cn, cs, d1, cp, du, fo, g7, i1, fs, f9, he, ?_⟩
                  have a1 := hk.blk a1 (by simp)
                  refine ⟨⟨a1.celli 0 rfl rfl, a1.celli 1 rfl rfl, a1.celli 2 rfl rfl, a1.celli 3 rfl rfl, a1.celli 4 rfl rfl, a1.celli 5 rfl rfl, a1.celli 6 rfl rfl, a1.celli 7 rfl rfl, a1.celli 8 rfl rfl, a1.celli 9 rfl rfl, a1.celli 10 rfl rfl, a1.celli 11 rfl rfl, a1.celli 12 rfl rfl, a1.celli 13 rfl rfl, a1.celli 14 rfl rfl, a1.celli 15 rfl rfl, a1.celli 16 rfl rfl, a1.celli 17 rfl rfl, a1.celli 18 rfl rfl, a1.celli 19 rfl rfl, trivial⟩, ?_⟩
                  refine h.mono fun kj k9 h => ?_
                  obtain ⟨dj, he, hk, h⟩ := h
                  refine ⟨dj, he, ?_⟩
                  have a1 := hk.blk a1 (by simp)
                  refine ⟨⟨a1.celli 0 rfl rfl, a1.celli 1 rfl rfl, a1.celli 2 rfl rfl, a1.celli 3 rfl rfl, a1.celli 4 rfl rfl, a1.celli 5 rfl rfl, a1.celli 6 rfl rfl, a1.celli 7 rfl rfl, a1.celli 8 rfl rfl, a1.celli 9 rfl rfl, a1.celli 10 rfl rfl, a1.celli 11 rfl rfl, a1.celli 12 rfl rfl, a1.celli 13 rfl rfl, a1.celli 14 rfl rfl, a1.celli 15 rfl rfl, a1.celli 16 rfl rfl, a1.celli 17 rfl rfl, a1.celli 18 rfl rfl, a1.celli 19 rfl rfl, trivial⟩, ?_⟩
                  refine h.mono fun ki kc h => ?_
                  obtain ⟨de, he, h⟩ := h
                  refine ⟨de, he, ?_⟩
                  refine bif_of (fun fp => ?_) (fun fp => ?_)
                  · have h := h.1 (bbeq_t fp)
                    refine h.mono fun kd k5 h => ?_
                    obtain ⟨dc, he, h⟩ := h
                    refine ⟨dc, he, ?_⟩
                    exact h
                  · have h := h.2 (bbeq_f fp)
                    exact h
                · have h := h.2 (bbeq_f fk)
                  exact h
              · have h := h.2 (beq_f fc)
                exact h
            · have h := h.2 fi
              exact h
          · have h := h.2 (beq_f f7)
            exact h
        · have h := h.2 fa
          exact h

theorem cachettelaw23_ForkcheckClaims.go (ag : Option Addr) (ae : Nat) (ad : Nat) (av : Int) (ay : Option Addr) (aw : Nat) (ax : Nat) (am : Int) (a8 : Int) (ab : Int) (aj : Int) (an : Int) (ao : Int) (a4 : Int) (a5 : Option Addr) (a6 : Nat) (a7 : Nat) (ah : Int) (a0 : Int) (aa : Int) (ac : Int) (ai : Int) (ak : Int) (a9 : Int) (a3 : Option Addr) (a1 : Nat) (a2 : Nat) (af : Int) (al : Int) (au : Option Addr) (aq : Nat) (ar : Nat) (ap : Int) {R : Value → World → Prop} {w : World} (h : cachettelaw23_ForkcheckClaims.N ag ae ad av ay aw ax am a8 ab aj an ao a4 a5 a6 a7 ah a0 aa ac ai ak a9 a3 a1 a2 af al au aq ar ap R w) : Calls Try.prog 4 #[.slice ag ae ad, .int .i64 av, .slice ay aw ax, .agg #[.int .i64 am, .int .i64 a8, .int .i64 ab, .int .u64 aj, .int .i64 an, .int .i64 ao, .int .i64 a4, .slice a5 a6 a7, .int .u64 ah, .int .i64 a0, .int .i64 aa, .int .u64 ac, .int .i64 ai, .int .i64 ak, .int .i64 a9, .slice a3 a1 a2, .int .u64 af, .int .i64 al, .slice au aq ar, .int .u64 ap]] w fun e w' => ∃ v, e = .returned v ∧ R v w' := cachettelaw23_ForkcheckClaims.ok ag ae ad av ay aw ax am a8 ab aj an ao a4 a5 a6 a7 ah a0 aa ac ai ak a9 a3 a1 a2 af al au aq ar ap (cachettelaw23_ForkcheckClaims.up ag ae ad av ay aw ax am a8 ab aj an ao a4 a5 a6 a7 ah a0 aa ac ai ak a9 a3 a1 a2 af al au aq ar ap h)
theorem cachettelaw23_ForkcheckClaims.run (ag : Option Addr) (ae : Nat) (ad : Nat) (av : Int) (ay : Option Addr) (aw : Nat) (ax : Nat) (am : Int) (a8 : Int) (ab : Int) (aj : Int) (an : Int) (ao : Int) (a4 : Int) (a5 : Option Addr) (a6 : Nat) (a7 : Nat) (ah : Int) (a0 : Int) (aa : Int) (ac : Int) (ai : Int) (ak : Int) (a9 : Int) (a3 : Option Addr) (a1 : Nat) (a2 : Nat) (af : Int) (al : Int) (au : Option Addr) (aq : Nat) (ar : Nat) (ap : Int) {V : Value} {Q : World → Prop} {w : World} (h : cachettelaw23_ForkcheckClaims.N ag ae ad av ay aw ax am a8 ab aj an ao a4 a5 a6 a7 ah a0 aa ac ai ak a9 a3 a1 a2 af al au aq ar ap (fun v w' => v = V ∧ Q w') w) : Calls Try.prog 4 #[.slice ag ae ad, .int .i64 av, .slice ay aw ax, .agg #[.int .i64 am, .int .i64 a8, .int .i64 ab, .int .u64 aj, .int .i64 an, .int .i64 ao, .int .i64 a4, .slice a5 a6 a7, .int .u64 ah, .int .i64 a0, .int .i64 aa, .int .u64 ac, .int .i64 ai, .int .i64 ak, .int .i64 a9, .slice a3 a1 a2, .int .u64 af, .int .i64 al, .slice au aq ar, .int .u64 ap]] w (Ret V Q) := (cachettelaw23_ForkcheckClaims.go ag ae ad av ay aw ax am a8 ab aj an ao a4 a5 a6 a7 ah a0 aa ac ai ak a9 a3 a1 a2 af al au aq ar ap h).mono fun e w' ⟨v, he, hv, hq⟩ => ⟨by rw [he, hv], hq⟩

end Go.Proofs.Ytfmdpjhkojbocaa

