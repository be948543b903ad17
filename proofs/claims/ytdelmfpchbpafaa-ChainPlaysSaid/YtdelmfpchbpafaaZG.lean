/- ChainPlays: predicate. -/
import Derived.Test.YtdelmfpchbpafaaZF
set_option linter.unusedVariables false
set_option linter.unusedSimpArgs false
set_option maxRecDepth 20000
set_option maxHeartbeats 2000000
namespace Go.Proofs.Ytdelmfpchbpafaa
open Go Go.Mx Go.Proofs
open W (OwnB GivesW numR countR doneR zig unzig intR)
/-- cachettelaw07.ChainPlays -/
def cachettelaw07_ChainPlays.M (fu : Option Addr) (fq : Nat) (g2 : Nat) (te : Option Addr) (st : Nat) (tg : Nat) (R : Value → World → Prop) (w : World) : Prop :=
 Calls Try.prog 5 #[.slice fu fq g2, .slice te st tg] w fun tk tc => ∃ (me : Bool), tk = .returned (.bool me) ∧
 bif !me then (
 Calls Try.prog 6 #[] tc fun th tf => ∃ (mm : Bool), th = .returned (.bool mm) ∧
 R (.bool mm) tf) else (
 Calls Try.prog 7 #[.slice fu fq g2] tc fun tb a5 => ∃ (mx : Option Addr), tb = .returned (.pointer mx) ∧
 thenW (a5.alloc (.cells #[.slice fu fq g2, .slice none 0 0] 31)) fun sz =>
 Calls Try.prog 8 #[.pointer mx] sz fun t6 t3 => ∃ (js : Int) (c0 : Int), t6 = .returned (.tuple #[.int .u64 js, .int .u64 c0]) ∧
 Calls Try.prog 9 #[.pointer (some (blk a5.heap.size))] t3 fun sw t2 => ∃ (pc : Int) (pb : Int), sw = .returned (.tuple #[.int .u64 pc, .int .u64 pb]) ∧
 Calls Try.prog 10 #[.pointer mx, .int .i64 1, .int .u64 c0] t2 fun sy t5 => ∃ (m5 : Option Addr) (ni : Int), sy = .returned (.tuple #[.pointer m5, .int .i64 ni]) ∧
 Calls Try.prog 10 #[.pointer mx, .int .i64 1, .int .u64 c0] t5 fun t7 gc => ∃ (a4 : Option Addr) (ol : Int), t7 = .returned (.tuple #[.pointer a4, .int .i64 ol]) ∧
 thenW (gc.alloc (.cells #[.int .i64 1, .int .u64 c0, .slice none 0 0] 42)) fun a6 =>
 thenW (a6.alloc (.cells #[.int .i64 1, .int .u64 c0, .slice none 0 0] 42)) fun pa =>
 bif ni != 0 then (
 R (.bool false) pa) else (
 bif ol != 0 then (
 R (.bool false) pa) else (
 Calls Try.prog 6 #[] pa fun t4 qb => ∃ (kc : Bool), t4 = .returned (.bool kc) ∧
 bif !kc then (
 R (.bool false) qb) else (
 ∃ (I0 : Nat → List Value → World → Prop) (tj : Nat), I0 tj [.int .i64 0] qb ∧ ∀ (lz : Nat) (a1 : World) (jr : Int), I0 lz [.int .i64 jr] a1 →
 bif decide (jr < (st : Int)) then (
 te.elim False fun ti =>
 0 ≤ (jr : Int) ∧ (jr : Int) < (st : Int) ∧
 ∃ (k1 : Int) (pv : Int) (i8 : Int) (jk : Option Addr) (gn : Nat) (ia : Nat) (sq : Int) (ix : Int) (c7 : Int) (fo : Int) (jf : Int) (lp : Int) (ly : Int) (cw : Int) (eq : Option Addr) (f2 : Nat) (dr : Nat) (kg : Int), cellsAt a1 (ti.add (Int.toNat jr * 14)) [.int .i64 k1, .int .i64 pv, .int .i64 i8, .slice jk gn ia, .int .i64 sq, .int .i64 ix, .int .i64 c7, .int .i64 fo, .int .u64 jf, .int .i64 lp, .int .i64 ly, .int .i64 cw, .slice eq f2 dr, .int .u64 kg] 0 ∧
 thenW (a1.alloc (.cells #[.int .i64 0, .int .i64 0, .int .i64 0, .slice none 0 0, .int .i64 0, .int .i64 0, .int .i64 0, .int .i64 0, .int .u64 0, .int .i64 0, .int .i64 0, .int .i64 0, .slice none 0 0, .int .u64 0] 49)) fun s8 =>
 canStore s8 ((blk a1.heap.size).add 0) ∧
 thenW (s8.setCell ((blk a1.heap.size).add 0) (.int .i64 k1)) fun q8 =>
 canStore q8 ((blk a1.heap.size).add 1) ∧
 thenW (q8.setCell ((blk a1.heap.size).add 1) (.int .i64 pv)) fun sm =>
 canStore sm ((blk a1.heap.size).add 2) ∧
 thenW (sm.setCell ((blk a1.heap.size).add 2) (.int .i64 i8)) fun q9 =>
 canStore q9 ((blk a1.heap.size).add 3) ∧
 thenW (q9.setCell ((blk a1.heap.size).add 3) (.slice jk gn ia)) fun si =>
 canStore si ((blk a1.heap.size).add 4) ∧
 thenW (si.setCell ((blk a1.heap.size).add 4) (.int .i64 sq)) fun s6 =>
 canStore s6 ((blk a1.heap.size).add 5) ∧
 thenW (s6.setCell ((blk a1.heap.size).add 5) (.int .i64 ix)) fun q3 =>
 canStore q3 ((blk a1.heap.size).add 6) ∧
 thenW (q3.setCell ((blk a1.heap.size).add 6) (.int .i64 c7)) fun qh =>
 canStore qh ((blk a1.heap.size).add 7) ∧
 thenW (qh.setCell ((blk a1.heap.size).add 7) (.int .i64 fo)) fun se =>
 canStore se ((blk a1.heap.size).add 8) ∧
 thenW (se.setCell ((blk a1.heap.size).add 8) (.int .u64 jf)) fun sf =>
 canStore sf ((blk a1.heap.size).add 9) ∧
 thenW (sf.setCell ((blk a1.heap.size).add 9) (.int .i64 lp)) fun qm =>
 canStore qm ((blk a1.heap.size).add 10) ∧
 thenW (qm.setCell ((blk a1.heap.size).add 10) (.int .i64 ly)) fun qy =>
 canStore qy ((blk a1.heap.size).add 11) ∧
 thenW (qy.setCell ((blk a1.heap.size).add 11) (.int .i64 cw)) fun qp =>
 canStore qp ((blk a1.heap.size).add 12) ∧
 thenW (qp.setCell ((blk a1.heap.size).add 12) (.slice eq f2 dr)) fun px =>
 canStore px ((blk a1.heap.size).add 13) ∧
 thenW (px.setCell ((blk a1.heap.size).add 13) (.int .u64 kg)) fun a0 =>
 ∃ (er : Int) (ie : Int) (ll : Int) (md : Int) (mu : Int) (jm : Int) (gv : Option Addr) (i6 : Nat) (ib : Nat) (mr : Int), cellsAt a0 ((blk a1.heap.size).add 6) [.int .i64 er, .int .i64 ie, .int .u64 ll, .int .i64 md, .int .i64 mu, .int .i64 jm, .slice gv i6 ib, .int .u64 mr] 0 ∧
 thenW (a0.alloc (.cells #[.int .i64 0, .int .i64 0, .int .u64 0, .int .i64 0, .int .i64 0, .int .i64 0, .slice none 0 0, .int .u64 0] 47)) fun q6 =>
 canStore q6 ((blk a0.heap.size).add 0) ∧
 thenW (q6.setCell ((blk a0.heap.size).add 0) (.int .i64 er)) fun q5 =>
 canStore q5 ((blk a0.heap.size).add 1) ∧
 thenW (q5.setCell ((blk a0.heap.size).add 1) (.int .i64 ie)) fun sk =>
 canStore sk ((blk a0.heap.size).add 2) ∧
 thenW (sk.setCell ((blk a0.heap.size).add 2) (.int .u64 ll)) fun pz =>
 canStore pz ((blk a0.heap.size).add 3) ∧
 thenW (pz.setCell ((blk a0.heap.size).add 3) (.int .i64 md)) fun pt =>
 canStore pt ((blk a0.heap.size).add 4) ∧
 thenW (pt.setCell ((blk a0.heap.size).add 4) (.int .i64 mu)) fun pp =>
 canStore pp ((blk a0.heap.size).add 5) ∧
 thenW (pp.setCell ((blk a0.heap.size).add 5) (.int .i64 jm)) fun py =>
 canStore py ((blk a0.heap.size).add 6) ∧
 thenW (py.setCell ((blk a0.heap.size).add 6) (.slice gv i6 ib)) fun s9 =>
 canStore s9 ((blk a0.heap.size).add 7) ∧
 thenW (s9.setCell ((blk a0.heap.size).add 7) (.int .u64 mr)) fun bx =>
 ∃ (mq : Int), bx.cell? ((blk a1.heap.size).add 0) = some (.int .i64 mq) ∧
 bif mq == 4 then (
 thenW (bx.drew) fun p9 =>
 ∃ (td : Int), p9.cell? ((blk a1.heap.size).add 4) = some (.int .i64 td) ∧
 ∃ (su : Int), p9.cell? ((blk a1.heap.size).add 4) = some (.int .i64 su) ∧
 Calls Try.prog 12 #[.pointer a4, .int .i64 td] p9 fun sv s7 => ∃ (mf : Option Addr) (mn : Nat) (mc : Nat), sv = .returned (.slice mf mn mc) ∧
 s7.cell? ((blk a1.heap.size).add 4) = some (.int .i64 su) ∧
 Calls Try.prog 13 #[.pointer (some (blk a6.heap.size)), .int .i64 su] s7 fun t0 t9 => ∃ (mh : Option Addr) (mp : Nat) (m7 : Nat), t0 = .returned (.slice mh mp m7) ∧
 Calls Try.prog 11 #[.slice mf mn mc, .slice mh mp m7] t9 fun t8 sr => ∃ (n9 : Bool), t8 = .returned (.bool n9) ∧
 bif !n9 then (
 R (.bool false) sr) else (
 Calls Try.prog 14 #[.pointer a4, .pointer (some (blk a6.heap.size)), .pointer (some (blk a5.heap.size))] sr fun sx na => ∃ (mg : Bool), sx = .returned (.bool mg) ∧
 bif !mg then (
 R (.bool false) na) else (
 ∃ qi, qi < lz ∧ I0 qi [.int .i64 (IntKind.i64.wrap (jr + 1))] na))) else (
 ∃ (k9 : Int), bx.cell? ((blk a1.heap.size).add 0) = some (.int .i64 k9) ∧
 bif k9 == 0 then (
 ∃ (ps : Int), bx.cell? ((blk a1.heap.size).add 1) = some (.int .i64 ps) ∧
 ∃ (j1 : Int), bx.cell? ((blk a1.heap.size).add 2) = some (.int .i64 j1) ∧
 ∃ (i0 : Option Addr) (j7 : Nat) (iz : Nat), bx.cell? ((blk a1.heap.size).add 3) = some (.slice i0 j7 iz) ∧
 Calls Try.prog 15 #[.pointer m5, .int .u64 js, .agg #[.int .i64 ps, .int .i64 1], .int .i64 j1, .slice i0 j7 iz] bx fun pn a2 => ∃ (d0 : Int) (i5 : Int) (jy : Int) (m1 : Int) (mj : Int) (jh : Int) (gp : Option Addr) (i7 : Nat) (ik : Nat) (ms : Int) (ij : Int), pn = .returned (.tuple #[.agg #[.int .i64 d0, .int .i64 i5, .int .u64 jy, .int .i64 m1, .int .i64 mj, .int .i64 jh, .slice gp i7 ik, .int .u64 ms], .int .i64 ij]) ∧
 thenW (a2.alloc (.cells #[.int .i64 0, .int .i64 0, .int .u64 0, .int .i64 0, .int .i64 0, .int .i64 0, .slice none 0 0, .int .u64 0] 47)) fun n8 =>
 canStore n8 ((blk a2.heap.size).add 0) ∧
 thenW (n8.setCell ((blk a2.heap.size).add 0) (.int .i64 d0)) fun op =>
 canStore op ((blk a2.heap.size).add 1) ∧
 thenW (op.setCell ((blk a2.heap.size).add 1) (.int .i64 i5)) fun nj =>
 canStore nj ((blk a2.heap.size).add 2) ∧
 thenW (nj.setCell ((blk a2.heap.size).add 2) (.int .u64 jy)) fun p0 =>
 canStore p0 ((blk a2.heap.size).add 3) ∧
 thenW (p0.setCell ((blk a2.heap.size).add 3) (.int .i64 m1)) fun p5 =>
 canStore p5 ((blk a2.heap.size).add 4) ∧
 thenW (p5.setCell ((blk a2.heap.size).add 4) (.int .i64 mj)) fun p4 =>
 canStore p4 ((blk a2.heap.size).add 5) ∧
 thenW (p4.setCell ((blk a2.heap.size).add 5) (.int .i64 jh)) fun o4 =>
 canStore o4 ((blk a2.heap.size).add 6) ∧
 thenW (o4.setCell ((blk a2.heap.size).add 6) (.slice gp i7 ik)) fun nf =>
 canStore nf ((blk a2.heap.size).add 7) ∧
 thenW (nf.setCell ((blk a2.heap.size).add 7) (.int .u64 ms)) fun lk =>
 ∃ (s2 : Int), lk.cell? ((blk a1.heap.size).add 1) = some (.int .i64 s2) ∧
 ∃ (j5 : Int), lk.cell? ((blk a1.heap.size).add 2) = some (.int .i64 j5) ∧
 ∃ (ip : Option Addr) (i3 : Nat) (je : Nat), lk.cell? ((blk a1.heap.size).add 3) = some (.slice ip i3 je) ∧
 Calls Try.prog 16 #[.pointer (some (blk gc.heap.size)), .pointer (some (blk a5.heap.size)), .int .u64 js, .agg #[.int .i64 s2, .int .i64 1], .int .i64 j5, .slice ip i3 je] lk fun sc a3 => ∃ (de : Int) (jp : Int) (li : Int) (mt : Int) (m2 : Int) (gt : Int) (ig : Option Addr) (iu : Nat) (ja : Nat) (m8 : Int) (jd : Int), sc = .returned (.tuple #[.agg #[.int .i64 de, .int .i64 jp, .int .u64 li, .int .i64 mt, .int .i64 m2, .int .i64 gt, .slice ig iu ja, .int .u64 m8], .int .i64 jd]) ∧
 thenW (a3.alloc (.cells #[.int .i64 0, .int .i64 0, .int .u64 0, .int .i64 0, .int .i64 0, .int .i64 0, .slice none 0 0, .int .u64 0] 47)) fun nk =>
 canStore nk ((blk a3.heap.size).add 0) ∧
 thenW (nk.setCell ((blk a3.heap.size).add 0) (.int .i64 de)) fun o2 =>
 canStore o2 ((blk a3.heap.size).add 1) ∧
 thenW (o2.setCell ((blk a3.heap.size).add 1) (.int .i64 jp)) fun p1 =>
 canStore p1 ((blk a3.heap.size).add 2) ∧
 thenW (p1.setCell ((blk a3.heap.size).add 2) (.int .u64 li)) fun n7 =>
 canStore n7 ((blk a3.heap.size).add 3) ∧
 thenW (n7.setCell ((blk a3.heap.size).add 3) (.int .i64 mt)) fun ot =>
 canStore ot ((blk a3.heap.size).add 4) ∧
 thenW (ot.setCell ((blk a3.heap.size).add 4) (.int .i64 m2)) fun o3 =>
 canStore o3 ((blk a3.heap.size).add 5) ∧
 thenW (o3.setCell ((blk a3.heap.size).add 5) (.int .i64 gt)) fun n5 =>
 canStore n5 ((blk a3.heap.size).add 6) ∧
 thenW (n5.setCell ((blk a3.heap.size).add 6) (.slice ig iu ja)) fun n4 =>
 canStore n4 ((blk a3.heap.size).add 7) ∧
 thenW (n4.setCell ((blk a3.heap.size).add 7) (.int .u64 m8)) fun mw =>
 ∃ (cf : Int) (cs : Int) (j6 : Int) (l0 : Int) (kk : Int) (ds : Int) (eo : Option Addr) (e5 : Nat) (ej : Nat) (lg : Int), cellsAt mw (blk a2.heap.size) [.int .i64 cf, .int .i64 cs, .int .u64 j6, .int .i64 l0, .int .i64 kk, .int .i64 ds, .slice eo e5 ej, .int .u64 lg] 0 ∧
 ∃ (ch : Int) (dl : Int) (gz : Int) (ln : Int) (le : Int) (cu : Int) (fg : Option Addr) (em : Nat) (dm : Nat) (jx : Int), cellsAt mw (blk a3.heap.size) [.int .i64 ch, .int .i64 dl, .int .u64 gz, .int .i64 ln, .int .i64 le, .int .i64 cu, .slice fg em dm, .int .u64 jx] 0 ∧
 Calls Try.prog 17 #[.agg #[.int .i64 cf, .int .i64 cs, .int .u64 j6, .int .i64 l0, .int .i64 kk, .int .i64 ds, .slice eo e5 ej, .int .u64 lg], .agg #[.int .i64 ch, .int .i64 dl, .int .u64 gz, .int .i64 ln, .int .i64 le, .int .i64 cu, .slice fg em dm, .int .u64 jx]] mw fun qk mi => ∃ (kq : Bool), qk = .returned (.bool kq) ∧
 bif !kq then (
 R (.bool false) mi) else (
 bif ij != jd then (
 R (.bool false) mi) else (
 Calls Try.prog 14 #[.pointer m5, .pointer (some (blk gc.heap.size)), .pointer (some (blk a5.heap.size))] mi fun s0 p2 => ∃ (lu : Bool), s0 = .returned (.bool lu) ∧
 bif !lu then (
 R (.bool false) p2) else (
 ∃ sl, sl < lz ∧ I0 sl [.int .i64 (IntKind.i64.wrap (jr + 1))] p2)))) else (
 ∃ (ky : Int), bx.cell? ((blk a1.heap.size).add 0) = some (.int .i64 ky) ∧
 bif ky == 1 then (
 thenW (bx.drew) fun ee =>
 ∃ (pw : Int), ee.cell? ((blk a1.heap.size).add 4) = some (.int .i64 pw) ∧
 bif decide (pw < 0) then (
 ∃ qo, qo < lz ∧ I0 qo [.int .i64 (IntKind.i64.wrap (jr + 1))] ee) else (
 ∃ (sa : Int), ee.cell? ((blk a1.heap.size).add 4) = some (.int .i64 sa) ∧
 ∃ (ql : Option Addr) (o7 : Nat) (sg : Nat), ee.cell? ((blk gc.heap.size).add 2) = some (.slice ql o7 sg) ∧
 bif decide (sa ≥ (o7 : Int)) then (
 ∃ qq, qq < lz ∧ I0 qq [.int .i64 (IntKind.i64.wrap (jr + 1))] ee) else (
 thenW (ee.drew) fun f4 =>
 ∃ (nw : Option Addr) (o0 : Nat) (s3 : Nat), f4.cell? ((blk gc.heap.size).add 2) = some (.slice nw o0 s3) ∧
 ∃ (qe : Option Addr) (jw : Nat) (qj : Nat), f4.cell? ((blk gc.heap.size).add 2) = some (.slice qe jw qj) ∧
 ∃ (my : Int), f4.cell? ((blk a1.heap.size).add 4) = some (.int .i64 my) ∧
 nw.elim False fun ta =>
 0 ≤ ((IntKind.i64.wrap ((IntKind.i64.wrap ((jw : Int) - 1)) - my)) : Int) ∧ ((IntKind.i64.wrap ((IntKind.i64.wrap ((jw : Int) - 1)) - my)) : Int) < (o0 : Int) ∧
 ∃ (c4 : Int) (ea : Int) (jl : Int) (kb : Int) (lw : Int) (e7 : Int) (eb : Option Addr) (dy : Nat) (e4 : Nat) (l4 : Int), cellsAt f4 (ta.add (Int.toNat (IntKind.i64.wrap ((IntKind.i64.wrap ((jw : Int) - 1)) - my)) * 8)) [.int .i64 c4, .int .i64 ea, .int .u64 jl, .int .i64 kb, .int .i64 lw, .int .i64 e7, .slice eb dy e4, .int .u64 l4] 0 ∧
 canStore f4 ((blk a0.heap.size).add 0) ∧
 thenW (f4.setCell ((blk a0.heap.size).add 0) (.int .i64 c4)) fun o9 =>
 canStore o9 ((blk a0.heap.size).add 1) ∧
 thenW (o9.setCell ((blk a0.heap.size).add 1) (.int .i64 ea)) fun p3 =>
 canStore p3 ((blk a0.heap.size).add 2) ∧
 thenW (p3.setCell ((blk a0.heap.size).add 2) (.int .u64 jl)) fun od =>
 canStore od ((blk a0.heap.size).add 3) ∧
 thenW (od.setCell ((blk a0.heap.size).add 3) (.int .i64 kb)) fun om =>
 canStore om ((blk a0.heap.size).add 4) ∧
 thenW (om.setCell ((blk a0.heap.size).add 4) (.int .i64 lw)) fun oz =>
 canStore oz ((blk a0.heap.size).add 5) ∧
 thenW (oz.setCell ((blk a0.heap.size).add 5) (.int .i64 e7)) fun ny =>
 canStore ny ((blk a0.heap.size).add 6) ∧
 thenW (ny.setCell ((blk a0.heap.size).add 6) (.slice eb dy e4)) fun oe =>
 canStore oe ((blk a0.heap.size).add 7) ∧
 thenW (oe.setCell ((blk a0.heap.size).add 7) (.int .u64 l4)) fun ic =>
 ∃ (ko : Int), ic.cell? ((blk a1.heap.size).add 0) = some (.int .i64 ko) ∧
 bif ko == 2 then (
 ∃ (cg : Int) (f0 : Int) (j0 : Int) (kx : Int) (k6 : Int) (en : Int) (d5 : Option Addr) (fe : Nat) (fb : Nat) (l5 : Int), cellsAt ic (blk a0.heap.size) [.int .i64 cg, .int .i64 f0, .int .u64 j0, .int .i64 kx, .int .i64 k6, .int .i64 en, .slice d5 fe fb, .int .u64 l5] 0 ∧
 ∃ (gx : Int), ic.cell? ((blk a1.heap.size).add 5) = some (.int .i64 gx) ∧
 Calls Try.prog 18 #[.agg #[.int .i64 cg, .int .i64 f0, .int .u64 j0, .int .i64 kx, .int .i64 k6, .int .i64 en, .slice d5 fe fb, .int .u64 l5], .int .i64 gx] ic fun qx nx => ∃ (df : Int) (jc : Int) (kj : Int) (ma : Int) (mv : Int) (gw : Int) (jn : Option Addr) (gy : Nat) (iq : Nat) (mo : Int), qx = .returned (.agg #[.int .i64 df, .int .i64 jc, .int .u64 kj, .int .i64 ma, .int .i64 mv, .int .i64 gw, .slice jn gy iq, .int .u64 mo]) ∧
 canStore nx ((blk a0.heap.size).add 0) ∧
 thenW (nx.setCell ((blk a0.heap.size).add 0) (.int .i64 df)) fun ne =>
 canStore ne ((blk a0.heap.size).add 1) ∧
 thenW (ne.setCell ((blk a0.heap.size).add 1) (.int .i64 jc)) fun ok =>
 canStore ok ((blk a0.heap.size).add 2) ∧
 thenW (ok.setCell ((blk a0.heap.size).add 2) (.int .u64 kj)) fun n1 =>
 canStore n1 ((blk a0.heap.size).add 3) ∧
 thenW (n1.setCell ((blk a0.heap.size).add 3) (.int .i64 ma)) fun ow =>
 canStore ow ((blk a0.heap.size).add 4) ∧
 thenW (ow.setCell ((blk a0.heap.size).add 4) (.int .i64 mv)) fun oa =>
 canStore oa ((blk a0.heap.size).add 5) ∧
 thenW (oa.setCell ((blk a0.heap.size).add 5) (.int .i64 gw)) fun ng =>
 canStore ng ((blk a0.heap.size).add 6) ∧
 thenW (ng.setCell ((blk a0.heap.size).add 6) (.slice jn gy iq)) fun nh =>
 canStore nh ((blk a0.heap.size).add 7) ∧
 thenW (nh.setCell ((blk a0.heap.size).add 7) (.int .u64 mo)) fun qd =>
 thenW (qd.drew) fun m3 =>
 ∃ (c9 : Int) (f8 : Int) (j3 : Int) (ju : Int) (kn : Int) (ew : Int) (fa : Option Addr) (fh : Nat) (es : Nat) (km : Int), cellsAt m3 (blk a0.heap.size) [.int .i64 c9, .int .i64 f8, .int .u64 j3, .int .i64 ju, .int .i64 kn, .int .i64 ew, .slice fa fh es, .int .u64 km] 0 ∧
 ∃ (af : Int) (b2 : Int) (cq : Int) (fw : Int) (fr : Int) (bd : Int) (aw : Option Addr) (bf : Nat) (ah : Nat) (gd : Int), cellsAt m3 (blk a0.heap.size) [.int .i64 af, .int .i64 b2, .int .u64 cq, .int .i64 fw, .int .i64 fr, .int .i64 bd, .slice aw bf ah, .int .u64 gd] 0 ∧
 Calls Try.prog 19 #[.pointer a4, .agg #[.int .i64 c9, .int .i64 f8, .int .u64 j3, .int .i64 ju, .int .i64 kn, .int .i64 ew, .slice fa fh es, .int .u64 km]] m3 fun qc nb => ∃ (il : Int), qc = .returned (.int .i64 il) ∧
 cellsAt nb (blk a0.heap.size) [.int .i64 af, .int .i64 b2, .int .u64 cq, .int .i64 fw, .int .i64 fr, .int .i64 bd, .slice aw bf ah, .int .u64 gd] 0 ∧
 Calls Try.prog 20 #[.pointer (some (blk a6.heap.size)), .pointer (some (blk a5.heap.size)), .agg #[.int .i64 af, .int .i64 b2, .int .u64 cq, .int .i64 fw, .int .i64 fr, .int .i64 bd, .slice aw bf ah, .int .u64 gd]] nb fun s4 lo => ∃ (gs : Int), s4 = .returned (.int .i64 gs) ∧
 bif il != gs then (
 R (.bool false) lo) else (
 ∃ (c5 : Int) (d7 : Int) (jq : Int) (lq : Int) (lc : Int) (d4 : Int) (dk : Option Addr) (e1 : Nat) (dn : Nat) (l1 : Int), cellsAt lo (blk a0.heap.size) [.int .i64 c5, .int .i64 d7, .int .u64 jq, .int .i64 lq, .int .i64 lc, .int .i64 d4, .slice dk e1 dn, .int .u64 l1] 0 ∧
 ∃ (ac : Int) (ax : Int) (c6 : Int) (g0 : Int) (fs : Int) (aj : Int) (bj : Option Addr) (bv : Nat) (ak : Nat) (gm : Int), cellsAt lo (blk a0.heap.size) [.int .i64 ac, .int .i64 ax, .int .u64 c6, .int .i64 g0, .int .i64 fs, .int .i64 aj, .slice bj bv ak, .int .u64 gm] 0 ∧
 Calls Try.prog 21 #[.pointer a4, .agg #[.int .i64 c5, .int .i64 d7, .int .u64 jq, .int .i64 lq, .int .i64 lc, .int .i64 d4, .slice dk e1 dn, .int .u64 l1]] lo fun ph nm => ∃ (dj : Int), ph = .returned (.int .i64 dj) ∧
 cellsAt nm (blk a0.heap.size) [.int .i64 ac, .int .i64 ax, .int .u64 c6, .int .i64 g0, .int .i64 fs, .int .i64 aj, .slice bj bv ak, .int .u64 gm] 0 ∧
 Calls Try.prog 22 #[.pointer (some (blk a6.heap.size)), .pointer (some (blk a5.heap.size)), .agg #[.int .i64 ac, .int .i64 ax, .int .u64 c6, .int .i64 g0, .int .i64 fs, .int .i64 aj, .slice bj bv ak, .int .u64 gm]] nm fun q2 o8 => ∃ (fm : Int), q2 = .returned (.int .i64 fm) ∧
 bif dj != fm then (
 R (.bool false) o8) else (
 Calls Try.prog 14 #[.pointer a4, .pointer (some (blk a6.heap.size)), .pointer (some (blk a5.heap.size))] o8 fun qs ob => ∃ (ks : Bool), qs = .returned (.bool ks) ∧
 bif !ks then (
 R (.bool false) ob) else (
 ∃ qn, qn < lz ∧ I0 qn [.int .i64 (IntKind.i64.wrap (jr + 1))] ob)))) else (
 thenW (ic.drew) fun mb =>
 ∃ (cl : Int) (dt : Int) (j8 : Int) (ls : Int) (kv : Int) (dc : Int) (cz : Option Addr) (ef : Nat) (da : Nat) (lm : Int), cellsAt mb (blk a0.heap.size) [.int .i64 cl, .int .i64 dt, .int .u64 j8, .int .i64 ls, .int .i64 kv, .int .i64 dc, .slice cz ef da, .int .u64 lm] 0 ∧
 ∃ (aa : Int) (ap : Int) (cn : Int) (gf : Int) (gl : Int) (bh : Int) (b4 : Option Addr) (bc : Nat) (bp : Nat) (gg : Int), cellsAt mb (blk a0.heap.size) [.int .i64 aa, .int .i64 ap, .int .u64 cn, .int .i64 gf, .int .i64 gl, .int .i64 bh, .slice b4 bc bp, .int .u64 gg] 0 ∧
 Calls Try.prog 19 #[.pointer a4, .agg #[.int .i64 cl, .int .i64 dt, .int .u64 j8, .int .i64 ls, .int .i64 kv, .int .i64 dc, .slice cz ef da, .int .u64 lm]] mb fun s1 oq => ∃ (io : Int), s1 = .returned (.int .i64 io) ∧
 cellsAt oq (blk a0.heap.size) [.int .i64 aa, .int .i64 ap, .int .u64 cn, .int .i64 gf, .int .i64 gl, .int .i64 bh, .slice b4 bc bp, .int .u64 gg] 0 ∧
 Calls Try.prog 20 #[.pointer (some (blk a6.heap.size)), .pointer (some (blk a5.heap.size)), .agg #[.int .i64 aa, .int .i64 ap, .int .u64 cn, .int .i64 gf, .int .i64 gl, .int .i64 bh, .slice b4 bc bp, .int .u64 gg]] oq fun qu lr => ∃ (ih : Int), qu = .returned (.int .i64 ih) ∧
 bif io != ih then (
 R (.bool false) lr) else (
 ∃ (ce : Int) (ez : Int) (jo : Int) (ld : Int) (kl : Int) (cv : Int) (ep : Option Addr) (d9 : Nat) (dq : Nat) (l2 : Int), cellsAt lr (blk a0.heap.size) [.int .i64 ce, .int .i64 ez, .int .u64 jo, .int .i64 ld, .int .i64 kl, .int .i64 cv, .slice ep d9 dq, .int .u64 l2] 0 ∧
 ∃ (ab : Int) (ba : Int) (cj : Int) (gh : Int) (ge : Int) (bu : Int) (b5 : Option Addr) (ai : Nat) (aq : Nat) (fv : Int), cellsAt lr (blk a0.heap.size) [.int .i64 ab, .int .i64 ba, .int .u64 cj, .int .i64 gh, .int .i64 ge, .int .i64 bu, .slice b5 ai aq, .int .u64 fv] 0 ∧
 Calls Try.prog 21 #[.pointer a4, .agg #[.int .i64 ce, .int .i64 ez, .int .u64 jo, .int .i64 ld, .int .i64 kl, .int .i64 cv, .slice ep d9 dq, .int .u64 l2]] lr fun sb n6 => ∃ (ei : Int), sb = .returned (.int .i64 ei) ∧
 cellsAt n6 (blk a0.heap.size) [.int .i64 ab, .int .i64 ba, .int .u64 cj, .int .i64 gh, .int .i64 ge, .int .i64 bu, .slice b5 ai aq, .int .u64 fv] 0 ∧
 Calls Try.prog 22 #[.pointer (some (blk a6.heap.size)), .pointer (some (blk a5.heap.size)), .agg #[.int .i64 ab, .int .i64 ba, .int .u64 cj, .int .i64 gh, .int .i64 ge, .int .i64 bu, .slice b5 ai aq, .int .u64 fv]] n6 fun ss ov => ∃ (cx : Int), ss = .returned (.int .i64 cx) ∧
 bif ei != cx then (
 R (.bool false) ov) else (
 Calls Try.prog 14 #[.pointer a4, .pointer (some (blk a6.heap.size)), .pointer (some (blk a5.heap.size))] ov fun pi nl => ∃ (ka : Bool), pi = .returned (.bool ka) ∧
 bif !ka then (
 R (.bool false) nl) else (
 ∃ pr, pr < lz ∧ I0 pr [.int .i64 (IntKind.i64.wrap (jr + 1))] nl))))))) else (
 ∃ (lt : Int), bx.cell? ((blk a1.heap.size).add 0) = some (.int .i64 lt) ∧
 bif lt == 2 then (
 thenW (bx.drew) fun dp =>
 ∃ (qz : Int), dp.cell? ((blk a1.heap.size).add 4) = some (.int .i64 qz) ∧
 bif decide (qz < 0) then (
 ∃ pl, pl < lz ∧ I0 pl [.int .i64 (IntKind.i64.wrap (jr + 1))] dp) else (
 ∃ (q0 : Int), dp.cell? ((blk a1.heap.size).add 4) = some (.int .i64 q0) ∧
 ∃ (pj : Option Addr) (o6 : Nat) (qf : Nat), dp.cell? ((blk gc.heap.size).add 2) = some (.slice pj o6 qf) ∧
 bif decide (q0 ≥ (o6 : Int)) then (
 ∃ pd, pd < lz ∧ I0 pd [.int .i64 (IntKind.i64.wrap (jr + 1))] dp) else (
 thenW (dp.drew) fun dz =>
 ∃ (nn : Option Addr) (np : Nat) (qg : Nat), dz.cell? ((blk gc.heap.size).add 2) = some (.slice nn np qg) ∧
 ∃ (sj : Option Addr) (kt : Nat) (s5 : Nat), dz.cell? ((blk gc.heap.size).add 2) = some (.slice sj kt s5) ∧
 ∃ (mz : Int), dz.cell? ((blk a1.heap.size).add 4) = some (.int .i64 mz) ∧
 nn.elim False fun t1 =>
 0 ≤ ((IntKind.i64.wrap ((IntKind.i64.wrap ((kt : Int) - 1)) - mz)) : Int) ∧ ((IntKind.i64.wrap ((IntKind.i64.wrap ((kt : Int) - 1)) - mz)) : Int) < (np : Int) ∧
 ∃ (cb : Int) (eg : Int) (iy : Int) (kz : Int) (kd : Int) (fd : Int) (dd : Option Addr) (eh : Nat) (d1 : Nat) (kh : Int), cellsAt dz (t1.add (Int.toNat (IntKind.i64.wrap ((IntKind.i64.wrap ((kt : Int) - 1)) - mz)) * 8)) [.int .i64 cb, .int .i64 eg, .int .u64 iy, .int .i64 kz, .int .i64 kd, .int .i64 fd, .slice dd eh d1, .int .u64 kh] 0 ∧
 canStore dz ((blk a0.heap.size).add 0) ∧
 thenW (dz.setCell ((blk a0.heap.size).add 0) (.int .i64 cb)) fun nr =>
 canStore nr ((blk a0.heap.size).add 1) ∧
 thenW (nr.setCell ((blk a0.heap.size).add 1) (.int .i64 eg)) fun nv =>
 canStore nv ((blk a0.heap.size).add 2) ∧
 thenW (nv.setCell ((blk a0.heap.size).add 2) (.int .u64 iy)) fun p8 =>
 canStore p8 ((blk a0.heap.size).add 3) ∧
 thenW (p8.setCell ((blk a0.heap.size).add 3) (.int .i64 kz)) fun nd =>
 canStore nd ((blk a0.heap.size).add 4) ∧
 thenW (nd.setCell ((blk a0.heap.size).add 4) (.int .i64 kd)) fun og =>
 canStore og ((blk a0.heap.size).add 5) ∧
 thenW (og.setCell ((blk a0.heap.size).add 5) (.int .i64 fd)) fun ns =>
 canStore ns ((blk a0.heap.size).add 6) ∧
 thenW (ns.setCell ((blk a0.heap.size).add 6) (.slice dd eh d1)) fun oo =>
 canStore oo ((blk a0.heap.size).add 7) ∧
 thenW (oo.setCell ((blk a0.heap.size).add 7) (.int .u64 kh)) fun j4 =>
 ∃ (kf : Int), j4.cell? ((blk a1.heap.size).add 0) = some (.int .i64 kf) ∧
 bif kf == 2 then (
 ∃ (c3 : Int) (ek : Int) (i1 : Int) (kw : Int) (kp : Int) (ey : Int) (db : Option Addr) (cr : Nat) (e6 : Nat) (kr : Int), cellsAt j4 (blk a0.heap.size) [.int .i64 c3, .int .i64 ek, .int .u64 i1, .int .i64 kw, .int .i64 kp, .int .i64 ey, .slice db cr e6, .int .u64 kr] 0 ∧
 ∃ (gr : Int), j4.cell? ((blk a1.heap.size).add 5) = some (.int .i64 gr) ∧
 Calls Try.prog 18 #[.agg #[.int .i64 c3, .int .i64 ek, .int .u64 i1, .int .i64 kw, .int .i64 kp, .int .i64 ey, .slice db cr e6, .int .u64 kr], .int .i64 gr] j4 fun sd oy => ∃ (dx : Int) (ir : Int) (l6 : Int) (m4 : Int) (mk : Int) (iw : Int) (j2 : Option Addr) (jb : Nat) (it : Nat) (m6 : Int), sd = .returned (.agg #[.int .i64 dx, .int .i64 ir, .int .u64 l6, .int .i64 m4, .int .i64 mk, .int .i64 iw, .slice j2 jb it, .int .u64 m6]) ∧
 canStore oy ((blk a0.heap.size).add 0) ∧
 thenW (oy.setCell ((blk a0.heap.size).add 0) (.int .i64 dx)) fun oj =>
 canStore oj ((blk a0.heap.size).add 1) ∧
 thenW (oj.setCell ((blk a0.heap.size).add 1) (.int .i64 ir)) fun nz =>
 canStore nz ((blk a0.heap.size).add 2) ∧
 thenW (nz.setCell ((blk a0.heap.size).add 2) (.int .u64 l6)) fun os =>
 canStore os ((blk a0.heap.size).add 3) ∧
 thenW (os.setCell ((blk a0.heap.size).add 3) (.int .i64 m4)) fun nq =>
 canStore nq ((blk a0.heap.size).add 4) ∧
 thenW (nq.setCell ((blk a0.heap.size).add 4) (.int .i64 mk)) fun oc =>
 canStore oc ((blk a0.heap.size).add 5) ∧
 thenW (oc.setCell ((blk a0.heap.size).add 5) (.int .i64 iw)) fun p6 =>
 canStore p6 ((blk a0.heap.size).add 6) ∧
 thenW (p6.setCell ((blk a0.heap.size).add 6) (.slice j2 jb it)) fun n2 =>
 canStore n2 ((blk a0.heap.size).add 7) ∧
 thenW (n2.setCell ((blk a0.heap.size).add 7) (.int .u64 m6)) fun qw =>
 thenW (qw.drew) fun ml =>
 ∃ (ck : Int) (dg : Int) (i2 : Int) (k2 : Int) (lv : Int) (f3 : Int) (du : Option Addr) (e3 : Nat) (ff : Nat) (ke : Int), cellsAt ml (blk a0.heap.size) [.int .i64 ck, .int .i64 dg, .int .u64 i2, .int .i64 k2, .int .i64 lv, .int .i64 f3, .slice du e3 ff, .int .u64 ke] 0 ∧
 ∃ (ag : Int) (b7 : Int) (co : Int) (g3 : Int) (fz : Int) (b1 : Int) (br : Option Addr) (b8 : Nat) (av : Nat) (g6 : Int), cellsAt ml (blk a0.heap.size) [.int .i64 ag, .int .i64 b7, .int .u64 co, .int .i64 g3, .int .i64 fz, .int .i64 b1, .slice br b8 av, .int .u64 g6] 0 ∧
 Calls Try.prog 19 #[.pointer a4, .agg #[.int .i64 ck, .int .i64 dg, .int .u64 i2, .int .i64 k2, .int .i64 lv, .int .i64 f3, .slice du e3 ff, .int .u64 ke]] ml fun sn oh => ∃ (ii : Int), sn = .returned (.int .i64 ii) ∧
 cellsAt oh (blk a0.heap.size) [.int .i64 ag, .int .i64 b7, .int .u64 co, .int .i64 g3, .int .i64 fz, .int .i64 b1, .slice br b8 av, .int .u64 g6] 0 ∧
 Calls Try.prog 20 #[.pointer (some (blk a6.heap.size)), .pointer (some (blk a5.heap.size)), .agg #[.int .i64 ag, .int .i64 b7, .int .u64 co, .int .i64 g3, .int .i64 fz, .int .i64 b1, .slice br b8 av, .int .u64 g6]] oh fun q7 k5 => ∃ (jg : Int), q7 = .returned (.int .i64 jg) ∧
 bif ii != jg then (
 R (.bool false) k5) else (
 ∃ (ci : Int) (f5 : Int) (i9 : Int) (l3 : Int) (k3 : Int) (fc : Int) (f9 : Option Addr) (cy : Nat) (fi : Nat) (l7 : Int), cellsAt k5 (blk a0.heap.size) [.int .i64 ci, .int .i64 f5, .int .u64 i9, .int .i64 l3, .int .i64 k3, .int .i64 fc, .slice f9 cy fi, .int .u64 l7] 0 ∧
 ∃ (ad : Int) (bi : Int) (ca : Int) (ga : Int) (g1 : Int) (bn : Int) (bm : Option Addr) (au : Nat) (bs : Nat) (g9 : Int), cellsAt k5 (blk a0.heap.size) [.int .i64 ad, .int .i64 bi, .int .u64 ca, .int .i64 ga, .int .i64 g1, .int .i64 bn, .slice bm au bs, .int .u64 g9] 0 ∧
 Calls Try.prog 21 #[.pointer a4, .agg #[.int .i64 ci, .int .i64 f5, .int .u64 i9, .int .i64 l3, .int .i64 k3, .int .i64 fc, .slice f9 cy fi, .int .u64 l7]] k5 fun pe nc => ∃ (f7 : Int), pe = .returned (.int .i64 f7) ∧
 cellsAt nc (blk a0.heap.size) [.int .i64 ad, .int .i64 bi, .int .u64 ca, .int .i64 ga, .int .i64 g1, .int .i64 bn, .slice bm au bs, .int .u64 g9] 0 ∧
 Calls Try.prog 22 #[.pointer (some (blk a6.heap.size)), .pointer (some (blk a5.heap.size)), .agg #[.int .i64 ad, .int .i64 bi, .int .u64 ca, .int .i64 ga, .int .i64 g1, .int .i64 bn, .slice bm au bs, .int .u64 g9]] nc fun sp ox => ∃ (d3 : Int), sp = .returned (.int .i64 d3) ∧
 bif f7 != d3 then (
 R (.bool false) ox) else (
 Calls Try.prog 14 #[.pointer a4, .pointer (some (blk a6.heap.size)), .pointer (some (blk a5.heap.size))] ox fun pm o1 => ∃ (l9 : Bool), pm = .returned (.bool l9) ∧
 bif !l9 then (
 R (.bool false) o1) else (
 ∃ qa, qa < lz ∧ I0 qa [.int .i64 (IntKind.i64.wrap (jr + 1))] o1)))) else (
 thenW (j4.drew) fun m0 =>
 ∃ (bz : Int) (dv : Int) (iv : Int) (jz : Int) (lh : Int) (di : Int) (e2 : Option Addr) (ev : Nat) (d6 : Nat) (jv : Int), cellsAt m0 (blk a0.heap.size) [.int .i64 bz, .int .i64 dv, .int .u64 iv, .int .i64 jz, .int .i64 lh, .int .i64 di, .slice e2 ev d6, .int .u64 jv] 0 ∧
 ∃ (ae : Int) (ar : Int) (c2 : Int) (gk : Int) (gj : Int) (bl : Int) (al : Option Addr) (bb : Nat) (bo : Nat) (ft : Int), cellsAt m0 (blk a0.heap.size) [.int .i64 ae, .int .i64 ar, .int .u64 c2, .int .i64 gk, .int .i64 gj, .int .i64 bl, .slice al bb bo, .int .u64 ft] 0 ∧
 Calls Try.prog 19 #[.pointer a4, .agg #[.int .i64 bz, .int .i64 dv, .int .u64 iv, .int .i64 jz, .int .i64 lh, .int .i64 di, .slice e2 ev d6, .int .u64 jv]] m0 fun qt o5 => ∃ (jj : Int), qt = .returned (.int .i64 jj) ∧
 cellsAt o5 (blk a0.heap.size) [.int .i64 ae, .int .i64 ar, .int .u64 c2, .int .i64 gk, .int .i64 gj, .int .i64 bl, .slice al bb bo, .int .u64 ft] 0 ∧
 Calls Try.prog 20 #[.pointer (some (blk a6.heap.size)), .pointer (some (blk a5.heap.size)), .agg #[.int .i64 ae, .int .i64 ar, .int .u64 c2, .int .i64 gk, .int .i64 gj, .int .i64 bl, .slice al bb bo, .int .u64 ft]] o5 fun pf ku => ∃ (im : Int), pf = .returned (.int .i64 im) ∧
 bif jj != im then (
 R (.bool false) ku) else (
 ∃ (c8 : Int) (fl : Int) (gq : Int) (la : Int) (lb : Int) (ec : Int) (f1 : Option Addr) (f6 : Nat) (e0 : Nat) (ki : Int), cellsAt ku (blk a0.heap.size) [.int .i64 c8, .int .i64 fl, .int .u64 gq, .int .i64 la, .int .i64 lb, .int .i64 ec, .slice f1 f6 e0, .int .u64 ki] 0 ∧
 ∃ (a8 : Int) (az : Int) (cp : Int) (fp : Int) (g7 : Int) (ay : Int) (an : Option Addr) (be : Nat) (bw : Nat) (fy : Int), cellsAt ku (blk a0.heap.size) [.int .i64 a8, .int .i64 az, .int .u64 cp, .int .i64 fp, .int .i64 g7, .int .i64 ay, .slice an be bw, .int .u64 fy] 0 ∧
 Calls Try.prog 21 #[.pointer a4, .agg #[.int .i64 c8, .int .i64 fl, .int .u64 gq, .int .i64 la, .int .i64 lb, .int .i64 ec, .slice f1 f6 e0, .int .u64 ki]] ku fun pu p7 => ∃ (d2 : Int), pu = .returned (.int .i64 d2) ∧
 cellsAt p7 (blk a0.heap.size) [.int .i64 a8, .int .i64 az, .int .u64 cp, .int .i64 fp, .int .i64 g7, .int .i64 ay, .slice an be bw, .int .u64 fy] 0 ∧
 Calls Try.prog 22 #[.pointer (some (blk a6.heap.size)), .pointer (some (blk a5.heap.size)), .agg #[.int .i64 a8, .int .i64 az, .int .u64 cp, .int .i64 fp, .int .i64 g7, .int .i64 ay, .slice an be bw, .int .u64 fy]] p7 fun pk nu => ∃ (fk : Int), pk = .returned (.int .i64 fk) ∧
 bif d2 != fk then (
 R (.bool false) nu) else (
 Calls Try.prog 14 #[.pointer a4, .pointer (some (blk a6.heap.size)), .pointer (some (blk a5.heap.size))] nu fun pq n0 => ∃ (l8 : Bool), pq = .returned (.bool l8) ∧
 bif !l8 then (
 R (.bool false) n0) else (
 ∃ q4, q4 < lz ∧ I0 q4 [.int .i64 (IntKind.i64.wrap (jr + 1))] n0))))))) else (
 thenW (bx.drew) fun m9 =>
 ∃ (cc : Int) (eu : Int) (gu : Int) (k7 : Int) (lj : Int) (fj : Int) (e9 : Option Addr) (ex : Nat) (dw : Nat) (k4 : Int), cellsAt m9 (blk a0.heap.size) [.int .i64 cc, .int .i64 eu, .int .u64 gu, .int .i64 k7, .int .i64 lj, .int .i64 fj, .slice e9 ex dw, .int .u64 k4] 0 ∧
 ∃ (a7 : Int) (bg : Int) (c1 : Int) (gb : Int) (g4 : Int) (bq : Int) (am : Option Addr) (b0 : Nat) (b3 : Nat) (gi : Int), cellsAt m9 (blk a0.heap.size) [.int .i64 a7, .int .i64 bg, .int .u64 c1, .int .i64 gb, .int .i64 g4, .int .i64 bq, .slice am b0 b3, .int .u64 gi] 0 ∧
 Calls Try.prog 19 #[.pointer a4, .agg #[.int .i64 cc, .int .i64 eu, .int .u64 gu, .int .i64 k7, .int .i64 lj, .int .i64 fj, .slice e9 ex dw, .int .u64 k4]] m9 fun q1 n3 => ∃ (i4 : Int), q1 = .returned (.int .i64 i4) ∧
 cellsAt n3 (blk a0.heap.size) [.int .i64 a7, .int .i64 bg, .int .u64 c1, .int .i64 gb, .int .i64 g4, .int .i64 bq, .slice am b0 b3, .int .u64 gi] 0 ∧
 Calls Try.prog 20 #[.pointer (some (blk a6.heap.size)), .pointer (some (blk a5.heap.size)), .agg #[.int .i64 a7, .int .i64 bg, .int .u64 c1, .int .i64 gb, .int .i64 g4, .int .i64 bq, .slice am b0 b3, .int .u64 gi]] n3 fun qv lx => ∃ (j9 : Int), qv = .returned (.int .i64 j9) ∧
 bif i4 != j9 then (
 R (.bool false) lx) else (
 ∃ (cd : Int) (dh : Int) (ji : Int) (k8 : Int) (k0 : Int) (ed : Int) (el : Option Addr) (ct : Nat) (d8 : Nat) (jt : Int), cellsAt lx (blk a0.heap.size) [.int .i64 cd, .int .i64 dh, .int .u64 ji, .int .i64 k8, .int .i64 k0, .int .i64 ed, .slice el ct d8, .int .u64 jt] 0 ∧
 ∃ (a9 : Int) (b9 : Int) (cm : Int) (g5 : Int) (g8 : Int) (bt : Int) (bk : Option Addr) (b6 : Nat) (ao : Nat) (fx : Int), cellsAt lx (blk a0.heap.size) [.int .i64 a9, .int .i64 b9, .int .u64 cm, .int .i64 g5, .int .i64 g8, .int .i64 bt, .slice bk b6 ao, .int .u64 fx] 0 ∧
 Calls Try.prog 21 #[.pointer a4, .agg #[.int .i64 cd, .int .i64 dh, .int .u64 ji, .int .i64 k8, .int .i64 k0, .int .i64 ed, .slice el ct d8, .int .u64 jt]] lx fun pg ou => ∃ (e8 : Int), pg = .returned (.int .i64 e8) ∧
 cellsAt ou (blk a0.heap.size) [.int .i64 a9, .int .i64 b9, .int .u64 cm, .int .i64 g5, .int .i64 g8, .int .i64 bt, .slice bk b6 ao, .int .u64 fx] 0 ∧
 Calls Try.prog 22 #[.pointer (some (blk a6.heap.size)), .pointer (some (blk a5.heap.size)), .agg #[.int .i64 a9, .int .i64 b9, .int .u64 cm, .int .i64 g5, .int .i64 g8, .int .i64 bt, .slice bk b6 ao, .int .u64 fx]] ou fun po nt => ∃ (et : Int), po = .returned (.int .i64 et) ∧
 bif e8 != et then (
 R (.bool false) nt) else (
 Calls Try.prog 14 #[.pointer a4, .pointer (some (blk a6.heap.size)), .pointer (some (blk a5.heap.size))] nt fun sh oi => ∃ (lf : Bool), sh = .returned (.bool lf) ∧
 bif !lf then (
 R (.bool false) oi) else (
 ∃ qr, qr < lz ∧ I0 qr [.int .i64 (IntKind.i64.wrap (jr + 1))] oi)))))))) else (
 R (.bool true) a1)))))

theorem cachettelaw07_ChainPlays.eq (draws1a : Option Addr) (draws1n : Nat) (draws1c : Nat) (l2a : Option Addr) (l2n : Nat) (l2c : Nat) (R : Value → World → Prop) (w : World) : mfunc Try.prog [(0, [1, 6, 7, 9, 11, 13, 14], [(15, (.one (.int .i64)))])] 3 [.slice draws1a draws1n draws1c, .slice l2a l2n l2c] R w = cachettelaw07_ChainPlays.M draws1a draws1n draws1c l2a l2n l2c R w := by kernel_rfl
theorem cachettelaw07_ChainPlays.ok (a2 : Option Addr) (a0 : Nat) (a1 : Nat) (a3 : Option Addr) (a5 : Nat) (a4 : Nat) {R : Value → World → Prop} {w : World} (h : cachettelaw07_ChainPlays.M a2 a0 a1 a3 a5 a4 R w) : Calls Try.prog 3 #[.slice a2 a0 a1, .slice a3 a5 a4] w fun e w' => ∃ v, e = .returned v ∧ R v w' :=
  mfunc_ok follows (H := [(0, [1, 6, 7, 9, 11, 13, 14], [(15, (.one (.int .i64)))])]) (args := [.slice a2 a0 a1, .slice a3 a5 a4]) (by rw [cachettelaw07_ChainPlays.eq]; exact h)

def cachettelaw07_ChainPlays.N (ck : Option Addr) (cd : Nat) (ce : Nat) (ib : Option Addr) (gv : Nat) (ie : Nat) (R : Value → World → Prop) (w : World) : Prop :=
 Calls Try.prog 5 #[.slice ck cd ce, .slice ib gv ie] w fun ii i9 => ∃ (d0 : Bool), ii = .returned (.bool d0) ∧
 (d0 = false →
 Calls Try.prog 6 #[] i9 fun ij ig => ∃ (dw : Bool), ij = .returned (.bool dw) ∧
 R (.bool dw) ig) ∧
 (d0 = true →
 Calls Try.prog 7 #[.slice ck cd ce] i9 fun i4 fb => ∃ (d9 : Option Addr), i4 = .returned (.pointer d9) ∧
 ∀ (ei : World) (ca : Nat), Ext no fb ei → Blk ei ca 31 [.slice ck cd ce, .slice none 0 0] → fb.heap.size ≤ ca → ca < ei.heap.size →
 Calls Try.prog 8 #[.pointer d9] ei fun i3 i2 => ∃ (d1 : Int) (bj : Int), i3 = .returned (.tuple #[.int .u64 d1, .int .u64 bj]) ∧
 Calls Try.prog 9 #[.pointer (some (blk ca))] i2 fun i5 i0 => ∃ (f7 : Int) (f6 : Int), i5 = .returned (.tuple #[.int .u64 f7, .int .u64 f6]) ∧
 Calls Try.prog 10 #[.pointer d9, .int .i64 1, .int .u64 bj] i0 fun gy gx => ∃ (dr : Option Addr) (e7 : Int), gy = .returned (.tuple #[.pointer dr, .int .i64 e7]) ∧
 Calls Try.prog 10 #[.pointer d9, .int .i64 1, .int .u64 bj] gx fun i8 fj => ∃ (a8 : Option Addr) (dl : Int), i8 = .returned (.tuple #[.pointer a8, .int .i64 dl]) ∧
 ∀ (e0 : World) (e4 : Nat), Ext no fj e0 → Blk e0 e4 42 [.int .i64 1, .int .u64 bj, .slice none 0 0] → fj.heap.size ≤ e4 → e4 < e0.heap.size →
 ∀ (dj : World) (ct : Nat), Ext no e0 dj → Blk dj ct 42 [.int .i64 1, .int .u64 bj, .slice none 0 0] → e0.heap.size ≤ ct → ct < dj.heap.size →
 (e7 ≠ 0 →
 R (.bool false) dj) ∧
 (e7 = 0 →
 (dl ≠ 0 →
 R (.bool false) dj) ∧
 (dl = 0 →
 Calls Try.prog 6 #[] dj fun gz ft => ∃ (cb : Bool), gz = .returned (.bool cb) ∧
 (cb = false →
 R (.bool false) ft) ∧
 (cb = true →
 ∃ (I0 : Nat → List Value → World → Prop) (ih : Nat), I0 ih [.int .i64 0] ft ∧ ∀ (e3 : Nat) (a1 : World) (aj : Int), I0 e3 [.int .i64 aj] a1 →
 (aj < (gv : Int) →
 ∃ ic : Addr, ib = some ic ∧
 0 ≤ (aj : Int) ∧ (aj : Int) < (gv : Int) ∧
 ∃ (a0 : Int) (f8 : Int) (c0 : Int) (bt : Option Addr) (bz : Nat) (bk : Nat) (aa : Int) (bn : Int) (a9 : Int) (ae : Int) (al : Int) (b0 : Int) (b2 : Int) (ah : Int) (ab : Option Addr) (af : Nat) (ai : Nat) (b1 : Int), cellsAt a1 (ic.add (Int.toNat aj * 14)) [.int .i64 a0, .int .i64 f8, .int .i64 c0, .slice bt bz bk, .int .i64 aa, .int .i64 bn, .int .i64 a9, .int .i64 ae, .int .u64 al, .int .i64 b0, .int .i64 b2, .int .i64 ah, .slice ab af ai, .int .u64 b1] 0 ∧
 (a0 = 4 →
 ∀ (eg : World) (ia : Nat), Ext no a1 eg → Priv a1 eg [ia] →
 Calls Try.prog 12 #[.pointer a8, .int .i64 aa] eg fun i6 gt => ∃ (dt : Option Addr) (e1 : Nat) (e5 : Nat), i6 = .returned (.slice dt e1 e5) ∧
 Keep [ia] eg gt ∧
 Calls Try.prog 13 #[.pointer (some (blk ct)), .int .i64 aa] gt fun i7 gw => ∃ (dy : Option Addr) (dv : Nat) (du : Nat), i7 = .returned (.slice dy dv du) ∧
 Calls Try.prog 11 #[.slice dt e1 e5, .slice dy dv du] gw fun i1 gg => ∃ (dp : Bool), i1 = .returned (.bool dp) ∧
 (dp = false →
 R (.bool false) gg) ∧
 (dp = true →
 Calls Try.prog 14 #[.pointer a8, .pointer (some (blk ct)), .pointer (some (blk ca))] gg fun gs ew => ∃ (cl : Bool), gs = .returned (.bool cl) ∧
 (cl = false →
 R (.bool false) ew) ∧
 (cl = true →
 (-9223372036854775808 : Int) ≤ (aj + 1) ∧ (aj + 1) < 9223372036854775808 ∧
 ∃ ge, ge < e3 ∧ I0 ge [.int .i64 (aj + 1)] ew))) ∧
 (a0 ≠ 4 →
 (a0 = 0 →
 ∀ (ef : World) (gk : Nat), Ext no a1 ef → Priv a1 ef [gk] →
 Calls Try.prog 15 #[.pointer dr, .int .u64 d1, .agg #[.int .i64 f8, .int .i64 1], .int .i64 c0, .slice bt bz bk] ef fun gu dm => ∃ (c6 : Int) (cs : Int) (d5 : Int) (dx : Int) (ed : Int) (cv : Int) (cw : Option Addr) (cn : Nat) (cz : Nat) (dn : Int) (bs : Int), gu = .returned (.tuple #[.agg #[.int .i64 c6, .int .i64 cs, .int .u64 d5, .int .i64 dx, .int .i64 ed, .int .i64 cv, .slice cw cn cz, .int .u64 dn], .int .i64 bs]) ∧
 Keep [gk] ef dm ∧
 ∀ (d7 : World) (ga : Nat), Ext no dm d7 → Priv dm d7 [ga] →
 Calls Try.prog 16 #[.pointer (some (blk e4)), .pointer (some (blk ca)), .int .u64 d1, .agg #[.int .i64 f8, .int .i64 1], .int .i64 c0, .slice bt bz bk] d7 fun fk f3 => ∃ (c4 : Int) (cy : Int) (df : Int) (dz : Int) (dq : Int) (co : Int) (cu : Option Addr) (cp : Nat) (cm : Nat) (e6 : Int) (br : Int), fk = .returned (.tuple #[.agg #[.int .i64 c4, .int .i64 cy, .int .u64 df, .int .i64 dz, .int .i64 dq, .int .i64 co, .slice cu cp cm, .int .u64 e6], .int .i64 br]) ∧
 Keep [ga] d7 f3 ∧
 ∀ (f4 : World), Ext no f3 f4 →
 Calls Try.prog 17 #[.agg #[.int .i64 c6, .int .i64 cs, .int .u64 d5, .int .i64 dx, .int .i64 ed, .int .i64 cv, .slice cw cn cz, .int .u64 dn], .agg #[.int .i64 c4, .int .i64 cy, .int .u64 df, .int .i64 dz, .int .i64 dq, .int .i64 co, .slice cu cp cm, .int .u64 e6]] f4 fun fs e9 => ∃ (cj : Bool), fs = .returned (.bool cj) ∧
 (cj = false →
 R (.bool false) e9) ∧
 (cj = true →
 (bs ≠ br →
 R (.bool false) e9) ∧
 (bs = br →
 Calls Try.prog 14 #[.pointer dr, .pointer (some (blk e4)), .pointer (some (blk ca))] e9 fun fm eu => ∃ (ci : Bool), fm = .returned (.bool ci) ∧
 (ci = false →
 R (.bool false) eu) ∧
 (ci = true →
 (-9223372036854775808 : Int) ≤ (aj + 1) ∧ (aj + 1) < 9223372036854775808 ∧
 ∃ g4, g4 < e3 ∧ I0 g4 [.int .i64 (aj + 1)] eu)))) ∧
 (a0 ≠ 0 →
 (a0 = 1 →
 (aa < 0 →
 (-9223372036854775808 : Int) ≤ (aj + 1) ∧ (aj + 1) < 9223372036854775808 ∧
 ∀ (cq : World), Ext no a1 cq →
 ∃ fz, fz < e3 ∧ I0 fz [.int .i64 (aj + 1)] cq) ∧
 ((0 : Int) ≤ aa →
 ∃ (gj : Option Addr) (e2 : Nat) (gi : Nat), a1.cell? ((blk e4).add 2) = some (.slice gj e2 gi) ∧
 (aa ≥ (e2 : Int) →
 (-9223372036854775808 : Int) ≤ (aj + 1) ∧ (aj + 1) < 9223372036854775808 ∧
 ∀ (cq : World), Ext no a1 cq →
 ∃ gm, gm < e3 ∧ I0 gm [.int .i64 (aj + 1)] cq) ∧
 (aa < (e2 : Int) →
 ∃ (ek : Option Addr) (ey : Nat) (gr : Nat), a1.cell? ((blk e4).add 2) = some (.slice ek ey gr) ∧
 ∃ (gn : Option Addr) (bd : Nat) (fi : Nat), a1.cell? ((blk e4).add 2) = some (.slice gn bd fi) ∧
 (-9223372036854775808 : Int) ≤ ((bd : Int) - 1) ∧ ((bd : Int) - 1) < 9223372036854775808 ∧
 (-9223372036854775808 : Int) ≤ (((bd : Int) - 1) - aa) ∧ (((bd : Int) - 1) - aa) < 9223372036854775808 ∧
 ∃ fq : Addr, ek = some fq ∧
 0 ≤ ((((bd : Int) - 1) - aa) : Int) ∧ ((((bd : Int) - 1) - aa) : Int) < (ey : Int) ∧
 ∃ (a2 : Int) (a4 : Int) (ag : Int) (ay : Int) (ax : Int) (a6 : Int) (a5 : Option Addr) (a3 : Nat) (a7 : Nat) (az : Int), cellsAt a1 (fq.add (Int.toNat (((bd : Int) - 1) - aa) * 8)) [.int .i64 a2, .int .i64 a4, .int .u64 ag, .int .i64 ay, .int .i64 ax, .int .i64 a6, .slice a5 a3 a7, .int .u64 az] 0 ∧
 (a0 = 2 →
 ∀ (d8 : World) (dh : Nat), Ext no a1 d8 → Priv a1 d8 [dh] →
 Calls Try.prog 18 #[.agg #[.int .i64 a2, .int .i64 a4, .int .u64 ag, .int .i64 ay, .int .i64 ax, .int .i64 a6, .slice a5 a3 a7, .int .u64 az], .int .i64 bn] d8 fun g8 ex => ∃ (ac : Int) (an : Int) (b4 : Int) (bu : Int) (c1 : Int) (av : Int) (ap : Option Addr) (am : Nat) (ar : Nat) (bl : Int), g8 = .returned (.agg #[.int .i64 ac, .int .i64 an, .int .u64 b4, .int .i64 bu, .int .i64 c1, .int .i64 av, .slice ap am ar, .int .u64 bl]) ∧
 Keep [dh] d8 ex ∧
 ∀ (ea : World), Ext (fun b => b = dh) ex ea →
 Calls Try.prog 19 #[.pointer a8, .agg #[.int .i64 ac, .int .i64 an, .int .u64 b4, .int .i64 bu, .int .i64 c1, .int .i64 av, .slice ap am ar, .int .u64 bl]] ea fun g5 e8 => ∃ (bv : Int), g5 = .returned (.int .i64 bv) ∧
 Keep [dh] ea e8 ∧
 Calls Try.prog 20 #[.pointer (some (blk ct)), .pointer (some (blk ca)), .agg #[.int .i64 ac, .int .i64 an, .int .u64 b4, .int .i64 bu, .int .i64 c1, .int .i64 av, .slice ap am ar, .int .u64 bl]] e8 fun g1 d3 => ∃ (bm : Int), g1 = .returned (.int .i64 bm) ∧
 Keep [dh] e8 d3 ∧
 (bv ≠ bm →
 R (.bool false) d3) ∧
 (bv = bm →
 Calls Try.prog 21 #[.pointer a8, .agg #[.int .i64 ac, .int .i64 an, .int .u64 b4, .int .i64 bu, .int .i64 c1, .int .i64 av, .slice ap am ar, .int .u64 bl]] d3 fun ff el => ∃ (ba : Int), ff = .returned (.int .i64 ba) ∧
 Keep [dh] d3 el ∧
 Calls Try.prog 22 #[.pointer (some (blk ct)), .pointer (some (blk ca)), .agg #[.int .i64 ac, .int .i64 an, .int .u64 b4, .int .i64 bu, .int .i64 c1, .int .i64 av, .slice ap am ar, .int .u64 bl]] el fun fg en => ∃ (b8 : Int), fg = .returned (.int .i64 b8) ∧
 (ba ≠ b8 →
 R (.bool false) en) ∧
 (ba = b8 →
 Calls Try.prog 14 #[.pointer a8, .pointer (some (blk ct)), .pointer (some (blk ca))] en fun fu es => ∃ (cg : Bool), fu = .returned (.bool cg) ∧
 (cg = false →
 R (.bool false) es) ∧
 (cg = true →
 (-9223372036854775808 : Int) ≤ (aj + 1) ∧ (aj + 1) < 9223372036854775808 ∧
 ∃ g0, g0 < e3 ∧ I0 g0 [.int .i64 (aj + 1)] es)))) ∧
 (a0 ≠ 2 →
 ∀ (dd : World) (eh : Nat), Ext no a1 dd → Priv a1 dd [eh] →
 Calls Try.prog 19 #[.pointer a8, .agg #[.int .i64 a2, .int .i64 a4, .int .u64 ag, .int .i64 ay, .int .i64 ax, .int .i64 a6, .slice a5 a3 a7, .int .u64 az]] dd fun g6 ee => ∃ (bg : Int), g6 = .returned (.int .i64 bg) ∧
 Keep [eh] dd ee ∧
 Calls Try.prog 20 #[.pointer (some (blk ct)), .pointer (some (blk ca)), .agg #[.int .i64 a2, .int .i64 a4, .int .u64 ag, .int .i64 ay, .int .i64 ax, .int .i64 a6, .slice a5 a3 a7, .int .u64 az]] ee fun gl da => ∃ (bp : Int), gl = .returned (.int .i64 bp) ∧
 Keep [eh] ee da ∧
 (bg ≠ bp →
 R (.bool false) da) ∧
 (bg = bp →
 Calls Try.prog 21 #[.pointer a8, .agg #[.int .i64 a2, .int .i64 a4, .int .u64 ag, .int .i64 ay, .int .i64 ax, .int .i64 a6, .slice a5 a3 a7, .int .u64 az]] da fun g9 f1 => ∃ (b7 : Int), g9 = .returned (.int .i64 b7) ∧
 Keep [eh] da f1 ∧
 Calls Try.prog 22 #[.pointer (some (blk ct)), .pointer (some (blk ca)), .agg #[.int .i64 a2, .int .i64 a4, .int .u64 ag, .int .i64 ay, .int .i64 ax, .int .i64 a6, .slice a5 a3 a7, .int .u64 az]] f1 fun gd eo => ∃ (b6 : Int), gd = .returned (.int .i64 b6) ∧
 (b7 ≠ b6 →
 R (.bool false) eo) ∧
 (b7 = b6 →
 Calls Try.prog 14 #[.pointer a8, .pointer (some (blk ct)), .pointer (some (blk ca))] eo fun g2 et => ∃ (ch : Bool), g2 = .returned (.bool ch) ∧
 (ch = false →
 R (.bool false) et) ∧
 (ch = true →
 (-9223372036854775808 : Int) ≤ (aj + 1) ∧ (aj + 1) < 9223372036854775808 ∧
 ∃ fv, fv < e3 ∧ I0 fv [.int .i64 (aj + 1)] et))))))) ∧
 (a0 ≠ 1 →
 (a0 = 2 →
 (aa < 0 →
 (-9223372036854775808 : Int) ≤ (aj + 1) ∧ (aj + 1) < 9223372036854775808 ∧
 ∀ (cx : World), Ext no a1 cx →
 ∃ gf, gf < e3 ∧ I0 gf [.int .i64 (aj + 1)] cx) ∧
 ((0 : Int) ≤ aa →
 ∃ (fw : Option Addr) (ec : Nat) (fh : Nat), a1.cell? ((blk e4).add 2) = some (.slice fw ec fh) ∧
 (aa ≥ (ec : Int) →
 (-9223372036854775808 : Int) ≤ (aj + 1) ∧ (aj + 1) < 9223372036854775808 ∧
 ∀ (cx : World), Ext no a1 cx →
 ∃ fc, fc < e3 ∧ I0 fc [.int .i64 (aj + 1)] cx) ∧
 (aa < (ec : Int) →
 ∃ (ep : Option Addr) (er : Nat) (gh : Nat), a1.cell? ((blk e4).add 2) = some (.slice ep er gh) ∧
 ∃ (g3 : Option Addr) (be : Nat) (g7 : Nat), a1.cell? ((blk e4).add 2) = some (.slice g3 be g7) ∧
 (-9223372036854775808 : Int) ≤ ((be : Int) - 1) ∧ ((be : Int) - 1) < 9223372036854775808 ∧
 (-9223372036854775808 : Int) ≤ (((be : Int) - 1) - aa) ∧ (((be : Int) - 1) - aa) < 9223372036854775808 ∧
 ∃ fr : Addr, ep = some fr ∧
 0 ≤ ((((be : Int) - 1) - aa) : Int) ∧ ((((be : Int) - 1) - aa) : Int) < (er : Int) ∧
 ∃ (bf : Int) (c8 : Int) (cr : Int) (dc : Int) (dg : Int) (c5 : Int) (c7 : Option Addr) (c3 : Nat) (c9 : Nat) (d6 : Int), cellsAt a1 (fr.add (Int.toNat (((be : Int) - 1) - aa) * 8)) [.int .i64 bf, .int .i64 c8, .int .u64 cr, .int .i64 dc, .int .i64 dg, .int .i64 c5, .slice c7 c3 c9, .int .u64 d6] 0 ∧
 ∀ (d4 : World) (di : Nat), Ext no a1 d4 → Priv a1 d4 [di] →
 Calls Try.prog 18 #[.agg #[.int .i64 bf, .int .i64 c8, .int .u64 cr, .int .i64 dc, .int .i64 dg, .int .i64 c5, .slice c7 c3 c9, .int .u64 d6], .int .i64 bn] d4 fun fe f0 => ∃ (ad : Int) (aw : Int) (b3 : Int) (bx : Int) (bo : Int) (au : Int) (ak : Option Addr) (aq : Nat) (ao : Nat) (bh : Int), fe = .returned (.agg #[.int .i64 ad, .int .i64 aw, .int .u64 b3, .int .i64 bx, .int .i64 bo, .int .i64 au, .slice ak aq ao, .int .u64 bh]) ∧
 Keep [di] d4 f0 ∧
 ∀ (eb : World), Ext (fun b => b = di) f0 eb →
 Calls Try.prog 19 #[.pointer a8, .agg #[.int .i64 ad, .int .i64 aw, .int .u64 b3, .int .i64 bx, .int .i64 bo, .int .i64 au, .slice ak aq ao, .int .u64 bh]] eb fun fy ds => ∃ (bq : Int), fy = .returned (.int .i64 bq) ∧
 Keep [di] eb ds ∧
 Calls Try.prog 20 #[.pointer (some (blk ct)), .pointer (some (blk ca)), .agg #[.int .i64 ad, .int .i64 aw, .int .u64 b3, .int .i64 bx, .int .i64 bo, .int .i64 au, .slice ak aq ao, .int .u64 bh]] ds fun f9 db => ∃ (bi : Int), f9 = .returned (.int .i64 bi) ∧
 Keep [di] ds db ∧
 (bq ≠ bi →
 R (.bool false) db) ∧
 (bq = bi →
 Calls Try.prog 21 #[.pointer a8, .agg #[.int .i64 ad, .int .i64 aw, .int .u64 b3, .int .i64 bx, .int .i64 bo, .int .i64 au, .slice ak aq ao, .int .u64 bh]] db fun gp ev => ∃ (b5 : Int), gp = .returned (.int .i64 b5) ∧
 Keep [di] db ev ∧
 Calls Try.prog 22 #[.pointer (some (blk ct)), .pointer (some (blk ca)), .agg #[.int .i64 ad, .int .i64 aw, .int .u64 b3, .int .i64 bx, .int .i64 bo, .int .i64 au, .slice ak aq ao, .int .u64 bh]] ev fun fd f5 => ∃ (bb : Int), fd = .returned (.int .i64 bb) ∧
 (b5 ≠ bb →
 R (.bool false) f5) ∧
 (b5 = bb →
 Calls Try.prog 14 #[.pointer a8, .pointer (some (blk ct)), .pointer (some (blk ca))] f5 fun fo eq => ∃ (cf : Bool), fo = .returned (.bool cf) ∧
 (cf = false →
 R (.bool false) eq) ∧
 (cf = true →
 (-9223372036854775808 : Int) ≤ (aj + 1) ∧ (aj + 1) < 9223372036854775808 ∧
 ∃ fa, fa < e3 ∧ I0 fa [.int .i64 (aj + 1)] eq)))))) ∧
 (a0 ≠ 2 →
 ∀ (de : World) (ej : Nat), Ext no a1 de → Priv a1 de [ej] →
 Calls Try.prog 19 #[.pointer a8, .agg #[.int .i64 a9, .int .i64 ae, .int .u64 al, .int .i64 b0, .int .i64 b2, .int .i64 ah, .slice ab af ai, .int .u64 b1]] de fun gc dk => ∃ (c2 : Int), gc = .returned (.int .i64 c2) ∧
 Keep [ej] de dk ∧
 Calls Try.prog 20 #[.pointer (some (blk ct)), .pointer (some (blk ca)), .agg #[.int .i64 a9, .int .i64 ae, .int .u64 al, .int .i64 b0, .int .i64 b2, .int .i64 ah, .slice ab af ai, .int .u64 b1]] dk fun gb d2 => ∃ (bw : Int), gb = .returned (.int .i64 bw) ∧
 Keep [ej] dk d2 ∧
 (c2 ≠ bw →
 R (.bool false) d2) ∧
 (c2 = bw →
 Calls Try.prog 21 #[.pointer a8, .agg #[.int .i64 a9, .int .i64 ae, .int .u64 al, .int .i64 b0, .int .i64 b2, .int .i64 ah, .slice ab af ai, .int .u64 b1]] d2 fun gq ez => ∃ (bc : Int), gq = .returned (.int .i64 bc) ∧
 Keep [ej] d2 ez ∧
 Calls Try.prog 22 #[.pointer (some (blk ct)), .pointer (some (blk ca)), .agg #[.int .i64 a9, .int .i64 ae, .int .u64 al, .int .i64 b0, .int .i64 b2, .int .i64 ah, .slice ab af ai, .int .u64 b1]] ez fun fl f2 => ∃ (b9 : Int), fl = .returned (.int .i64 b9) ∧
 (bc ≠ b9 →
 R (.bool false) f2) ∧
 (bc = b9 →
 Calls Try.prog 14 #[.pointer a8, .pointer (some (blk ct)), .pointer (some (blk ca))] f2 fun fp em => ∃ (cc : Bool), fp = .returned (.bool cc) ∧
 (cc = false →
 R (.bool false) em) ∧
 (cc = true →
 (-9223372036854775808 : Int) ≤ (aj + 1) ∧ (aj + 1) < 9223372036854775808 ∧
 ∃ fx, fx < e3 ∧ I0 fx [.int .i64 (aj + 1)] em)))))))) ∧
 ((gv : Int) ≤ aj →
 R (.bool true) a1)))))

theorem cachettelaw07_ChainPlays.up (cr : Option Addr) (cq : Nat) (cu : Nat) (pj : Option Addr) (ny : Nat) (p7 : Nat) {R : Value → World → Prop} {w : World} (h : cachettelaw07_ChainPlays.N cr cq cu pj ny p7 R w) : cachettelaw07_ChainPlays.M cr cq cu pj ny p7 R w := by
  unfold cachettelaw07_ChainPlays.M
  unfold cachettelaw07_ChainPlays.N at h
  refine h.mono fun qs qp h => ?_
  obtain ⟨ew, he, h⟩ := h
  refine ⟨ew, he, ?_⟩
  refine bif_of (fun c6 => ?_) (fun c6 => ?_)
  · have h := h.1 (not_t c6)
    refine h.mono fun qq qr h => ?_
    obtain ⟨el, he, h⟩ := h
    refine ⟨el, he, ?_⟩
    exact h
  · have h := h.2 (not_f c6)
    refine h.mono fun q9 ee h => ?_
    obtain ⟨l5, he, h⟩ := h
    refine ⟨l5, he, ?_⟩
    refine thenW_in fun m7 mw => ?_
    have h := h m7 ee.heap.size ((Ext.refl no ee).x_alloc mw) (Blk.of_new mw) ((Ext.refl no ee)).size (size_lt_alloc mw)
    refine h.mono fun qe qd h => ?_
    obtain ⟨fj, f5, he, h⟩ := h
    refine ⟨fj, f5, he, ?_⟩
    refine h.mono fun qf ql h => ?_
    obtain ⟨ev, f4, he, h⟩ := h
    refine ⟨ev, f4, he, ?_⟩
    refine h.mono fun q7 qa h => ?_
    obtain ⟨i7, gm, he, h⟩ := h
    refine ⟨i7, gm, he, ?_⟩
    refine h.mono fun qi ej h => ?_
    obtain ⟨gs, g8, he, h⟩ := h
    refine ⟨gs, g8, he, ?_⟩
    refine thenW_in fun dr n3 => ?_
    have h := h dr ej.heap.size ((Ext.refl no ej).x_alloc n3) (Blk.of_new n3) ((Ext.refl no ej)).size (size_lt_alloc n3)
    refine thenW_in fun mu nm => ?_
    have h := h mu dr.heap.size ((Ext.refl no dr).x_alloc nm) (Blk.of_new nm) ((Ext.refl no dr)).size (size_lt_alloc nm)
    refine bif_of (fun ng => ?_) (fun ng => ?_)
    · have h := h.1 (bne_t ng)
      exact h
    · have h := h.2 (bne_f ng)
      refine bif_of (fun nr => ?_) (fun nr => ?_)
      · have h := h.1 (bne_t nr)
        exact h
      · have h := h.2 (bne_f nr)
        refine h.mono fun qb qk h => ?_
        obtain ⟨dq, he, h⟩ := h
        refine ⟨dq, he, ?_⟩
        refine bif_of (fun md => ?_) (fun md => ?_)
        · have h := h.1 (not_t md)
          exact h
        · have h := h.2 (not_f md)
          obtain ⟨I0, q1, h0, h⟩ := h
          refine ⟨I0, q1, h0, fun q6 ba q3 hI => ?_⟩
          have h := h q6 ba q3 hI
          refine bif_of (fun nl => ?_) (fun nl => ?_)
          · have h := h.1 (of_decide_eq_true nl)
            obtain ⟨qo, lz, h⟩ := h
            refine elim_some lz ?_
            obtain ⟨iq, jt, h⟩ := h
            refine ⟨iq, jt, ?_⟩
            obtain ⟨ae, c2, am, aq, ap, an, bz, aw, a2, a3, a9, ad, ac, a4, a6, a7, a5, ab, ms, h⟩ := h
            refine ⟨ae, c2, am, aq, ap, an, bz, aw, a2, a3, a9, ad, ac, a4, a6, a7, a5, ab, ms, ?_⟩
            refine thenW_in fun qm pn => ?_
            have a8 := Blk.of_new pn
            have cm := ((Ext.refl no ba)).size
            have np := (Ext.refl no ba).x_alloc pn
            refine ⟨a8.cani 0 rfl rfl, thenW_in fun n1 pg => ?_⟩
            have mg := np.x_set (q := ba.heap.size) (i := 0) rfl (.inr cm) pg
            have a8 : Blk n1 ba.heap.size 49 [.int .i64 ae, .int .i64 0, .int .i64 0, .slice none 0 0, .int .i64 0, .int .i64 0, .int .i64 0, .int .i64 0, .int .u64 0, .int .i64 0, .int .i64 0, .int .i64 0, .slice none 0 0, .int .u64 0] := a8.seti 0 rfl pg
            refine ⟨a8.cani 1 rfl rfl, thenW_in fun n7 ps => ?_⟩
            have lx := mg.x_set (q := ba.heap.size) (i := 1) rfl (.inr cm) ps
            have a8 : Blk n7 ba.heap.size 49 [.int .i64 ae, .int .i64 c2, .int .i64 0, .slice none 0 0, .int .i64 0, .int .i64 0, .int .i64 0, .int .i64 0, .int .u64 0, .int .i64 0, .int .i64 0, .int .i64 0, .slice none 0 0, .int .u64 0] := a8.seti 1 rfl ps
            refine ⟨a8.cani 2 rfl rfl, thenW_in fun n4 o1 => ?_⟩
            have mi := lx.x_set (q := ba.heap.size) (i := 2) rfl (.inr cm) o1
            have a8 : Blk n4 ba.heap.size 49 [.int .i64 ae, .int .i64 c2, .int .i64 am, .slice none 0 0, .int .i64 0, .int .i64 0, .int .i64 0, .int .i64 0, .int .u64 0, .int .i64 0, .int .i64 0, .int .i64 0, .slice none 0 0, .int .u64 0] := a8.seti 2 rfl o1
            refine ⟨a8.cani 3 rfl rfl, thenW_in fun mc p4 => ?_⟩
            have ma := mi.x_set (q := ba.heap.size) (i := 3) rfl (.inr cm) p4
            have a8 : Blk mc ba.heap.size 49 [.int .i64 ae, .int .i64 c2, .int .i64 am, .slice aq ap an, .int .i64 0, .int .i64 0, .int .i64 0, .int .i64 0, .int .u64 0, .int .i64 0, .int .i64 0, .int .i64 0, .slice none 0 0, .int .u64 0] := a8.seti 3 rfl p4
            refine ⟨a8.cani 4 rfl rfl, thenW_in fun nw o6 => ?_⟩
            have nd := ma.x_set (q := ba.heap.size) (i := 4) rfl (.inr cm) o6
            have a8 : Blk nw ba.heap.size 49 [.int .i64 ae, .int .i64 c2, .int .i64 am, .slice aq ap an, .int .i64 bz, .int .i64 0, .int .i64 0, .int .i64 0, .int .u64 0, .int .i64 0, .int .i64 0, .int .i64 0, .slice none 0 0, .int .u64 0] := a8.seti 4 rfl o6
            refine ⟨a8.cani 5 rfl rfl, thenW_in fun m3 p2 => ?_⟩
            have n2 := nd.x_set (q := ba.heap.size) (i := 5) rfl (.inr cm) p2
            have a8 : Blk m3 ba.heap.size 49 [.int .i64 ae, .int .i64 c2, .int .i64 am, .slice aq ap an, .int .i64 bz, .int .i64 aw, .int .i64 0, .int .i64 0, .int .u64 0, .int .i64 0, .int .i64 0, .int .i64 0, .slice none 0 0, .int .u64 0] := a8.seti 5 rfl p2
            refine ⟨a8.cani 6 rfl rfl, thenW_in fun nq ot => ?_⟩
            have nu := n2.x_set (q := ba.heap.size) (i := 6) rfl (.inr cm) ot
            have a8 : Blk nq ba.heap.size 49 [.int .i64 ae, .int .i64 c2, .int .i64 am, .slice aq ap an, .int .i64 bz, .int .i64 aw, .int .i64 a2, .int .i64 0, .int .u64 0, .int .i64 0, .int .i64 0, .int .i64 0, .slice none 0 0, .int .u64 0] := a8.seti 6 rfl ot
            refine ⟨a8.cani 7 rfl rfl, thenW_in fun nh o8 => ?_⟩
            have ne := nu.x_set (q := ba.heap.size) (i := 7) rfl (.inr cm) o8
            have a8 : Blk nh ba.heap.size 49 [.int .i64 ae, .int .i64 c2, .int .i64 am, .slice aq ap an, .int .i64 bz, .int .i64 aw, .int .i64 a2, .int .i64 a3, .int .u64 0, .int .i64 0, .int .i64 0, .int .i64 0, .slice none 0 0, .int .u64 0] := a8.seti 7 rfl o8
            refine ⟨a8.cani 8 rfl rfl, thenW_in fun nn pd => ?_⟩
            have ni := ne.x_set (q := ba.heap.size) (i := 8) rfl (.inr cm) pd
            have a8 : Blk nn ba.heap.size 49 [.int .i64 ae, .int .i64 c2, .int .i64 am, .slice aq ap an, .int .i64 bz, .int .i64 aw, .int .i64 a2, .int .i64 a3, .int .u64 a9, .int .i64 0, .int .i64 0, .int .i64 0, .slice none 0 0, .int .u64 0] := a8.seti 8 rfl pd
            refine ⟨a8.cani 9 rfl rfl, thenW_in fun n0 ow => ?_⟩
            have lv := ni.x_set (q := ba.heap.size) (i := 9) rfl (.inr cm) ow
            have a8 : Blk n0 ba.heap.size 49 [.int .i64 ae, .int .i64 c2, .int .i64 am, .slice aq ap an, .int .i64 bz, .int .i64 aw, .int .i64 a2, .int .i64 a3, .int .u64 a9, .int .i64 ad, .int .i64 0, .int .i64 0, .slice none 0 0, .int .u64 0] := a8.seti 9 rfl ow
            refine ⟨a8.cani 10 rfl rfl, thenW_in fun m8 pq => ?_⟩
            have lw := lv.x_set (q := ba.heap.size) (i := 10) rfl (.inr cm) pq
            have a8 : Blk m8 ba.heap.size 49 [.int .i64 ae, .int .i64 c2, .int .i64 am, .slice aq ap an, .int .i64 bz, .int .i64 aw, .int .i64 a2, .int .i64 a3, .int .u64 a9, .int .i64 ad, .int .i64 ac, .int .i64 0, .slice none 0 0, .int .u64 0] := a8.seti 10 rfl pq
            refine ⟨a8.cani 11 rfl rfl, thenW_in fun mj pb => ?_⟩
            have ns := lw.x_set (q := ba.heap.size) (i := 11) rfl (.inr cm) pb
            have a8 : Blk mj ba.heap.size 49 [.int .i64 ae, .int .i64 c2, .int .i64 am, .slice aq ap an, .int .i64 bz, .int .i64 aw, .int .i64 a2, .int .i64 a3, .int .u64 a9, .int .i64 ad, .int .i64 ac, .int .i64 a4, .slice none 0 0, .int .u64 0] := a8.seti 11 rfl pb
            refine ⟨a8.cani 12 rfl rfl, thenW_in fun mx nz => ?_⟩
            have nk := ns.x_set (q := ba.heap.size) (i := 12) rfl (.inr cm) nz
            have a8 : Blk mx ba.heap.size 49 [.int .i64 ae, .int .i64 c2, .int .i64 am, .slice aq ap an, .int .i64 bz, .int .i64 aw, .int .i64 a2, .int .i64 a3, .int .u64 a9, .int .i64 ad, .int .i64 ac, .int .i64 a4, .slice a6 a7 a5, .int .u64 0] := a8.seti 12 rfl nz
            refine ⟨a8.cani 13 rfl rfl, thenW_in fun a1 pr => ?_⟩
            have gp := nk.x_set (q := ba.heap.size) (i := 13) rfl (.inr cm) pr
            have a8 : Blk a1 ba.heap.size 49 [.int .i64 ae, .int .i64 c2, .int .i64 am, .slice aq ap an, .int .i64 bz, .int .i64 aw, .int .i64 a2, .int .i64 a3, .int .u64 a9, .int .i64 ad, .int .i64 ac, .int .i64 a4, .slice a6 a7 a5, .int .u64 ab] := a8.seti 13 rfl pr
            refine ⟨a2, a3, a9, ad, ac, a4, a6, a7, a5, ab, ⟨a8.celli 6 rfl rfl, a8.celli 7 rfl rfl, a8.celli 8 rfl rfl, a8.celli 9 rfl rfl, a8.celli 10 rfl rfl, a8.celli 11 rfl rfl, a8.celli 12 rfl rfl, a8.celli 13 rfl rfl, trivial⟩, ?_⟩
            refine thenW_in fun q8 ly => ?_
            have a0 := Blk.of_new ly
            have cd := (gp).size
            have b9 := Nat.ne_of_lt a8.lt
            have a8 := a8.x_alloc ly
            have lu := gp.x_alloc ly
            refine ⟨a0.cani 0 rfl rfl, thenW_in fun nt mv => ?_⟩
            have m4 := lu.x_set (q := a1.heap.size) (i := 0) rfl (.inr cd) mv
            have a8 := a8.oth (q := a1.heap.size) (i := 0) rfl b9 mv
            have a0 : Blk nt a1.heap.size 47 [.int .i64 a2, .int .i64 0, .int .u64 0, .int .i64 0, .int .i64 0, .int .i64 0, .slice none 0 0, .int .u64 0] := a0.seti 0 rfl mv
            refine ⟨a0.cani 1 rfl rfl, thenW_in fun mf nc => ?_⟩
            have nb := m4.x_set (q := a1.heap.size) (i := 1) rfl (.inr cd) nc
            have a8 := a8.oth (q := a1.heap.size) (i := 1) rfl b9 nc
            have a0 : Blk mf a1.heap.size 47 [.int .i64 a2, .int .i64 a3, .int .u64 0, .int .i64 0, .int .i64 0, .int .i64 0, .slice none 0 0, .int .u64 0] := a0.seti 1 rfl nc
            refine ⟨a0.cani 2 rfl rfl, thenW_in fun m9 mk => ?_⟩
            have mn := nb.x_set (q := a1.heap.size) (i := 2) rfl (.inr cd) mk
            have a8 := a8.oth (q := a1.heap.size) (i := 2) rfl b9 mk
            have a0 : Blk m9 a1.heap.size 47 [.int .i64 a2, .int .i64 a3, .int .u64 a9, .int .i64 0, .int .i64 0, .int .i64 0, .slice none 0 0, .int .u64 0] := a0.seti 2 rfl mk
            refine ⟨a0.cani 3 rfl rfl, thenW_in fun m5 mm => ?_⟩
            have n9 := mn.x_set (q := a1.heap.size) (i := 3) rfl (.inr cd) mm
            have a8 := a8.oth (q := a1.heap.size) (i := 3) rfl b9 mm
            have a0 : Blk m5 a1.heap.size 47 [.int .i64 a2, .int .i64 a3, .int .u64 a9, .int .i64 ad, .int .i64 0, .int .i64 0, .slice none 0 0, .int .u64 0] := a0.seti 3 rfl mm
            refine ⟨a0.cani 4 rfl rfl, thenW_in fun me ls => ?_⟩
            have mp := n9.x_set (q := a1.heap.size) (i := 4) rfl (.inr cd) ls
            have a8 := a8.oth (q := a1.heap.size) (i := 4) rfl b9 ls
            have a0 : Blk me a1.heap.size 47 [.int .i64 a2, .int .i64 a3, .int .u64 a9, .int .i64 ad, .int .i64 ac, .int .i64 0, .slice none 0 0, .int .u64 0] := a0.seti 4 rfl ls
            refine ⟨a0.cani 5 rfl rfl, thenW_in fun nf m1 => ?_⟩
            have m0 := mp.x_set (q := a1.heap.size) (i := 5) rfl (.inr cd) m1
            have a8 := a8.oth (q := a1.heap.size) (i := 5) rfl b9 m1
            have a0 : Blk nf a1.heap.size 47 [.int .i64 a2, .int .i64 a3, .int .u64 a9, .int .i64 ad, .int .i64 ac, .int .i64 a4, .slice none 0 0, .int .u64 0] := a0.seti 5 rfl m1
            refine ⟨a0.cani 6 rfl rfl, thenW_in fun mq mb => ?_⟩
            have mz := m0.x_set (q := a1.heap.size) (i := 6) rfl (.inr cd) mb
            have a8 := a8.oth (q := a1.heap.size) (i := 6) rfl b9 mb
            have a0 : Blk mq a1.heap.size 47 [.int .i64 a2, .int .i64 a3, .int .u64 a9, .int .i64 ad, .int .i64 ac, .int .i64 a4, .slice a6 a7 a5, .int .u64 0] := a0.seti 6 rfl mb
            refine ⟨a0.cani 7 rfl rfl, thenW_in fun k0 ml => ?_⟩
            have d8 := mz.x_set (q := a1.heap.size) (i := 7) rfl (.inr cd) ml
            have a8 := a8.oth (q := a1.heap.size) (i := 7) rfl b9 ml
            have a0 : Blk k0 a1.heap.size 47 [.int .i64 a2, .int .i64 a3, .int .u64 a9, .int .i64 ad, .int .i64 ac, .int .i64 a4, .slice a6 a7 a5, .int .u64 ab] := a0.seti 7 rfl ml
            refine ⟨ae, a8.celli 0 rfl rfl, ?_⟩
            refine bif_of (fun n5 => ?_) (fun n5 => ?_)
            · have h := h.1 (beq_t n5)
              refine thenW_in fun mo pl => ?_
              have mh := d8.x_drew pl
              have a8 := a8.x_drew pl
              refine ⟨bz, a8.celli 4 rfl rfl, ?_⟩
              refine ⟨bz, a8.celli 4 rfl rfl, ?_⟩
              have h := h mo (ba.heap.size) mh (Priv.cons cm a8.lt Priv.nil)
              refine h.mono fun qh qn h => ?_
              obtain ⟨eh, fb, fu, he, hk, h⟩ := h
              refine ⟨eh, fb, fu, he, ?_⟩
              have a8 := hk.blk a8 (by simp)
              refine ⟨a8.celli 4 rfl rfl, ?_⟩
              refine h.mono fun q4 qj h => ?_
              obtain ⟨fr, ek, ei, he, h⟩ := h
              refine ⟨fr, ek, ei, he, ?_⟩
              refine h.mono fun qc qg h => ?_
              obtain ⟨jh, he, h⟩ := h
              refine ⟨jh, he, ?_⟩
              refine bif_of (fun my => ?_) (fun my => ?_)
              · have h := h.1 (not_t my)
                exact h
              · have h := h.2 (not_f my)
                refine h.mono fun py pu h => ?_
                obtain ⟨dm, he, h⟩ := h
                refine ⟨dm, he, ?_⟩
                refine bif_of (fun er => ?_) (fun er => ?_)
                · have h := h.1 (not_t er)
                  exact h
                · have h := h.2 (not_f er)
                  obtain ⟨cj, ch, h⟩ := h
                  try rw [w64 cj ch]
                  obtain ⟨n8, hk, h⟩ := h
                  exact ⟨n8, hk, h⟩
            · have h := h.2 (beq_f n5)
              refine ⟨ae, a8.celli 0 rfl rfl, ?_⟩
              refine bif_of (fun fm => ?_) (fun fm => ?_)
              · have h := h.1 (beq_t fm)
                refine ⟨c2, a8.celli 1 rfl rfl, ?_⟩
                refine ⟨am, a8.celli 2 rfl rfl, ?_⟩
                refine ⟨aq, ap, an, a8.celli 3 rfl rfl, ?_⟩
                have h := h k0 (ba.heap.size) d8 (Priv.cons cm a8.lt Priv.nil)
                refine h.mono fun p3 au h => ?_
                obtain ⟨b5, bc, bs, c4, ci, c1, c9, c7, cb, co, d9, he, hk, h⟩ := h
                refine ⟨b5, bc, bs, c4, ci, c1, c9, c7, cb, co, d9, he, ?_⟩
                have a8 := hk.blk a8 (by simp)
                refine thenW_in fun om em => ?_
                have bj := Blk.of_new em
                have dl := ((Ext.refl no au)).size
                have ck := Nat.ne_of_lt a8.lt
                have a8 := a8.x_alloc em
                have jn := (Ext.refl no au).x_alloc em
                refine ⟨bj.cani 0 rfl rfl, thenW_in fun kw f8 => ?_⟩
                have i0 := jn.x_set (q := au.heap.size) (i := 0) rfl (.inr dl) f8
                have a8 := a8.oth (q := au.heap.size) (i := 0) rfl ck f8
                have bj : Blk kw au.heap.size 47 [.int .i64 b5, .int .i64 0, .int .u64 0, .int .i64 0, .int .i64 0, .int .i64 0, .slice none 0 0, .int .u64 0] := bj.seti 0 rfl f8
                refine ⟨bj.cani 1 rfl rfl, thenW_in fun lg e4 => ?_⟩
                have jr := i0.x_set (q := au.heap.size) (i := 1) rfl (.inr dl) e4
                have a8 := a8.oth (q := au.heap.size) (i := 1) rfl ck e4
                have bj : Blk lg au.heap.size 47 [.int .i64 b5, .int .i64 bc, .int .u64 0, .int .i64 0, .int .i64 0, .int .i64 0, .slice none 0 0, .int .u64 0] := bj.seti 1 rfl e4
                refine ⟨bj.cani 2 rfl rfl, thenW_in fun ld eb => ?_⟩
                have k4 := jr.x_set (q := au.heap.size) (i := 2) rfl (.inr dl) eb
                have a8 := a8.oth (q := au.heap.size) (i := 2) rfl ck eb
                have bj : Blk ld au.heap.size 47 [.int .i64 b5, .int .i64 bc, .int .u64 bs, .int .i64 0, .int .i64 0, .int .i64 0, .slice none 0 0, .int .u64 0] := bj.seti 2 rfl eb
                refine ⟨bj.cani 3 rfl rfl, thenW_in fun jo e5 => ?_⟩
                have lp := k4.x_set (q := au.heap.size) (i := 3) rfl (.inr dl) e5
                have a8 := a8.oth (q := au.heap.size) (i := 3) rfl ck e5
                have bj : Blk jo au.heap.size 47 [.int .i64 b5, .int .i64 bc, .int .u64 bs, .int .i64 c4, .int .i64 0, .int .i64 0, .slice none 0 0, .int .u64 0] := bj.seti 3 rfl e5
                refine ⟨bj.cani 4 rfl rfl, thenW_in fun gx fq => ?_⟩
                have gk := lp.x_set (q := au.heap.size) (i := 4) rfl (.inr dl) fq
                have a8 := a8.oth (q := au.heap.size) (i := 4) rfl ck fq
                have bj : Blk gx au.heap.size 47 [.int .i64 b5, .int .i64 bc, .int .u64 bs, .int .i64 c4, .int .i64 ci, .int .i64 0, .slice none 0 0, .int .u64 0] := bj.seti 4 rfl fq
                refine ⟨bj.cani 5 rfl rfl, thenW_in fun ko g0 => ?_⟩
                have g7 := gk.x_set (q := au.heap.size) (i := 5) rfl (.inr dl) g0
                have a8 := a8.oth (q := au.heap.size) (i := 5) rfl ck g0
                have bj : Blk ko au.heap.size 47 [.int .i64 b5, .int .i64 bc, .int .u64 bs, .int .i64 c4, .int .i64 ci, .int .i64 c1, .slice none 0 0, .int .u64 0] := bj.seti 5 rfl g0
                refine ⟨bj.cani 6 rfl rfl, thenW_in fun il fp => ?_⟩
                have iy := g7.x_set (q := au.heap.size) (i := 6) rfl (.inr dl) fp
                have a8 := a8.oth (q := au.heap.size) (i := 6) rfl ck fp
                have bj : Blk il au.heap.size 47 [.int .i64 b5, .int .i64 bc, .int .u64 bs, .int .i64 c4, .int .i64 ci, .int .i64 c1, .slice c9 c7 cb, .int .u64 0] := bj.seti 6 rfl fp
                refine ⟨bj.cani 7 rfl rfl, thenW_in fun dy fv => ?_⟩
                have gy := iy.x_set (q := au.heap.size) (i := 7) rfl (.inr dl) fv
                have a8 := a8.oth (q := au.heap.size) (i := 7) rfl ck fv
                have bj : Blk dy au.heap.size 47 [.int .i64 b5, .int .i64 bc, .int .u64 bs, .int .i64 c4, .int .i64 ci, .int .i64 c1, .slice c9 c7 cb, .int .u64 co] := bj.seti 7 rfl fv
                refine ⟨c2, a8.celli 1 rfl rfl, ?_⟩
                refine ⟨am, a8.celli 2 rfl rfl, ?_⟩
                refine ⟨aq, ap, an, a8.celli 3 rfl rfl, ?_⟩
                have h := h dy (au.heap.size) gy (Priv.cons dl bj.lt Priv.nil)
                refine h.mono fun pp av h => ?_
                obtain ⟨b1, bf, bt, c5, ce, c0, c8, ca, cc, cn, de, he, hk, h⟩ := h
                refine ⟨b1, bf, bt, c5, ce, c0, c8, ca, cc, cn, de, he, ?_⟩
                have bj := hk.blk bj (by simp)
                refine thenW_in fun oo f1 => ?_
                have c3 := Blk.of_new f1
                have dx := ((Ext.refl no av)).size
                have cl := Nat.ne_of_lt bj.lt
                have bj := bj.x_alloc f1
                have kn := (Ext.refl no av).x_alloc f1
                refine ⟨c3.cani 0 rfl rfl, thenW_in fun jc fk => ?_⟩
                have iv := kn.x_set (q := av.heap.size) (i := 0) rfl (.inr dx) fk
                have bj := bj.oth (q := av.heap.size) (i := 0) rfl cl fk
                have c3 : Blk jc av.heap.size 47 [.int .i64 b1, .int .i64 0, .int .u64 0, .int .i64 0, .int .i64 0, .int .i64 0, .slice none 0 0, .int .u64 0] := c3.seti 0 rfl fk
                refine ⟨c3.cani 1 rfl rfl, thenW_in fun l6 e8 => ?_⟩
                have k5 := iv.x_set (q := av.heap.size) (i := 1) rfl (.inr dx) e8
                have bj := bj.oth (q := av.heap.size) (i := 1) rfl cl e8
                have c3 : Blk l6 av.heap.size 47 [.int .i64 b1, .int .i64 bf, .int .u64 0, .int .i64 0, .int .i64 0, .int .i64 0, .slice none 0 0, .int .u64 0] := c3.seti 1 rfl e8
                refine ⟨c3.cani 2 rfl rfl, thenW_in fun gj e1 => ?_⟩
                have lq := k5.x_set (q := av.heap.size) (i := 2) rfl (.inr dx) e1
                have bj := bj.oth (q := av.heap.size) (i := 2) rfl cl e1
                have c3 : Blk gj av.heap.size 47 [.int .i64 b1, .int .i64 bf, .int .u64 bt, .int .i64 0, .int .i64 0, .int .i64 0, .slice none 0 0, .int .u64 0] := c3.seti 2 rfl e1
                refine ⟨c3.cani 3 rfl rfl, thenW_in fun kt f6 => ?_⟩
                have kl := lq.x_set (q := av.heap.size) (i := 3) rfl (.inr dx) f6
                have bj := bj.oth (q := av.heap.size) (i := 3) rfl cl f6
                have c3 : Blk kt av.heap.size 47 [.int .i64 b1, .int .i64 bf, .int .u64 bt, .int .i64 c5, .int .i64 0, .int .i64 0, .slice none 0 0, .int .u64 0] := c3.seti 3 rfl f6
                refine ⟨c3.cani 4 rfl rfl, thenW_in fun ji ex => ?_⟩
                have l2 := kl.x_set (q := av.heap.size) (i := 4) rfl (.inr dx) ex
                have bj := bj.oth (q := av.heap.size) (i := 4) rfl cl ex
                have c3 : Blk ji av.heap.size 47 [.int .i64 b1, .int .i64 bf, .int .u64 bt, .int .i64 c5, .int .i64 ce, .int .i64 0, .slice none 0 0, .int .u64 0] := c3.seti 4 rfl ex
                refine ⟨c3.cani 5 rfl rfl, thenW_in fun gf fy => ?_⟩
                have lb := l2.x_set (q := av.heap.size) (i := 5) rfl (.inr dx) fy
                have bj := bj.oth (q := av.heap.size) (i := 5) rfl cl fy
                have c3 : Blk gf av.heap.size 47 [.int .i64 b1, .int .i64 bf, .int .u64 bt, .int .i64 c5, .int .i64 ce, .int .i64 c0, .slice none 0 0, .int .u64 0] := c3.seti 5 rfl fy
                refine ⟨c3.cani 6 rfl rfl, thenW_in fun ge fc => ?_⟩
                have ix := lb.x_set (q := av.heap.size) (i := 6) rfl (.inr dx) fc
                have bj := bj.oth (q := av.heap.size) (i := 6) rfl cl fc
                have c3 : Blk ge av.heap.size 47 [.int .i64 b1, .int .i64 bf, .int .u64 bt, .int .i64 c5, .int .i64 ce, .int .i64 c0, .slice c8 ca cc, .int .u64 0] := c3.seti 6 rfl fc
                refine ⟨c3.cani 7 rfl rfl, thenW_in fun e0 e2 => ?_⟩
                have kj := ix.x_set (q := av.heap.size) (i := 7) rfl (.inr dx) e2
                have bj := bj.oth (q := av.heap.size) (i := 7) rfl cl e2
                have c3 : Blk e0 av.heap.size 47 [.int .i64 b1, .int .i64 bf, .int .u64 bt, .int .i64 c5, .int .i64 ce, .int .i64 c0, .slice c8 ca cc, .int .u64 cn] := c3.seti 7 rfl e2
                refine ⟨b5, bc, bs, c4, ci, c1, c9, c7, cb, co, ⟨bj.celli 0 rfl rfl, bj.celli 1 rfl rfl, bj.celli 2 rfl rfl, bj.celli 3 rfl rfl, bj.celli 4 rfl rfl, bj.celli 5 rfl rfl, bj.celli 6 rfl rfl, bj.celli 7 rfl rfl, trivial⟩, ?_⟩
                refine ⟨b1, bf, bt, c5, ce, c0, c8, ca, cc, cn, ⟨c3.celli 0 rfl rfl, c3.celli 1 rfl rfl, c3.celli 2 rfl rfl, c3.celli 3 rfl rfl, c3.celli 4 rfl rfl, c3.celli 5 rfl rfl, c3.celli 6 rfl rfl, c3.celli 7 rfl rfl, trivial⟩, ?_⟩
                have h := h e0 kj
                refine h.mono fun os oe h => ?_
                obtain ⟨dp, he, h⟩ := h
                refine ⟨dp, he, ?_⟩
                refine bif_of (fun ed => ?_) (fun ed => ?_)
                · have h := h.1 (not_t ed)
                  exact h
                · have h := h.2 (not_f ed)
                  refine bif_of (fun f7 => ?_) (fun f7 => ?_)
                  · have h := h.1 (bne_t f7)
                    exact h
                  · have h := h.2 (bne_f f7)
                    refine h.mono fun o3 o5 h => ?_
                    obtain ⟨dk, he, h⟩ := h
                    refine ⟨dk, he, ?_⟩
                    refine bif_of (fun ea => ?_) (fun ea => ?_)
                    · have h := h.1 (not_t ea)
                      exact h
                    · have h := h.2 (not_f ea)
                      obtain ⟨cj, ch, h⟩ := h
                      try rw [w64 cj ch]
                      obtain ⟨mt, hk, h⟩ := h
                      exact ⟨mt, hk, h⟩
              · have h := h.2 (beq_f fm)
                refine ⟨ae, a8.celli 0 rfl rfl, ?_⟩
                refine bif_of (fun ef => ?_) (fun ef => ?_)
                · have h := h.1 (beq_t ef)
                  refine thenW_in fun du f3 => ?_
                  have cp := d8.x_drew f3
                  have a8 := a8.x_drew f3
                  have a0 := a0.x_drew f3
                  refine ⟨bz, a8.celli 4 rfl rfl, ?_⟩
                  refine bif_of (fun eo => ?_) (fun eo => ?_)
                  · have h := h.1 (of_decide_eq_true eo)
                    obtain ⟨cj, ch, h⟩ := h
                    try rw [w64 cj ch]
                    have h := h du cp
                    obtain ⟨m2, hk, h⟩ := h
                    exact ⟨m2, hk, h⟩
                  · have h := h.2 (Int.not_lt.1 (of_decide_eq_false eo))
                    refine ⟨bz, a8.celli 4 rfl rfl, ?_⟩
                    obtain ⟨j7, gh, ki, l3, h⟩ := h
                    refine ⟨j7, gh, ki, (cp).cell l3 id, ?_⟩
                    refine bif_of (fun ff => ?_) (fun ff => ?_)
                    · have h := h.1 (of_decide_eq_true ff)
                      obtain ⟨cj, ch, h⟩ := h
                      try rw [w64 cj ch]
                      have h := h du cp
                      obtain ⟨nv, hk, h⟩ := h
                      exact ⟨nv, hk, h⟩
                    · have h := h.2 (Int.not_le.1 (of_decide_eq_false ff))
                      refine thenW_in fun p9 ep => ?_
                      have cs := cp.x_drew ep
                      have a8 := a8.x_drew ep
                      have a0 := a0.x_drew ep
                      obtain ⟨g6, iw, jb, k6, h⟩ := h
                      refine ⟨g6, iw, jb, (cs).cell k6 id, ?_⟩
                      obtain ⟨j8, kr, jq, ju, h⟩ := h
                      refine ⟨j8, kr, jq, (cs).cell ju id, ?_⟩
                      obtain ⟨cj, ch, h⟩ := h
                      try rw [w64 cj ch]
                      refine ⟨bz, a8.celli 4 rfl rfl, ?_⟩
                      obtain ⟨cj, ch, h⟩ := h
                      try rw [w64 cj ch]
                      obtain ⟨q5, g9, h⟩ := h
                      refine elim_some g9 ?_
                      obtain ⟨iq, jt, h⟩ := h
                      refine ⟨iq, jt, ?_⟩
                      obtain ⟨aa, aj, ao, b8, b7, ai, ag, af, ah, b6, gl, h⟩ := h
                      refine ⟨aa, aj, ao, b8, b7, ai, ag, af, ah, b6, cellsAt_no (cs) gl, ?_⟩
                      refine ⟨a0.cani 0 rfl rfl, thenW_in fun ij fa => ?_⟩
                      have gg := cs.x_set (q := a1.heap.size) (i := 0) rfl (.inr cd) fa
                      have a8 := a8.oth (q := a1.heap.size) (i := 0) rfl b9 fa
                      have a0 : Blk ij a1.heap.size 47 [.int .i64 aa, .int .i64 a3, .int .u64 a9, .int .i64 ad, .int .i64 ac, .int .i64 a4, .slice a6 a7 a5, .int .u64 ab] := a0.seti 0 rfl fa
                      refine ⟨a0.cani 1 rfl rfl, thenW_in fun k1 es => ?_⟩
                      have k2 := gg.x_set (q := a1.heap.size) (i := 1) rfl (.inr cd) es
                      have a8 := a8.oth (q := a1.heap.size) (i := 1) rfl b9 es
                      have a0 : Blk k1 a1.heap.size 47 [.int .i64 aa, .int .i64 aj, .int .u64 a9, .int .i64 ad, .int .i64 ac, .int .i64 a4, .slice a6 a7 a5, .int .u64 ab] := a0.seti 1 rfl es
                      refine ⟨a0.cani 2 rfl rfl, thenW_in fun iz g2 => ?_⟩
                      have l9 := k2.x_set (q := a1.heap.size) (i := 2) rfl (.inr cd) g2
                      have a8 := a8.oth (q := a1.heap.size) (i := 2) rfl b9 g2
                      have a0 : Blk iz a1.heap.size 47 [.int .i64 aa, .int .i64 aj, .int .u64 ao, .int .i64 ad, .int .i64 ac, .int .i64 a4, .slice a6 a7 a5, .int .u64 ab] := a0.seti 2 rfl g2
                      refine ⟨a0.cani 3 rfl rfl, thenW_in fun ja g4 => ?_⟩
                      have lh := l9.x_set (q := a1.heap.size) (i := 3) rfl (.inr cd) g4
                      have a8 := a8.oth (q := a1.heap.size) (i := 3) rfl b9 g4
                      have a0 : Blk ja a1.heap.size 47 [.int .i64 aa, .int .i64 aj, .int .u64 ao, .int .i64 b8, .int .i64 ac, .int .i64 a4, .slice a6 a7 a5, .int .u64 ab] := a0.seti 3 rfl g4
                      refine ⟨a0.cani 4 rfl rfl, thenW_in fun ih e7 => ?_⟩
                      have la := lh.x_set (q := a1.heap.size) (i := 4) rfl (.inr cd) e7
                      have a8 := a8.oth (q := a1.heap.size) (i := 4) rfl b9 e7
                      have a0 : Blk ih a1.heap.size 47 [.int .i64 aa, .int .i64 aj, .int .u64 ao, .int .i64 b8, .int .i64 b7, .int .i64 a4, .slice a6 a7 a5, .int .u64 ab] := a0.seti 4 rfl e7
                      refine ⟨a0.cani 5 rfl rfl, thenW_in fun jy fd => ?_⟩
                      have kk := la.x_set (q := a1.heap.size) (i := 5) rfl (.inr cd) fd
                      have a8 := a8.oth (q := a1.heap.size) (i := 5) rfl b9 fd
                      have a0 : Blk jy a1.heap.size 47 [.int .i64 aa, .int .i64 aj, .int .u64 ao, .int .i64 b8, .int .i64 b7, .int .i64 ai, .slice a6 a7 a5, .int .u64 ab] := a0.seti 5 rfl fd
                      refine ⟨a0.cani 6 rfl rfl, thenW_in fun lc eq => ?_⟩
                      have ln := kk.x_set (q := a1.heap.size) (i := 6) rfl (.inr cd) eq
                      have a8 := a8.oth (q := a1.heap.size) (i := 6) rfl b9 eq
                      have a0 : Blk lc a1.heap.size 47 [.int .i64 aa, .int .i64 aj, .int .u64 ao, .int .i64 b8, .int .i64 b7, .int .i64 ai, .slice ag af ah, .int .u64 ab] := a0.seti 6 rfl eq
                      refine ⟨a0.cani 7 rfl rfl, thenW_in fun dv eg => ?_⟩
                      have dz := ln.x_set (q := a1.heap.size) (i := 7) rfl (.inr cd) eg
                      have a8 := a8.oth (q := a1.heap.size) (i := 7) rfl b9 eg
                      have a0 : Blk dv a1.heap.size 47 [.int .i64 aa, .int .i64 aj, .int .u64 ao, .int .i64 b8, .int .i64 b7, .int .i64 ai, .slice ag af ah, .int .u64 b6] := a0.seti 7 rfl eg
                      refine ⟨ae, a8.celli 0 rfl rfl, ?_⟩
                      refine bif_of (fun eu => ?_) (fun eu => ?_)
                      · have h := h.1 (beq_t eu)
                        refine ⟨aa, aj, ao, b8, b7, ai, ag, af, ah, b6, ⟨a0.celli 0 rfl rfl, a0.celli 1 rfl rfl, a0.celli 2 rfl rfl, a0.celli 3 rfl rfl, a0.celli 4 rfl rfl, a0.celli 5 rfl rfl, a0.celli 6 rfl rfl, a0.celli 7 rfl rfl, trivial⟩, ?_⟩
                        refine ⟨aw, a8.celli 5 rfl rfl, ?_⟩
                        have h := h dv (a1.heap.size) dz (Priv.cons cd a0.lt Priv.nil)
                        refine h.mono fun oa df h => ?_
                        obtain ⟨ak, ax, be, bu, bx, bl, bq, bm, br, cg, he, hk, h⟩ := h
                        refine ⟨ak, ax, be, bu, bx, bl, bq, bm, br, cg, he, ?_⟩
                        have a0 := hk.blk a0 (by simp)
                        have kf : Ext (fun b => b = a1.heap.size) df df := ((Ext.refl no df)).none
                        refine ⟨a0.cani 0 rfl rfl, thenW_in fun gn jw => ?_⟩
                        have i4 := kf.x_set (q := a1.heap.size) (i := 0) rfl (.inl rfl) jw
                        have a0 : Blk gn a1.heap.size 47 [.int .i64 ak, .int .i64 aj, .int .u64 ao, .int .i64 b8, .int .i64 b7, .int .i64 ai, .slice ag af ah, .int .u64 b6] := a0.seti 0 rfl jw
                        refine ⟨a0.cani 1 rfl rfl, thenW_in fun jk i9 => ?_⟩
                        have jl := i4.x_set (q := a1.heap.size) (i := 1) rfl (.inl rfl) i9
                        have a0 : Blk jk a1.heap.size 47 [.int .i64 ak, .int .i64 ax, .int .u64 ao, .int .i64 b8, .int .i64 b7, .int .i64 ai, .slice ag af ah, .int .u64 b6] := a0.seti 1 rfl i9
                        refine ⟨a0.cani 2 rfl rfl, thenW_in fun kv ke => ?_⟩
                        have j1 := jl.x_set (q := a1.heap.size) (i := 2) rfl (.inl rfl) ke
                        have a0 : Blk kv a1.heap.size 47 [.int .i64 ak, .int .i64 ax, .int .u64 be, .int .i64 b8, .int .i64 b7, .int .i64 ai, .slice ag af ah, .int .u64 b6] := a0.seti 2 rfl ke
                        refine ⟨a0.cani 3 rfl rfl, thenW_in fun j0 i6 => ?_⟩
                        have ig := j1.x_set (q := a1.heap.size) (i := 3) rfl (.inl rfl) i6
                        have a0 : Blk j0 a1.heap.size 47 [.int .i64 ak, .int .i64 ax, .int .u64 be, .int .i64 bu, .int .i64 b7, .int .i64 ai, .slice ag af ah, .int .u64 b6] := a0.seti 3 rfl i6
                        refine ⟨a0.cani 4 rfl rfl, thenW_in fun li gb => ?_⟩
                        have ii := ig.x_set (q := a1.heap.size) (i := 4) rfl (.inl rfl) gb
                        have a0 : Blk li a1.heap.size 47 [.int .i64 ak, .int .i64 ax, .int .u64 be, .int .i64 bu, .int .i64 bx, .int .i64 ai, .slice ag af ah, .int .u64 b6] := a0.seti 4 rfl gb
                        refine ⟨a0.cani 5 rfl rfl, thenW_in fun j4 ku => ?_⟩
                        have km := ii.x_set (q := a1.heap.size) (i := 5) rfl (.inl rfl) ku
                        have a0 : Blk j4 a1.heap.size 47 [.int .i64 ak, .int .i64 ax, .int .u64 be, .int .i64 bu, .int .i64 bx, .int .i64 bl, .slice ag af ah, .int .u64 b6] := a0.seti 5 rfl ku
                        refine ⟨a0.cani 6 rfl rfl, thenW_in fun gw i8 => ?_⟩
                        have ir := km.x_set (q := a1.heap.size) (i := 6) rfl (.inl rfl) i8
                        have a0 : Blk gw a1.heap.size 47 [.int .i64 ak, .int .i64 ax, .int .u64 be, .int .i64 bu, .int .i64 bx, .int .i64 bl, .slice bq bm br, .int .u64 b6] := a0.seti 6 rfl i8
                        refine ⟨a0.cani 7 rfl rfl, thenW_in fun i3 kg => ?_⟩
                        have kd := ir.x_set (q := a1.heap.size) (i := 7) rfl (.inl rfl) kg
                        have a0 : Blk i3 a1.heap.size 47 [.int .i64 ak, .int .i64 ax, .int .u64 be, .int .i64 bu, .int .i64 bx, .int .i64 bl, .slice bq bm br, .int .u64 cg] := a0.seti 7 rfl kg
                        refine thenW_in fun gu jm => ?_
                        have lf := kd.x_drew jm
                        have a0 := a0.x_drew jm
                        refine ⟨ak, ax, be, bu, bx, bl, bq, bm, br, cg, ⟨a0.celli 0 rfl rfl, a0.celli 1 rfl rfl, a0.celli 2 rfl rfl, a0.celli 3 rfl rfl, a0.celli 4 rfl rfl, a0.celli 5 rfl rfl, a0.celli 6 rfl rfl, a0.celli 7 rfl rfl, trivial⟩, ?_⟩
                        refine ⟨ak, ax, be, bu, bx, bl, bq, bm, br, cg, ⟨a0.celli 0 rfl rfl, a0.celli 1 rfl rfl, a0.celli 2 rfl rfl, a0.celli 3 rfl rfl, a0.celli 4 rfl rfl, a0.celli 5 rfl rfl, a0.celli 6 rfl rfl, a0.celli 7 rfl rfl, trivial⟩, ?_⟩
                        have h := h gu lf
                        refine h.mono fun ph oy h => ?_
                        obtain ⟨d6, he, hk, h⟩ := h
                        refine ⟨d6, he, ?_⟩
                        have a0 := hk.blk a0 (by simp)
                        refine ⟨⟨a0.celli 0 rfl rfl, a0.celli 1 rfl rfl, a0.celli 2 rfl rfl, a0.celli 3 rfl rfl, a0.celli 4 rfl rfl, a0.celli 5 rfl rfl, a0.celli 6 rfl rfl, a0.celli 7 rfl rfl, trivial⟩, ?_⟩
                        refine h.mono fun pt nx h => ?_
                        obtain ⟨d4, he, hk, h⟩ := h
                        refine ⟨d4, he, ?_⟩
                        have a0 := hk.blk a0 (by simp)
                        refine bif_of (fun fe => ?_) (fun fe => ?_)
                        · have h := h.1 (bne_t fe)
                          exact h
                        · have h := h.2 (bne_f fe)
                          refine ⟨ak, ax, be, bu, bx, bl, bq, bm, br, cg, ⟨a0.celli 0 rfl rfl, a0.celli 1 rfl rfl, a0.celli 2 rfl rfl, a0.celli 3 rfl rfl, a0.celli 4 rfl rfl, a0.celli 5 rfl rfl, a0.celli 6 rfl rfl, a0.celli 7 rfl rfl, trivial⟩, ?_⟩
                          refine ⟨ak, ax, be, bu, bx, bl, bq, bm, br, cg, ⟨a0.celli 0 rfl rfl, a0.celli 1 rfl rfl, a0.celli 2 rfl rfl, a0.celli 3 rfl rfl, a0.celli 4 rfl rfl, a0.celli 5 rfl rfl, a0.celli 6 rfl rfl, a0.celli 7 rfl rfl, trivial⟩, ?_⟩
                          refine h.mono fun ol oh h => ?_
                          obtain ⟨cy, he, hk, h⟩ := h
                          refine ⟨cy, he, ?_⟩
                          have a0 := hk.blk a0 (by simp)
                          refine ⟨⟨a0.celli 0 rfl rfl, a0.celli 1 rfl rfl, a0.celli 2 rfl rfl, a0.celli 3 rfl rfl, a0.celli 4 rfl rfl, a0.celli 5 rfl rfl, a0.celli 6 rfl rfl, a0.celli 7 rfl rfl, trivial⟩, ?_⟩
                          refine h.mono fun o0 oj h => ?_
                          obtain ⟨d3, he, h⟩ := h
                          refine ⟨d3, he, ?_⟩
                          refine bif_of (fun f2 => ?_) (fun f2 => ?_)
                          · have h := h.1 (bne_t f2)
                            exact h
                          · have h := h.2 (bne_f f2)
                            refine h.mono fun pf pe h => ?_
                            obtain ⟨dh, he, h⟩ := h
                            refine ⟨dh, he, ?_⟩
                            refine bif_of (fun e9 => ?_) (fun e9 => ?_)
                            · have h := h.1 (not_t e9)
                              exact h
                            · have h := h.2 (not_f e9)
                              obtain ⟨cj, ch, h⟩ := h
                              try rw [w64 cj ch]
                              obtain ⟨n6, hk, h⟩ := h
                              exact ⟨n6, hk, h⟩
                      · have h := h.2 (beq_f eu)
                        refine thenW_in fun le iu => ?_
                        have io := dz.x_drew iu
                        have a0 := a0.x_drew iu
                        refine ⟨aa, aj, ao, b8, b7, ai, ag, af, ah, b6, ⟨a0.celli 0 rfl rfl, a0.celli 1 rfl rfl, a0.celli 2 rfl rfl, a0.celli 3 rfl rfl, a0.celli 4 rfl rfl, a0.celli 5 rfl rfl, a0.celli 6 rfl rfl, a0.celli 7 rfl rfl, trivial⟩, ?_⟩
                        refine ⟨aa, aj, ao, b8, b7, ai, ag, af, ah, b6, ⟨a0.celli 0 rfl rfl, a0.celli 1 rfl rfl, a0.celli 2 rfl rfl, a0.celli 3 rfl rfl, a0.celli 4 rfl rfl, a0.celli 5 rfl rfl, a0.celli 6 rfl rfl, a0.celli 7 rfl rfl, trivial⟩, ?_⟩
                        have h := h le (a1.heap.size) io (Priv.cons cd a0.lt Priv.nil)
                        refine h.mono fun pv pz h => ?_
                        obtain ⟨d7, he, hk, h⟩ := h
                        refine ⟨d7, he, ?_⟩
                        have a0 := hk.blk a0 (by simp)
                        refine ⟨⟨a0.celli 0 rfl rfl, a0.celli 1 rfl rfl, a0.celli 2 rfl rfl, a0.celli 3 rfl rfl, a0.celli 4 rfl rfl, a0.celli 5 rfl rfl, a0.celli 6 rfl rfl, a0.celli 7 rfl rfl, trivial⟩, ?_⟩
                        refine h.mono fun oz o9 h => ?_
                        obtain ⟨dc, he, hk, h⟩ := h
                        refine ⟨dc, he, ?_⟩
                        have a0 := hk.blk a0 (by simp)
                        refine bif_of (fun f0 => ?_) (fun f0 => ?_)
                        · have h := h.1 (bne_t f0)
                          exact h
                        · have h := h.2 (bne_f f0)
                          refine ⟨aa, aj, ao, b8, b7, ai, ag, af, ah, b6, ⟨a0.celli 0 rfl rfl, a0.celli 1 rfl rfl, a0.celli 2 rfl rfl, a0.celli 3 rfl rfl, a0.celli 4 rfl rfl, a0.celli 5 rfl rfl, a0.celli 6 rfl rfl, a0.celli 7 rfl rfl, trivial⟩, ?_⟩
                          refine ⟨aa, aj, ao, b8, b7, ai, ag, af, ah, b6, ⟨a0.celli 0 rfl rfl, a0.celli 1 rfl rfl, a0.celli 2 rfl rfl, a0.celli 3 rfl rfl, a0.celli 4 rfl rfl, a0.celli 5 rfl rfl, a0.celli 6 rfl rfl, a0.celli 7 rfl rfl, trivial⟩, ?_⟩
                          refine h.mono fun ob pw h => ?_
                          obtain ⟨cw, he, hk, h⟩ := h
                          refine ⟨cw, he, ?_⟩
                          have a0 := hk.blk a0 (by simp)
                          refine ⟨⟨a0.celli 0 rfl rfl, a0.celli 1 rfl rfl, a0.celli 2 rfl rfl, a0.celli 3 rfl rfl, a0.celli 4 rfl rfl, a0.celli 5 rfl rfl, a0.celli 6 rfl rfl, a0.celli 7 rfl rfl, trivial⟩, ?_⟩
                          refine h.mono fun pi po h => ?_
                          obtain ⟨d0, he, h⟩ := h
                          refine ⟨d0, he, ?_⟩
                          refine bif_of (fun e6 => ?_) (fun e6 => ?_)
                          · have h := h.1 (bne_t e6)
                            exact h
                          · have h := h.2 (bne_f e6)
                            refine h.mono fun o7 o4 h => ?_
                            obtain ⟨dn, he, h⟩ := h
                            refine ⟨dn, he, ?_⟩
                            refine bif_of (fun ec => ?_) (fun ec => ?_)
                            · have h := h.1 (not_t ec)
                              exact h
                            · have h := h.2 (not_f ec)
                              obtain ⟨cj, ch, h⟩ := h
                              try rw [w64 cj ch]
                              obtain ⟨nj, hk, h⟩ := h
                              exact ⟨nj, hk, h⟩
                · have h := h.2 (beq_f ef)
                  refine ⟨ae, a8.celli 0 rfl rfl, ?_⟩
                  refine bif_of (fun ds => ?_) (fun ds => ?_)
                  · have h := h.1 (beq_t ds)
                    refine thenW_in fun dw e3 => ?_
                    have ct := d8.x_drew e3
                    have a8 := a8.x_drew e3
                    have a0 := a0.x_drew e3
                    refine ⟨bz, a8.celli 4 rfl rfl, ?_⟩
                    refine bif_of (fun ez => ?_) (fun ez => ?_)
                    · have h := h.1 (of_decide_eq_true ez)
                      obtain ⟨cj, ch, h⟩ := h
                      try rw [w64 cj ch]
                      have h := h dw ct
                      obtain ⟨m6, hk, h⟩ := h
                      exact ⟨m6, hk, h⟩
                    · have h := h.2 (Int.not_lt.1 (of_decide_eq_false ez))
                      refine ⟨bz, a8.celli 4 rfl rfl, ?_⟩
                      obtain ⟨ip, jf, ic, j5, h⟩ := h
                      refine ⟨ip, jf, ic, (ct).cell j5 id, ?_⟩
                      refine bif_of (fun fo => ?_) (fun fo => ?_)
                      · have h := h.1 (of_decide_eq_true fo)
                        obtain ⟨cj, ch, h⟩ := h
                        try rw [w64 cj ch]
                        have h := h dw ct
                        obtain ⟨na, hk, h⟩ := h
                        exact ⟨na, hk, h⟩
                      · have h := h.2 (Int.not_le.1 (of_decide_eq_false fo))
                        refine thenW_in fun p5 f9 => ?_
                        have cv := ct.x_drew f9
                        have a8 := a8.x_drew f9
                        have a0 := a0.x_drew f9
                        obtain ⟨jp, jz, gv, jg, h⟩ := h
                        refine ⟨jp, jz, gv, (cv).cell jg id, ?_⟩
                        obtain ⟨l7, gi, ka, l4, h⟩ := h
                        refine ⟨l7, gi, ka, (cv).cell l4 id, ?_⟩
                        obtain ⟨cj, ch, h⟩ := h
                        try rw [w64 cj ch]
                        refine ⟨bz, a8.celli 4 rfl rfl, ?_⟩
                        obtain ⟨cj, ch, h⟩ := h
                        try rw [w64 cj ch]
                        obtain ⟨q2, j3, h⟩ := h
                        refine elim_some j3 ?_
                        obtain ⟨iq, jt, h⟩ := h
                        refine ⟨iq, jt, ?_⟩
                        obtain ⟨ar, az, bb, bg, bh, b2, b3, b0, b4, bi, ie, h⟩ := h
                        refine ⟨ar, az, bb, bg, bh, b2, b3, b0, b4, bi, cellsAt_no (cv) ie, ?_⟩
                        refine ⟨a0.cani 0 rfl rfl, thenW_in fun gz g3 => ?_⟩
                        have it := cv.x_set (q := a1.heap.size) (i := 0) rfl (.inr cd) g3
                        have a8 := a8.oth (q := a1.heap.size) (i := 0) rfl b9 g3
                        have a0 : Blk gz a1.heap.size 47 [.int .i64 ar, .int .i64 a3, .int .u64 a9, .int .i64 ad, .int .i64 ac, .int .i64 a4, .slice a6 a7 a5, .int .u64 ab] := a0.seti 0 rfl g3
                        refine ⟨a0.cani 1 rfl rfl, thenW_in fun ky fw => ?_⟩
                        have g5 := it.x_set (q := a1.heap.size) (i := 1) rfl (.inr cd) fw
                        have a8 := a8.oth (q := a1.heap.size) (i := 1) rfl b9 fw
                        have a0 : Blk ky a1.heap.size 47 [.int .i64 ar, .int .i64 az, .int .u64 a9, .int .i64 ad, .int .i64 ac, .int .i64 a4, .slice a6 a7 a5, .int .u64 ab] := a0.seti 1 rfl fw
                        refine ⟨a0.cani 2 rfl rfl, thenW_in fun kz ft => ?_⟩
                        have k3 := g5.x_set (q := a1.heap.size) (i := 2) rfl (.inr cd) ft
                        have a8 := a8.oth (q := a1.heap.size) (i := 2) rfl b9 ft
                        have a0 : Blk kz a1.heap.size 47 [.int .i64 ar, .int .i64 az, .int .u64 bb, .int .i64 ad, .int .i64 ac, .int .i64 a4, .slice a6 a7 a5, .int .u64 ab] := a0.seti 2 rfl ft
                        refine ⟨a0.cani 3 rfl rfl, thenW_in fun lk fs => ?_⟩
                        have gd := k3.x_set (q := a1.heap.size) (i := 3) rfl (.inr cd) fs
                        have a8 := a8.oth (q := a1.heap.size) (i := 3) rfl b9 fs
                        have a0 : Blk lk a1.heap.size 47 [.int .i64 ar, .int .i64 az, .int .u64 bb, .int .i64 bg, .int .i64 ac, .int .i64 a4, .slice a6 a7 a5, .int .u64 ab] := a0.seti 3 rfl fs
                        refine ⟨a0.cani 4 rfl rfl, thenW_in fun kx fz => ?_⟩
                        have j2 := gd.x_set (q := a1.heap.size) (i := 4) rfl (.inr cd) fz
                        have a8 := a8.oth (q := a1.heap.size) (i := 4) rfl b9 fz
                        have a0 : Blk kx a1.heap.size 47 [.int .i64 ar, .int .i64 az, .int .u64 bb, .int .i64 bg, .int .i64 bh, .int .i64 a4, .slice a6 a7 a5, .int .u64 ab] := a0.seti 4 rfl fz
                        refine ⟨a0.cani 5 rfl rfl, thenW_in fun kp fg => ?_⟩
                        have ib := j2.x_set (q := a1.heap.size) (i := 5) rfl (.inr cd) fg
                        have a8 := a8.oth (q := a1.heap.size) (i := 5) rfl b9 fg
                        have a0 : Blk kp a1.heap.size 47 [.int .i64 ar, .int .i64 az, .int .u64 bb, .int .i64 bg, .int .i64 bh, .int .i64 b2, .slice a6 a7 a5, .int .u64 ab] := a0.seti 5 rfl fg
                        refine ⟨a0.cani 6 rfl rfl, thenW_in fun l1 fl => ?_⟩
                        have ll := ib.x_set (q := a1.heap.size) (i := 6) rfl (.inr cd) fl
                        have a8 := a8.oth (q := a1.heap.size) (i := 6) rfl b9 fl
                        have a0 : Blk l1 a1.heap.size 47 [.int .i64 ar, .int .i64 az, .int .u64 bb, .int .i64 bg, .int .i64 bh, .int .i64 b2, .slice b3 b0 b4, .int .u64 ab] := a0.seti 6 rfl fl
                        refine ⟨a0.cani 7 rfl rfl, thenW_in fun dt g1 => ?_⟩
                        have ia := ll.x_set (q := a1.heap.size) (i := 7) rfl (.inr cd) g1
                        have a8 := a8.oth (q := a1.heap.size) (i := 7) rfl b9 g1
                        have a0 : Blk dt a1.heap.size 47 [.int .i64 ar, .int .i64 az, .int .u64 bb, .int .i64 bg, .int .i64 bh, .int .i64 b2, .slice b3 b0 b4, .int .u64 bi] := a0.seti 7 rfl g1
                        refine ⟨ae, a8.celli 0 rfl rfl, ?_⟩
                        refine bif_tt ds ?_
                        refine ⟨ar, az, bb, bg, bh, b2, b3, b0, b4, bi, ⟨a0.celli 0 rfl rfl, a0.celli 1 rfl rfl, a0.celli 2 rfl rfl, a0.celli 3 rfl rfl, a0.celli 4 rfl rfl, a0.celli 5 rfl rfl, a0.celli 6 rfl rfl, a0.celli 7 rfl rfl, trivial⟩, ?_⟩
                        refine ⟨aw, a8.celli 5 rfl rfl, ?_⟩
                        have h := h dt (a1.heap.size) ia (Priv.cons cd a0.lt Priv.nil)
                        refine h.mono fun ok dg h => ?_
                        obtain ⟨al, ay, bd, bv, bw, bk, bp, bo, bn, cf, he, hk, h⟩ := h
                        refine ⟨al, ay, bd, bv, bw, bk, bp, bo, bn, cf, he, ?_⟩
                        have a0 := hk.blk a0 (by simp)
                        have j9 : Ext (fun b => b = a1.heap.size) dg dg := ((Ext.refl no dg)).none
                        refine ⟨a0.cani 0 rfl rfl, thenW_in fun l0 k9 => ?_⟩
                        have i2 := j9.x_set (q := a1.heap.size) (i := 0) rfl (.inl rfl) k9
                        have a0 : Blk l0 a1.heap.size 47 [.int .i64 al, .int .i64 az, .int .u64 bb, .int .i64 bg, .int .i64 bh, .int .i64 b2, .slice b3 b0 b4, .int .u64 bi] := a0.seti 0 rfl k9
                        refine ⟨a0.cani 1 rfl rfl, thenW_in fun gr gc => ?_⟩
                        have ks := i2.x_set (q := a1.heap.size) (i := 1) rfl (.inl rfl) gc
                        have a0 : Blk gr a1.heap.size 47 [.int .i64 al, .int .i64 ay, .int .u64 bb, .int .i64 bg, .int .i64 bh, .int .i64 b2, .slice b3 b0 b4, .int .u64 bi] := a0.seti 1 rfl gc
                        refine ⟨a0.cani 2 rfl rfl, thenW_in fun kq jx => ?_⟩
                        have kh := ks.x_set (q := a1.heap.size) (i := 2) rfl (.inl rfl) jx
                        have a0 : Blk kq a1.heap.size 47 [.int .i64 al, .int .i64 ay, .int .u64 bd, .int .i64 bg, .int .i64 bh, .int .i64 b2, .slice b3 b0 b4, .int .u64 bi] := a0.seti 2 rfl jx
                        refine ⟨a0.cani 3 rfl rfl, thenW_in fun k8 k7 => ?_⟩
                        have kc := kh.x_set (q := a1.heap.size) (i := 3) rfl (.inl rfl) k7
                        have a0 : Blk k8 a1.heap.size 47 [.int .i64 al, .int .i64 ay, .int .u64 bd, .int .i64 bv, .int .i64 bh, .int .i64 b2, .slice b3 b0 b4, .int .u64 bi] := a0.seti 3 rfl k7
                        refine ⟨a0.cani 4 rfl rfl, thenW_in fun gq jv => ?_⟩
                        have js := kc.x_set (q := a1.heap.size) (i := 4) rfl (.inl rfl) jv
                        have a0 : Blk gq a1.heap.size 47 [.int .i64 al, .int .i64 ay, .int .u64 bd, .int .i64 bv, .int .i64 bw, .int .i64 b2, .slice b3 b0 b4, .int .u64 bi] := a0.seti 4 rfl jv
                        refine ⟨a0.cani 5 rfl rfl, thenW_in fun jd ga => ?_⟩
                        have je := js.x_set (q := a1.heap.size) (i := 5) rfl (.inl rfl) ga
                        have a0 : Blk jd a1.heap.size 47 [.int .i64 al, .int .i64 ay, .int .u64 bd, .int .i64 bv, .int .i64 bw, .int .i64 bk, .slice b3 b0 b4, .int .u64 bi] := a0.seti 5 rfl ga
                        refine ⟨a0.cani 6 rfl rfl, thenW_in fun lo i5 => ?_⟩
                        have lm := je.x_set (q := a1.heap.size) (i := 6) rfl (.inl rfl) i5
                        have a0 : Blk lo a1.heap.size 47 [.int .i64 al, .int .i64 ay, .int .u64 bd, .int .i64 bv, .int .i64 bw, .int .i64 bk, .slice bp bo bn, .int .u64 bi] := a0.seti 6 rfl i5
                        refine ⟨a0.cani 7 rfl rfl, thenW_in fun kb lj => ?_⟩
                        have im := lm.x_set (q := a1.heap.size) (i := 7) rfl (.inl rfl) lj
                        have a0 : Blk kb a1.heap.size 47 [.int .i64 al, .int .i64 ay, .int .u64 bd, .int .i64 bv, .int .i64 bw, .int .i64 bk, .slice bp bo bn, .int .u64 cf] := a0.seti 7 rfl lj
                        refine thenW_in fun gt i1 => ?_
                        have ik := im.x_drew i1
                        have a0 := a0.x_drew i1
                        refine ⟨al, ay, bd, bv, bw, bk, bp, bo, bn, cf, ⟨a0.celli 0 rfl rfl, a0.celli 1 rfl rfl, a0.celli 2 rfl rfl, a0.celli 3 rfl rfl, a0.celli 4 rfl rfl, a0.celli 5 rfl rfl, a0.celli 6 rfl rfl, a0.celli 7 rfl rfl, trivial⟩, ?_⟩
                        refine ⟨al, ay, bd, bv, bw, bk, bp, bo, bn, cf, ⟨a0.celli 0 rfl rfl, a0.celli 1 rfl rfl, a0.celli 2 rfl rfl, a0.celli 3 rfl rfl, a0.celli 4 rfl rfl, a0.celli 5 rfl rfl, a0.celli 6 rfl rfl, a0.celli 7 rfl rfl, trivial⟩, ?_⟩
                        have h := h gt ik
                        refine h.mono fun ou oi h => ?_
                        obtain ⟨d5, he, hk, h⟩ := h
                        refine ⟨d5, he, ?_⟩
                        have a0 := hk.blk a0 (by simp)
                        refine ⟨⟨a0.celli 0 rfl rfl, a0.celli 1 rfl rfl, a0.celli 2 rfl rfl, a0.celli 3 rfl rfl, a0.celli 4 rfl rfl, a0.celli 5 rfl rfl, a0.celli 6 rfl rfl, a0.celli 7 rfl rfl, trivial⟩, ?_⟩
                        refine h.mono fun p6 ox h => ?_
                        obtain ⟨db, he, hk, h⟩ := h
                        refine ⟨db, he, ?_⟩
                        have a0 := hk.blk a0 (by simp)
                        refine bif_of (fun fh => ?_) (fun fh => ?_)
                        · have h := h.1 (bne_t fh)
                          exact h
                        · have h := h.2 (bne_f fh)
                          refine ⟨al, ay, bd, bv, bw, bk, bp, bo, bn, cf, ⟨a0.celli 0 rfl rfl, a0.celli 1 rfl rfl, a0.celli 2 rfl rfl, a0.celli 3 rfl rfl, a0.celli 4 rfl rfl, a0.celli 5 rfl rfl, a0.celli 6 rfl rfl, a0.celli 7 rfl rfl, trivial⟩, ?_⟩
                          refine ⟨al, ay, bd, bv, bw, bk, bp, bo, bn, cf, ⟨a0.celli 0 rfl rfl, a0.celli 1 rfl rfl, a0.celli 2 rfl rfl, a0.celli 3 rfl rfl, a0.celli 4 rfl rfl, a0.celli 5 rfl rfl, a0.celli 6 rfl rfl, a0.celli 7 rfl rfl, trivial⟩, ?_⟩
                          refine h.mono fun p0 ov h => ?_
                          obtain ⟨d2, he, hk, h⟩ := h
                          refine ⟨d2, he, ?_⟩
                          have a0 := hk.blk a0 (by simp)
                          refine ⟨⟨a0.celli 0 rfl rfl, a0.celli 1 rfl rfl, a0.celli 2 rfl rfl, a0.celli 3 rfl rfl, a0.celli 4 rfl rfl, a0.celli 5 rfl rfl, a0.celli 6 rfl rfl, a0.celli 7 rfl rfl, trivial⟩, ?_⟩
                          refine h.mono fun pa og h => ?_
                          obtain ⟨cz, he, h⟩ := h
                          refine ⟨cz, he, ?_⟩
                          refine bif_of (fun fi => ?_) (fun fi => ?_)
                          · have h := h.1 (bne_t fi)
                            exact h
                          · have h := h.2 (bne_f fi)
                            refine h.mono fun op o2 h => ?_
                            obtain ⟨dj, he, h⟩ := h
                            refine ⟨dj, he, ?_⟩
                            refine bif_of (fun et => ?_) (fun et => ?_)
                            · have h := h.1 (not_t et)
                              exact h
                            · have h := h.2 (not_f et)
                              obtain ⟨cj, ch, h⟩ := h
                              try rw [w64 cj ch]
                              obtain ⟨lr, hk, h⟩ := h
                              exact ⟨lr, hk, h⟩
                  · have h := h.2 (beq_f ds)
                    refine thenW_in fun j6 l8 => ?_
                    have jj := d8.x_drew l8
                    have a0 := a0.x_drew l8
                    refine ⟨a2, a3, a9, ad, ac, a4, a6, a7, a5, ab, ⟨a0.celli 0 rfl rfl, a0.celli 1 rfl rfl, a0.celli 2 rfl rfl, a0.celli 3 rfl rfl, a0.celli 4 rfl rfl, a0.celli 5 rfl rfl, a0.celli 6 rfl rfl, a0.celli 7 rfl rfl, trivial⟩, ?_⟩
                    refine ⟨a2, a3, a9, ad, ac, a4, a6, a7, a5, ab, ⟨a0.celli 0 rfl rfl, a0.celli 1 rfl rfl, a0.celli 2 rfl rfl, a0.celli 3 rfl rfl, a0.celli 4 rfl rfl, a0.celli 5 rfl rfl, a0.celli 6 rfl rfl, a0.celli 7 rfl rfl, trivial⟩, ?_⟩
                    have h := h j6 (a1.heap.size) jj (Priv.cons cd a0.lt Priv.nil)
                    refine h.mono fun od pk h => ?_
                    obtain ⟨dd, he, hk, h⟩ := h
                    refine ⟨dd, he, ?_⟩
                    have a0 := hk.blk a0 (by simp)
                    refine ⟨⟨a0.celli 0 rfl rfl, a0.celli 1 rfl rfl, a0.celli 2 rfl rfl, a0.celli 3 rfl rfl, a0.celli 4 rfl rfl, a0.celli 5 rfl rfl, a0.celli 6 rfl rfl, a0.celli 7 rfl rfl, trivial⟩, ?_⟩
                    refine h.mono fun px p8 h => ?_
                    obtain ⟨da, he, hk, h⟩ := h
                    refine ⟨da, he, ?_⟩
                    have a0 := hk.blk a0 (by simp)
                    refine bif_of (fun en => ?_) (fun en => ?_)
                    · have h := h.1 (bne_t en)
                      exact h
                    · have h := h.2 (bne_f en)
                      refine ⟨a2, a3, a9, ad, ac, a4, a6, a7, a5, ab, ⟨a0.celli 0 rfl rfl, a0.celli 1 rfl rfl, a0.celli 2 rfl rfl, a0.celli 3 rfl rfl, a0.celli 4 rfl rfl, a0.celli 5 rfl rfl, a0.celli 6 rfl rfl, a0.celli 7 rfl rfl, trivial⟩, ?_⟩
                      refine ⟨a2, a3, a9, ad, ac, a4, a6, a7, a5, ab, ⟨a0.celli 0 rfl rfl, a0.celli 1 rfl rfl, a0.celli 2 rfl rfl, a0.celli 3 rfl rfl, a0.celli 4 rfl rfl, a0.celli 5 rfl rfl, a0.celli 6 rfl rfl, a0.celli 7 rfl rfl, trivial⟩, ?_⟩
                      refine h.mono fun p1 oc h => ?_
                      obtain ⟨d1, he, hk, h⟩ := h
                      refine ⟨d1, he, ?_⟩
                      have a0 := hk.blk a0 (by simp)
                      refine ⟨⟨a0.celli 0 rfl rfl, a0.celli 1 rfl rfl, a0.celli 2 rfl rfl, a0.celli 3 rfl rfl, a0.celli 4 rfl rfl, a0.celli 5 rfl rfl, a0.celli 6 rfl rfl, a0.celli 7 rfl rfl, trivial⟩, ?_⟩
                      refine h.mono fun pc q0 h => ?_
                      obtain ⟨cx, he, h⟩ := h
                      refine ⟨cx, he, ?_⟩
                      refine bif_of (fun fx => ?_) (fun fx => ?_)
                      · have h := h.1 (bne_t fx)
                        exact h
                      · have h := h.2 (bne_f fx)
                        refine h.mono fun oq pm h => ?_
                        obtain ⟨di, he, h⟩ := h
                        refine ⟨di, he, ?_⟩
                        refine bif_of (fun ey => ?_) (fun ey => ?_)
                        · have h := h.1 (not_t ey)
                          exact h
                        · have h := h.2 (not_f ey)
                          obtain ⟨cj, ch, h⟩ := h
                          try rw [w64 cj ch]
                          obtain ⟨mr, hk, h⟩ := h
                          exact ⟨mr, hk, h⟩
          · have h := h.2 (Int.not_lt.1 (of_decide_eq_false nl))
            exact h

theorem cachettelaw07_ChainPlays.go (a2 : Option Addr) (a0 : Nat) (a1 : Nat) (a3 : Option Addr) (a5 : Nat) (a4 : Nat) {R : Value → World → Prop} {w : World} (h : cachettelaw07_ChainPlays.N a2 a0 a1 a3 a5 a4 R w) : Calls Try.prog 3 #[.slice a2 a0 a1, .slice a3 a5 a4] w fun e w' => ∃ v, e = .returned v ∧ R v w' := cachettelaw07_ChainPlays.ok a2 a0 a1 a3 a5 a4 (cachettelaw07_ChainPlays.up a2 a0 a1 a3 a5 a4 h)
theorem cachettelaw07_ChainPlays.run (a2 : Option Addr) (a0 : Nat) (a1 : Nat) (a3 : Option Addr) (a5 : Nat) (a4 : Nat) {V : Value} {Q : World → Prop} {w : World} (h : cachettelaw07_ChainPlays.N a2 a0 a1 a3 a5 a4 (fun v w' => v = V ∧ Q w') w) : Calls Try.prog 3 #[.slice a2 a0 a1, .slice a3 a5 a4] w (Ret V Q) := (cachettelaw07_ChainPlays.go a2 a0 a1 a3 a5 a4 h).mono fun e w' ⟨v, he, hv, hq⟩ => ⟨by rw [he, hv], hq⟩

end Go.Proofs.Ytdelmfpchbpafaa

/- An entry that is turned. -/
set_option linter.unusedVariables false
set_option linter.unusedSimpArgs false
set_option maxRecDepth 20000
set_option maxHeartbeats 2000000
namespace Go.Proofs.Ytdelmfpchbpafaa
open Go Go.Mx Go.Proofs
open W (OwnB GivesW numR countR doneR zig unzig intR)
def flipU (x : Int) : Int := IntKind.u64.wrap ((BitVec.ofInt (IntKind.bits .u64) x ^^^ BitVec.ofInt (IntKind.bits .u64) 1).toNat)
def flipI (x : Int) : Int := IntKind.i64.wrap ((BitVec.ofInt (IntKind.bits .i64) x ^^^ BitVec.ofInt (IntKind.bits .i64) 1).toNat)
def turnE (e : Ent) (f : Int) : Ent :=
  if f = 0 then { e with sg := flipU e.sg } else if f = 1 then { e with body := 7 :: e.body } else if f = 2 then { e with pv := flipU e.pv } else if f = 3 then { e with i := flipI e.i } else if f = 4 then { e with w := flipI e.w } else if f = 5 then { e with ep := flipI e.ep } else e
section
variable {w w' w1 : World} {o o' o1 : Own} {q r j k n m : Nat} {K : Nat → Prop} {e : Ent} {a : Option Addr} {c : Nat}
theorem flipU_fit (x : Int) : 0 ≤ flipU x ∧ flipU x < 18446744073709551616 := by
  have := IntKind.wrap_u64 ((BitVec.ofInt (IntKind.bits .u64) x ^^^ BitVec.ofInt (IntKind.bits .u64) 1).toNat)
  unfold flipU
  omega
theorem turned_spec (ok : Tags w o) (x : PE) (hx : x.ok w o) (hl : x.e.body.length < 100000) (f : Int) :
    Calls Try.prog 18 #[entV x.e x.a x.c, .int .i64 f] w (fun v w' => ∃ o', ∃ y : PE, v = .returned (entV y.e y.a y.c) ∧ Step no w o w' o' ∧ y.ok w' o' ∧ y.e = turnE x.e f) := by
  refine (cachettelaw07_turned.go x.e.w x.e.i x.e.pv x.e.t x.e.tw x.e.ep x.a x.e.body.length x.c x.e.sg f (R := fun v w' => ∃ o', ∃ y : PE, v = (entV y.e y.a y.c) ∧ Step no w o w' o' ∧ y.ok w' o' ∧ y.e = turnE x.e f) ?_).mono fun v w' ⟨v', he, o', y, hv, hw⟩ => ⟨o', y, by rw [he, hv], hw⟩
  unfold cachettelaw07_turned.N
  obtain ⟨h1, h2, h3⟩ := hx
  have fin : ∀ (y : Ent) (w2 : World), Ext no w w2 → y.body = x.e.body → y.fit → y = turnE x.e f → ∃ o', ∃ z : PE, entV y x.a x.c = entV z.e z.a z.c ∧ Step no w o w2 o' ∧ z.ok w2 o' ∧ z.e = turnE x.e f := fun y w2 X hb hf hy => ⟨_, ⟨y, x.a, x.c⟩, rfl, Step.of_no X ok, ⟨by rw [hb]; exact h1.step (Step.of_no X ok), by rw [hb]; exact h2, hf⟩, hy⟩
  refine ⟨fun e0 w21 X => ?_, fun n0 => ⟨fun e1 w25 q26 p27 p28 X25 hb hq hq' hpq => ?_, fun n1 => ⟨fun e2 w49 X => ?_, fun n2 => ⟨fun e3 w61 X => ?_, fun n3 => ⟨fun e4 w73 X => ?_, fun n4 => ⟨fun e5 w85 X => ?_, fun n5 w95 X => ?_⟩⟩⟩⟩⟩⟩
  · exact fin { x.e with sg := flipU x.e.sg } _ X rfl ⟨h3.pv0, h3.pv1, (flipU_fit _).1, (flipU_fit _).2⟩ (by unfold turnE; rw [if_pos e0])
  · have hO : OwnB q26 w25 (some (blk q26)) 1 [7] := ⟨owns_of_blk hb rfl (by show (1 : Nat) ≤ maxLen; unfold maxLen; decide), fun ad ha => by cases ha; exact ⟨Nat.le_refl _, hq'⟩⟩
    obtain ⟨a', c', w30, hr, hO', X30⟩ := hO.append (t := 43) (ty := 43) Try.underlying43 (Nat.le_of_lt hq') (xc := x.c) (h1.1.no X25) (by simp; omega)
    obtain ⟨g27, g28⟩ := hpq.two
    refine ⟨a', _, c', w30, hr, ?_, fun w39 X39 => ?_⟩
    · exact X30.keep fun p hp _ hb => by
        simp only [List.mem_cons, List.not_mem_nil, or_false] at hp
        rcases hp with rfl | rfl <;> omega
    · have X : Ext no w w39 := (X25.then X30 fun b hb => .inr (by omega)).then X39 fun b hb => .inr (by omega)
      have hrow : RowAt w39 a' (bytesV (7 :: x.e.body)) := hO'.row.ext' X39 fun h0 ad ha hb => by
        have := (hO'.fr ad ha).1
        omega
      have s := Step.of_no X ok
      refine ⟨_, ⟨{ x.e with body := 7 :: x.e.body }, a', c'⟩, rfl, s, ⟨Row.fresh hrow fun ad ha => by have := (hO'.fr ad ha).1; omega, hO'.le, h3.pv0, h3.pv1, h3.sg0, h3.sg1⟩, ?_⟩
      unfold turnE; rw [if_neg n0, if_pos e1]
  · exact fin { x.e with pv := flipU x.e.pv } _ X rfl ⟨(flipU_fit _).1, (flipU_fit _).2, h3.sg0, h3.sg1⟩ (by unfold turnE; rw [if_neg n0, if_neg n1, if_pos e2])
  · exact fin { x.e with i := flipI x.e.i } _ X rfl ⟨h3.pv0, h3.pv1, h3.sg0, h3.sg1⟩ (by unfold turnE; rw [if_neg n0, if_neg n1, if_neg n2, if_pos e3])
  · exact fin { x.e with w := flipI x.e.w } _ X rfl ⟨h3.pv0, h3.pv1, h3.sg0, h3.sg1⟩ (by unfold turnE; rw [if_neg n0, if_neg n1, if_neg n2, if_neg n3, if_pos e4])
  · exact fin { x.e with ep := flipI x.e.ep } _ X rfl ⟨h3.pv0, h3.pv1, h3.sg0, h3.sg1⟩ (by unfold turnE; rw [if_neg n0, if_neg n1, if_neg n2, if_neg n3, if_neg n4, if_pos e5])
  · exact fin x.e _ X rfl h3 (by unfold turnE; rw [if_neg n0, if_neg n1, if_neg n2, if_neg n3, if_neg n4, if_neg n5])
end
end Go.Proofs.Ytdelmfpchbpafaa

/- Both logs, plainly: the reference's sums come later than the program's. -/
set_option linter.unusedVariables false
set_option linter.unusedSimpArgs false
set_option maxRecDepth 20000
set_option maxHeartbeats 2000000
namespace Go.Proofs.Ytdelmfpchbpafaa
open Go Go.Mx Go.Proofs
section
variable {s p : Int} {S S1 S2 : OS} {L : CL} {wr pb : Int} {es : List Ent} {e : Ent}
theorem head_known (h : LOk S s p L) : headS S L.es = (L.sum, S) := by
  rw [h.sum]
  unfold headS sumS
  cases hl : L.es.getLast? with
  | none => rfl
  | some x =>
    have := sum_known h.good (List.mem_of_getElem? (last_get hl))
    simp only [this]
theorem issue_sim (h : LOk S s p L) (inv : OInv S) (hk : Keyed S s p) (t tw ep : Int) (body : List UInt8) :
    (issueR S L.wr L.pb L.es s t tw ep body).1 = (issueC S L s t tw ep body).1 ∧ (issueR S L.wr L.pb L.es s t tw ep body).2.1 = (issueC S L s t tw ep body).2.1.es ∧
    headS (issueR S L.wr L.pb L.es s t tw ep body).2.2 (issueC S L s t tw ep body).2.1.es = ((issueC S L s t tw ep body).2.1.sum, (issueC S L s t tw ep body).2.2) := by
  have hh := head_known h
  have hn : nextR S L.wr L.pb L.es t tw ep body = nextE L t tw ep body := by unfold nextR; rw [hh]
  unfold issueR issueC
  rw [hn, hh]
  by_cases h1 : L.es.length ≥ 200
  · rw [if_pos h1, if_pos h1]; exact ⟨rfl, rfl, hh⟩
  rw [if_neg h1, if_neg h1]
  by_cases h2 : entRight (nextE L t tw ep body) = true
  · rw [if_pos h2, if_pos h2]
    have hb : behindC L (nextE L t tw ep body) = if lateS L.es t tw = true then 2 else 0 := by rw [behind_as]; exact if_pos rfl
    rw [hb]
    by_cases h3 : lateS L.es t tw = true
    · rw [if_pos h3, if_pos h3, if_pos (by decide)]; exact ⟨rfl, rfl, hh⟩
    · rw [if_neg h3, if_neg h3, if_neg (show ¬ ((0 : Int) ≠ 0) by decide)]
      obtain ⟨a1, a2, a3, a4, a5, a6, a7, a8⟩ := sign_inv inv hk.sec (textL (nextE L t tw ep body))
      have hs : signE S s (nextE L t tw ep body) = (({ nextE L t tw ep body with sg := (signOf S s (textL (nextE L t tw ep body))).1.1 }, 0), (signOf S s (textL (nextE L t tw ep body))).2) := by
        unfold signE; rw [if_pos h2, if_pos a3]
      rw [hs, if_neg (show ¬ ((0 : Int) ≠ 0) by decide), if_neg (show ¬ ((0 : Int) ≠ 0) by decide)]
      refine ⟨rfl, rfl, ?_⟩
      unfold headS putC
      rw [List.getLast?_append]
      rfl
  · rw [if_neg h2, if_neg h2]; exact ⟨rfl, rfl, hh⟩
theorem accept_sim (h : LOk S s p L) : (if checkC S L e = 0 then L.es ++ [e] else L.es) = (acceptC S L e).2.1.es ∧ headS S (acceptC S L e).2.1.es = ((acceptC S L e).2.1.sum, (acceptC S L e).2.2) := by
  unfold acceptC
  by_cases hc : checkC S L e = 0
  · rw [if_pos hc, if_pos hc]
    refine ⟨rfl, ?_⟩
    unfold headS putC
    rw [List.getLast?_append]
    rfl
  · rw [if_neg hc, if_neg hc]
    exact ⟨rfl, head_known h⟩
theorem cut_es (S : OS) (L : CL) (n : Int) : (cutL S L n).es = L.es.take (cutN L.es n) := by
  unfold cutL cutN
  split
  · rw [List.take_of_length_le (by omega)]
  · show L.es.take n.toNat = _
    rw [Nat.min_eq_left (by omega)]
theorem cut_wr (S : OS) (L : CL) (n : Int) : (cutL S L n).wr = L.wr := by
  unfold cutL; split <;> rfl
end
end Go.Proofs.Ytdelmfpchbpafaa

/- ChainPlays: what one step leaves. -/
set_option linter.unusedVariables false
set_option linter.unusedSimpArgs false
set_option maxRecDepth 20000
set_option maxHeartbeats 2000000
namespace Go.Proofs.Ytdelmfpchbpafaa
open Go Go.Mx Go.Proofs
open W (OwnB GivesW numR countR doneR zig unzig intR)
/-- both logs of the program, both of the reference, both oracles. -/
structure PlayI (W : World) (k j qa qb x y : Nat) (s p : Int) (n m : Nat) (w : World) (o : Own) (S : OS) (La Lb : CL) : Prop where
  st : Step no W (fun _ => none) w o
  duo : DuoI w o qa qb k s p S La Lb n
  rx : RLog w o x La.wr La.pb La.es
  ry : RLog w o y Lb.wr Lb.pb Lb.es
  orc : RSt w o j S m
  wa : La.wr = 1
  wb : Lb.wr = 1
  nd : W.heap.size ≤ k ∧ k < j ∧ j < qa ∧ qa < qb ∧ qb < x ∧ x < y
section
variable {W w w' w1 : World} {o o' o1 : Own} {k j qa qb x y n m n' m' : Nat} {K : Nat → Prop} {s p : Int} {S : OS} {L La Lb : CL} {e : Ent} {a : Option Addr} {c : Nat}
theorem bodies7 (h : LOk S s p L) : ∀ e ∈ L.es, e.body.length ≤ 1100 := fun e he => by
  obtain ⟨i, hi⟩ := List.getElem?_of_mem he
  exact ((entRight_iff _).1 (h.good i e hi).1.right).2.2.2.2.2.2.2.2.2.1
theorem PlayI.step (h : PlayI W k j qa qb x y s p n m w o S La Lb) (t : Step K w o w' o') (hk : ∀ i, K i → y < i) : PlayI W k j qa qb x y s p n m w' o' S La Lb := by
  have nd := h.nd
  have nk : ∀ i, i ≤ y → ¬ K i := fun i hi hK => by have := hk i hK; omega
  exact ⟨h.st.trans' t fun i hi => .inr (by have := hk i hi; omega), h.duo.step t (nk _ (by omega)) (nk _ (by omega)) (nk _ (by omega)), h.rx.step t (nk _ (by omega)), h.ry.step t (nk _ (by omega)), h.orc.step t (nk _ (by omega)), h.wa, h.wb, nd⟩
theorem PlayI.mono (h : PlayI W k j qa qb x y s p n m w o S La Lb) (hn : n ≤ n') (hm : m ≤ m') : PlayI W k j qa qb x y s p n' m' w o S La Lb :=
  ⟨h.st, h.duo.mono hn, h.rx, h.ry, h.orc.mono hm, h.wa, h.wb, h.nd⟩
theorem acc_code (S : OS) (L : CL) (e : Ent) : (acceptC S L e).1 = checkC S L e := by
  unfold acceptC
  by_cases h : checkC S L e = 0
  · rw [if_pos h, h]
  · rw [if_neg h]
theorem play_tail (I : PlayI W k j qa qb x y s p n m w o S La Lb) (hn : n + 3 < 1000000) (hm : m + 4 < 1000000) {b : Nat} (M : Mine [b] w o) (hb : y < b) (hf : entRight e = true → e.fit) (hr : Row w o a (bytesV e.body)) (hc : e.body.length ≤ c) {Rf Φ : World → Prop}
    (hΦ : ∀ w' o' S' Lb', PlayI W k j qa qb x y s p (n + 1) (m + 3) w' o' S' La Lb' → Φ w') :
    Calls Try.prog 19 #[.pointer (some (blk qb)), entV e a c] w fun ee w2 => ∃ c1 : Int, ee = .returned (.int .i64 c1) ∧ Keep [b] w w2 ∧
      Calls Try.prog 20 #[.pointer (some (blk y)), .pointer (some (blk j)), entV e a c] w2 fun ee w3 => ∃ c2 : Int, ee = .returned (.int .i64 c2) ∧ Keep [b] w2 w3 ∧
      (c1 ≠ c2 → Rf w3) ∧ (c1 = c2 →
        Calls Try.prog 21 #[.pointer (some (blk qb)), entV e a c] w3 fun ee w4 => ∃ c3 : Int, ee = .returned (.int .i64 c3) ∧ Keep [b] w3 w4 ∧
        Calls Try.prog 22 #[.pointer (some (blk y)), .pointer (some (blk j)), entV e a c] w4 fun ee w5 => ∃ c4 : Int, ee = .returned (.int .i64 c4) ∧
        (c3 ≠ c4 → Rf w5) ∧ (c3 = c4 →
          Calls Try.prog 14 #[.pointer (some (blk qb)), .pointer (some (blk y)), .pointer (some (blk j))] w5 fun ee w6 => ∃ t : Bool, ee = .returned (.bool t) ∧ (t = false → Rf w6) ∧ (t = true → Φ w6))) := by
  have nd := I.nd
  have hyl := I.ry.lt
  have hh := head_known I.duo.b.lok
  refine (cCheck_spec I.duo.b.log I.duo.b.orc I.duo.b.ok hf hr.1).mono fun v w2 ⟨he, X2⟩ => ⟨_, he, X2.kept, ?_⟩
  have s2 := Step.of_no X2 I.duo.b.ok
  have I2 := I.step s2 fun _ h => h.elim
  have hr2 := hr.step s2
  have M2 := M.step s2
  have hbl : ∀ x ∈ Lb.es, x.body.length < 1000000 := fun x hx => by have := bodies7 I.duo.b.lok x hx; omega
  have hC := rCheck_spec (c := c) I2.ry I2.orc (by omega) (by omega) hf hr2 hbl
  rw [hh] at hC
  refine hC.mono fun v w3 ⟨o3, S3, he, s3, r3, hS⟩ => ⟨_, he, M2.keep s3 (by simp; omega), fun h => absurd rfl h, fun _ => ?_⟩
  have e3 : S3 = S := by rcases hS with h | ⟨h, _⟩ <;> exact h
  subst e3
  have D3 := I2.duo.step s3 (by omega) (by omega) (by omega)
  have rx3 := I2.rx.step s3 (by omega)
  have ry3 := I2.ry.step s3 (by omega)
  have hr3 := hr2.step s3
  have M3 := M2.step s3
  refine (D3.b.accept (by omega) hf hr3).mono fun v w4 ⟨o4, S4, L4, cd, he, s4, one4, le4, hwr, hes, hacc⟩ => ⟨_, he, M3.keep s4 (by simp; omega), ?_⟩
  have hcd : checkC S3 Lb e = cd := by rw [← acc_code, hacc]
  have rx4 := rx3.step s4 (by omega)
  have ry4 := ry3.step s4 (by omega)
  have r4 := r3.step s4 (by omega)
  have hr4 := hr3.step s4
  have hA := rAccept_spec (c := c) ry4 r4 (by omega) (by omega) hf hr4 hc hbl
  rw [hh] at hA
  refine hA.mono fun v w5 ⟨o5, S5, he, s5, ry5, r5, hS⟩ => ⟨_, he, fun h => absurd hcd.symm h, fun _ => ?_⟩
  have e5 : S5 = S3 := by rcases hS with h | ⟨h, _⟩ <;> exact h
  subst e5
  obtain ⟨q1, q2⟩ := accept_sim (e := e) I.duo.b.lok
  rw [hacc] at q1 q2
  have D4 := D3.onB s4 one4 le4
  have D5 := D4.step s5 (by omega) (by omega) (by omega)
  have rx5 := rx4.step s5 (by omega)
  have hpb : Lb.pb = L4.pb := by rw [I.duo.b.lok.pb, one4.lok.pb]
  have ry5' : RLog w5 o5 y L4.wr L4.pb L4.es := by
    rw [hwr, ← hpb]
    have q1' : (if checkC S5 (CL.mk Lb.wr Lb.pb Lb.es (Lb.sum, S5).1) e = 0 then Lb.es ++ [e] else Lb.es) = L4.es := q1
    rw [← q1']; exact ry5
  refine (same7_spec D5.b ry5' r5 (by omega) (by omega) (by omega) (by omega) q2 fun x hx => by have := bodies7 D5.b.lok x hx; omega).mono fun v w6 ⟨o6, he, s6, r6⟩ => ⟨_, he, fun h => (by cases h), fun _ => ?_⟩
  have D6 := D5.step s6 (by omega) (by omega) (by omega)
  have stA : Step (fun i => i = qb ∨ i = k ∨ i = y ∨ i = j) w o w6 o6 :=
    ((s2.none.trans (s3.mono fun _ h _ => .inr (.inr (.inr h)))).trans (s4.mono fun _ h _ => by rcases h with h | h; exact .inl h; exact .inr (.inl h))).trans ((s5.mono fun _ h _ => .inr (.inr h)).trans (s6.mono fun _ h _ => .inr (.inr (.inr h))))
  exact hΦ w6 o6 S4 L4 ⟨I.st.trans' stA fun i hi => .inr (by omega), D6, rx5.step s6 (by omega), ry5'.step s6 (by omega), r6, I.wa, by rw [hwr, I.wb], nd⟩
/-- an entry is issued by both. -/
theorem play_issue (I : PlayI W k j qa qb x y s p n m w o S La Lb) (hn : n + 3 < 1000000) (hm : m + 4 < 1000000) (t ep : Int) {body : List UInt8} (hr : Row w o a (bytesV body)) (hc : body.length ≤ c) {Rf Φ : World → Prop}
    (hΦ : ∀ w' o' S' La', PlayI W k j qa qb x y s p (n + 2) (m + 3) w' o' S' La' Lb → Φ w') :
    ∀ (ww85 : World) (p106 : Nat), Ext no w ww85 → Priv w ww85 [p106] →
      Calls Try.prog 15 #[.pointer (some (blk qa)), .int .u64 s, .agg #[.int .i64 t, .int .i64 1], .int .i64 ep, .slice a body.length c] ww85 fun ee w2 => ∃ (e1 e2 e3 e4 e5 e6 : Int) (ba : Option Addr) (bn bc : Nat) (e7 : Int) (k1 : Int), ee = .returned (.tuple #[.agg #[.int .i64 e1, .int .i64 e2, .int .u64 e3, .int .i64 e4, .int .i64 e5, .int .i64 e6, .slice ba bn bc, .int .u64 e7], .int .i64 k1]) ∧ Keep [p106] ww85 w2 ∧
      ∀ (ww127 : World) (p128 : Nat), Ext no w2 ww127 → Priv w2 ww127 [p128] →
      Calls Try.prog 16 #[.pointer (some (blk x)), .pointer (some (blk j)), .int .u64 s, .agg #[.int .i64 t, .int .i64 1], .int .i64 ep, .slice a body.length c] ww127 fun ee w3 => ∃ (f1 f2 f3 f4 f5 f6 : Int) (ca : Option Addr) (cn cc : Nat) (f7 : Int) (k2 : Int), ee = .returned (.tuple #[.agg #[.int .i64 f1, .int .i64 f2, .int .u64 f3, .int .i64 f4, .int .i64 f5, .int .i64 f6, .slice ca cn cc, .int .u64 f7], .int .i64 k2]) ∧ Keep [p128] ww127 w3 ∧
      ∀ (ww148 : World), Ext no w3 ww148 →
      Calls Try.prog 17 #[.agg #[.int .i64 e1, .int .i64 e2, .int .u64 e3, .int .i64 e4, .int .i64 e5, .int .i64 e6, .slice ba bn bc, .int .u64 e7], .agg #[.int .i64 f1, .int .i64 f2, .int .u64 f3, .int .i64 f4, .int .i64 f5, .int .i64 f6, .slice ca cn cc, .int .u64 f7]] ww148 fun ee w5 => ∃ b1 : Bool, ee = .returned (.bool b1) ∧
      (b1 = false → Rf w5) ∧ (b1 = true → (k1 ≠ k2 → Rf w5) ∧ (k1 = k2 →
        Calls Try.prog 14 #[.pointer (some (blk qa)), .pointer (some (blk x)), .pointer (some (blk j))] w5 fun ee w6 => ∃ b2 : Bool, ee = .returned (.bool b2) ∧ (b2 = false → Rf w6) ∧ (b2 = true → Φ w6))) := by
  intro ww85 p106 X85 hp106
  have nd := I.nd
  have hyl := I.ry.lt
  obtain ⟨s85, M85⟩ := Step.priv X85 hp106 I.duo.a.ok
  have g106 := hp106 p106 (by simp)
  have I85 := I.step s85 fun _ h => h.elim
  have hr85 := hr.step s85
  refine (I85.duo.a.issue (by omega) t 1 ep hr85).mono fun v w2 ⟨o2, S2, L2, e', cd, he, s2, one2, ok2, bl2, hwr, hes, hok, le2, hiss⟩ => ⟨_, _, _, _, _, _, _, _, _, _, _, he, M85.keep s2 (by simp; omega), fun ww127 p128 X127 hp128 => ?_⟩
  have D2 := I85.duo.onA s2 one2 le2
  have rx2 := I85.rx.step s2 (by omega)
  have ry2 := I85.ry.step s2 (by omega)
  have r2 := I85.orc.step s2 (by omega)
  obtain ⟨s127, M127⟩ := Step.priv X127 hp128 s2.ok
  have g128 := hp128 p128 (by simp)
  have hr127 := (hr85.step s2).step s127
  have l2 := s2.size
  have l85 := s85.size
  have fitS := I.duo.a.lok.fit I.duo.a.inv (by have := I.duo.a.len; omega)
  have hh := head_known I.duo.a.lok
  have hI := rIssue_spec (c := c) (sec := s) (t := t) (tw := 1) (ep := ep) (rx2.step s127 id) (r2.step s127 id) (by omega) (by omega) (by rw [hh]; exact fitS) (fun hf => by rw [hh]; exact esign_fit I.duo.a.inv (by have := I.duo.a.len; omega) s hf) hr127 hc
  obtain ⟨q1, q2, q3⟩ := issue_sim I.duo.a.lok I.duo.a.inv I.duo.a.key t 1 ep body
  rw [hiss] at q1 q2 q3
  refine hI.mono fun v w3 ⟨o3, ya, yc, he, s3, rx3, r3, ry3, lc3⟩ => ⟨_, _, _, _, _, _, _, _, _, _, _, he, M127.keep s3 (by simp; omega), fun ww148 X148 => ?_⟩
  rw [q1] at ry3 lc3 ⊢
  rw [q2] at rx3
  have s148 := Step.of_no X148 s3.ok
  have ok148 := ((ok2.step s127).step s3).step s148
  refine (rESame_spec (e := e'.e) (f := e'.e) ok148.1.1 (ry3.step s148).1 (by omega)).mono fun v w5 ⟨he, X5⟩ => ⟨_, he, fun h => absurd h (by simp), fun _ => ⟨fun h => absurd rfl h, fun _ => ?_⟩⟩
  have s5 := Step.of_no X5 s148.ok
  have s35 := s148.trans s5
  have D5 := ((D2.step s127 id id id).step s3 (by omega) (by omega) (by omega)).step s35 id id id
  have hpb : La.pb = L2.pb := by rw [I.duo.a.lok.pb, one2.lok.pb]
  have rx5 := (show RLog w3 o3 x L2.wr L2.pb L2.es by rw [hwr, ← hpb]; exact rx3).step s35 id
  have ry5 := ((ry2.step s127 id).step s3 (by omega)).step s35 id
  refine (same7_spec D5.a rx5 (r3.step s35 id) (by omega) (by omega) (by omega) (by omega) q3 fun x hx => by have := bodies7 D5.a.lok x hx; omega).mono fun v w6 ⟨o6, he, s6, r6⟩ => ⟨_, he, fun h => (by cases h), fun _ => ?_⟩
  have D6 := D5.step s6 (by omega) (by omega) (by omega)
  have stA : Step (fun i => i = qa ∨ i = k ∨ i = x ∨ i = j) w o w6 o6 :=
    ((s85.none.trans (s2.mono fun _ h _ => by rcases h with h | h; exact .inl h; exact .inr (.inl h))).trans (s127.none.trans (s3.mono fun _ h _ => .inr (.inr h)))).trans (s35.none.trans (s6.mono fun _ h _ => .inr (.inr (.inr h))))
  exact hΦ w6 o6 S2 L2 ⟨I.st.trans' stA fun i hi => .inr (by omega), D6, rx5.step s6 (by omega), ry5.step s6 (by omega), r6.mono (by omega), by rw [hwr, I.wa], I.wb, nd⟩
/-- the other log is cut by both. -/
theorem play_cut (I : PlayI W k j qa qb x y s p n m w o S La Lb) (hn : n + 3 < 1000000) (hm : m + 4 < 1000000) (i : Int) {Rf Φ : World → Prop}
    (hΦ : ∀ w' o' Lb', PlayI W k j qa qb x y s p n (m + 3) w' o' S La Lb' → Φ w') :
    ∀ (ww87 : World) (p88 : Nat), Ext no w ww87 → Priv w ww87 [p88] →
      Calls Try.prog 12 #[.pointer (some (blk qb)), .int .i64 i] ww87 fun ee w2 => ∃ (ca : Option Addr) (cn cc : Nat), ee = .returned (.slice ca cn cc) ∧ Keep [p88] ww87 w2 ∧
      Calls Try.prog 13 #[.pointer (some (blk y)), .int .i64 i] w2 fun ee w3 => ∃ (da : Option Addr) (dn dc : Nat), ee = .returned (.slice da dn dc) ∧
      Calls Try.prog 11 #[.slice ca cn cc, .slice da dn dc] w3 fun ee w4 => ∃ b1 : Bool, ee = .returned (.bool b1) ∧ (b1 = false → Rf w4) ∧ (b1 = true →
        Calls Try.prog 14 #[.pointer (some (blk qb)), .pointer (some (blk y)), .pointer (some (blk j))] w4 fun ee w6 => ∃ b2 : Bool, ee = .returned (.bool b2) ∧ (b2 = false → Rf w6) ∧ (b2 = true → Φ w6)) := by
  intro ww87 p88 X87 hp88
  have nd := I.nd
  have hyl := I.ry.lt
  obtain ⟨s87, M87⟩ := Step.priv X87 hp88 I.duo.a.ok
  have g88 := hp88 p88 (by simp)
  have I87 := I.step s87 fun _ h => h.elim
  refine (cCut_spec I87.duo.b (by omega) i).mono fun v w2 ⟨o2, a', c', l', he, s2, one2, hl', r2, okl'⟩ => ⟨_, _, _, he, M87.keep s2 (by simp; omega), ?_⟩
  refine (rCut_spec (I87.ry.step s2 (by omega)) s2.ok i).mono fun v w3 ⟨o3, b', d', m', he, s3, ry3, hm', r3, okm'⟩ => ⟨_, _, _, he, ?_⟩
  have hes : ∀ e ∈ Lb.es, e.body.length ≤ 1100 := bodies7 I.duo.b.lok
  refine (refAll_spec (r2.step s3).1 r3.1 (fun z hz => ⟨((okl' z hz).step s3).1.1, ?_⟩) (fun z hz => (okm' z hz).1.1) ?_).mono fun v w4 ⟨he, X4⟩ => ⟨_, he, fun h => absurd (hl'.trans hm'.symm) (of_decide_eq_false h), fun _ => ?_⟩
  · have := hes z.e (List.mem_of_mem_drop (by rw [← hl']; exact List.mem_map_of_mem hz)); omega
  · have := len_map_e hl'
    have h2 := I.duo.b.lok.few
    rw [List.length_drop] at this
    omega
  have s4 := Step.of_no X4 s3.ok
  have D2 := I87.duo.onB s2 one2 (OS.le.refl _)
  have D4 := (D2.step s3 (by omega) (by omega) (by omega)).step s4 id id id
  have rx4 := ((I87.rx.step s2 (by omega)).step s3 (by omega)).step s4 id
  have r4 := ((I87.orc.step s2 (by omega)).step s3 (by omega)).step s4 id
  have hpb : Lb.pb = (cutL S Lb i).pb := by unfold cutL; split <;> rfl
  have ry4 := (show RLog w3 o3 y (cutL S Lb i).wr (cutL S Lb i).pb (cutL S Lb i).es by rw [cut_es, cut_wr, ← hpb]; exact ry3).step s4 id
  refine (same7_spec D4.b ry4 r4 (by omega) (by omega) (by omega) (by omega) (head_known D4.b.lok) fun x hx => by have := bodies7 D4.b.lok x hx; omega).mono fun v w6 ⟨o6, he, s6, r6⟩ => ⟨_, he, fun h => (by cases h), fun _ => ?_⟩
  have D6 := D4.step s6 (by omega) (by omega) (by omega)
  have stA : Step (fun i => i = qb ∨ i = k ∨ i = y ∨ i = j) w o w6 o6 :=
    ((s87.none.trans (s2.mono fun _ h _ => by rcases h with h | h; exact .inl h; exact .inr (.inl h))).trans (s3.mono fun _ h _ => .inr (.inr (.inl h)))).trans (s4.none.trans (s6.mono fun _ h _ => .inr (.inr (.inr h))))
  exact hΦ w6 o6 _ ⟨I.st.trans' stA fun i hi => .inr (by omega), D6, rx4.step s6 (by omega), ry4.step s6 (by omega), r6.mono (by omega), I.wa, by rw [cut_wr]; exact I.wb, nd⟩
end
end Go.Proofs.Ytdelmfpchbpafaa

/- ChainPlays. -/
set_option linter.unusedVariables false
set_option linter.unusedSimpArgs false
set_option maxRecDepth 20000
set_option maxHeartbeats 2000000
namespace Go.Proofs.Ytdelmfpchbpafaa
open Go Go.Mx Go.Proofs
open W (OwnB GivesW numR countR doneR zig unzig intR)
theorem noT (W : World) : Tags W (fun _ => none) := fun b j _ h => by cases h
theorem noR {W : World} {a : Option Addr} {cs : List Value} (h : RowAt W a cs) : Row W (fun _ => none) a cs := ⟨h, fun _ _ _ => rfl⟩
/-- both oracles, and a pair of each. -/
theorem start_two {W : World} {da : Option Addr} {dc : Nat} {d : List Int} (hd : RowAt W da (d.map u64V)) (hdl : d.length ≤ 1000) (hdc : d.length ≤ dc) (hdr : ∀ x ∈ d, 0 ≤ x ∧ x < 18446744073709551616) {Φ : Option Addr → Nat → Int → Int → World → Prop}
    (hΦ : ∀ k j s p S w o, W.heap.size ≤ k → k < j → j < w.heap.size → Step no W (fun _ => none) w o → POrc w o k S → RSt w o j S 2 → Keyed S s p → S.used.length ≤ 2 → Φ (some (blk k)) j s p w) :
    Calls Try.prog 7 #[.slice da d.length dc] W fun e w2 => ∃ np : Option Addr, e = .returned (.pointer np) ∧
      ∀ (w3 : World) (j : Nat), Ext no w2 w3 → Blk w3 j 31 [.slice da d.length dc, .slice none 0 0] → w2.heap.size ≤ j → j < w3.heap.size →
      Calls Try.prog 8 #[.pointer np] w3 fun e w4 => ∃ (s p : Int), e = .returned (.tuple #[.int .u64 s, .int .u64 p]) ∧
      Calls Try.prog 9 #[.pointer (some (blk j))] w4 fun e w5 => ∃ (s' p' : Int), e = .returned (.tuple #[.int .u64 s', .int .u64 p']) ∧ Φ np j s p w5 := by
  refine (NewO (noT W) hd (by omega)).mono fun v w2 ⟨k, o2, hx, hk, s2, P2⟩ => ⟨_, hx, fun w3 j X3 hb3 hj hj' => ?_⟩
  have hk2 := P2.lt
  obtain ⟨o3, s3', R3⟩ := ROrc.init X3 hb3 hj hj' s2.ok ((noR hd).step s2) hdc
  have s3 := s2.trans s3'
  have i0 : OInv (OS.init d) := OInv.init hdr
  refine (PairO (P2.step s3' id) s3.ok i0.ok (show (0 : Nat) + 1 < 1000000 by decide)).mono fun v w4 ⟨o4, hx, s4, P4⟩ => ⟨_, _, hx, ?_⟩
  have R4 := R3.step s4 (by omega)
  have f0 : RFine 0 d [] := ⟨hdr, Nat.zero_le _, fun r h => by cases h⟩
  refine (rPair_spec R4 (f0.rok s4.ok (by omega)) (by simp)).mono fun v w5 ⟨o5, hx, s5, R5⟩ => ⟨_, _, hx, ?_⟩
  obtain ⟨e5, m5⟩ := pair_sim (Sim.init hdr)
  obtain ⟨i1, _, kp, ks, _⟩ := pair_inv i0
  have u1 : (pairOf (OS.init d)).2.used.length ≤ 2 := by have := (pairOf_ok i0.ok).2; exact this
  have s35 := (s4.mono (K1 := fun i => i = k ∨ i = j) fun _ h _ => .inl h).trans (s5.mono fun _ h _ => .inr h)
  exact hΦ k j _ _ _ w5 o5 hk (by omega) R5.lt (s3.trans' s35 fun i hi => .inr (by have := s2.size; omega)) (P4.step s5 (by omega)) ⟨⟨_, _, R5, m5, f0.pair⟩, s5.ok, i1⟩ ⟨ks, kp⟩ u1
theorem ChainPlays_spec (W : World) {da la : Option Addr} {dc lc : Nat} {d : List Int} {l : List CO} (hd : RowAt W da (d.map u64V)) (hdc : d.length ≤ dc) (hdr : ∀ x ∈ d, 0 ≤ x ∧ x < 18446744073709551616) (hl : RowAt W la (l.flatMap CO.C)) (hg : ∀ p ∈ l, p.good W) :
    Calls Try.prog 3 #[.slice da d.length dc, .slice la l.length lc] W (Ret (.bool true) fun w' => Ext no W w') := by
  refine cachettelaw07_ChainPlays.run _ _ _ _ _ _ ?_
  unfold cachettelaw07_ChainPlays.N
  refine (light_spec (dn := d.length) hl).mono fun e w5 ⟨he, hw⟩ => ⟨_, he, fun _ => ?_, fun hL => ?_⟩
  · subst hw
    exact (alive7_spec _).mono fun e w9 ⟨he, X⟩ => ⟨_, he, rfl, X⟩
  have hw' := hw.symm
  subst hw'
  obtain ⟨hL1, hL2, hL3⟩ := light_of hL
  refine start_two hd (by omega) hdc hdr fun k j s p S w22 o22 hk hkj hjl s22 P22 R22 hkey hu => ?_
  have i22 := R22.inv
  refine (cNew_spec (k := k) s22.ok 1 p).mono fun v w26 h => ?_
  rcases h with ⟨h, _⟩ | ⟨_, qa, o26, hx, hqa, s26', PL⟩
  · exact absurd ⟨by decide, by decide⟩ h
  refine ⟨_, _, hx, ?_⟩
  have one26 : OneI w26 o26 qa k s p S ⟨1, p, [], 0⟩ 2 := ⟨PL, P22.step s26' id, s26'.ok, i22, hkey, LOk.nil 1, hu, by omega⟩
  have hqal := PL.lt
  refine one26.second.mono fun v w30 ⟨qb, o30, hx, hqb, s30', duo30⟩ => ⟨_, _, hx, fun w31 x X31 hb31 hx1 hx2 w33 y X33 hb33 hy1 hy2 => ?_⟩
  have hqbl := duo30.b.log.lt
  obtain ⟨o31, s31', rx31⟩ := RLog.new X31 hb31 hx1 hx2 s30'.ok
  obtain ⟨o33, s33', ry33⟩ := RLog.new X33 hb33 hy1 hy2 s31'.ok
  refine ⟨fun h => absurd rfl h, fun _ => ⟨fun h => absurd rfl h, fun _ => ?_⟩⟩
  refine (alive7_spec w33).mono fun v w39 ⟨hx, X39⟩ => ⟨_, hx, fun h => (by cases h), fun _ => ?_⟩
  have s39' := Step.of_no X39 s33'.ok
  have sAll := ((s26'.trans s30').trans s31').trans (s33'.trans s39')
  have I39 : PlayI W k j qa qb x y s p 2 2 w39 _ S ⟨1, p, [], 0⟩ ⟨1, p, [], 0⟩ :=
    ⟨s22.trans sAll, duo30.step (s31'.trans (s33'.trans s39')) id id id, rx31.step (s33'.trans s39') id, ry33.step s39' id, R22.step sAll id, rfl, rfl, by omega⟩
  refine ⟨fun m vs w1 => ∃ (t : Nat) (o1 : Own) (S1 : OS) (La Lb : CL), vs = [.int .i64 t] ∧ m + t = l.length ∧ PlayI W k j qa qb x y s p (2 + 2 * t) (2 + 3 * t) w1 o1 S1 La Lb, l.length, ⟨0, _, S, _, _, rfl, rfl, I39⟩, ?_⟩
  clear I39 sAll s39' X39 ry33 s33' hb33 X33 rx31 s31' hb31 X31 duo30 one26 PL s26' R22 P22 s22 hL hkey hu hx i22
  rintro m w1 i ⟨t, o1, S1, La, Lb, hi, hm, I1⟩
  simp only [List.cons.injEq, Value.int.injEq, true_and, and_true] at hi
  subst hi
  refine ⟨fun ht => ?_, fun ht => ?_⟩
  rotate_left
  · exact ⟨rfl, I1.st.ext.mono fun b ⟨_, _, h⟩ _ => h⟩
  have htl : t < l.length := by omega
  have hgt : l[t]? = some l[t] := List.getElem?_eq_getElem htl
  have hl1 := ((noR hl).step I1.st).1
  obtain ⟨ad, rfl⟩ := hl.faddr CO.len (by decide) htl
  have hgd := hg _ (List.getElem_mem htl)
  have lg := hL3 _ (List.getElem_mem htl)
  generalize l[t] = z at *
  refine ⟨ad, rfl, by omega, by omega, z.kd, z.t, z.ep, z.a, z.B.length, z.c, z.n, z.fd, z.E.e.w, z.E.e.i, z.E.e.pv, z.E.e.t, z.E.e.tw, z.E.e.ep, z.E.a, z.E.e.body.length, z.E.c, z.E.e.sg, by rw [Int.toNat_natCast]; exact hl1.floads CO.len hgt, ?_⟩
  have nxt : ∀ w' o' S' La' Lb', PlayI W k j qa qb x y s p (2 + 2 * t + 2) (2 + 3 * t + 3) w' o' S' La' Lb' → (-9223372036854775808 : Int) ≤ ((t : Int) + 1) ∧ ((t : Int) + 1) < 9223372036854775808 ∧ ∃ m', m' < m ∧ ∃ (t' : Nat) (o1 : Own) (S1 : OS) (La Lb : CL), [Value.int .i64 ((t : Int) + 1)] = [.int .i64 t'] ∧ m' + t' = l.length ∧ PlayI W k j qa qb x y s p (2 + 2 * t') (2 + 3 * t') w' o1 S1 La Lb :=
    fun w' o' S' La' Lb' I' => ⟨by omega, by omega, m - 1, by omega, t + 1, o', S', La', Lb', rfl, by omega, I'⟩
  have skip : ∀ ww, Ext no w1 ww → ∃ m', m' < m ∧ ∃ (t' : Nat) (o1 : Own) (S1 : OS) (La Lb : CL), [Value.int .i64 ((t : Int) + 1)] = [.int .i64 t'] ∧ m' + t' = l.length ∧ PlayI W k j qa qb x y s p (2 + 2 * t') (2 + 3 * t') ww o1 S1 La Lb :=
    fun ww X => (nxt ww _ _ _ _ ((I1.step (Step.of_no X I1.duo.a.ok) fun _ h => h.elim).mono (by omega) (by omega))).2.2
  have tail : ∀ {ww : World} {oo : Own} {b : Nat}, PlayI W k j qa qb x y s p (2 + 2 * t) (2 + 3 * t) ww oo S1 La Lb → Mine [b] ww oo → y < b → ∀ (z : PE), z.ok ww oo → _ := fun {ww oo b} I M hb z hz =>
    play_tail (e := z.e) (a := z.a) (c := z.c) (b := b) (Rf := fun w' => Value.bool false = Value.bool true ∧ Ext no W w') I (by omega) (by omega) M hb (fun _ => hz.2.2) hz.1 hz.2.1 fun w' o' S' Lb' I' => nxt w' o' S' La Lb' (I'.mono (by omega) (by omega))
  have nd := I1.nd
  have hyl := I1.ry.lt
  have fromX : ∀ {xa : Option Addr} {xn xc : Nat}, True → True := fun _ => trivial
  obtain ⟨xa, xc, xl, g0, b1, b2, b3, b4⟩ := I1.rx.st
  have hfew := I1.rx.few
  have hxl := len_map_e g0
  refine ⟨fun _ => ?_, fun _ => ⟨fun _ => ?_, fun _ => ⟨fun _ => ?_, fun _ => ⟨fun _ => ?_, fun _ => ?_⟩⟩⟩⟩
  · exact play_cut I1 (by omega) (by omega) z.n fun w' o' Lb' I' => nxt w' o' _ _ _ (I'.mono (by omega) (by omega))
  · exact play_issue I1 (by omega) (by omega) z.t z.ep ((noR hgd.ra).step I1.st) hgd.la fun w' o' S' La' I' => nxt w' o' _ _ _ (I'.mono (by omega) (by omega))
  · refine ⟨fun _ => ⟨by omega, by omega, skip⟩, fun h0 => ⟨xa, xl.length, xc, b1.cella (i := 2) rfl, fun _ => ⟨by omega, by omega, skip⟩, fun hn => ?_⟩⟩
    have hi : ((xl.length : Int) - 1 - z.n).toNat < xl.length := by omega
    have hgx : xl[((xl.length : Int) - 1 - z.n).toNat]? = some xl[((xl.length : Int) - 1 - z.n).toNat] := List.getElem?_eq_getElem hi
    have hok := b4 _ (List.getElem_mem hi)
    obtain ⟨xd, rfl⟩ := b2.row.faddr PE.len (by decide) hi
    have hld := PE.loads b2.row rfl hgx
    generalize xl[((xl.length : Int) - 1 - z.n).toNat] = u at *
    refine ⟨_, xl.length, xc, b1.cella (i := 2) rfl, _, xl.length, xc, b1.cella (i := 2) rfl, by omega, by omega, by omega, by omega, xd, rfl, by omega, by omega, u.e.w, u.e.i, u.e.pv, u.e.t, u.e.tw, u.e.ep, u.a, u.e.body.length, u.c, u.e.sg, hld, fun h2 => ?_, fun _ w36 p38 X36 hp38 => ?_⟩
    · omega
    · obtain ⟨s36, M36⟩ := Step.priv X36 hp38 I1.duo.a.ok
      have g38 := hp38 p38 (by simp)
      exact tail (I1.step s36 fun _ h => h.elim) M36 (by omega) u (hok.step s36)
  · refine ⟨fun _ => ⟨by omega, by omega, skip⟩, fun h0 => ⟨xa, xl.length, xc, b1.cella (i := 2) rfl, fun _ => ⟨by omega, by omega, skip⟩, fun hn => ?_⟩⟩
    have hi : ((xl.length : Int) - 1 - z.n).toNat < xl.length := by omega
    have hgx : xl[((xl.length : Int) - 1 - z.n).toNat]? = some xl[((xl.length : Int) - 1 - z.n).toNat] := List.getElem?_eq_getElem hi
    have hok := b4 _ (List.getElem_mem hi)
    have hxb := bodies7 I1.duo.a.lok _ (by rw [← g0]; exact List.mem_map_of_mem (List.getElem_mem hi))
    obtain ⟨xd, rfl⟩ := b2.row.faddr PE.len (by decide) hi
    have hld := PE.loads b2.row rfl hgx
    generalize xl[((xl.length : Int) - 1 - z.n).toNat] = u at *
    refine ⟨_, xl.length, xc, b1.cella (i := 2) rfl, _, xl.length, xc, b1.cella (i := 2) rfl, by omega, by omega, by omega, by omega, xd, rfl, by omega, by omega, u.e.w, u.e.i, u.e.pv, u.e.t, u.e.tw, u.e.ep, u.a, u.e.body.length, u.c, u.e.sg, hld, fun w92 p94 X92 hp94 => ?_⟩
    obtain ⟨s92, M92⟩ := Step.priv X92 hp94 I1.duo.a.ok
    have g94 := hp94 p94 (by simp)
    refine (turned_spec s92.ok u (hok.step s92) (by omega) z.fd).mono fun v w04 ⟨o04, u', hx, s04, hok', _⟩ => ⟨_, _, _, _, _, _, _, _, _, _, hx, M92.keep s04 (fun _ _ => id), fun w13 X13 => ?_⟩
    have M04 := M92.step s04
    obtain ⟨o13, s13⟩ := Step.store1 X13 s04.ok (M04 p94 (by simp)).2
    exact tail (((I1.step s92 fun _ h => h.elim).step s04 fun _ h => h.elim).step s13 fun i hi => by omega) (M04.step s13) (by omega) u' (hok'.step s13)
  · intro w33 p35 X33 hp35
    obtain ⟨s33, M33⟩ := Step.priv X33 hp35 I1.duo.a.ok
    have g35 := hp35 p35 (by simp)
    exact tail (I1.step s33 fun _ h => h.elim) M33 (by omega) z.E ⟨((noR hgd.e.1).step I1.st).step s33, hgd.e.2.1, hgd.e.2.2.1⟩
theorem ChainPlays_walk (W : World) (a0 : Option Addr) (len0 cap0 : Nat) (a1 : Option Addr) (len1 cap1 : Nat) (o0 : IntsQ .u64 W [.slice a0 len0 cap0]) (o1 : COsQ W [.slice a1 len1 cap1]) :
    Calls Try.prog 3 #[.slice a0 len0 cap0, .slice a1 len1 cap1] W (Ret (.bool true) fun w' => Ext no W w') := by
  obtain ⟨_, c0, d, e0, l0, _, r0, f0⟩ := o0
  obtain ⟨_, c1, l, e1, l1, _, r1, f1⟩ := o1
  cases e0; cases e1
  exact ChainPlays_spec W r0 l0 (fun x hx => wf_u64 (f0 x hx)) r1 f1
end Go.Proofs.Ytdelmfpchbpafaa
