/- The reference's reader of numbers and of vectors, in a name space of its own. -/
import Derived.Test.YtoempemllkebkaaZD
set_option linter.unusedVariables false
set_option linter.unusedSimpArgs false
set_option maxRecDepth 20000
namespace Go.Proofs.Ytoempemllkebkaa
namespace V5
open Go Go.Mx Go.Proofs
open W (OwnB Rd GivesW numR countR doneR)
def rRNum.M (r1 : Option Addr) (R : RW) (w : World) : Prop :=
 r1.elim False fun a2 =>
 ∃ (j0 : Int), w.cell? (a2.add 1) = some (.int .i64 j0) ∧
 bif j0 != 0 then (
 R (.int .u64 0) w) else (
 ∃ (I0 : Nat → List Value → World → Prop) (m5 : Nat), I0 m5 [.int .i64 0] w ∧ ∀ (m6 : Nat) (a0 : World) (n4 : Int), I0 m6 [.int .i64 n4] a0 →
 r1.elim False fun a8 =>
 ∃ (jl : Option Addr) (jh ju : Nat), a0.cell? (a8.add 0) = some (.slice jl jh ju) ∧
 bif decide (n4 < (jh : Int)) then (
 bif decide (n4 < 10) then (
 r1.elim False fun jv =>
 ∃ (f0 : Option Addr) (e1 gs : Nat), a0.cell? (jv.add 0) = some (.slice f0 e1 gs) ∧
 f0.elim False fun ka =>
 0 ≤ (n4 : Int) ∧ (n4 : Int) < (e1 : Int) ∧
 ∃ (je : Int), a0.cell? (ka.add (Int.toNat n4 * 1)) = some (.int .u8 je) ∧
 bif decide (je ≥ 128) then (
 ∃ iy, iy < m6 ∧ I0 iy [.int .i64 (IntKind.i64.wrap (n4 + 1))] a0) else (
 r1.elim False fun k1 =>
 ∃ (fr : Option Addr) (ei gm : Nat), a0.cell? (k1.add 0) = some (.slice fr ei gm) ∧
 bif decide (n4 ≥ (ei : Int)) then (
 Calls Try.prog 65 #[.pointer r1, .int .i64 4] a0 fun ij gt => ij = .returned (.tuple #[]) ∧
 R (.int .u64 0) gt) else (
 bif decide (n4 ≥ 10) then (
 Calls Try.prog 65 #[.pointer r1, .int .i64 4] a0 fun im gz => im = .returned (.tuple #[]) ∧
 R (.int .u64 0) gz) else (
 bif n4 == 9 then (
 r1.elim False fun jm =>
 ∃ (dv : Option Addr) (fm i1 : Nat), a0.cell? (jm.add 0) = some (.slice dv fm i1) ∧
 dv.elim False fun k3 =>
 0 ≤ (n4 : Int) ∧ (n4 : Int) < (fm : Int) ∧
 ∃ (ja : Int), a0.cell? (k3.add (Int.toNat n4 * 1)) = some (.int .u8 ja) ∧
 bif ja != 1 then (
 Calls Try.prog 65 #[.pointer r1, .int .i64 4] a0 fun io gp => io = .returned (.tuple #[]) ∧
 R (.int .u64 0) gp) else (
 bif decide (n4 > 0) then (
 r1.elim False fun jy =>
 ∃ (f9 : Option Addr) (d5 i0 : Nat), a0.cell? (jy.add 0) = some (.slice f9 d5 i0) ∧
 f9.elim False fun jt =>
 0 ≤ (n4 : Int) ∧ (n4 : Int) < (d5 : Int) ∧
 ∃ (j4 : Int), a0.cell? (jt.add (Int.toNat n4 * 1)) = some (.int .u8 j4) ∧
 bif j4 == 0 then (
 Calls Try.prog 65 #[.pointer r1, .int .i64 4] a0 fun gh iq => gh = .returned (.tuple #[]) ∧
 R (.int .u64 0) iq) else (
 ∃ (I2 : Nat → List Value → World → Prop) (k9 : Nat), I2 k9 [.int .u64 0, .int .i64 n4] a0 ∧ ∀ (jb : Nat) (ao : World) (al cv : Int), I2 jb [.int .u64 al, .int .i64 cv] ao →
 bif decide (cv ≥ 0) then (
 r1.elim False fun jp =>
 ∃ (e9 : Option Addr) (fg gi : Nat), ao.cell? (jp.add 0) = some (.slice e9 fg gi) ∧
 e9.elim False fun jw =>
 0 ≤ (cv : Int) ∧ (cv : Int) < (fg : Int) ∧
 ∃ (jf : Int), ao.cell? (jw.add (Int.toNat cv * 1)) = some (.int .u8 jf) ∧
 128 ≠ (0 : Int) ∧ ∃ j2, j2 < jb ∧ I2 j2 [.int .u64 (IntKind.u64.wrap ((IntKind.u64.wrap (al * 128)) + (IntKind.u64.wrap (Int.tmod jf 128)))), .int .i64 (IntKind.i64.wrap (cv - 1))] ao) else (
 r1.elim False fun k7 =>
 ∃ (ct : Option Addr) (cr co : Nat), ao.cell? (k7.add 0) = some (.slice ct cr co) ∧
 (0 : Int) ≤ ((IntKind.i64.wrap (n4 + 1)) : Int) ∧ ((IntKind.i64.wrap (n4 + 1)) : Int) ≤ (cr : Int) ∧
 r1.elim False fun j3 =>
 Q01 ao ((j3.add 0).add 0) ∧
 thenW (ao.setCell ((j3.add 0).add 0) (.slice (if co = Int.toNat (IntKind.i64.wrap (n4 + 1)) then ct else Option.map (fun z : Addr => z.add ((Int.toNat (IntKind.i64.wrap (n4 + 1))) * 1)) ct) (cr - (Int.toNat (IntKind.i64.wrap (n4 + 1)))) (co - (Int.toNat (IntKind.i64.wrap (n4 + 1)))))) fun ga =>
 R (.int .u64 al) ga))) else (
 ∃ (I2 : Nat → List Value → World → Prop) (k4 : Nat), I2 k4 [.int .u64 0, .int .i64 n4] a0 ∧ ∀ (j1 : Nat) (aq : World) (ak cx : Int), I2 j1 [.int .u64 ak, .int .i64 cx] aq →
 bif decide (cx ≥ 0) then (
 r1.elim False fun k5 =>
 ∃ (d6 : Option Addr) (dg i8 : Nat), aq.cell? (k5.add 0) = some (.slice d6 dg i8) ∧
 d6.elim False fun k8 =>
 0 ≤ (cx : Int) ∧ (cx : Int) < (dg : Int) ∧
 ∃ (j9 : Int), aq.cell? (k8.add (Int.toNat cx * 1)) = some (.int .u8 j9) ∧
 128 ≠ (0 : Int) ∧ ∃ j6, j6 < j1 ∧ I2 j6 [.int .u64 (IntKind.u64.wrap ((IntKind.u64.wrap (ak * 128)) + (IntKind.u64.wrap (Int.tmod j9 128)))), .int .i64 (IntKind.i64.wrap (cx - 1))] aq) else (
 r1.elim False fun jx =>
 ∃ (cj : Option Addr) (cl cq : Nat), aq.cell? (jx.add 0) = some (.slice cj cl cq) ∧
 (0 : Int) ≤ ((IntKind.i64.wrap (n4 + 1)) : Int) ∧ ((IntKind.i64.wrap (n4 + 1)) : Int) ≤ (cl : Int) ∧
 r1.elim False fun j7 =>
 Q01 aq ((j7.add 0).add 0) ∧
 thenW (aq.setCell ((j7.add 0).add 0) (.slice (if cq = Int.toNat (IntKind.i64.wrap (n4 + 1)) then cj else Option.map (fun z : Addr => z.add ((Int.toNat (IntKind.i64.wrap (n4 + 1))) * 1)) cj) (cl - (Int.toNat (IntKind.i64.wrap (n4 + 1)))) (cq - (Int.toNat (IntKind.i64.wrap (n4 + 1)))))) fun fu =>
 R (.int .u64 ak) fu)))) else (
 bif decide (n4 > 0) then (
 r1.elim False fun jz =>
 ∃ (de : Option Addr) (db g6 : Nat), a0.cell? (jz.add 0) = some (.slice de db g6) ∧
 de.elim False fun k6 =>
 0 ≤ (n4 : Int) ∧ (n4 : Int) < (db : Int) ∧
 ∃ (j5 : Int), a0.cell? (k6.add (Int.toNat n4 * 1)) = some (.int .u8 j5) ∧
 bif j5 == 0 then (
 Calls Try.prog 65 #[.pointer r1, .int .i64 4] a0 fun ii gy => ii = .returned (.tuple #[]) ∧
 R (.int .u64 0) gy) else (
 ∃ (I2 : Nat → List Value → World → Prop) (kb : Nat), I2 kb [.int .u64 0, .int .i64 n4] a0 ∧ ∀ (ji : Nat) (an : World) (am cw : Int), I2 ji [.int .u64 am, .int .i64 cw] an →
 bif decide (cw ≥ 0) then (
 r1.elim False fun jn =>
 ∃ (da : Option Addr) (ej g1 : Nat), an.cell? (jn.add 0) = some (.slice da ej g1) ∧
 da.elim False fun k0 =>
 0 ≤ (cw : Int) ∧ (cw : Int) < (ej : Int) ∧
 ∃ (jd : Int), an.cell? (k0.add (Int.toNat cw * 1)) = some (.int .u8 jd) ∧
 128 ≠ (0 : Int) ∧ ∃ iz, iz < ji ∧ I2 iz [.int .u64 (IntKind.u64.wrap ((IntKind.u64.wrap (am * 128)) + (IntKind.u64.wrap (Int.tmod jd 128)))), .int .i64 (IntKind.i64.wrap (cw - 1))] an) else (
 r1.elim False fun k2 =>
 ∃ (cp : Option Addr) (cs cn : Nat), an.cell? (k2.add 0) = some (.slice cp cs cn) ∧
 (0 : Int) ≤ ((IntKind.i64.wrap (n4 + 1)) : Int) ∧ ((IntKind.i64.wrap (n4 + 1)) : Int) ≤ (cs : Int) ∧
 r1.elim False fun j8 =>
 Q01 an ((j8.add 0).add 0) ∧
 thenW (an.setCell ((j8.add 0).add 0) (.slice (if cn = Int.toNat (IntKind.i64.wrap (n4 + 1)) then cp else Option.map (fun z : Addr => z.add ((Int.toNat (IntKind.i64.wrap (n4 + 1))) * 1)) cp) (cs - (Int.toNat (IntKind.i64.wrap (n4 + 1)))) (cn - (Int.toNat (IntKind.i64.wrap (n4 + 1)))))) fun ir =>
 R (.int .u64 am) ir))) else (
 ∃ (I2 : Nat → List Value → World → Prop) (jo : Nat), I2 jo [.int .u64 0, .int .i64 n4] a0 ∧ ∀ (jc : Nat) (ap : World) (aj cy : Int), I2 jc [.int .u64 aj, .int .i64 cy] ap →
 bif decide (cy ≥ 0) then (
 r1.elim False fun jr =>
 ∃ (ea : Option Addr) (fj fs : Nat), ap.cell? (jr.add 0) = some (.slice ea fj fs) ∧
 ea.elim False fun jk =>
 0 ≤ (cy : Int) ∧ (cy : Int) < (fj : Int) ∧
 ∃ (ix : Int), ap.cell? (jk.add (Int.toNat cy * 1)) = some (.int .u8 ix) ∧
 128 ≠ (0 : Int) ∧ ∃ jj, jj < jc ∧ I2 jj [.int .u64 (IntKind.u64.wrap ((IntKind.u64.wrap (aj * 128)) + (IntKind.u64.wrap (Int.tmod ix 128)))), .int .i64 (IntKind.i64.wrap (cy - 1))] ap) else (
 r1.elim False fun js =>
 ∃ (cm : Option Addr) (cu ck : Nat), ap.cell? (js.add 0) = some (.slice cm cu ck) ∧
 (0 : Int) ≤ ((IntKind.i64.wrap (n4 + 1)) : Int) ∧ ((IntKind.i64.wrap (n4 + 1)) : Int) ≤ (cu : Int) ∧
 r1.elim False fun jg =>
 Q01 ap ((jg.add 0).add 0) ∧
 thenW (ap.setCell ((jg.add 0).add 0) (.slice (if ck = Int.toNat (IntKind.i64.wrap (n4 + 1)) then cm else Option.map (fun z : Addr => z.add ((Int.toNat (IntKind.i64.wrap (n4 + 1))) * 1)) cm) (cu - (Int.toNat (IntKind.i64.wrap (n4 + 1)))) (ck - (Int.toNat (IntKind.i64.wrap (n4 + 1)))))) fun gj =>
 R (.int .u64 aj) gj))))))) else (
 r1.elim False fun jq =>
 ∃ (gf : Option Addr) (dx g9 : Nat), a0.cell? (jq.add 0) = some (.slice gf dx g9) ∧
 bif decide (n4 ≥ (dx : Int)) then (
 Calls Try.prog 65 #[.pointer r1, .int .i64 4] a0 fun gl g2 => gl = .returned (.tuple #[]) ∧
 R (.int .u64 0) g2) else (
 bif decide (n4 ≥ 10) then (
 Calls Try.prog 65 #[.pointer r1, .int .i64 4] a0 fun g4 fe => g4 = .returned (.tuple #[]) ∧
 R (.int .u64 0) fe) else (
 bif n4 == 9 then (
 r1.elim False fun ft =>
 ∃ (c5 : Option Addr) (bw er : Nat), a0.cell? (ft.add 0) = some (.slice c5 bw er) ∧
 c5.elim False fun ge =>
 0 ≤ (n4 : Int) ∧ (n4 : Int) < (bw : Int) ∧
 ∃ (ek : Int), a0.cell? (ge.add (Int.toNat n4 * 1)) = some (.int .u8 ek) ∧
 bif ek != 1 then (
 Calls Try.prog 65 #[.pointer r1, .int .i64 4] a0 fun el f8 => el = .returned (.tuple #[]) ∧
 R (.int .u64 0) f8) else (
 bif decide (n4 > 0) then (
 r1.elim False fun g3 =>
 ∃ (bp : Option Addr) (bq e7 : Nat), a0.cell? (g3.add 0) = some (.slice bp bq e7) ∧
 bp.elim False fun g5 =>
 0 ≤ (n4 : Int) ∧ (n4 : Int) < (bq : Int) ∧
 ∃ (em : Int), a0.cell? (g5.add (Int.toNat n4 * 1)) = some (.int .u8 em) ∧
 bif em == 0 then (
 Calls Try.prog 65 #[.pointer r1, .int .i64 4] a0 fun cz dp => cz = .returned (.tuple #[]) ∧
 R (.int .u64 0) dp) else (
 ∃ (I2 : Nat → List Value → World → Prop) (i3 : Nat), I2 i3 [.int .u64 0, .int .i64 n4] a0 ∧ ∀ (fh : Nat) (a5 : World) (ac aw : Int), I2 fh [.int .u64 ac, .int .i64 aw] a5 →
 bif decide (aw ≥ 0) then (
 r1.elim False fun gx =>
 ∃ (ce : Option Addr) (ca ev : Nat), a5.cell? (gx.add 0) = some (.slice ce ca ev) ∧
 ce.elim False fun it =>
 0 ≤ (aw : Int) ∧ (aw : Int) < (ca : Int) ∧
 ∃ (d0 : Int), a5.cell? (it.add (Int.toNat aw * 1)) = some (.int .u8 d0) ∧
 128 ≠ (0 : Int) ∧ ∃ es, es < fh ∧ I2 es [.int .u64 (IntKind.u64.wrap ((IntKind.u64.wrap (ac * 128)) + (IntKind.u64.wrap (Int.tmod d0 128)))), .int .i64 (IntKind.i64.wrap (aw - 1))] a5) else (
 r1.elim False fun g8 =>
 ∃ (bg : Option Addr) (bi bh : Nat), a5.cell? (g8.add 0) = some (.slice bg bi bh) ∧
 (0 : Int) ≤ ((IntKind.i64.wrap (n4 + 1)) : Int) ∧ ((IntKind.i64.wrap (n4 + 1)) : Int) ≤ (bi : Int) ∧
 r1.elim False fun eq =>
 Q01 a5 ((eq.add 0).add 0) ∧
 thenW (a5.setCell ((eq.add 0).add 0) (.slice (if bh = Int.toNat (IntKind.i64.wrap (n4 + 1)) then bg else Option.map (fun z : Addr => z.add ((Int.toNat (IntKind.i64.wrap (n4 + 1))) * 1)) bg) (bi - (Int.toNat (IntKind.i64.wrap (n4 + 1)))) (bh - (Int.toNat (IntKind.i64.wrap (n4 + 1)))))) fun eo =>
 R (.int .u64 ac) eo))) else (
 ∃ (I2 : Nat → List Value → World → Prop) (ia : Nat), I2 ia [.int .u64 0, .int .i64 n4] a0 ∧ ∀ (fd : Nat) (a9 : World) (ad ar : Int), I2 fd [.int .u64 ad, .int .i64 ar] a9 →
 bif decide (ar ≥ 0) then (
 r1.elim False fun i9 =>
 ∃ (bu : Option Addr) (ci e2 : Nat), a9.cell? (i9.add 0) = some (.slice bu ci e2) ∧
 bu.elim False fun fx =>
 0 ≤ (ar : Int) ∧ (ar : Int) < (ci : Int) ∧
 ∃ (fo : Int), a9.cell? (fx.add (Int.toNat ar * 1)) = some (.int .u8 fo) ∧
 128 ≠ (0 : Int) ∧ ∃ fc, fc < fd ∧ I2 fc [.int .u64 (IntKind.u64.wrap ((IntKind.u64.wrap (ad * 128)) + (IntKind.u64.wrap (Int.tmod fo 128)))), .int .i64 (IntKind.i64.wrap (ar - 1))] a9) else (
 r1.elim False fun ip =>
 ∃ (bn : Option Addr) (be b1 : Nat), a9.cell? (ip.add 0) = some (.slice bn be b1) ∧
 (0 : Int) ≤ ((IntKind.i64.wrap (n4 + 1)) : Int) ∧ ((IntKind.i64.wrap (n4 + 1)) : Int) ≤ (be : Int) ∧
 r1.elim False fun dr =>
 Q01 a9 ((dr.add 0).add 0) ∧
 thenW (a9.setCell ((dr.add 0).add 0) (.slice (if b1 = Int.toNat (IntKind.i64.wrap (n4 + 1)) then bn else Option.map (fun z : Addr => z.add ((Int.toNat (IntKind.i64.wrap (n4 + 1))) * 1)) bn) (be - (Int.toNat (IntKind.i64.wrap (n4 + 1)))) (b1 - (Int.toNat (IntKind.i64.wrap (n4 + 1)))))) fun dl =>
 R (.int .u64 ad) dl)))) else (
 bif decide (n4 > 0) then (
 r1.elim False fun g0 =>
 ∃ (c6 : Option Addr) (c9 df : Nat), a0.cell? (g0.add 0) = some (.slice c6 c9 df) ∧
 c6.elim False fun il =>
 0 ≤ (n4 : Int) ∧ (n4 : Int) < (c9 : Int) ∧
 ∃ (f7 : Int), a0.cell? (il.add (Int.toNat n4 * 1)) = some (.int .u8 f7) ∧
 bif f7 == 0 then (
 Calls Try.prog 65 #[.pointer r1, .int .i64 4] a0 fun dy f4 => dy = .returned (.tuple #[]) ∧
 R (.int .u64 0) f4) else (
 ∃ (I2 : Nat → List Value → World → Prop) (i6 : Nat), I2 i6 [.int .u64 0, .int .i64 n4] a0 ∧ ∀ (e0 : Nat) (a4 : World) (ae az : Int), I2 e0 [.int .u64 ae, .int .i64 az] a4 →
 bif decide (az ≥ 0) then (
 r1.elim False fun fw =>
 ∃ (c2 : Option Addr) (cd d4 : Nat), a4.cell? (fw.add 0) = some (.slice c2 cd d4) ∧
 c2.elim False fun gn =>
 0 ≤ (az : Int) ∧ (az : Int) < (cd : Int) ∧
 ∃ (di : Int), a4.cell? (gn.add (Int.toNat az * 1)) = some (.int .u8 di) ∧
 128 ≠ (0 : Int) ∧ ∃ f3, f3 < e0 ∧ I2 f3 [.int .u64 (IntKind.u64.wrap ((IntKind.u64.wrap (ae * 128)) + (IntKind.u64.wrap (Int.tmod di 128)))), .int .i64 (IntKind.i64.wrap (az - 1))] a4) else (
 r1.elim False fun fv =>
 ∃ (b4 : Option Addr) (bf bk : Nat), a4.cell? (fv.add 0) = some (.slice b4 bf bk) ∧
 (0 : Int) ≤ ((IntKind.i64.wrap (n4 + 1)) : Int) ∧ ((IntKind.i64.wrap (n4 + 1)) : Int) ≤ (bf : Int) ∧
 r1.elim False fun dk =>
 Q01 a4 ((dk.add 0).add 0) ∧
 thenW (a4.setCell ((dk.add 0).add 0) (.slice (if bk = Int.toNat (IntKind.i64.wrap (n4 + 1)) then b4 else Option.map (fun z : Addr => z.add ((Int.toNat (IntKind.i64.wrap (n4 + 1))) * 1)) b4) (bf - (Int.toNat (IntKind.i64.wrap (n4 + 1)))) (bk - (Int.toNat (IntKind.i64.wrap (n4 + 1)))))) fun ey =>
 R (.int .u64 ae) ey))) else (
 ∃ (I2 : Nat → List Value → World → Prop) (g7 : Nat), I2 g7 [.int .u64 0, .int .i64 n4] a0 ∧ ∀ (dd : Nat) (aa : World) (ai av : Int), I2 dd [.int .u64 ai, .int .i64 av] aa →
 bif decide (av ≥ 0) then (
 r1.elim False fun fq =>
 ∃ (bz : Option Addr) (bv en : Nat), aa.cell? (fq.add 0) = some (.slice bz bv en) ∧
 bz.elim False fun gu =>
 0 ≤ (av : Int) ∧ (av : Int) < (bv : Int) ∧
 ∃ (ez : Int), aa.cell? (gu.add (Int.toNat av * 1)) = some (.int .u8 ez) ∧
 128 ≠ (0 : Int) ∧ ∃ dc, dc < dd ∧ I2 dc [.int .u64 (IntKind.u64.wrap ((IntKind.u64.wrap (ai * 128)) + (IntKind.u64.wrap (Int.tmod ez 128)))), .int .i64 (IntKind.i64.wrap (av - 1))] aa) else (
 r1.elim False fun iu =>
 ∃ (b9 : Option Addr) (bm b8 : Nat), aa.cell? (iu.add 0) = some (.slice b9 bm b8) ∧
 (0 : Int) ≤ ((IntKind.i64.wrap (n4 + 1)) : Int) ∧ ((IntKind.i64.wrap (n4 + 1)) : Int) ≤ (bm : Int) ∧
 r1.elim False fun ew =>
 Q01 aa ((ew.add 0).add 0) ∧
 thenW (aa.setCell ((ew.add 0).add 0) (.slice (if b8 = Int.toNat (IntKind.i64.wrap (n4 + 1)) then b9 else Option.map (fun z : Addr => z.add ((Int.toNat (IntKind.i64.wrap (n4 + 1))) * 1)) b9) (bm - (Int.toNat (IntKind.i64.wrap (n4 + 1)))) (b8 - (Int.toNat (IntKind.i64.wrap (n4 + 1)))))) fun dz =>
 R (.int .u64 ai) dz))))))) else (
 r1.elim False fun gr =>
 ∃ (dh : Option Addr) (cg d7 : Nat), a0.cell? (gr.add 0) = some (.slice dh cg d7) ∧
 bif decide (n4 ≥ (cg : Int)) then (
 Calls Try.prog 65 #[.pointer r1, .int .i64 4] a0 fun f5 fb => f5 = .returned (.tuple #[]) ∧
 R (.int .u64 0) fb) else (
 bif decide (n4 ≥ 10) then (
 Calls Try.prog 65 #[.pointer r1, .int .i64 4] a0 fun fa fk => fa = .returned (.tuple #[]) ∧
 R (.int .u64 0) fk) else (
 bif n4 == 9 then (
 r1.elim False fun iv =>
 ∃ (c3 : Option Addr) (cb ed : Nat), a0.cell? (iv.add 0) = some (.slice c3 cb ed) ∧
 c3.elim False fun ie =>
 0 ≤ (n4 : Int) ∧ (n4 : Int) < (cb : Int) ∧
 ∃ (du : Int), a0.cell? (ie.add (Int.toNat n4 * 1)) = some (.int .u8 du) ∧
 bif du != 1 then (
 Calls Try.prog 65 #[.pointer r1, .int .i64 4] a0 fun dt d3 => dt = .returned (.tuple #[]) ∧
 R (.int .u64 0) d3) else (
 bif decide (n4 > 0) then (
 r1.elim False fun gq =>
 ∃ (bs : Option Addr) (cf ds : Nat), a0.cell? (gq.add 0) = some (.slice bs cf ds) ∧
 bs.elim False fun ib =>
 0 ≤ (n4 : Int) ∧ (n4 : Int) < (cf : Int) ∧
 ∃ (dm : Int), a0.cell? (ib.add (Int.toNat n4 * 1)) = some (.int .u8 dm) ∧
 bif dm == 0 then (
 Calls Try.prog 65 #[.pointer r1, .int .i64 4] a0 fun e3 fi => e3 = .returned (.tuple #[]) ∧
 R (.int .u64 0) fi) else (
 ∃ (I2 : Nat → List Value → World → Prop) (iw : Nat), I2 iw [.int .u64 0, .int .i64 n4] a0 ∧ ∀ (f1 : Nat) (a3 : World) (af au : Int), I2 f1 [.int .u64 af, .int .i64 au] a3 →
 bif decide (au ≥ 0) then (
 r1.elim False fun gw =>
 ∃ (c0 : Option Addr) (c4 f6 : Nat), a3.cell? (gw.add 0) = some (.slice c0 c4 f6) ∧
 c0.elim False fun gc =>
 0 ≤ (au : Int) ∧ (au : Int) < (c4 : Int) ∧
 ∃ (f2 : Int), a3.cell? (gc.add (Int.toNat au * 1)) = some (.int .u8 f2) ∧
 128 ≠ (0 : Int) ∧ ∃ d9, d9 < f1 ∧ I2 d9 [.int .u64 (IntKind.u64.wrap ((IntKind.u64.wrap (af * 128)) + (IntKind.u64.wrap (Int.tmod f2 128)))), .int .i64 (IntKind.i64.wrap (au - 1))] a3) else (
 r1.elim False fun gb =>
 ∃ (b6 : Option Addr) (b2 ba : Nat), a3.cell? (gb.add 0) = some (.slice b6 b2 ba) ∧
 (0 : Int) ≤ ((IntKind.i64.wrap (n4 + 1)) : Int) ∧ ((IntKind.i64.wrap (n4 + 1)) : Int) ≤ (b2 : Int) ∧
 r1.elim False fun dn =>
 Q01 a3 ((dn.add 0).add 0) ∧
 thenW (a3.setCell ((dn.add 0).add 0) (.slice (if ba = Int.toNat (IntKind.i64.wrap (n4 + 1)) then b6 else Option.map (fun z : Addr => z.add ((Int.toNat (IntKind.i64.wrap (n4 + 1))) * 1)) b6) (b2 - (Int.toNat (IntKind.i64.wrap (n4 + 1)))) (ba - (Int.toNat (IntKind.i64.wrap (n4 + 1)))))) fun fl =>
 R (.int .u64 af) fl))) else (
 ∃ (I2 : Nat → List Value → World → Prop) (ik : Nat), I2 ik [.int .u64 0, .int .i64 n4] a0 ∧ ∀ (dw : Nat) (a7 : World) (ab b0 : Int), I2 dw [.int .u64 ab, .int .i64 b0] a7 →
 bif decide (b0 ≥ 0) then (
 r1.elim False fun gv =>
 ∃ (c8 : Option Addr) (c1 dj : Nat), a7.cell? (gv.add 0) = some (.slice c8 c1 dj) ∧
 c8.elim False fun fz =>
 0 ≤ (b0 : Int) ∧ (b0 : Int) < (c1 : Int) ∧
 ∃ (e5 : Int), a7.cell? (fz.add (Int.toNat b0 * 1)) = some (.int .u8 e5) ∧
 128 ≠ (0 : Int) ∧ ∃ d2, d2 < dw ∧ I2 d2 [.int .u64 (IntKind.u64.wrap ((IntKind.u64.wrap (ab * 128)) + (IntKind.u64.wrap (Int.tmod e5 128)))), .int .i64 (IntKind.i64.wrap (b0 - 1))] a7) else (
 r1.elim False fun gg =>
 ∃ (bd : Option Addr) (b7 b3 : Nat), a7.cell? (gg.add 0) = some (.slice bd b7 b3) ∧
 (0 : Int) ≤ ((IntKind.i64.wrap (n4 + 1)) : Int) ∧ ((IntKind.i64.wrap (n4 + 1)) : Int) ≤ (b7 : Int) ∧
 r1.elim False fun d8 =>
 Q01 a7 ((d8.add 0).add 0) ∧
 thenW (a7.setCell ((d8.add 0).add 0) (.slice (if b3 = Int.toNat (IntKind.i64.wrap (n4 + 1)) then bd else Option.map (fun z : Addr => z.add ((Int.toNat (IntKind.i64.wrap (n4 + 1))) * 1)) bd) (b7 - (Int.toNat (IntKind.i64.wrap (n4 + 1)))) (b3 - (Int.toNat (IntKind.i64.wrap (n4 + 1)))))) fun e6 =>
 R (.int .u64 ab) e6)))) else (
 bif decide (n4 > 0) then (
 r1.elim False fun i4 =>
 ∃ (ch : Option Addr) (bx dq : Nat), a0.cell? (i4.add 0) = some (.slice ch bx dq) ∧
 ch.elim False fun i7 =>
 0 ≤ (n4 : Int) ∧ (n4 : Int) < (bx : Int) ∧
 ∃ (ex : Int), a0.cell? (i7.add (Int.toNat n4 * 1)) = some (.int .u8 ex) ∧
 bif ex == 0 then (
 Calls Try.prog 65 #[.pointer r1, .int .i64 4] a0 fun eg d1 => eg = .returned (.tuple #[]) ∧
 R (.int .u64 0) d1) else (
 ∃ (I2 : Nat → List Value → World → Prop) (gk : Nat), I2 gk [.int .u64 0, .int .i64 n4] a0 ∧ ∀ (ee : Nat) (a6 : World) (ag ax : Int), I2 ee [.int .u64 ag, .int .i64 ax] a6 →
 bif decide (ax ≥ 0) then (
 r1.elim False fun fy =>
 ∃ (br : Option Addr) (c7 et : Nat), a6.cell? (fy.add 0) = some (.slice br c7 et) ∧
 br.elim False fun ic =>
 0 ≤ (ax : Int) ∧ (ax : Int) < (c7 : Int) ∧
 ∃ (eb : Int), a6.cell? (ic.add (Int.toNat ax * 1)) = some (.int .u8 eb) ∧
 128 ≠ (0 : Int) ∧ ∃ eh, eh < ee ∧ I2 eh [.int .u64 (IntKind.u64.wrap ((IntKind.u64.wrap (ag * 128)) + (IntKind.u64.wrap (Int.tmod eb 128)))), .int .i64 (IntKind.i64.wrap (ax - 1))] a6) else (
 r1.elim False fun ig =>
 ∃ (bo : Option Addr) (bl bj : Nat), a6.cell? (ig.add 0) = some (.slice bo bl bj) ∧
 (0 : Int) ≤ ((IntKind.i64.wrap (n4 + 1)) : Int) ∧ ((IntKind.i64.wrap (n4 + 1)) : Int) ≤ (bl : Int) ∧
 r1.elim False fun ec =>
 Q01 a6 ((ec.add 0).add 0) ∧
 thenW (a6.setCell ((ec.add 0).add 0) (.slice (if bj = Int.toNat (IntKind.i64.wrap (n4 + 1)) then bo else Option.map (fun z : Addr => z.add ((Int.toNat (IntKind.i64.wrap (n4 + 1))) * 1)) bo) (bl - (Int.toNat (IntKind.i64.wrap (n4 + 1)))) (bj - (Int.toNat (IntKind.i64.wrap (n4 + 1)))))) fun eu =>
 R (.int .u64 ag) eu))) else (
 ∃ (I2 : Nat → List Value → World → Prop) (gd : Nat), I2 gd [.int .u64 0, .int .i64 n4] a0 ∧ ∀ (e8 : Nat) (a1 : World) (ah ay : Int), I2 e8 [.int .u64 ah, .int .i64 ay] a1 →
 bif decide (ay ≥ 0) then (
 r1.elim False fun i2 =>
 ∃ (bt : Option Addr) (cc ep : Nat), a1.cell? (i2.add 0) = some (.slice bt cc ep) ∧
 bt.elim False fun ih =>
 0 ≤ (ay : Int) ∧ (ay : Int) < (cc : Int) ∧
 ∃ (fp : Int), a1.cell? (ih.add (Int.toNat ay * 1)) = some (.int .u8 fp) ∧
 128 ≠ (0 : Int) ∧ ∃ ff, ff < e8 ∧ I2 ff [.int .u64 (IntKind.u64.wrap ((IntKind.u64.wrap (ah * 128)) + (IntKind.u64.wrap (Int.tmod fp 128)))), .int .i64 (IntKind.i64.wrap (ay - 1))] a1) else (
 r1.elim False fun i5 =>
 ∃ (bb : Option Addr) (bc b5 : Nat), a1.cell? (i5.add 0) = some (.slice bb bc b5) ∧
 (0 : Int) ≤ ((IntKind.i64.wrap (n4 + 1)) : Int) ∧ ((IntKind.i64.wrap (n4 + 1)) : Int) ≤ (bc : Int) ∧
 r1.elim False fun e4 =>
 Q01 a1 ((e4.add 0).add 0) ∧
 thenW (a1.setCell ((e4.add 0).add 0) (.slice (if b5 = Int.toNat (IntKind.i64.wrap (n4 + 1)) then bb else Option.map (fun z : Addr => z.add ((Int.toNat (IntKind.i64.wrap (n4 + 1))) * 1)) bb) (bc - (Int.toNat (IntKind.i64.wrap (n4 + 1)))) (b5 - (Int.toNat (IntKind.i64.wrap (n4 + 1)))))) fun ef =>
 R (.int .u64 ah) ef)))))))

theorem rRNum.eq (r1 : Option Addr) (R : RW) (w : World) : mfunc Try.prog [(0, [0], [(3, (.one (.int .i64)))]), (2, [0, 3], [(4, (.one (.int .u64))), (5, (.one (.int .i64)))])] 45 [.pointer r1] R w = rRNum.M r1 R w := by kernel_rfl
theorem rRNum.ok (r1 : Option Addr) {R : RW} {w : World} (h : rRNum.M r1 R w) : Calls Try.prog 45 #[.pointer r1] w fun e w' => ∃ v, e = .returned v ∧ R v w' :=
  Q08 follows (H := [(0, [0], [(3, (.one (.int .i64)))]), (2, [0, 3], [(4, (.one (.int .u64))), (5, (.one (.int .i64)))])]) (args := [.pointer r1]) (by rw [rRNum.eq]; exact h)

def rRCount.M (r1 : Option Addr) (a1 : Int) (R : RW) (w : World) : Prop :=
 Calls Try.prog 45 #[.pointer r1] w fun a9 a2 => ∃ (a0 : Int), a9 = .returned (.int .u64 a0) ∧
 r1.elim False fun a6 =>
 ∃ (a5 : Int), a2.cell? (a6.add 1) = some (.int .i64 a5) ∧
 bif a5 == 0 then (
 bif decide (a1 < 0) then (
 Calls Try.prog 65 #[.pointer r1, .int .i64 3] a2 fun a8 a7 => a8 = .returned (.tuple #[]) ∧
 R (.int .i64 0) a7) else (
 bif decide (a0 > (IntKind.u64.wrap a1)) then (
 Calls Try.prog 65 #[.pointer r1, .int .i64 3] a2 fun a4 a3 => a4 = .returned (.tuple #[]) ∧
 R (.int .i64 0) a3) else (
 R (.int .i64 (IntKind.i64.wrap a0)) a2))) else (
 R (.int .i64 (IntKind.i64.wrap a0)) a2)

theorem rRCount.eq (r1 : Option Addr) (most2 : Int) (R : RW) (w : World) : mfunc Try.prog [] 43 [.pointer r1, .int .i64 most2] R w = rRCount.M r1 most2 R w := by kernel_rfl
theorem rRCount.ok (r1 : Option Addr) (a0 : Int) {R : RW} {w : World} (h : rRCount.M r1 a0 R w) : Calls Try.prog 43 #[.pointer r1, .int .i64 a0] w fun e w' => ∃ v, e = .returned v ∧ R v w' :=
  Q08 follows (H := []) (args := [.pointer r1, .int .i64 a0]) (by rw [rRCount.eq]; exact h)

def rRDone.M (r1 : Option Addr) (R : RW) (w : World) : Prop :=
 r1.elim False fun a2 =>
 ∃ (a0 : Int), w.cell? (a2.add 1) = some (.int .i64 a0) ∧
 bif a0 == 0 then (
 r1.elim False fun a4 =>
 ∃ (a7 : Option Addr) (a1 a9 : Nat), w.cell? (a4.add 0) = some (.slice a7 a1 a9) ∧
 bif decide ((a1 : Int) > 0) then (
 R (.int .i64 4) w) else (
 r1.elim False fun a6 =>
 ∃ (a3 : Int), w.cell? (a6.add 1) = some (.int .i64 a3) ∧
 R (.int .i64 a3) w)) else (
 r1.elim False fun a8 =>
 ∃ (a5 : Int), w.cell? (a8.add 1) = some (.int .i64 a5) ∧
 R (.int .i64 a5) w)

theorem rRDone.eq (r1 : Option Addr) (R : RW) (w : World) : mfunc Try.prog [] 46 [.pointer r1] R w = rRDone.M r1 R w := by kernel_rfl
theorem rRDone.ok (r1 : Option Addr) {R : RW} {w : World} (h : rRDone.M r1 R w) : Calls Try.prog 46 #[.pointer r1] w fun e w' => ∃ v, e = .returned v ∧ R v w' :=
  Q08 follows (H := []) (args := [.pointer r1]) (by rw [rRDone.eq]; exact h)

def rRFail.M (r1 : Option Addr) (k2 : Int) (R : RW) (w : World) : Prop :=
 r1.elim False fun a3 =>
 Q01 w ((a3.add 1).add 0) ∧
 thenW (w.setCell ((a3.add 1).add 0) (.int .i64 k2)) fun a0 =>
 r1.elim False fun a5 =>
 Q01 a0 ((a5.add 0).add 0) ∧
 thenW (a0.setCell ((a5.add 0).add 0) (.slice none 0 0)) fun a1 =>
 R (.tuple #[]) a1

theorem rRFail.eq (r1 : Option Addr) (k2 : Int) (R : RW) (w : World) : mfunc Try.prog [] 65 [.pointer r1, .int .i64 k2] R w = rRFail.M r1 k2 R w := by kernel_rfl
theorem rRFail.ok (r1 : Option Addr) (k2 : Int) {R : RW} {w : World} (h : rRFail.M r1 k2 R w) : Calls Try.prog 65 #[.pointer r1, .int .i64 k2] w fun e w' => ∃ v, e = .returned v ∧ R v w' :=
  Q08 follows (H := []) (args := [.pointer r1, .int .i64 k2]) (by rw [rRFail.eq]; exact h)

def RdR (w : World) (p : Nat) (bs : List UInt8) (k : Int) : Prop :=
  ∃ a c, Blk w p 83 [.slice a bs.length c, .int .i64 k] ∧ bs.length ≤ c ∧ RowAt w a (bytesV bs) ∧ (bytesV bs ≠ [] → ∀ ad, a = some ad → ad.block < p)
section
variable {w w' : World} {a : Option Addr} {c : Nat} {hs : List Hd} {bs : List UInt8} {p : Nat} {k : Int}
theorem RdR.no (h : RdR w p bs k) (e : Ext no w w') : RdR w' p bs k := by
  obtain ⟨a, c, h1, h2, h3, h4⟩ := h
  exact ⟨a, c, h1.ext e id, h2, h3.no e, h4⟩
theorem RdR.up {m : Nat → Prop} (h : RdR w p bs k) (e : Ext m w w') (hm : ∀ b, m b → p < b) : RdR w' p bs k := by
  obtain ⟨a, c, h1, h2, h3, h4⟩ := h
  exact ⟨a, c, h1.ext e (fun h => by have := hm _ h; omega), h2, h3.ext' e (fun h0 ad ha hb => by have := hm _ hb; have := h4 h0 ad ha; omega), h4⟩
theorem RdR.lt (h : RdR w p bs k) : p < w.heap.size := by obtain ⟨a, c, h1, _⟩ := h; exact h1.lt
theorem rFail_spec (h : RdR w p bs k) (j : Int) : Calls Try.prog 65 #[.pointer (some (blk p)), .int .i64 j] w (GivesV (.tuple #[]) fun w' => RdR w' p [] j ∧ Ext (fun b => b = p) w w') := by
  refine (rRFail.ok _ _ (R := fun v w' => v = .tuple #[] ∧ RdR w' p [] j ∧ Ext (fun b => b = p) w w') ?_).mono fun e w' ⟨v, he, hv, hw⟩ => ⟨by rw [he, hv], hw⟩
  unfold rRFail.M
  obtain ⟨a, c, h1, _⟩ := h
  refine ⟨h1.cana (i := 1) rfl, Q02 fun w4 h4 => ?_⟩
  have hb4 := h1.seta 1 (.int .i64 j)
  rw [add_zero] at h4
  rw [← h4] at hb4
  have e4 : Ext (fun b => b = p) w w4 := by subst h4; exact (Ext.refl (fun b => b = p) w).setCell (a := (blk p).add 1) (.inl (by rw [add_blk])) _
  refine ⟨hb4.cana (i := 0) rfl, Q02 fun w6 h6 => ?_⟩
  rw [add_zero] at h6
  have hb6 := hb4.seta 0 (.slice none 0 0)
  rw [← h6] at hb6
  have e6 : Ext (fun b => b = p) w4 w6 := by subst h6; exact (Ext.refl (fun b => b = p) w4).setCell (a := (blk p).add 0) (.inl rfl) _
  exact ⟨rfl, ⟨none, 0, hb6, Nat.le_refl _, RowAt.nil _ _, fun h0 => absurd rfl h0⟩, e4.trans e6⟩
theorem rDone_spec (h : RdR w p bs k) : Calls Try.prog 46 #[.pointer (some (blk p))] w (GivesV (.int .i64 (doneR (bs, k))) fun w' => w' = w) := by
  refine (rRDone.ok _ (R := fun v w' => v = .int .i64 (doneR (bs, k)) ∧ w' = w) ?_).mono fun e w' ⟨v, he, hv, hw⟩ => ⟨by rw [he, hv], hw⟩
  unfold rRDone.M
  obtain ⟨a, c, h1, h2, h3, h4⟩ := h
  unfold doneR
  refine ⟨_, h1.cella (i := 1) rfl, ?_⟩
  by_cases hk : k = 0
  · subst hk
    rw [show ((0 : Int) == 0) = true from rfl, cond_true, if_pos rfl]
    refine ⟨_, _, _, h1.cella (i := 0) rfl, ?_⟩
    by_cases hb : bs.length > 0
    · rw [decide_eq_true (by omega : (bs.length : Int) > 0), cond_true, if_pos hb]; exact ⟨rfl, rfl⟩
    · rw [decide_eq_false (by omega : ¬ (bs.length : Int) > 0), cond_false, if_neg hb]
      exact ⟨_, h1.cella (i := 1) rfl, rfl, rfl⟩
  · rw [beq_eq_false_iff_ne.2 hk, cond_false, if_neg hk]
    exact ⟨_, h1.cella (i := 1) rfl, rfl, rfl⟩

/-! ### where the number ends -/
theorem Q1d : ∀ (n i : Nat) (bs : List UInt8), i + n ≤ 9 → n ≤ bs.length → (∀ c ∈ bs.take n, 128 ≤ c.toNat) → widthF i bs = widthF (i + n) (bs.drop n)
  | 0, i, bs, _, _, _ => rfl
  | n + 1, i, [], _, h, _ => by simp at h
  | n + 1, i, c :: r, h9, hl, hc => by
    have h1 := hc c (by simp)
    simp only [widthF, List.drop_succ_cons]
    rw [if_neg (by omega), if_neg (by omega), Q1d n (i + 1) r (by omega) (by simpa using hl) fun d hd => hc d (by simp [hd])]
    congr 1; omega
theorem Q1A {bs : List UInt8} (hl : 10 ≤ bs.length) (hc : ∀ c ∈ bs.take 10, 128 ≤ c.toNat) : widthF 0 bs = 0 := by
  rw [Q1d 9 0 bs (by omega) (by omega) fun c h => hc c (List.mem_of_mem_take (l := bs.take 10) (i := 9) (by rw [List.take_take]; exact h))]
  rw [List.drop_eq_getElem_cons (by omega : 9 < bs.length)]
  simp only [widthF]
  have := hc bs[9] (List.mem_take_iff_getElem.2 ⟨9, by omega, rfl⟩)
  rw [if_pos (by first | exact ⟨rfl, by omega⟩ | exact ⟨trivial, by omega⟩)]
theorem Q1q : ∀ (l : List UInt8) (j : Nat), valW (l.drop j) ≤ valW l
  | [], j => by simp
  | a :: r, 0 => Nat.le_refl _
  | a :: r, j + 1 => by
    have := Q1q r j
    simp only [List.drop_succ_cons, valW]; omega

def loop2P (RR : RW) (w : World) (p : Nat) (n4 : Int) : Prop :=
  ∃ (I2 : Nat → List Value → World → Prop) (m35 : Nat), I2 m35 [.int .u64 0, .int .i64 n4] w ∧ ∀ (m36 : Nat) (ww37 : World) (outv33 i34 : Int), I2 m36 [.int .u64 outv33, .int .i64 i34] ww37 →
  bif decide (i34 ≥ 0) then (
  (some (blk p)).elim False fun a38 =>
  ∃ (B39a : Option Addr) (B39n B39c : Nat), ww37.cell? (a38.add 0) = some (.slice B39a B39n B39c) ∧
  B39a.elim False fun a40 =>
  0 ≤ (i34 : Int) ∧ (i34 : Int) < (B39n : Int) ∧
  ∃ (x41 : Int), ww37.cell? (a40.add (Int.toNat i34 * 1)) = some (.int .u8 x41) ∧
  128 ≠ (0 : Int) ∧ ∃ m42, m42 < m36 ∧ I2 m42 [.int .u64 (IntKind.u64.wrap ((IntKind.u64.wrap (outv33 * 128)) + (IntKind.u64.wrap (Int.tmod x41 128)))), .int .i64 (IntKind.i64.wrap (i34 - 1))] ww37) else (
  (some (blk p)).elim False fun a43 =>
  ∃ (B44a : Option Addr) (B44n B44c : Nat), ww37.cell? (a43.add 0) = some (.slice B44a B44n B44c) ∧
  (0 : Int) ≤ ((IntKind.i64.wrap (n4 + 1)) : Int) ∧ ((IntKind.i64.wrap (n4 + 1)) : Int) ≤ (B44n : Int) ∧
  (some (blk p)).elim False fun a45 =>
  Q01 ww37 ((a45.add 0).add 0) ∧
  thenW (ww37.setCell ((a45.add 0).add 0) (.slice (if B44c = Int.toNat (IntKind.i64.wrap (n4 + 1)) then B44a else Option.map (fun z : Addr => z.add ((Int.toNat (IntKind.i64.wrap (n4 + 1))) * 1)) B44a) (B44n - (Int.toNat (IntKind.i64.wrap (n4 + 1)))) (B44c - (Int.toNat (IntKind.i64.wrap (n4 + 1)))))) fun ww46 =>
  RR (.int .u64 outv33) ww46)
theorem Q1M (h : RdR w p bs 0) (hl : bs.length < 1000000) {n : Nat} (hn : n < bs.length) (hw : widthF 0 bs = n + 1) :
    loop2P (fun v w' => v = .int .u64 (numR (bs, 0)).1 ∧ RdR w' p (numR (bs, 0)).2.1 (numR (bs, 0)).2.2 ∧ Ext (fun b => b = p) w w') w p n := by
  have hz : widthF 0 bs ≠ 0 := by omega
  obtain ⟨q1, q2, q3, q4, _⟩ := Q1B bs 0 (by omega) hz
  simp only [Nat.sub_zero] at q2 q3 q4
  rw [hw] at q2 q3 q4
  have hnum : numR (bs, 0) = (valW (bs.take (n + 1)), (bs.drop (n + 1), 0)) := by unfold numR rdNum; simp [hw]
  rw [hnum]
  obtain ⟨a, c, h1, h2, h3, h4⟩ := h
  generalize hL : bs.take (n + 1) = L at *
  have hLl : L.length = n + 1 := by rw [← hL, List.length_take]; omega
  unfold loop2P
  refine ⟨fun j vs w1 => ∃ t : Nat, vs = [.int .u64 (valW (L.drop t)), .int .i64 ((t : Int) - 1)] ∧ j = t ∧ t ≤ n + 1 ∧ w1 = w, n + 1, ⟨n + 1, ?_, rfl, Nat.le_refl _, rfl⟩, ?_⟩
  · rw [List.drop_eq_nil_of_le (by omega)]
    have : (((n + 1 : Nat) : Int) - 1) = n := by omega
    rw [this]; rfl
  rintro t w1 o0 i ⟨t', hi, rfl, htn, rfl⟩
  simp only [List.cons.injEq, Value.int.injEq, true_and, and_true] at hi
  obtain ⟨rfl, rfl⟩ := hi
  cases t with
  | zero =>
    rw [show decide (((0 : Nat) : Int) - 1 ≥ 0) = false from rfl, cond_false]
    have hw1 : IntKind.i64.wrap ((n : Int) + 1) = ((n + 1 : Nat) : Int) := by rw [w64 (by omega) (by omega)]; rfl
    rw [hw1, Int.toNat_natCast, Nat.mul_one]
    refine ⟨a, bs.length, c, h1.cella (i := 0) rfl, by omega, by omega, h1.cana (i := 0) rfl, Q02 fun w23 h23 => ?_⟩
    rw [add_zero] at h23
    have hb := h1.seta 0 (.slice (if c = n + 1 then a else Option.map (fun z : Addr => z.add (n + 1)) a) (bs.length - (n + 1)) (c - (n + 1)))
    rw [← h23] at hb
    have hx : Ext (fun b => b = p) w1 w23 := by subst h23; exact (Ext.refl (fun b => b = p) w1).setCell (a := (blk p).add 0) (.inl rfl) _
    have hdl : (bs.drop (n + 1)).length = bs.length - (n + 1) := List.length_drop
    have hrow := h3.drop (n + 1) c (fun e => by rw [Q13]; omega)
    have hne : bytesV (bs.drop (n + 1)) ≠ [] → bytesV bs ≠ [] := fun h0 e => h0 (by rw [bytesV, List.map_drop, show List.map u8V bs = [] from e]; simp)
    refine ⟨by rw [List.drop_zero], ⟨_, c - (n + 1), by rw [hdl]; exact hb, by rw [hdl]; omega, ?_, fun h0 ad ha => ?_⟩, hx⟩
    · rw [show bytesV (bs.drop (n + 1)) = (bytesV bs).drop (n + 1) by simp [bytesV]]
      refine hrow.ext' hx fun h0 ad ha hq => ?_
      have hne2 : bytesV bs ≠ [] := fun e => h0 (by rw [e]; simp)
      split at ha
      · have := h4 hne2 ad ha; omega
      · obtain ⟨b0, hb0, rfl⟩ := Option.map_eq_some_iff.1 ha
        rw [Q1h] at hq
        have := h4 hne2 b0 hb0; omega
    · split at ha
      · exact h4 (hne h0) ad ha
      · obtain ⟨b0, hb0, rfl⟩ := Option.map_eq_some_iff.1 ha
        rw [Q1h]; exact h4 (hne h0) b0 hb0
  | succ t =>
    have e1 : (((t + 1 : Nat) : Int) - 1) = (t : Int) := by omega
    rw [e1, show decide ((t : Int) ≥ 0) = true by simp, cond_true]
    have htl : t < bs.length := by omega
    have htL : t < L.length := by omega
    obtain ⟨ad, rfl⟩ := h3.addr (by intro e; rw [bytesV, List.map_eq_nil_iff] at e; subst e; simp at htl)
    have hx := u8_lt bs[t]
    have hLt : L[t] = bs[t] := by simp only [← hL]; rw [List.getElem_take]
    have hdr : L.drop t = bs[t] :: L.drop (t + 1) := by rw [List.drop_eq_getElem_cons htL, hLt]
    have hv : valW (L.drop t) = bs[t].toNat % 128 + 128 * valW (L.drop (t + 1)) := by rw [hdr]; rfl
    have hle := Q1q L t
    have q4' : valW L < 18446744073709551616 := q4
    have hm : Int.tmod (bs[t].toNat : Int) 128 = ((bs[t].toNat % 128 : Nat) : Int) := by rw [Int.tmod_eq_emod_of_nonneg (by omega)]; omega
    refine ⟨_, _, _, h1.cella (i := 0) rfl, by omega, by omega, _, by rw [Int.toNat_natCast, Nat.mul_one]; exact h3.at_ (Q14 htl), by decide, t, by omega, t, ?_, rfl, by omega, rfl⟩
    rw [hm, wu64 (n := ((valW (L.drop (t + 1)) : Nat) : Int) * 128) (by omega) (by omega), wu64 (n := ((bs[t].toNat % 128 : Nat) : Int)) (by omega) (by omega), wu64 (by omega) (by omega), w64 (by omega) (by omega), hv]
    congr 2
    congr 1
    omega

def exitP (RR : RW) (ww7 : World) (p : Nat) (n4 : Int) : Prop :=
  (some (blk p)).elim False fun a15 =>
  ∃ (B16a : Option Addr) (B16n B16c : Nat), ww7.cell? (a15.add 0) = some (.slice B16a B16n B16c) ∧
  bif decide (n4 ≥ (B16n : Int)) then (
  Calls Try.prog 65 #[.pointer (some (blk p)), .int .i64 4] ww7 fun ee17 ww18 => ee17 = .returned (.tuple #[]) ∧
  RR (.int .u64 0) ww18) else (
  bif decide (n4 ≥ 10) then (
  Calls Try.prog 65 #[.pointer (some (blk p)), .int .i64 4] ww7 fun ee19 ww20 => ee19 = .returned (.tuple #[]) ∧
  RR (.int .u64 0) ww20) else (
  bif n4 == 9 then (
  (some (blk p)).elim False fun a21 =>
  ∃ (B22a : Option Addr) (B22n B22c : Nat), ww7.cell? (a21.add 0) = some (.slice B22a B22n B22c) ∧
  B22a.elim False fun a23 =>
  0 ≤ (n4 : Int) ∧ (n4 : Int) < (B22n : Int) ∧
  ∃ (x24 : Int), ww7.cell? (a23.add (Int.toNat n4 * 1)) = some (.int .u8 x24) ∧
  bif x24 != 1 then (
  Calls Try.prog 65 #[.pointer (some (blk p)), .int .i64 4] ww7 fun ee25 ww26 => ee25 = .returned (.tuple #[]) ∧
  RR (.int .u64 0) ww26) else (
  bif decide (n4 > 0) then (
  (some (blk p)).elim False fun a27 =>
  ∃ (B28a : Option Addr) (B28n B28c : Nat), ww7.cell? (a27.add 0) = some (.slice B28a B28n B28c) ∧
  B28a.elim False fun a29 =>
  0 ≤ (n4 : Int) ∧ (n4 : Int) < (B28n : Int) ∧
  ∃ (x30 : Int), ww7.cell? (a29.add (Int.toNat n4 * 1)) = some (.int .u8 x30) ∧
  bif x30 == 0 then (
  Calls Try.prog 65 #[.pointer (some (blk p)), .int .i64 4] ww7 fun ee31 ww32 => ee31 = .returned (.tuple #[]) ∧
  RR (.int .u64 0) ww32) else (
  loop2P RR ww7 p n4)) else (
  loop2P RR ww7 p n4))) else (
  bif decide (n4 > 0) then (
  (some (blk p)).elim False fun a61 =>
  ∃ (B62a : Option Addr) (B62n B62c : Nat), ww7.cell? (a61.add 0) = some (.slice B62a B62n B62c) ∧
  B62a.elim False fun a63 =>
  0 ≤ (n4 : Int) ∧ (n4 : Int) < (B62n : Int) ∧
  ∃ (x64 : Int), ww7.cell? (a63.add (Int.toNat n4 * 1)) = some (.int .u8 x64) ∧
  bif x64 == 0 then (
  Calls Try.prog 65 #[.pointer (some (blk p)), .int .i64 4] ww7 fun ee65 ww66 => ee65 = .returned (.tuple #[]) ∧
  RR (.int .u64 0) ww66) else (
  loop2P RR ww7 p n4)) else (
  loop2P RR ww7 p n4))))
theorem exit_ok (h : RdR w p bs 0) (hl : bs.length < 1000000) {n : Nat} (hn : n ≤ bs.length) (h10 : n ≤ 10) (hc : ∀ c ∈ bs.take n, 128 ≤ c.toNat) (hs : n = bs.length ∨ n = 10 ∨ ∃ hn : n < bs.length, bs[n].toNat < 128) :
    exitP (fun v w' => v = .int .u64 (numR (bs, 0)).1 ∧ RdR w' p (numR (bs, 0)).2.1 (numR (bs, 0)).2.2 ∧ Ext (fun b => b = p) w w') w p n := by
  obtain ⟨a, c, h1, h2, h3, h4⟩ := id h
  -- where there is no number
  have bad : widthF 0 bs = 0 → Calls Try.prog 65 #[.pointer (some (blk p)), .int .i64 4] w fun ee ww => ee = .returned (.tuple #[]) ∧ (fun v w' => v = Value.int .u64 (numR (bs, 0)).1 ∧ RdR w' p (numR (bs, 0)).2.1 (numR (bs, 0)).2.2 ∧ Ext (fun b => b = p) w w') (.int .u64 0) ww := fun hz => by
    have hnum : numR (bs, 0) = (0, ([], 4)) := by unfold numR rdNum; simp [hz]
    rw [hnum]
    exact (rFail_spec h 4).mono fun e w9 ⟨he, hr, hx⟩ => ⟨he, rfl, hr, hx⟩
  unfold exitP
  refine ⟨a, bs.length, c, h1.cella (i := 0) rfl, ?_⟩
  by_cases c1 : n = bs.length
  · rw [decide_eq_true (by omega : (n : Int) ≥ (bs.length : Int)), cond_true]
    refine bad ?_
    by_cases c2 : n ≤ 9
    · rw [Q1d n 0 bs (by omega) (by omega) hc, List.drop_eq_nil_of_le (by omega)]; rfl
    · exact Q1A (by omega) (by rw [show (10 : Nat) = n by omega]; exact hc)
  rw [decide_eq_false (by omega : ¬ (n : Int) ≥ (bs.length : Int)), cond_false]
  have hnl : n < bs.length := by omega
  by_cases c2 : n = 10
  · rw [decide_eq_true (by omega : (n : Int) ≥ 10), cond_true]
    exact bad (Q1A (by omega) (by rw [show (10 : Nat) = n by omega]; exact hc))
  rw [decide_eq_false (by omega : ¬ (n : Int) ≥ 10), cond_false]
  have hlt : bs[n].toNat < 128 := by
    rcases hs with hs | hs | ⟨_, hs⟩
    · exact absurd hs c1
    · exact absurd hs c2
    · exact hs
  have hskip := Q1d n 0 bs (by omega) (by omega) hc
  rw [List.drop_eq_getElem_cons hnl, Nat.zero_add] at hskip
  simp only [widthF] at hskip
  obtain ⟨ad, rfl⟩ := h3.addr (by intro e; rw [bytesV, List.map_eq_nil_iff] at e; subst e; simp at hnl)
  have hcell : w.cell? (ad.add (Int.toNat (n : Int) * 1)) = some (.int .u8 (bs[n].toNat : Int)) := by rw [Int.toNat_natCast, Nat.mul_one]; exact h3.at_ (Q14 hnl)
  -- behind the test for the last byte of all
  have rest : ¬ (n = 9 ∧ bs[n].toNat ≠ 1) → (n > 0 → bs[n].toNat = 0 → widthF 0 bs = 0) ∧ ((n > 0 → bs[n].toNat ≠ 0) → widthF 0 bs = n + 1) := fun hq => by
    rw [if_neg hq, if_pos hlt] at hskip
    exact ⟨fun q1 q2 => by rw [hskip, if_pos ⟨q2, q1⟩], fun q => by rw [hskip, if_neg fun ⟨e1, e2⟩ => q e2 e1]⟩
  by_cases c9 : n = 9
  · rw [beq_iff_eq.2 (by omega : (n : Int) = 9), cond_true]
    refine ⟨_, _, _, h1.cella (i := 0) rfl, by omega, by omega, _, hcell, ?_⟩
    by_cases c8 : bs[n].toNat = 1
    · rw [show ((bs[n].toNat : Int) != 1) = false by simp; omega, cond_false, decide_eq_true (by omega : (n : Int) > 0), cond_true]
      refine ⟨_, _, _, h1.cella (i := 0) rfl, by omega, by omega, _, hcell, ?_⟩
      rw [beq_eq_false_iff_ne.2 (by omega : (bs[n].toNat : Int) ≠ 0), cond_false]
      exact Q1M h hl hnl ((rest fun q => q.2 c8).2 fun _ => by omega)
    · rw [show ((bs[n].toNat : Int) != 1) = true by simp; omega, cond_true]
      refine bad ?_
      rw [hskip, if_pos ⟨c9, c8⟩]
  · rw [beq_eq_false_iff_ne.2 (by omega : (n : Int) ≠ 9), cond_false]
    have hrest := rest fun q => c9 q.1
    by_cases c0 : n > 0
    · rw [decide_eq_true (by omega : (n : Int) > 0), cond_true]
      refine ⟨_, _, _, h1.cella (i := 0) rfl, by omega, by omega, _, hcell, ?_⟩
      by_cases cz : bs[n].toNat = 0
      · rw [beq_iff_eq.2 (by omega : (bs[n].toNat : Int) = 0), cond_true]
        exact bad (hrest.1 c0 cz)
      · rw [beq_eq_false_iff_ne.2 (by omega : (bs[n].toNat : Int) ≠ 0), cond_false]
        exact Q1M h hl hnl (hrest.2 fun _ => cz)
    · rw [decide_eq_false (by omega : ¬ (n : Int) > 0), cond_false]
      exact Q1M h hl hnl (hrest.2 fun q => absurd q c0)
theorem rRNum_spec (h : RdR w p bs k) (hl : bs.length < 1000000) :
    Calls Try.prog 45 #[.pointer (some (blk p))] w (GivesV (.int .u64 (numR (bs, k)).1) fun w' => RdR w' p (numR (bs, k)).2.1 (numR (bs, k)).2.2 ∧ Ext (fun b => b = p) w w') := by
  refine (rRNum.ok _ (R := fun v w' => v = .int .u64 (numR (bs, k)).1 ∧ RdR w' p (numR (bs, k)).2.1 (numR (bs, k)).2.2 ∧ Ext (fun b => b = p) w w') ?_).mono fun e w' ⟨v, he, hv, hw⟩ => ⟨by rw [he, hv], hw⟩
  unfold rRNum.M
  obtain ⟨a, c, h1, h2, h3, h4⟩ := id h
  refine ⟨_, h1.cella (i := 1) rfl, ?_⟩
  by_cases hk : k = 0
  · subst hk
    rw [show ((0 : Int) != 0) = false from rfl, cond_false]
    refine ⟨fun j vs w1 => ∃ n : Nat, vs = [.int .i64 n] ∧ j + n = 10 ∧ n ≤ bs.length ∧ (∀ c ∈ bs.take n, 128 ≤ c.toNat) ∧ w1 = w, 10, ⟨0, rfl, rfl, Nat.zero_le _, by simp, rfl⟩, ?_⟩
    rintro j w1 i ⟨n, hi, hj, hn, hc, rfl⟩
    simp only [List.cons.injEq, Value.int.injEq, true_and, and_true] at hi
    subst hi
    refine ⟨_, _, _, h1.cella (i := 0) rfl, ?_⟩
    by_cases c1 : n < bs.length
    · rw [decide_eq_true (by omega : (n : Int) < (bs.length : Int)), cond_true]
      by_cases c2 : n < 10
      · rw [decide_eq_true (by omega : (n : Int) < 10), cond_true]
        obtain ⟨ad, rfl⟩ := h3.addr (by intro e; rw [bytesV, List.map_eq_nil_iff] at e; subst e; simp at c1)
        refine ⟨_, _, _, h1.cella (i := 0) rfl, by omega, by omega, _, by rw [Int.toNat_natCast, Nat.mul_one]; exact h3.at_ (Q14 c1), ?_⟩
        by_cases c3 : 128 ≤ bs[n].toNat
        · rw [decide_eq_true (by omega : (bs[n].toNat : Int) ≥ 128), cond_true]
          refine ⟨j - 1, by omega, n + 1, by rw [w64 (by omega) (by omega)]; rfl, by omega, by omega, fun d hd => ?_, rfl⟩
          rw [List.take_add_one, show bs[n]?.toList = [bs[n]] by simp [c1]] at hd
          rcases List.mem_append.1 hd with hd | hd
          · exact hc d hd
          · rw [List.mem_singleton] at hd; rw [hd]; exact c3
        · rw [decide_eq_false (by omega : ¬ (bs[n].toNat : Int) ≥ 128), cond_false]
          exact exit_ok h hl (by omega) (by omega) hc (.inr (.inr ⟨c1, by omega⟩))
      · rw [decide_eq_false (by omega : ¬ (n : Int) < 10), cond_false]
        exact exit_ok h hl (by omega) (by omega) hc (.inr (.inl (by omega)))
    · rw [decide_eq_false (by omega : ¬ (n : Int) < (bs.length : Int)), cond_false]
      exact exit_ok h hl (by omega) (by omega) hc (.inl (by omega))
  · rw [show (k != 0) = true by simpa using hk, cond_true]
    have hn : numR (bs, k) = (0, (bs, k)) := by unfold numR; rw [if_neg hk]
    rw [hn]
    exact ⟨rfl, h, Ext.refl _ _⟩
theorem rCount_spec (h : RdR w p bs k) (hl : bs.length < 1000000) {m : Int} (hm0 : 0 ≤ m) (hm : m < 4611686018427387904) :
    Calls Try.prog 43 #[.pointer (some (blk p)), .int .i64 m] w (GivesV (.int .i64 (countR m (bs, k)).1) fun w' => RdR w' p (countR m (bs, k)).2.1 (countR m (bs, k)).2.2 ∧ Ext (fun b => b = p) w w') := by
  refine (rRCount.ok _ _ (R := fun v w' => v = .int .i64 (countR m (bs, k)).1 ∧ RdR w' p (countR m (bs, k)).2.1 (countR m (bs, k)).2.2 ∧ Ext (fun b => b = p) w w') ?_).mono fun e w' ⟨v, he, hv, hw⟩ => ⟨by rw [he, hv], hw⟩
  unfold rRCount.M
  have hlt := W.numR_lt (bs, k)
  have hbad : (numR (bs, k)).2.2 ≠ 0 → (numR (bs, k)).1 = 0 := fun hb => by
    unfold numR at hb ⊢
    by_cases h0 : k = 0
    · rw [if_pos h0] at hb ⊢
      cases hr : rdNum bs with
      | none => rfl
      | some q => rw [hr] at hb; exact absurd rfl hb
    · rw [if_neg h0]
  refine (rRNum_spec h hl).mono fun e w5 ⟨he, hr5, hx5⟩ => ⟨_, he, ?_⟩
  unfold countR
  generalize numR (bs, k) = s at *
  obtain ⟨n, bs', k'⟩ := s
  simp only at *
  obtain ⟨a, c, h1, _⟩ := id hr5
  refine ⟨_, h1.cella (i := 1) rfl, ?_⟩
  by_cases hk : k' = 0
  · subst hk
    rw [if_pos rfl, show ((0 : Int) == 0) = true from rfl, cond_true, decide_eq_false (by omega : ¬ m < 0), cond_false, wu64 (n := m) (by omega) (by omega)]
    by_cases c2 : (n : Int) > m
    · rw [decide_eq_true c2, cond_true, if_pos (.inr c2)]
      exact (rFail_spec hr5 3).mono fun e w9 ⟨he, hr, hx⟩ => ⟨he, rfl, hr, hx5.trans hx⟩
    · rw [decide_eq_false c2, cond_false, if_neg (fun h => h.elim (by omega) c2), w64 (by omega) (by omega)]
      exact ⟨rfl, hr5, hx5⟩
  · rw [if_neg hk, beq_eq_false_iff_ne.2 hk, cond_false, hbad hk]
    exact ⟨rfl, hr5, hx5⟩
end
def rTake5.M (r1 : Option Addr) (R : RW) (w : World) : Prop :=
 Calls Try.prog 43 #[.pointer r1, .int .i64 8] w fun am an => ∃ (a5 : Int), am = .returned (.int .i64 a5) ∧
 ∃ (I0 : Nat → List Value → World → Prop) (m7 : Nat), I0 m7 [.slice none 0 0, .int .i64 0] an ∧ ∀ (m8 : Nat) (a7 : World) (a1 : Option Addr) (a2 a0 : Nat) (i6 : Int), I0 m8 [.slice a1 a2 a0, .int .i64 i6] a7 →
 bif decide (i6 < a5) then (
 r1.elim False fun al =>
 ∃ (a8 : Int), a7.cell? (al.add 1) = some (.int .i64 a8) ∧
 bif a8 == 0 then (
 Calls Try.prog 43 #[.pointer r1, .int .i64 7] a7 fun ah aj => ∃ (a3 : Int), ah = .returned (.int .i64 a3) ∧
 Calls Try.prog 43 #[.pointer r1, .int .i64 200] aj fun ag ai => ∃ (a4 : Int), ag = .returned (.int .i64 a4) ∧
 Calls Try.prog 45 #[.pointer r1] ai fun af ad => ∃ (a6 : Int), af = .returned (.int .u64 a6) ∧
 thenW (ad.alloc (.cells #[.int .i64 a3, .int .i64 a4, .int .u64 a6] 66)) fun ae =>
 ∃ (ab : Option Addr) (ac a9 : Nat) (aa : World), (Builtin.append_ #[28, 28] 28 #[.slice a1 a2 a0, .slice (some (blk ad.heap.size)) 1 1]).run Try.prog ae = .ok (.slice ab ac a9) aa ∧
 ∃ ak, ak < m8 ∧ I0 ak [.slice ab ac a9, .int .i64 (IntKind.i64.wrap (i6 + 1))] aa) else (
 R (.slice a1 a2 a0) a7)) else (
 R (.slice a1 a2 a0) a7)

theorem rTake5.ok (r1 : Option Addr) {R : RW} {w : World} (h : rTake5.M r1 R w) : Calls Try.prog 67 #[.pointer r1] w fun e w' => ∃ v, e = .returned v ∧ R v w' :=
  Q08 follows (H := [(0, [0, 3], [(4, (.one .slice)), (5, (.one (.int .i64)))])]) (args := [.pointer r1]) (cast (by kernel_rfl) h)

def rRead5.M (a9 : Option Addr) (ad ac : Nat) (R : RW) (w : World) : Prop :=
 thenW (w.alloc (.cells #[.slice a9 ad ac, .int .i64 0] 83)) fun aa =>
 Calls Try.prog 67 #[.pointer (some (blk w.heap.size))] aa fun ae a8 => ∃ (a1 : Option Addr) (a0 a2 : Nat), ae = .returned (.slice a1 a0 a2) ∧
 Calls Try.prog 46 #[.pointer (some (blk w.heap.size))] a8 fun ab a7 => ∃ (a4 : Int), ab = .returned (.int .i64 a4) ∧
 bif a4 != 0 then (
 R (.tuple #[.slice none 0 0, .int .i64 a4]) a7) else (
 Calls Try.prog 51 #[.slice a1 a0 a2] a7 fun a6 a5 => ∃ (a3 : Bool), a6 = .returned (.bool a3) ∧
 bif !a3 then (
 R (.tuple #[.slice none 0 0, .int .i64 4]) a5) else (
 R (.tuple #[.slice a1 a0 a2, .int .i64 0]) a5))

theorem rRead5.ok (a1 : Option Addr) (a0 a2 : Nat) {R : RW} {w : World} (h : rRead5.M a1 a0 a2 R w) : Calls Try.prog 48 #[.slice a1 a0 a2] w fun e w' => ∃ v, e = .returned v ∧ R v w' :=
  Q08 follows (H := []) (args := [.slice a1 a0 a2]) (cast (by kernel_rfl) h)

def takeF : Nat → List Hd → List UInt8 × Int → List Hd × (List UInt8 × Int)
  | 0, hs, s => (hs, s)
  | n + 1, hs, s =>
    if s.2 = 0 then takeF n (hs ++ [(((countR 7 s).1 : Int), (((countR 200 (countR 7 s).2).1 : Int), ((numR (countR 200 (countR 7 s).2).2).1 : Int)))]) (numR (countR 200 (countR 7 s).2).2).2 else (hs, s)
theorem Q3s {s : List UInt8 × Int} (h : s.2 ≠ 0) : numR s = (0, s) := by unfold numR; rw [if_neg h]
theorem Q2F {s : List UInt8 × Int} {m : Int} (h : s.2 ≠ 0) : countR m s = (0, s) := by
  unfold countR; rw [Q3s h, if_neg h]
theorem Q2S : ∀ (n : Nat) (hs : List Hd) (s : List UInt8 × Int), s.2 ≠ 0 → (readF n hs s).2 = s
  | 0, hs, s, h => rfl
  | n + 1, hs, s, h => by
    simp only [readF]
    rw [Q2F h]
    simp only []
    rw [Q2F h]
    simp only []
    rw [Q3s h]
    exact Q2S n _ s h
theorem Q3O : ∀ (n : Nat) (hs : List Hd) (s : List UInt8 × Int), ((readF n hs s).2.2 = 0 → takeF n hs s = readF n hs s) ∧ ((readF n hs s).2.2 ≠ 0 → (takeF n hs s).2.2 = (readF n hs s).2.2)
  | 0, hs, s => ⟨fun _ => rfl, fun _ => rfl⟩
  | n + 1, hs, s => by
    by_cases h : s.2 = 0
    · have ih := Q3O n (hs ++ [(((countR 7 s).1 : Int), (((countR 200 (countR 7 s).2).1 : Int), ((numR (countR 200 (countR 7 s).2).2).1 : Int)))]) (numR (countR 200 (countR 7 s).2).2).2
      simp only [takeF, readF]
      rw [if_pos h]
      exact ih
    · have hst := Q2S (n + 1) hs s h
      simp only [takeF]
      rw [if_neg h, hst]
      exact ⟨fun e => absurd e h, fun _ => rfl⟩
def takeAll (b : List UInt8) : List Hd × (List UInt8 × Int) := takeF (countR 8 (b, 0)).1 [] (countR 8 (b, 0)).2
def refV (b : List UInt8) : List Hd × Int :=
  if doneR (takeAll b).2 ≠ 0 then ([], doneR (takeAll b).2) else if rightV (takeAll b).1 then ((takeAll b).1, 0) else ([], 4)
theorem refV_eq (b : List UInt8) : refV b = readV b := by
  obtain ⟨h1, h2⟩ := Q3O (countR 8 (b, 0)).1 [] (countR 8 (b, 0)).2
  unfold refV readV takeAll readAll
  by_cases h : (readF (countR 8 (b, 0)).1 [] (countR 8 (b, 0)).2).2.2 = 0
  · rw [h1 h]
  · have h3 := h2 h
    have e1 : doneR (takeF (countR 8 (b, 0)).1 [] (countR 8 (b, 0)).2).2 = (readF (countR 8 (b, 0)).1 [] (countR 8 (b, 0)).2).2.2 := by unfold doneR; rw [h3, if_neg h]
    have e2 : doneR (readF (countR 8 (b, 0)).1 [] (countR 8 (b, 0)).2).2 = (readF (countR 8 (b, 0)).1 [] (countR 8 (b, 0)).2).2.2 := by unfold doneR; rw [if_neg h]
    rw [e1, e2, if_pos h, if_pos h]
section
variable {w w' : World} {a : Option Addr} {c : Nat} {p : Nat}
theorem Q24 {b : List UInt8} (hR4 : RdR w p b 0) (hl : b.length < 1000000) :
    Calls Try.prog 67 #[.pointer (some (blk p))] w (fun e w' => ∃ ra rc, e = .returned (.slice ra (takeAll b).1.length rc) ∧ OwnH (p + 1) w' ra rc (takeAll b).1 ∧ RdR w' p (takeAll b).2.1 (takeAll b).2.2 ∧ Ext (fun q => p ≤ q) w w' ∧ (takeAll b).1.length ≤ 8) := by
  refine (rTake5.ok _ (R := fun v w' => ∃ ra rc, v = .slice ra (takeAll b).1.length rc ∧ OwnH (p + 1) w' ra rc (takeAll b).1 ∧ RdR w' p (takeAll b).2.1 (takeAll b).2.2 ∧ Ext (fun q => p ≤ q) w w' ∧ (takeAll b).1.length ≤ 8) ?_).mono fun e w' ⟨v, he, ra, rc, hv, hw⟩ => ⟨ra, rc, by rw [he, hv], hw⟩
  unfold rTake5.M
  have up : ∀ {w1 w2 : World}, Ext (fun q => p ≤ q) w w1 → Ext (fun b => b = p) w1 w2 → Ext (fun q => p ≤ q) w w2 := fun h k => h.trans (k.mono fun q hq _ => by omega)
  refine (rCount_spec hR4 hl (m := 8) (by decide) (by decide)).mono fun e w7 ⟨he, hR7, x7'⟩ => ⟨_, he, ?_⟩
  have x7 := up (Ext.refl _ _) x7'
  have hn8 := Q2m 8 (b, 0) (by decide)
  have hcl : (countR 8 (b, 0)).2.1.length ≤ b.length := W.countR_len 8 (b, 0)
  refine ⟨fun k vs w1 => ∃ (t : Nat) (va : Option Addr) (vc : Nat) (l : List Hd) (s : List UInt8 × Int), vs = [.slice va l.length vc, .int .i64 t] ∧ k + t = (countR 8 (b, 0)).1 ∧ l.length = t ∧ RdR w1 p s.1 s.2 ∧ s.1.length ≤ b.length ∧ OwnH (p + 1) w1 va vc l ∧ (∀ ad, va = some ad → ad.block ≠ p) ∧ takeF k l s = takeAll b ∧ Ext (fun q => p ≤ q) w w1, (countR 8 (b, 0)).1,
    ⟨0, none, 0, [], (countR 8 (b, 0)).2, rfl, rfl, rfl, hR7, hcl, ⟨Q3y _ _ _, fun ad ha => by cases ha⟩, (fun ad ha => by cases ha), rfl, x7⟩, ?_⟩
  rintro k w12 v0 n0 c0 i ⟨t, va, vc, l, s, hvs, hk, hlt2, hR, hsl, hO, hOp, hF, hx⟩
  simp only [List.cons.injEq, Value.int.injEq, Value.slice.injEq, true_and, and_true] at hvs
  obtain ⟨⟨rfl, rfl, rfl⟩, rfl⟩ := hvs
  cases k with
  | zero =>
    rw [show decide ((t : Int) < ((countR 8 (b, 0)).1 : Int)) = false by simp; omega, cond_false]
    simp only [takeF] at hF
    rw [← hF]
    exact ⟨_, _, rfl, hO, hR, hx, by show l.length ≤ 8; omega⟩
  | succ k =>
    rw [show decide ((t : Int) < ((countR 8 (b, 0)).1 : Int)) = true by simp; omega, cond_true]
    obtain ⟨ar, cr, g1, _⟩ := id hR
    refine ⟨_, g1.cella (i := 1) rfl, ?_⟩
    simp only [takeF] at hF
    by_cases hs0 : s.2 = 0
    · rw [beq_iff_eq.2 hs0, cond_true]
      rw [if_pos hs0] at hF
      refine (rCount_spec hR (Nat.lt_of_le_of_lt hsl hl) (m := 7) (by decide) (by decide)).mono fun e w16 ⟨he, hR16, x16'⟩ => ⟨_, he, ?_⟩
      have l16 : (countR 7 (s.1, s.2)).2.1.length ≤ s.1.length := W.countR_len 7 (s.1, s.2)
      have hO16 := hO.ext x16' hOp
      refine (rCount_spec hR16 (Nat.lt_of_le_of_lt (Nat.le_trans l16 hsl) hl) (m := 200) (by decide) (by decide)).mono fun e w20 ⟨he, hR20, x20'⟩ => ⟨_, he, ?_⟩
      have l20 : (countR 200 (countR 7 (s.1, s.2)).2).2.1.length ≤ (countR 7 (s.1, s.2)).2.1.length := W.countR_len 200 (countR 7 (s.1, s.2)).2
      have hO20 := hO16.ext x20' hOp
      refine (rRNum_spec hR20 (Nat.lt_of_le_of_lt (Nat.le_trans l20 (Nat.le_trans l16 hsl)) hl)).mono fun e w24 ⟨he, hR24, x24'⟩ => ⟨_, he, ?_⟩
      have l24 : (numR (countR 200 (countR 7 (s.1, s.2)).2).2).2.1.length ≤ (countR 200 (countR 7 (s.1, s.2)).2).2.1.length := W.numR_len (countR 200 (countR 7 (s.1, s.2)).2).2
      have hO24 := hO20.ext x24' hOp
      have x24 := up (up (up hx x16') x20') x24'
      refine Q02 fun w29 h29 => ?_
      have x29' : Ext no w24 w29 := by subst h29; exact (Ext.refl _ _).alloc _
      have hb29 : Blk w29 w24.heap.size 66 (hdC ((countR 7 (s.1, s.2)).1, (countR 200 (countR 7 (s.1, s.2)).2).1, (numR (countR 200 (countR 7 (s.1, s.2)).2).2).1)) := by subst h29; exact Blk.new _ _ _
      have hpl : p < w24.heap.size := RdR.lt hR24
      obtain ⟨a', c', w31, hrun, hO31, x31', hblk⟩ := (hO24.ext x29' (fun _ _ h => h)).push (ty := 28) Try.underlying28 (by have := x29'.size; omega) (by omega) (RowAt.of_blk hb29)
      have hsz := x29'.size
      have hR31 := RdR.up (RdR.no hR24 x29') x31' fun q hq => by have := hq.1; omega
      refine ⟨a', _, c', w31, hrun, k, by omega, t + 1, a', c', _, (numR (countR 200 (countR 7 (s.1, s.2)).2).2).2, ?_, by omega, ?_, hR31, by omega, hO31, fun ad ha => ?_, hF, (x24.trans x29'.none).trans (x31'.mono fun q hq _ => by have := hq.1; omega)⟩
      · rw [w64 (by omega) (by omega), List.length_append]; rfl
      · rw [List.length_append]; simp; omega
      · rcases hblk ad ha with ⟨b0, hb0, e0⟩ | h
        · rw [e0]; exact hOp b0 hb0
        · omega
    · rw [beq_eq_false_iff_ne.2 hs0, cond_false]
      rw [if_neg hs0] at hF
      rw [← hF]
      exact ⟨_, _, rfl, hO, hR, hx, by show l.length ≤ 8; omega⟩
theorem rRead_spec {b : List UInt8} (hr : RowAt w a (bytesV b)) (hc : b.length ≤ c) (hl : b.length < 1000000) :
    Calls Try.prog 48 #[.slice a b.length c] w (fun e w' => ∃ ra rc, e = .returned (.tuple #[.slice ra (readV b).1.length rc, .int .i64 (readV b).2]) ∧ OwnH w.heap.size w' ra rc (readV b).1 ∧ Ext no w w') := by
  rw [← refV_eq]
  refine (rRead5.ok _ _ _ (R := fun v w' => ∃ ra rc, v = .tuple #[.slice ra (refV b).1.length rc, .int .i64 (refV b).2] ∧ OwnH w.heap.size w' ra rc (refV b).1 ∧ Ext no w w') ?_).mono fun e w' ⟨v, he, ra, rc, hv, hw⟩ => ⟨ra, rc, by rw [he, hv], hw⟩
  unfold rRead5.M
  refine Q02 fun w2 h2 => ?_
  have x2 : Ext no w w2 := by subst h2; exact (Ext.refl _ _).alloc _
  have hb2 : Blk w2 w.heap.size 83 [.slice a b.length c, .int .i64 0] := by subst h2; exact Blk.new _ _ _
  have hR2 : RdR w2 w.heap.size b 0 := ⟨a, c, hb2, hc, hr.no x2, fun h0 ad ha => hr.lt h0 ha⟩
  refine (Q24 hR2 hl).mono fun e w5 ⟨ra, rc, he, hO, hR5, x5', hl8⟩ => ⟨ra, _, rc, he, ?_⟩
  have x5 : Ext no w w5 := x2.then x5' fun q hq => .inr hq
  have nilH : ∀ w1, OwnH w.heap.size w1 none 0 [] := fun w1 => ⟨Q3y _ _ _, fun ad ha => by cases ha⟩
  refine (rDone_spec hR5).mono fun e w8 ⟨he, hw⟩ => ⟨_, he, ?_⟩
  subst hw
  unfold refV
  by_cases hd : doneR ((takeAll b).2.1, (takeAll b).2.2) ≠ 0
  · rw [show (doneR ((takeAll b).2.1, (takeAll b).2.2) != 0) = true by simpa using hd, cond_true, if_pos hd]
    exact ⟨none, 0, rfl, nilH _, x5⟩
  · rw [show (doneR ((takeAll b).2.1, (takeAll b).2.2) != 0) = false by simpa using hd, cond_false, if_neg hd]
    refine (Q1N hO.row (by omega)).mono fun e w38 ⟨he, x38⟩ => ⟨_, he, ?_⟩
    by_cases hri : rightV (takeAll b).1 = true
    · rw [hri, Bool.not_true, cond_false, if_pos rfl]
      exact ⟨_, _, rfl, (hO.ext x38 (fun _ _ h => h)).mono (by omega), x5.trans x38⟩
    · rw [show rightV (takeAll b).1 = false by simpa using hri, Bool.not_false, cond_true, if_neg (by decide)]
      exact ⟨none, 0, rfl, nilH _, x5.trans x38⟩
end
end V5
end Go.Proofs.Ytoempemllkebkaa
