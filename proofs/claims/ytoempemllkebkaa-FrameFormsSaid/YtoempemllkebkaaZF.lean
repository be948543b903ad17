/- The reference's reader of numbers and of vectors, in a name space of its own. -/
import Derived.Test.YtoempemllkebkaaZD
set_option linter.unusedVariables false
set_option linter.unusedSimpArgs false
set_option maxRecDepth 20000
namespace Go.Proofs.Ytoempemllkebkaa
namespace V5
open Go Go.Mx Go.Proofs
open W (OwnB Rd GivesW numR countR doneR)
def rRNum.M (r1 : Option Addr) (R : RW) (w : World) : Prop :=
 r1.elim False fun a2 =>
 ∃ (iz : Int), w.cell? (a2.add 1) = some (.int .i64 iz) ∧
 bif iz != 0 then (
 R (.int .u64 0) w) else (
 ∃ (I0 : Nat → List Value → World → Prop) (m5 : Nat), I0 m5 [.int .i64 0] w ∧ ∀ (m6 : Nat) (a0 : World) (n4 : Int), I0 m6 [.int .i64 n4] a0 →
 r1.elim False fun a8 =>
 ∃ (k8 : Option Addr) (j8 k0 : Nat), a0.cell? (a8.add 0) = some (.slice k8 j8 k0) ∧
 bif decide (n4 < (j8 : Int)) then (
 bif decide (n4 < 10) then (
 r1.elim False fun ka =>
 ∃ (db : Option Addr) (el gn : Nat), a0.cell? (ka.add 0) = some (.slice db el gn) ∧
 db.elim False fun k6 =>
 0 ≤ (n4 : Int) ∧ (n4 : Int) < (el : Int) ∧
 ∃ (jh : Int), a0.cell? (k6.add (Int.toNat n4 * 1)) = some (.int .u8 jh) ∧
 bif decide (jh ≥ 128) then (
 ∃ jf, jf < m6 ∧ I0 jf [.int .i64 (IntKind.i64.wrap (n4 + 1))] a0) else (
 r1.elim False fun jy =>
 ∃ (g0 : Option Addr) (ez gi : Nat), a0.cell? (jy.add 0) = some (.slice g0 ez gi) ∧
 bif decide (n4 ≥ (ez : Int)) then (
 Calls Try.prog 65 #[.pointer r1, .int .i64 4] a0 fun g2 i1 => g2 = .returned (.tuple #[]) ∧
 R (.int .u64 0) i1) else (
 bif decide (n4 ≥ 10) then (
 Calls Try.prog 65 #[.pointer r1, .int .i64 4] a0 fun g9 ic => g9 = .returned (.tuple #[]) ∧
 R (.int .u64 0) ic) else (
 bif n4 == 9 then (
 r1.elim False fun k1 =>
 ∃ (eb : Option Addr) (dl iv : Nat), a0.cell? (k1.add 0) = some (.slice eb dl iv) ∧
 eb.elim False fun jv =>
 0 ≤ (n4 : Int) ∧ (n4 : Int) < (dl : Int) ∧
 ∃ (j1 : Int), a0.cell? (jv.add (Int.toNat n4 * 1)) = some (.int .u8 j1) ∧
 bif j1 != 1 then (
 Calls Try.prog 65 #[.pointer r1, .int .i64 4] a0 fun gf gm => gf = .returned (.tuple #[]) ∧
 R (.int .u64 0) gm) else (
 bif decide (n4 > 0) then (
 r1.elim False fun k5 =>
 ∃ (f7 : Option Addr) (cz ih : Nat), a0.cell? (k5.add 0) = some (.slice f7 cz ih) ∧
 f7.elim False fun jk =>
 0 ≤ (n4 : Int) ∧ (n4 : Int) < (cz : Int) ∧
 ∃ (j7 : Int), a0.cell? (jk.add (Int.toNat n4 * 1)) = some (.int .u8 j7) ∧
 bif j7 == 0 then (
 Calls Try.prog 65 #[.pointer r1, .int .i64 4] a0 fun gw ft => gw = .returned (.tuple #[]) ∧
 R (.int .u64 0) ft) else (
 ∃ (I2 : Nat → List Value → World → Prop) (jq : Nat), I2 jq [.int .u64 0, .int .i64 n4] a0 ∧ ∀ (j2 : Nat) (aq : World) (am cw : Int), I2 j2 [.int .u64 am, .int .i64 cw] aq →
 bif decide (cw ≥ 0) then (
 r1.elim False fun jw =>
 ∃ (dk : Option Addr) (d2 gp : Nat), aq.cell? (jw.add 0) = some (.slice dk d2 gp) ∧
 dk.elim False fun ju =>
 0 ≤ (cw : Int) ∧ (cw : Int) < (d2 : Int) ∧
 ∃ (iy : Int), aq.cell? (ju.add (Int.toNat cw * 1)) = some (.int .u8 iy) ∧
 128 ≠ (0 : Int) ∧ ∃ jc, jc < j2 ∧ I2 jc [.int .u64 (IntKind.u64.wrap ((IntKind.u64.wrap (am * 128)) + (IntKind.u64.wrap (Int.tmod iy 128)))), .int .i64 (IntKind.i64.wrap (cw - 1))] aq) else (
 r1.elim False fun jn =>
 ∃ (cn : Option Addr) (ck cl : Nat), aq.cell? (jn.add 0) = some (.slice cn ck cl) ∧
 (0 : Int) ≤ ((IntKind.i64.wrap (n4 + 1)) : Int) ∧ ((IntKind.i64.wrap (n4 + 1)) : Int) ≤ (ck : Int) ∧
 r1.elim False fun j6 =>
 Q01 aq ((j6.add 0).add 0) ∧
 thenW (aq.setCell ((j6.add 0).add 0) (.slice (if cl = Int.toNat (IntKind.i64.wrap (n4 + 1)) then cn else Option.map (fun z : Addr => z.add ((Int.toNat (IntKind.i64.wrap (n4 + 1))) * 1)) cn) (ck - (Int.toNat (IntKind.i64.wrap (n4 + 1)))) (cl - (Int.toNat (IntKind.i64.wrap (n4 + 1)))))) fun g6 =>
 R (.int .u64 am) g6))) else (
 ∃ (I2 : Nat → List Value → World → Prop) (jx : Nat), I2 jx [.int .u64 0, .int .i64 n4] a0 ∧ ∀ (ji : Nat) (an : World) (ao cx : Int), I2 ji [.int .u64 ao, .int .i64 cx] an →
 bif decide (cx ≥ 0) then (
 r1.elim False fun jp =>
 ∃ (ef : Option Addr) (d4 i5 : Nat), an.cell? (jp.add 0) = some (.slice ef d4 i5) ∧
 ef.elim False fun jt =>
 0 ≤ (cx : Int) ∧ (cx : Int) < (d4 : Int) ∧
 ∃ (j3 : Int), an.cell? (jt.add (Int.toNat cx * 1)) = some (.int .u8 j3) ∧
 128 ≠ (0 : Int) ∧ ∃ jb, jb < ji ∧ I2 jb [.int .u64 (IntKind.u64.wrap ((IntKind.u64.wrap (ao * 128)) + (IntKind.u64.wrap (Int.tmod j3 128)))), .int .i64 (IntKind.i64.wrap (cx - 1))] an) else (
 r1.elim False fun k7 =>
 ∃ (cs : Option Addr) (ct cp : Nat), an.cell? (k7.add 0) = some (.slice cs ct cp) ∧
 (0 : Int) ≤ ((IntKind.i64.wrap (n4 + 1)) : Int) ∧ ((IntKind.i64.wrap (n4 + 1)) : Int) ≤ (ct : Int) ∧
 r1.elim False fun je =>
 Q01 an ((je.add 0).add 0) ∧
 thenW (an.setCell ((je.add 0).add 0) (.slice (if cp = Int.toNat (IntKind.i64.wrap (n4 + 1)) then cs else Option.map (fun z : Addr => z.add ((Int.toNat (IntKind.i64.wrap (n4 + 1))) * 1)) cs) (ct - (Int.toNat (IntKind.i64.wrap (n4 + 1)))) (cp - (Int.toNat (IntKind.i64.wrap (n4 + 1)))))) fun fs =>
 R (.int .u64 ao) fs)))) else (
 bif decide (n4 > 0) then (
 r1.elim False fun js =>
 ∃ (eh : Option Addr) (f8 gv : Nat), a0.cell? (js.add 0) = some (.slice eh f8 gv) ∧
 eh.elim False fun k3 =>
 0 ≤ (n4 : Int) ∧ (n4 : Int) < (f8 : Int) ∧
 ∃ (ix : Int), a0.cell? (k3.add (Int.toNat n4 * 1)) = some (.int .u8 ix) ∧
 bif ix == 0 then (
 Calls Try.prog 65 #[.pointer r1, .int .i64 4] a0 fun iq gd => iq = .returned (.tuple #[]) ∧
 R (.int .u64 0) gd) else (
 ∃ (I2 : Nat → List Value → World → Prop) (k4 : Nat), I2 k4 [.int .u64 0, .int .i64 n4] a0 ∧ ∀ (jj : Nat) (ak : World) (aj cv : Int), I2 jj [.int .u64 aj, .int .i64 cv] ak →
 bif decide (cv ≥ 0) then (
 r1.elim False fun jz =>
 ∃ (dt : Option Addr) (eq im : Nat), ak.cell? (jz.add 0) = some (.slice dt eq im) ∧
 dt.elim False fun jo =>
 0 ≤ (cv : Int) ∧ (cv : Int) < (eq : Int) ∧
 ∃ (jg : Int), ak.cell? (jo.add (Int.toNat cv * 1)) = some (.int .u8 jg) ∧
 128 ≠ (0 : Int) ∧ ∃ j5, j5 < jj ∧ I2 j5 [.int .u64 (IntKind.u64.wrap ((IntKind.u64.wrap (aj * 128)) + (IntKind.u64.wrap (Int.tmod jg 128)))), .int .i64 (IntKind.i64.wrap (cv - 1))] ak) else (
 r1.elim False fun jr =>
 ∃ (cu : Option Addr) (cm cq : Nat), ak.cell? (jr.add 0) = some (.slice cu cm cq) ∧
 (0 : Int) ≤ ((IntKind.i64.wrap (n4 + 1)) : Int) ∧ ((IntKind.i64.wrap (n4 + 1)) : Int) ≤ (cm : Int) ∧
 r1.elim False fun j4 =>
 Q01 ak ((j4.add 0).add 0) ∧
 thenW (ak.setCell ((j4.add 0).add 0) (.slice (if cq = Int.toNat (IntKind.i64.wrap (n4 + 1)) then cu else Option.map (fun z : Addr => z.add ((Int.toNat (IntKind.i64.wrap (n4 + 1))) * 1)) cu) (cm - (Int.toNat (IntKind.i64.wrap (n4 + 1)))) (cq - (Int.toNat (IntKind.i64.wrap (n4 + 1)))))) fun ie =>
 R (.int .u64 aj) ie))) else (
 ∃ (I2 : Nat → List Value → World → Prop) (k9 : Nat), I2 k9 [.int .u64 0, .int .i64 n4] a0 ∧ ∀ (j0 : Nat) (al : World) (ap cy : Int), I2 j0 [.int .u64 ap, .int .i64 cy] al →
 bif decide (cy ≥ 0) then (
 r1.elim False fun jl =>
 ∃ (df : Option Addr) (f9 fx : Nat), al.cell? (jl.add 0) = some (.slice df f9 fx) ∧
 df.elim False fun jm =>
 0 ≤ (cy : Int) ∧ (cy : Int) < (f9 : Int) ∧
 ∃ (j9 : Int), al.cell? (jm.add (Int.toNat cy * 1)) = some (.int .u8 j9) ∧
 128 ≠ (0 : Int) ∧ ∃ ja, ja < j0 ∧ I2 ja [.int .u64 (IntKind.u64.wrap ((IntKind.u64.wrap (ap * 128)) + (IntKind.u64.wrap (Int.tmod j9 128)))), .int .i64 (IntKind.i64.wrap (cy - 1))] al) else (
 r1.elim False fun k2 =>
 ∃ (co : Option Addr) (cr cj : Nat), al.cell? (k2.add 0) = some (.slice co cr cj) ∧
 (0 : Int) ≤ ((IntKind.i64.wrap (n4 + 1)) : Int) ∧ ((IntKind.i64.wrap (n4 + 1)) : Int) ≤ (cr : Int) ∧
 r1.elim False fun jd =>
 Q01 al ((jd.add 0).add 0) ∧
 thenW (al.setCell ((jd.add 0).add 0) (.slice (if cj = Int.toNat (IntKind.i64.wrap (n4 + 1)) then co else Option.map (fun z : Addr => z.add ((Int.toNat (IntKind.i64.wrap (n4 + 1))) * 1)) co) (cr - (Int.toNat (IntKind.i64.wrap (n4 + 1)))) (cj - (Int.toNat (IntKind.i64.wrap (n4 + 1)))))) fun fz =>
 R (.int .u64 ap) fz))))))) else (
 r1.elim False fun kb =>
 ∃ (i0 : Option Addr) (f6 i3 : Nat), a0.cell? (kb.add 0) = some (.slice i0 f6 i3) ∧
 bif decide (n4 ≥ (f6 : Int)) then (
 Calls Try.prog 65 #[.pointer r1, .int .i64 4] a0 fun g3 i6 => g3 = .returned (.tuple #[]) ∧
 R (.int .u64 0) i6) else (
 bif decide (n4 ≥ 10) then (
 Calls Try.prog 65 #[.pointer r1, .int .i64 4] a0 fun g8 dm => g8 = .returned (.tuple #[]) ∧
 R (.int .u64 0) dm) else (
 bif n4 == 9 then (
 r1.elim False fun g4 =>
 ∃ (bx : Option Addr) (cd dz : Nat), a0.cell? (g4.add 0) = some (.slice bx cd dz) ∧
 bx.elim False fun gz =>
 0 ≤ (n4 : Int) ∧ (n4 : Int) < (cd : Int) ∧
 ∃ (fo : Int), a0.cell? (gz.add (Int.toNat n4 * 1)) = some (.int .u8 fo) ∧
 bif fo != 1 then (
 Calls Try.prog 65 #[.pointer r1, .int .i64 4] a0 fun dv ed => dv = .returned (.tuple #[]) ∧
 R (.int .u64 0) ed) else (
 bif decide (n4 > 0) then (
 r1.elim False fun gq =>
 ∃ (cg : Option Addr) (bq d5 : Nat), a0.cell? (gq.add 0) = some (.slice cg bq d5) ∧
 cg.elim False fun ii =>
 0 ≤ (n4 : Int) ∧ (n4 : Int) < (bq : Int) ∧
 ∃ (f3 : Int), a0.cell? (ii.add (Int.toNat n4 * 1)) = some (.int .u8 f3) ∧
 bif f3 == 0 then (
 Calls Try.prog 65 #[.pointer r1, .int .i64 4] a0 fun fl d1 => fl = .returned (.tuple #[]) ∧
 R (.int .u64 0) d1) else (
 ∃ (I2 : Nat → List Value → World → Prop) (gk : Nat), I2 gk [.int .u64 0, .int .i64 n4] a0 ∧ ∀ (dr : Nat) (a4 : World) (ab ay : Int), I2 dr [.int .u64 ab, .int .i64 ay] a4 →
 bif decide (ay ≥ 0) then (
 r1.elim False fun gt =>
 ∃ (bu : Option Addr) (c7 fh : Nat), a4.cell? (gt.add 0) = some (.slice bu c7 fh) ∧
 bu.elim False fun i2 =>
 0 ≤ (ay : Int) ∧ (ay : Int) < (c7 : Int) ∧
 ∃ (dg : Int), a4.cell? (i2.add (Int.toNat ay * 1)) = some (.int .u8 dg) ∧
 128 ≠ (0 : Int) ∧ ∃ da, da < dr ∧ I2 da [.int .u64 (IntKind.u64.wrap ((IntKind.u64.wrap (ab * 128)) + (IntKind.u64.wrap (Int.tmod dg 128)))), .int .i64 (IntKind.i64.wrap (ay - 1))] a4) else (
 r1.elim False fun i8 =>
 ∃ (bf : Option Addr) (b7 bh : Nat), a4.cell? (i8.add 0) = some (.slice bf b7 bh) ∧
 (0 : Int) ≤ ((IntKind.i64.wrap (n4 + 1)) : Int) ∧ ((IntKind.i64.wrap (n4 + 1)) : Int) ≤ (b7 : Int) ∧
 r1.elim False fun f2 =>
 Q01 a4 ((f2.add 0).add 0) ∧
 thenW (a4.setCell ((f2.add 0).add 0) (.slice (if bh = Int.toNat (IntKind.i64.wrap (n4 + 1)) then bf else Option.map (fun z : Addr => z.add ((Int.toNat (IntKind.i64.wrap (n4 + 1))) * 1)) bf) (b7 - (Int.toNat (IntKind.i64.wrap (n4 + 1)))) (bh - (Int.toNat (IntKind.i64.wrap (n4 + 1)))))) fun dj =>
 R (.int .u64 ab) dj))) else (
 ∃ (I2 : Nat → List Value → World → Prop) (it : Nat), I2 it [.int .u64 0, .int .i64 n4] a0 ∧ ∀ (fe : Nat) (a1 : World) (ac av : Int), I2 fe [.int .u64 ac, .int .i64 av] a1 →
 bif decide (av ≥ 0) then (
 r1.elim False fun ir =>
 ∃ (cf : Option Addr) (bt fk : Nat), a1.cell? (ir.add 0) = some (.slice cf bt fk) ∧
 cf.elim False fun gj =>
 0 ≤ (av : Int) ∧ (av : Int) < (bt : Int) ∧
 ∃ (fc : Int), a1.cell? (gj.add (Int.toNat av * 1)) = some (.int .u8 fc) ∧
 128 ≠ (0 : Int) ∧ ∃ ep, ep < fe ∧ I2 ep [.int .u64 (IntKind.u64.wrap ((IntKind.u64.wrap (ac * 128)) + (IntKind.u64.wrap (Int.tmod fc 128)))), .int .i64 (IntKind.i64.wrap (av - 1))] a1) else (
 r1.elim False fun gs =>
 ∃ (bo : Option Addr) (bc bg : Nat), a1.cell? (gs.add 0) = some (.slice bo bc bg) ∧
 (0 : Int) ≤ ((IntKind.i64.wrap (n4 + 1)) : Int) ∧ ((IntKind.i64.wrap (n4 + 1)) : Int) ≤ (bc : Int) ∧
 r1.elim False fun e1 =>
 Q01 a1 ((e1.add 0).add 0) ∧
 thenW (a1.setCell ((e1.add 0).add 0) (.slice (if bg = Int.toNat (IntKind.i64.wrap (n4 + 1)) then bo else Option.map (fun z : Addr => z.add ((Int.toNat (IntKind.i64.wrap (n4 + 1))) * 1)) bo) (bc - (Int.toNat (IntKind.i64.wrap (n4 + 1)))) (bg - (Int.toNat (IntKind.i64.wrap (n4 + 1)))))) fun ex =>
 R (.int .u64 ac) ex)))) else (
 bif decide (n4 > 0) then (
 r1.elim False fun iw =>
 ∃ (c3 : Option Addr) (c5 em : Nat), a0.cell? (iw.add 0) = some (.slice c3 c5 em) ∧
 c3.elim False fun gl =>
 0 ≤ (n4 : Int) ∧ (n4 : Int) < (c5 : Int) ∧
 ∃ (e2 : Int), a0.cell? (gl.add (Int.toNat n4 * 1)) = some (.int .u8 e2) ∧
 bif e2 == 0 then (
 Calls Try.prog 65 #[.pointer r1, .int .i64 4] a0 fun dp eo => dp = .returned (.tuple #[]) ∧
 R (.int .u64 0) eo) else (
 ∃ (I2 : Nat → List Value → World → Prop) (fy : Nat), I2 fy [.int .u64 0, .int .i64 n4] a0 ∧ ∀ (e6 : Nat) (a3 : World) (ad au : Int), I2 e6 [.int .u64 ad, .int .i64 au] a3 →
 bif decide (au ≥ 0) then (
 r1.elim False fun i7 =>
 ∃ (c9 : Option Addr) (bp fd : Nat), a3.cell? (i7.add 0) = some (.slice c9 bp fd) ∧
 c9.elim False fun ip =>
 0 ≤ (au : Int) ∧ (au : Int) < (bp : Int) ∧
 ∃ (di : Int), a3.cell? (ip.add (Int.toNat au * 1)) = some (.int .u8 di) ∧
 128 ≠ (0 : Int) ∧ ∃ d0, d0 < e6 ∧ I2 d0 [.int .u64 (IntKind.u64.wrap ((IntKind.u64.wrap (ad * 128)) + (IntKind.u64.wrap (Int.tmod di 128)))), .int .i64 (IntKind.i64.wrap (au - 1))] a3) else (
 r1.elim False fun gx =>
 ∃ (b5 : Option Addr) (bb bd : Nat), a3.cell? (gx.add 0) = some (.slice b5 bb bd) ∧
 (0 : Int) ≤ ((IntKind.i64.wrap (n4 + 1)) : Int) ∧ ((IntKind.i64.wrap (n4 + 1)) : Int) ≤ (bb : Int) ∧
 r1.elim False fun dc =>
 Q01 a3 ((dc.add 0).add 0) ∧
 thenW (a3.setCell ((dc.add 0).add 0) (.slice (if bd = Int.toNat (IntKind.i64.wrap (n4 + 1)) then b5 else Option.map (fun z : Addr => z.add ((Int.toNat (IntKind.i64.wrap (n4 + 1))) * 1)) b5) (bb - (Int.toNat (IntKind.i64.wrap (n4 + 1)))) (bd - (Int.toNat (IntKind.i64.wrap (n4 + 1)))))) fun de =>
 R (.int .u64 ad) de))) else (
 ∃ (I2 : Nat → List Value → World → Prop) (ge : Nat), I2 ge [.int .u64 0, .int .i64 n4] a0 ∧ ∀ (d9 : Nat) (a6 : World) (ag ax : Int), I2 d9 [.int .u64 ag, .int .i64 ax] a6 →
 bif decide (ax ≥ 0) then (
 r1.elim False fun fq =>
 ∃ (c6 : Option Addr) (cb e8 : Nat), a6.cell? (fq.add 0) = some (.slice c6 cb e8) ∧
 c6.elim False fun gh =>
 0 ≤ (ax : Int) ∧ (ax : Int) < (cb : Int) ∧
 ∃ (fp : Int), a6.cell? (gh.add (Int.toNat ax * 1)) = some (.int .u8 fp) ∧
 128 ≠ (0 : Int) ∧ ∃ es, es < d9 ∧ I2 es [.int .u64 (IntKind.u64.wrap ((IntKind.u64.wrap (ag * 128)) + (IntKind.u64.wrap (Int.tmod fp 128)))), .int .i64 (IntKind.i64.wrap (ax - 1))] a6) else (
 r1.elim False fun gg =>
 ∃ (bj : Option Addr) (ba b1 : Nat), a6.cell? (gg.add 0) = some (.slice bj ba b1) ∧
 (0 : Int) ≤ ((IntKind.i64.wrap (n4 + 1)) : Int) ∧ ((IntKind.i64.wrap (n4 + 1)) : Int) ≤ (ba : Int) ∧
 r1.elim False fun e7 =>
 Q01 a6 ((e7.add 0).add 0) ∧
 thenW (a6.setCell ((e7.add 0).add 0) (.slice (if b1 = Int.toNat (IntKind.i64.wrap (n4 + 1)) then bj else Option.map (fun z : Addr => z.add ((Int.toNat (IntKind.i64.wrap (n4 + 1))) * 1)) bj) (ba - (Int.toNat (IntKind.i64.wrap (n4 + 1)))) (b1 - (Int.toNat (IntKind.i64.wrap (n4 + 1)))))) fun e9 =>
 R (.int .u64 ag) e9))))))) else (
 r1.elim False fun ga =>
 ∃ (fi : Option Addr) (ch ds : Nat), a0.cell? (ga.add 0) = some (.slice fi ch ds) ∧
 bif decide (n4 ≥ (ch : Int)) then (
 Calls Try.prog 65 #[.pointer r1, .int .i64 4] a0 fun ey dd => ey = .returned (.tuple #[]) ∧
 R (.int .u64 0) dd) else (
 bif decide (n4 ≥ 10) then (
 Calls Try.prog 65 #[.pointer r1, .int .i64 4] a0 fun fm ec => fm = .returned (.tuple #[]) ∧
 R (.int .u64 0) ec) else (
 bif n4 == 9 then (
 r1.elim False fun ik =>
 ∃ (cc : Option Addr) (ca fj : Nat), a0.cell? (ik.add 0) = some (.slice cc ca fj) ∧
 cc.elim False fun gu =>
 0 ≤ (n4 : Int) ∧ (n4 : Int) < (ca : Int) ∧
 ∃ (dn : Int), a0.cell? (gu.add (Int.toNat n4 * 1)) = some (.int .u8 dn) ∧
 bif dn != 1 then (
 Calls Try.prog 65 #[.pointer r1, .int .i64 4] a0 fun e4 er => e4 = .returned (.tuple #[]) ∧
 R (.int .u64 0) er) else (
 bif decide (n4 > 0) then (
 r1.elim False fun i9 =>
 ∃ (c8 : Option Addr) (bw d3 : Nat), a0.cell? (i9.add 0) = some (.slice c8 bw d3) ∧
 c8.elim False fun ia =>
 0 ≤ (n4 : Int) ∧ (n4 : Int) < (bw : Int) ∧
 ∃ (dh : Int), a0.cell? (ia.add (Int.toNat n4 * 1)) = some (.int .u8 dh) ∧
 bif dh == 0 then (
 Calls Try.prog 65 #[.pointer r1, .int .i64 4] a0 fun du e3 => du = .returned (.tuple #[]) ∧
 R (.int .u64 0) e3) else (
 ∃ (I2 : Nat → List Value → World → Prop) (gb : Nat), I2 gb [.int .u64 0, .int .i64 n4] a0 ∧ ∀ (e0 : Nat) (aa : World) (af aw : Int), I2 e0 [.int .u64 af, .int .i64 aw] aa →
 bif decide (aw ≥ 0) then (
 r1.elim False fun gy =>
 ∃ (bs : Option Addr) (bv ev : Nat), aa.cell? (gy.add 0) = some (.slice bs bv ev) ∧
 bs.elim False fun ij =>
 0 ≤ (aw : Int) ∧ (aw : Int) < (bv : Int) ∧
 ∃ (ee : Int), aa.cell? (ij.add (Int.toNat aw * 1)) = some (.int .u8 ee) ∧
 128 ≠ (0 : Int) ∧ ∃ e5, e5 < e0 ∧ I2 e5 [.int .u64 (IntKind.u64.wrap ((IntKind.u64.wrap (af * 128)) + (IntKind.u64.wrap (Int.tmod ee 128)))), .int .i64 (IntKind.i64.wrap (aw - 1))] aa) else (
 r1.elim False fun fu =>
 ∃ (b4 : Option Addr) (b8 bl : Nat), aa.cell? (fu.add 0) = some (.slice b4 b8 bl) ∧
 (0 : Int) ≤ ((IntKind.i64.wrap (n4 + 1)) : Int) ∧ ((IntKind.i64.wrap (n4 + 1)) : Int) ≤ (b8 : Int) ∧
 r1.elim False fun dx =>
 Q01 aa ((dx.add 0).add 0) ∧
 thenW (aa.setCell ((dx.add 0).add 0) (.slice (if bl = Int.toNat (IntKind.i64.wrap (n4 + 1)) then b4 else Option.map (fun z : Addr => z.add ((Int.toNat (IntKind.i64.wrap (n4 + 1))) * 1)) b4) (b8 - (Int.toNat (IntKind.i64.wrap (n4 + 1)))) (bl - (Int.toNat (IntKind.i64.wrap (n4 + 1)))))) fun ei =>
 R (.int .u64 af) ei))) else (
 ∃ (I2 : Nat → List Value → World → Prop) (g1 : Nat), I2 g1 [.int .u64 0, .int .i64 n4] a0 ∧ ∀ (en : Nat) (a5 : World) (ai b0 : Int), I2 en [.int .u64 ai, .int .i64 b0] a5 →
 bif decide (b0 ≥ 0) then (
 r1.elim False fun g5 =>
 ∃ (c1 : Option Addr) (ci ea : Nat), a5.cell? (g5.add 0) = some (.slice c1 ci ea) ∧
 c1.elim False fun io =>
 0 ≤ (b0 : Int) ∧ (b0 : Int) < (ci : Int) ∧
 ∃ (dw : Int), a5.cell? (io.add (Int.toNat b0 * 1)) = some (.int .u8 dw) ∧
 128 ≠ (0 : Int) ∧ ∃ dy, dy < en ∧ I2 dy [.int .u64 (IntKind.u64.wrap ((IntKind.u64.wrap (ai * 128)) + (IntKind.u64.wrap (Int.tmod dw 128)))), .int .i64 (IntKind.i64.wrap (b0 - 1))] a5) else (
 r1.elim False fun fv =>
 ∃ (b9 : Option Addr) (bi bm : Nat), a5.cell? (fv.add 0) = some (.slice b9 bi bm) ∧
 (0 : Int) ≤ ((IntKind.i64.wrap (n4 + 1)) : Int) ∧ ((IntKind.i64.wrap (n4 + 1)) : Int) ≤ (bi : Int) ∧
 r1.elim False fun dq =>
 Q01 a5 ((dq.add 0).add 0) ∧
 thenW (a5.setCell ((dq.add 0).add 0) (.slice (if bm = Int.toNat (IntKind.i64.wrap (n4 + 1)) then b9 else Option.map (fun z : Addr => z.add ((Int.toNat (IntKind.i64.wrap (n4 + 1))) * 1)) b9) (bi - (Int.toNat (IntKind.i64.wrap (n4 + 1)))) (bm - (Int.toNat (IntKind.i64.wrap (n4 + 1)))))) fun ff =>
 R (.int .u64 ai) ff)))) else (
 bif decide (n4 > 0) then (
 r1.elim False fun ib =>
 ∃ (br : Option Addr) (c4 f0 : Nat), a0.cell? (ib.add 0) = some (.slice br c4 f0) ∧
 br.elim False fun fr =>
 0 ≤ (n4 : Int) ∧ (n4 : Int) < (c4 : Int) ∧
 ∃ (fb : Int), a0.cell? (fr.add (Int.toNat n4 * 1)) = some (.int .u8 fb) ∧
 bif fb == 0 then (
 Calls Try.prog 65 #[.pointer r1, .int .i64 4] a0 fun f1 ew => f1 = .returned (.tuple #[]) ∧
 R (.int .u64 0) ew) else (
 ∃ (I2 : Nat → List Value → World → Prop) (i4 : Nat), I2 i4 [.int .u64 0, .int .i64 n4] a0 ∧ ∀ (eu : Nat) (a7 : World) (ah az : Int), I2 eu [.int .u64 ah, .int .i64 az] a7 →
 bif decide (az ≥ 0) then (
 r1.elim False fun g7 =>
 ∃ (bz : Option Addr) (c2 d6 : Nat), a7.cell? (g7.add 0) = some (.slice bz c2 d6) ∧
 bz.elim False fun ig =>
 0 ≤ (az : Int) ∧ (az : Int) < (c2 : Int) ∧
 ∃ (ek : Int), a7.cell? (ig.add (Int.toNat az * 1)) = some (.int .u8 ek) ∧
 128 ≠ (0 : Int) ∧ ∃ fa, fa < eu ∧ I2 fa [.int .u64 (IntKind.u64.wrap ((IntKind.u64.wrap (ah * 128)) + (IntKind.u64.wrap (Int.tmod ek 128)))), .int .i64 (IntKind.i64.wrap (az - 1))] a7) else (
 r1.elim False fun iu =>
 ∃ (b2 : Option Addr) (b6 bk : Nat), a7.cell? (iu.add 0) = some (.slice b2 b6 bk) ∧
 (0 : Int) ≤ ((IntKind.i64.wrap (n4 + 1)) : Int) ∧ ((IntKind.i64.wrap (n4 + 1)) : Int) ≤ (b6 : Int) ∧
 r1.elim False fun eg =>
 Q01 a7 ((eg.add 0).add 0) ∧
 thenW (a7.setCell ((eg.add 0).add 0) (.slice (if bk = Int.toNat (IntKind.i64.wrap (n4 + 1)) then b2 else Option.map (fun z : Addr => z.add ((Int.toNat (IntKind.i64.wrap (n4 + 1))) * 1)) b2) (b6 - (Int.toNat (IntKind.i64.wrap (n4 + 1)))) (bk - (Int.toNat (IntKind.i64.wrap (n4 + 1)))))) fun f4 =>
 R (.int .u64 ah) f4))) else (
 ∃ (I2 : Nat → List Value → World → Prop) (il : Nat), I2 il [.int .u64 0, .int .i64 n4] a0 ∧ ∀ (fg : Nat) (a9 : World) (ae ar : Int), I2 fg [.int .u64 ae, .int .i64 ar] a9 →
 bif decide (ar ≥ 0) then (
 r1.elim False fun fw =>
 ∃ (ce : Option Addr) (c0 d7 : Nat), a9.cell? (fw.add 0) = some (.slice ce c0 d7) ∧
 ce.elim False fun gr =>
 0 ≤ (ar : Int) ∧ (ar : Int) < (c0 : Int) ∧
 ∃ (et : Int), a9.cell? (gr.add (Int.toNat ar * 1)) = some (.int .u8 et) ∧
 128 ≠ (0 : Int) ∧ ∃ ej, ej < fg ∧ I2 ej [.int .u64 (IntKind.u64.wrap ((IntKind.u64.wrap (ae * 128)) + (IntKind.u64.wrap (Int.tmod et 128)))), .int .i64 (IntKind.i64.wrap (ar - 1))] a9) else (
 r1.elim False fun gc =>
 ∃ (be : Option Addr) (bn b3 : Nat), a9.cell? (gc.add 0) = some (.slice be bn b3) ∧
 (0 : Int) ≤ ((IntKind.i64.wrap (n4 + 1)) : Int) ∧ ((IntKind.i64.wrap (n4 + 1)) : Int) ≤ (bn : Int) ∧
 r1.elim False fun d8 =>
 Q01 a9 ((d8.add 0).add 0) ∧
 thenW (a9.setCell ((d8.add 0).add 0) (.slice (if b3 = Int.toNat (IntKind.i64.wrap (n4 + 1)) then be else Option.map (fun z : Addr => z.add ((Int.toNat (IntKind.i64.wrap (n4 + 1))) * 1)) be) (bn - (Int.toNat (IntKind.i64.wrap (n4 + 1)))) (b3 - (Int.toNat (IntKind.i64.wrap (n4 + 1)))))) fun f5 =>
 R (.int .u64 ae) f5)))))))

theorem rRNum.eq (r1 : Option Addr) (R : RW) (w : World) : mfunc Try.prog [(0, [0], [(3, (.one (.int .i64)))]), (2, [0, 3], [(4, (.one (.int .u64))), (5, (.one (.int .i64)))])] 45 [.pointer r1] R w = rRNum.M r1 R w := by kernel_rfl
theorem rRNum.ok (r1 : Option Addr) {R : RW} {w : World} (h : rRNum.M r1 R w) : Calls Try.prog 45 #[.pointer r1] w fun e w' => ∃ v, e = .returned v ∧ R v w' :=
  Q08 follows (H := [(0, [0], [(3, (.one (.int .i64)))]), (2, [0, 3], [(4, (.one (.int .u64))), (5, (.one (.int .i64)))])]) (args := [.pointer r1]) (by rw [rRNum.eq]; exact h)

def rRCount.M (r1 : Option Addr) (a1 : Int) (R : RW) (w : World) : Prop :=
 Calls Try.prog 45 #[.pointer r1] w fun a8 a2 => ∃ (a0 : Int), a8 = .returned (.int .u64 a0) ∧
 r1.elim False fun a6 =>
 ∃ (a5 : Int), a2.cell? (a6.add 1) = some (.int .i64 a5) ∧
 bif a5 == 0 then (
 bif decide (a1 < 0) then (
 Calls Try.prog 65 #[.pointer r1, .int .i64 3] a2 fun a9 a7 => a9 = .returned (.tuple #[]) ∧
 R (.int .i64 0) a7) else (
 bif decide (a0 > (IntKind.u64.wrap a1)) then (
 Calls Try.prog 65 #[.pointer r1, .int .i64 3] a2 fun a4 a3 => a4 = .returned (.tuple #[]) ∧
 R (.int .i64 0) a3) else (
 R (.int .i64 (IntKind.i64.wrap a0)) a2))) else (
 R (.int .i64 (IntKind.i64.wrap a0)) a2)

theorem rRCount.eq (r1 : Option Addr) (most2 : Int) (R : RW) (w : World) : mfunc Try.prog [] 43 [.pointer r1, .int .i64 most2] R w = rRCount.M r1 most2 R w := by kernel_rfl
theorem rRCount.ok (r1 : Option Addr) (a0 : Int) {R : RW} {w : World} (h : rRCount.M r1 a0 R w) : Calls Try.prog 43 #[.pointer r1, .int .i64 a0] w fun e w' => ∃ v, e = .returned v ∧ R v w' :=
  Q08 follows (H := []) (args := [.pointer r1, .int .i64 a0]) (by rw [rRCount.eq]; exact h)

def rRDone.M (r1 : Option Addr) (R : RW) (w : World) : Prop :=
 r1.elim False fun a2 =>
 ∃ (a0 : Int), w.cell? (a2.add 1) = some (.int .i64 a0) ∧
 bif a0 == 0 then (
 r1.elim False fun a4 =>
 ∃ (a7 : Option Addr) (a1 a9 : Nat), w.cell? (a4.add 0) = some (.slice a7 a1 a9) ∧
 bif decide ((a1 : Int) > 0) then (
 R (.int .i64 4) w) else (
 r1.elim False fun a6 =>
 ∃ (a3 : Int), w.cell? (a6.add 1) = some (.int .i64 a3) ∧
 R (.int .i64 a3) w)) else (
 r1.elim False fun a8 =>
 ∃ (a5 : Int), w.cell? (a8.add 1) = some (.int .i64 a5) ∧
 R (.int .i64 a5) w)

theorem rRDone.eq (r1 : Option Addr) (R : RW) (w : World) : mfunc Try.prog [] 46 [.pointer r1] R w = rRDone.M r1 R w := by kernel_rfl
theorem rRDone.ok (r1 : Option Addr) {R : RW} {w : World} (h : rRDone.M r1 R w) : Calls Try.prog 46 #[.pointer r1] w fun e w' => ∃ v, e = .returned v ∧ R v w' :=
  Q08 follows (H := []) (args := [.pointer r1]) (by rw [rRDone.eq]; exact h)

def rRFail.M (r1 : Option Addr) (k2 : Int) (R : RW) (w : World) : Prop :=
 r1.elim False fun a3 =>
 Q01 w ((a3.add 1).add 0) ∧
 thenW (w.setCell ((a3.add 1).add 0) (.int .i64 k2)) fun a0 =>
 r1.elim False fun a5 =>
 Q01 a0 ((a5.add 0).add 0) ∧
 thenW (a0.setCell ((a5.add 0).add 0) (.slice none 0 0)) fun a1 =>
 R (.tuple #[]) a1

theorem rRFail.eq (r1 : Option Addr) (k2 : Int) (R : RW) (w : World) : mfunc Try.prog [] 65 [.pointer r1, .int .i64 k2] R w = rRFail.M r1 k2 R w := by kernel_rfl
theorem rRFail.ok (r1 : Option Addr) (k2 : Int) {R : RW} {w : World} (h : rRFail.M r1 k2 R w) : Calls Try.prog 65 #[.pointer r1, .int .i64 k2] w fun e w' => ∃ v, e = .returned v ∧ R v w' :=
  Q08 follows (H := []) (args := [.pointer r1, .int .i64 k2]) (by rw [rRFail.eq]; exact h)

def RdR (w : World) (p : Nat) (bs : List UInt8) (k : Int) : Prop :=
  ∃ a c, Blk w p 83 [.slice a bs.length c, .int .i64 k] ∧ bs.length ≤ c ∧ RowAt w a (bytesV bs) ∧ (bytesV bs ≠ [] → ∀ ad, a = some ad → ad.block < p)
section
variable {w w' : World} {a : Option Addr} {c : Nat} {hs : List Hd} {bs : List UInt8} {p : Nat} {k : Int}
theorem RdR.no (h : RdR w p bs k) (e : Ext no w w') : RdR w' p bs k := by
  obtain ⟨a, c, h1, h2, h3, h4⟩ := h
  exact ⟨a, c, h1.ext e id, h2, h3.no e, h4⟩
theorem RdR.up {m : Nat → Prop} (h : RdR w p bs k) (e : Ext m w w') (hm : ∀ b, m b → p < b) : RdR w' p bs k := by
  obtain ⟨a, c, h1, h2, h3, h4⟩ := h
  exact ⟨a, c, h1.ext e (fun h => by have := hm _ h; omega), h2, h3.ext' e (fun h0 ad ha hb => by have := hm _ hb; have := h4 h0 ad ha; omega), h4⟩
theorem RdR.lt (h : RdR w p bs k) : p < w.heap.size := by obtain ⟨a, c, h1, _⟩ := h; exact h1.lt
theorem rFail_spec (h : RdR w p bs k) (j : Int) : Calls Try.prog 65 #[.pointer (some (blk p)), .int .i64 j] w (GivesV (.tuple #[]) fun w' => RdR w' p [] j ∧ Ext (fun b => b = p) w w') := by
  refine (rRFail.ok _ _ (R := fun v w' => v = .tuple #[] ∧ RdR w' p [] j ∧ Ext (fun b => b = p) w w') ?_).mono fun e w' ⟨v, he, hv, hw⟩ => ⟨by rw [he, hv], hw⟩
  unfold rRFail.M
  obtain ⟨a, c, h1, _⟩ := h
  refine ⟨h1.cana (i := 1) rfl, Q02 fun w4 h4 => ?_⟩
  have hb4 := h1.seta 1 (.int .i64 j)
  rw [add_zero] at h4
  rw [← h4] at hb4
  have e4 : Ext (fun b => b = p) w w4 := by subst h4; exact (Ext.refl (fun b => b = p) w).setCell (a := (blk p).add 1) (.inl (by rw [add_blk])) _
  refine ⟨hb4.cana (i := 0) rfl, Q02 fun w6 h6 => ?_⟩
  rw [add_zero] at h6
  have hb6 := hb4.seta 0 (.slice none 0 0)
  rw [← h6] at hb6
  have e6 : Ext (fun b => b = p) w4 w6 := by subst h6; exact (Ext.refl (fun b => b = p) w4).setCell (a := (blk p).add 0) (.inl rfl) _
  exact ⟨rfl, ⟨none, 0, hb6, Nat.le_refl _, RowAt.nil _ _, fun h0 => absurd rfl h0⟩, e4.trans e6⟩
theorem rDone_spec (h : RdR w p bs k) : Calls Try.prog 46 #[.pointer (some (blk p))] w (GivesV (.int .i64 (doneR (bs, k))) fun w' => w' = w) := by
  refine (rRDone.ok _ (R := fun v w' => v = .int .i64 (doneR (bs, k)) ∧ w' = w) ?_).mono fun e w' ⟨v, he, hv, hw⟩ => ⟨by rw [he, hv], hw⟩
  unfold rRDone.M
  obtain ⟨a, c, h1, h2, h3, h4⟩ := h
  unfold doneR
  refine ⟨_, h1.cella (i := 1) rfl, ?_⟩
  by_cases hk : k = 0
  · subst hk
    rw [show ((0 : Int) == 0) = true from rfl, cond_true, if_pos rfl]
    refine ⟨_, _, _, h1.cella (i := 0) rfl, ?_⟩
    by_cases hb : bs.length > 0
    · rw [decide_eq_true (by omega : (bs.length : Int) > 0), cond_true, if_pos hb]; exact ⟨rfl, rfl⟩
    · rw [decide_eq_false (by omega : ¬ (bs.length : Int) > 0), cond_false, if_neg hb]
      exact ⟨_, h1.cella (i := 1) rfl, rfl, rfl⟩
  · rw [beq_eq_false_iff_ne.2 hk, cond_false, if_neg hk]
    exact ⟨_, h1.cella (i := 1) rfl, rfl, rfl⟩

/-! ### where the number ends -/
theorem Q1c : ∀ (n i : Nat) (bs : List UInt8), i + n ≤ 9 → n ≤ bs.length → (∀ c ∈ bs.take n, 128 ≤ c.toNat) → widthF i bs = widthF (i + n) (bs.drop n)
  | 0, i, bs, _, _, _ => rfl
  | n + 1, i, [], _, h, _ => by simp at h
  | n + 1, i, c :: r, h9, hl, hc => by
    have h1 := hc c (by simp)
    simp only [widthF, List.drop_succ_cons]
    rw [if_neg (by omega), if_neg (by omega), Q1c n (i + 1) r (by omega) (by simpa using hl) fun d hd => hc d (by simp [hd])]
    congr 1; omega
theorem Q1C {bs : List UInt8} (hl : 10 ≤ bs.length) (hc : ∀ c ∈ bs.take 10, 128 ≤ c.toNat) : widthF 0 bs = 0 := by
  rw [Q1c 9 0 bs (by omega) (by omega) fun c h => hc c (List.mem_of_mem_take (l := bs.take 10) (i := 9) (by rw [List.take_take]; exact h))]
  rw [List.drop_eq_getElem_cons (by omega : 9 < bs.length)]
  simp only [widthF]
  have := hc bs[9] (List.mem_take_iff_getElem.2 ⟨9, by omega, rfl⟩)
  rw [if_pos (by first | exact ⟨rfl, by omega⟩ | exact ⟨trivial, by omega⟩)]
theorem Q1p : ∀ (l : List UInt8) (j : Nat), valW (l.drop j) ≤ valW l
  | [], j => by simp
  | a :: r, 0 => Nat.le_refl _
  | a :: r, j + 1 => by
    have := Q1p r j
    simp only [List.drop_succ_cons, valW]; omega

def loop2P (RR : RW) (w : World) (p : Nat) (n4 : Int) : Prop :=
  ∃ (I2 : Nat → List Value → World → Prop) (m35 : Nat), I2 m35 [.int .u64 0, .int .i64 n4] w ∧ ∀ (m36 : Nat) (ww37 : World) (outv33 i34 : Int), I2 m36 [.int .u64 outv33, .int .i64 i34] ww37 →
  bif decide (i34 ≥ 0) then (
  (some (blk p)).elim False fun a38 =>
  ∃ (B39a : Option Addr) (B39n B39c : Nat), ww37.cell? (a38.add 0) = some (.slice B39a B39n B39c) ∧
  B39a.elim False fun a40 =>
  0 ≤ (i34 : Int) ∧ (i34 : Int) < (B39n : Int) ∧
  ∃ (x41 : Int), ww37.cell? (a40.add (Int.toNat i34 * 1)) = some (.int .u8 x41) ∧
  128 ≠ (0 : Int) ∧ ∃ m42, m42 < m36 ∧ I2 m42 [.int .u64 (IntKind.u64.wrap ((IntKind.u64.wrap (outv33 * 128)) + (IntKind.u64.wrap (Int.tmod x41 128)))), .int .i64 (IntKind.i64.wrap (i34 - 1))] ww37) else (
  (some (blk p)).elim False fun a43 =>
  ∃ (B44a : Option Addr) (B44n B44c : Nat), ww37.cell? (a43.add 0) = some (.slice B44a B44n B44c) ∧
  (0 : Int) ≤ ((IntKind.i64.wrap (n4 + 1)) : Int) ∧ ((IntKind.i64.wrap (n4 + 1)) : Int) ≤ (B44n : Int) ∧
  (some (blk p)).elim False fun a45 =>
  Q01 ww37 ((a45.add 0).add 0) ∧
  thenW (ww37.setCell ((a45.add 0).add 0) (.slice (if B44c = Int.toNat (IntKind.i64.wrap (n4 + 1)) then B44a else Option.map (fun z : Addr => z.add ((Int.toNat (IntKind.i64.wrap (n4 + 1))) * 1)) B44a) (B44n - (Int.toNat (IntKind.i64.wrap (n4 + 1)))) (B44c - (Int.toNat (IntKind.i64.wrap (n4 + 1)))))) fun ww46 =>
  RR (.int .u64 outv33) ww46)
theorem Q1M (h : RdR w p bs 0) (hl : bs.length < 1000000) {n : Nat} (hn : n < bs.length) (hw : widthF 0 bs = n + 1) :
    loop2P (fun v w' => v = .int .u64 (numR (bs, 0)).1 ∧ RdR w' p (numR (bs, 0)).2.1 (numR (bs, 0)).2.2 ∧ Ext (fun b => b = p) w w') w p n := by
  have hz : widthF 0 bs ≠ 0 := by omega
  obtain ⟨q1, q2, q3, q4, _⟩ := Q1y bs 0 (by omega) hz
  simp only [Nat.sub_zero] at q2 q3 q4
  rw [hw] at q2 q3 q4
  have hnum : numR (bs, 0) = (valW (bs.take (n + 1)), (bs.drop (n + 1), 0)) := by unfold numR rdNum; simp [hw]
  rw [hnum]
  obtain ⟨a, c, h1, h2, h3, h4⟩ := h
  generalize hL : bs.take (n + 1) = L at *
  have hLl : L.length = n + 1 := by rw [← hL, List.length_take]; omega
  unfold loop2P
  refine ⟨fun j vs w1 => ∃ t : Nat, vs = [.int .u64 (valW (L.drop t)), .int .i64 ((t : Int) - 1)] ∧ j = t ∧ t ≤ n + 1 ∧ w1 = w, n + 1, ⟨n + 1, ?_, rfl, Nat.le_refl _, rfl⟩, ?_⟩
  · rw [List.drop_eq_nil_of_le (by omega)]
    have : (((n + 1 : Nat) : Int) - 1) = n := by omega
    rw [this]; rfl
  rintro t w1 o0 i ⟨t', hi, rfl, htn, rfl⟩
  simp only [List.cons.injEq, Value.int.injEq, true_and, and_true] at hi
  obtain ⟨rfl, rfl⟩ := hi
  cases t with
  | zero =>
    rw [show decide (((0 : Nat) : Int) - 1 ≥ 0) = false from rfl, cond_false]
    have hw1 : IntKind.i64.wrap ((n : Int) + 1) = ((n + 1 : Nat) : Int) := by rw [w64 (by omega) (by omega)]; rfl
    rw [hw1, Int.toNat_natCast, Nat.mul_one]
    refine ⟨a, bs.length, c, h1.cella (i := 0) rfl, by omega, by omega, h1.cana (i := 0) rfl, Q02 fun w23 h23 => ?_⟩
    rw [add_zero] at h23
    have hb := h1.seta 0 (.slice (if c = n + 1 then a else Option.map (fun z : Addr => z.add (n + 1)) a) (bs.length - (n + 1)) (c - (n + 1)))
    rw [← h23] at hb
    have hx : Ext (fun b => b = p) w1 w23 := by subst h23; exact (Ext.refl (fun b => b = p) w1).setCell (a := (blk p).add 0) (.inl rfl) _
    have hdl : (bs.drop (n + 1)).length = bs.length - (n + 1) := List.length_drop
    have hrow := h3.drop (n + 1) c (fun e => by rw [Q12]; omega)
    have hne : bytesV (bs.drop (n + 1)) ≠ [] → bytesV bs ≠ [] := fun h0 e => h0 (by rw [bytesV, List.map_drop, show List.map u8V bs = [] from e]; simp)
    refine ⟨by rw [List.drop_zero], ⟨_, c - (n + 1), by rw [hdl]; exact hb, by rw [hdl]; omega, ?_, fun h0 ad ha => ?_⟩, hx⟩
    · rw [show bytesV (bs.drop (n + 1)) = (bytesV bs).drop (n + 1) by simp [bytesV]]
      refine hrow.ext' hx fun h0 ad ha hq => ?_
      have hne2 : bytesV bs ≠ [] := fun e => h0 (by rw [e]; simp)
      split at ha
      · have := h4 hne2 ad ha; omega
      · obtain ⟨b0, hb0, rfl⟩ := Option.map_eq_some_iff.1 ha
        rw [Q1i] at hq
        have := h4 hne2 b0 hb0; omega
    · split at ha
      · exact h4 (hne h0) ad ha
      · obtain ⟨b0, hb0, rfl⟩ := Option.map_eq_some_iff.1 ha
        rw [Q1i]; exact h4 (hne h0) b0 hb0
  | succ t =>
    have e1 : (((t + 1 : Nat) : Int) - 1) = (t : Int) := by omega
    rw [e1, show decide ((t : Int) ≥ 0) = true by simp, cond_true]
    have htl : t < bs.length := by omega
    have htL : t < L.length := by omega
    obtain ⟨ad, rfl⟩ := h3.addr (by intro e; rw [bytesV, List.map_eq_nil_iff] at e; subst e; simp at htl)
    have hx := u8_lt bs[t]
    have hLt : L[t] = bs[t] := by simp only [← hL]; rw [List.getElem_take]
    have hdr : L.drop t = bs[t] :: L.drop (t + 1) := by rw [List.drop_eq_getElem_cons htL, hLt]
    have hv : valW (L.drop t) = bs[t].toNat % 128 + 128 * valW (L.drop (t + 1)) := by rw [hdr]; rfl
    have hle := Q1p L t
    have q4' : valW L < 18446744073709551616 := q4
    have hm : Int.tmod (bs[t].toNat : Int) 128 = ((bs[t].toNat % 128 : Nat) : Int) := by rw [Int.tmod_eq_emod_of_nonneg (by omega)]; omega
    refine ⟨_, _, _, h1.cella (i := 0) rfl, by omega, by omega, _, by rw [Int.toNat_natCast, Nat.mul_one]; exact h3.at_ (Q13 htl), by decide, t, by omega, t, ?_, rfl, by omega, rfl⟩
    rw [hm, wu64 (n := ((valW (L.drop (t + 1)) : Nat) : Int) * 128) (by omega) (by omega), wu64 (n := ((bs[t].toNat % 128 : Nat) : Int)) (by omega) (by omega), wu64 (by omega) (by omega), w64 (by omega) (by omega), hv]
    congr 2
    congr 1
    omega

def exitP (RR : RW) (ww7 : World) (p : Nat) (n4 : Int) : Prop :=
  (some (blk p)).elim False fun a15 =>
  ∃ (B16a : Option Addr) (B16n B16c : Nat), ww7.cell? (a15.add 0) = some (.slice B16a B16n B16c) ∧
  bif decide (n4 ≥ (B16n : Int)) then (
  Calls Try.prog 65 #[.pointer (some (blk p)), .int .i64 4] ww7 fun ee17 ww18 => ee17 = .returned (.tuple #[]) ∧
  RR (.int .u64 0) ww18) else (
  bif decide (n4 ≥ 10) then (
  Calls Try.prog 65 #[.pointer (some (blk p)), .int .i64 4] ww7 fun ee19 ww20 => ee19 = .returned (.tuple #[]) ∧
  RR (.int .u64 0) ww20) else (
  bif n4 == 9 then (
  (some (blk p)).elim False fun a21 =>
  ∃ (B22a : Option Addr) (B22n B22c : Nat), ww7.cell? (a21.add 0) = some (.slice B22a B22n B22c) ∧
  B22a.elim False fun a23 =>
  0 ≤ (n4 : Int) ∧ (n4 : Int) < (B22n : Int) ∧
  ∃ (x24 : Int), ww7.cell? (a23.add (Int.toNat n4 * 1)) = some (.int .u8 x24) ∧
  bif x24 != 1 then (
  Calls Try.prog 65 #[.pointer (some (blk p)), .int .i64 4] ww7 fun ee25 ww26 => ee25 = .returned (.tuple #[]) ∧
  RR (.int .u64 0) ww26) else (
  bif decide (n4 > 0) then (
  (some (blk p)).elim False fun a27 =>
  ∃ (B28a : Option Addr) (B28n B28c : Nat), ww7.cell? (a27.add 0) = some (.slice B28a B28n B28c) ∧
  B28a.elim False fun a29 =>
  0 ≤ (n4 : Int) ∧ (n4 : Int) < (B28n : Int) ∧
  ∃ (x30 : Int), ww7.cell? (a29.add (Int.toNat n4 * 1)) = some (.int .u8 x30) ∧
  bif x30 == 0 then (
  Calls Try.prog 65 #[.pointer (some (blk p)), .int .i64 4] ww7 fun ee31 ww32 => ee31 = .returned (.tuple #[]) ∧
  RR (.int .u64 0) ww32) else (
  loop2P RR ww7 p n4)) else (
  loop2P RR ww7 p n4))) else (
  bif decide (n4 > 0) then (
  (some (blk p)).elim False fun a61 =>
  ∃ (B62a : Option Addr) (B62n B62c : Nat), ww7.cell? (a61.add 0) = some (.slice B62a B62n B62c) ∧
  B62a.elim False fun a63 =>
  0 ≤ (n4 : Int) ∧ (n4 : Int) < (B62n : Int) ∧
  ∃ (x64 : Int), ww7.cell? (a63.add (Int.toNat n4 * 1)) = some (.int .u8 x64) ∧
  bif x64 == 0 then (
  Calls Try.prog 65 #[.pointer (some (blk p)), .int .i64 4] ww7 fun ee65 ww66 => ee65 = .returned (.tuple #[]) ∧
  RR (.int .u64 0) ww66) else (
  loop2P RR ww7 p n4)) else (
  loop2P RR ww7 p n4))))
theorem exit_ok (h : RdR w p bs 0) (hl : bs.length < 1000000) {n : Nat} (hn : n ≤ bs.length) (h10 : n ≤ 10) (hc : ∀ c ∈ bs.take n, 128 ≤ c.toNat) (hs : n = bs.length ∨ n = 10 ∨ ∃ hn : n < bs.length, bs[n].toNat < 128) :
    exitP (fun v w' => v = .int .u64 (numR (bs, 0)).1 ∧ RdR w' p (numR (bs, 0)).2.1 (numR (bs, 0)).2.2 ∧ Ext (fun b => b = p) w w') w p n := by
  obtain ⟨a, c, h1, h2, h3, h4⟩ := id h
  -- where there is no number
  have bad : widthF 0 bs = 0 → Calls Try.prog 65 #[.pointer (some (blk p)), .int .i64 4] w fun ee ww => ee = .returned (.tuple #[]) ∧ (fun v w' => v = Value.int .u64 (numR (bs, 0)).1 ∧ RdR w' p (numR (bs, 0)).2.1 (numR (bs, 0)).2.2 ∧ Ext (fun b => b = p) w w') (.int .u64 0) ww := fun hz => by
    have hnum : numR (bs, 0) = (0, ([], 4)) := by unfold numR rdNum; simp [hz]
    rw [hnum]
    exact (rFail_spec h 4).mono fun e w9 ⟨he, hr, hx⟩ => ⟨he, rfl, hr, hx⟩
  unfold exitP
  refine ⟨a, bs.length, c, h1.cella (i := 0) rfl, ?_⟩
  by_cases c1 : n = bs.length
  · rw [decide_eq_true (by omega : (n : Int) ≥ (bs.length : Int)), cond_true]
    refine bad ?_
    by_cases c2 : n ≤ 9
    · rw [Q1c n 0 bs (by omega) (by omega) hc, List.drop_eq_nil_of_le (by omega)]; rfl
    · exact Q1C (by omega) (by rw [show (10 : Nat) = n by omega]; exact hc)
  rw [decide_eq_false (by omega : ¬ (n : Int) ≥ (bs.length : Int)), cond_false]
  have hnl : n < bs.length := by omega
  by_cases c2 : n = 10
  · rw [decide_eq_true (by omega : (n : Int) ≥ 10), cond_true]
    exact bad (Q1C (by omega) (by rw [show (10 : Nat) = n by omega]; exact hc))
  rw [decide_eq_false (by omega : ¬ (n : Int) ≥ 10), cond_false]
  have hlt : bs[n].toNat < 128 := by
    rcases hs with hs | hs | ⟨_, hs⟩
    · exact absurd hs c1
    · exact absurd hs c2
    · exact hs
  have hskip := Q1c n 0 bs (by omega) (by omega) hc
  rw [List.drop_eq_getElem_cons hnl, Nat.zero_add] at hskip
  simp only [widthF] at hskip
  obtain ⟨ad, rfl⟩ := h3.addr (by intro e; rw [bytesV, List.map_eq_nil_iff] at e; subst e; simp at hnl)
  have hcell : w.cell? (ad.add (Int.toNat (n : Int) * 1)) = some (.int .u8 (bs[n].toNat : Int)) := by rw [Int.toNat_natCast, Nat.mul_one]; exact h3.at_ (Q13 hnl)
  -- behind the test for the last byte of all
  have rest : ¬ (n = 9 ∧ bs[n].toNat ≠ 1) → (n > 0 → bs[n].toNat = 0 → widthF 0 bs = 0) ∧ ((n > 0 → bs[n].toNat ≠ 0) → widthF 0 bs = n + 1) := fun hq => by
    rw [if_neg hq, if_pos hlt] at hskip
    exact ⟨fun q1 q2 => by rw [hskip, if_pos ⟨q2, q1⟩], fun q => by rw [hskip, if_neg fun ⟨e1, e2⟩ => q e2 e1]⟩
  by_cases c9 : n = 9
  · rw [beq_iff_eq.2 (by omega : (n : Int) = 9), cond_true]
    refine ⟨_, _, _, h1.cella (i := 0) rfl, by omega, by omega, _, hcell, ?_⟩
    by_cases c8 : bs[n].toNat = 1
    · rw [show ((bs[n].toNat : Int) != 1) = false by simp; omega, cond_false, decide_eq_true (by omega : (n : Int) > 0), cond_true]
      refine ⟨_, _, _, h1.cella (i := 0) rfl, by omega, by omega, _, hcell, ?_⟩
      rw [beq_eq_false_iff_ne.2 (by omega : (bs[n].toNat : Int) ≠ 0), cond_false]
      exact Q1M h hl hnl ((rest fun q => q.2 c8).2 fun _ => by omega)
    · rw [show ((bs[n].toNat : Int) != 1) = true by simp; omega, cond_true]
      refine bad ?_
      rw [hskip, if_pos ⟨c9, c8⟩]
  · rw [beq_eq_false_iff_ne.2 (by omega : (n : Int) ≠ 9), cond_false]
    have hrest := rest fun q => c9 q.1
    by_cases c0 : n > 0
    · rw [decide_eq_true (by omega : (n : Int) > 0), cond_true]
      refine ⟨_, _, _, h1.cella (i := 0) rfl, by omega, by omega, _, hcell, ?_⟩
      by_cases cz : bs[n].toNat = 0
      · rw [beq_iff_eq.2 (by omega : (bs[n].toNat : Int) = 0), cond_true]
        exact bad (hrest.1 c0 cz)
      · rw [beq_eq_false_iff_ne.2 (by omega : (bs[n].toNat : Int) ≠ 0), cond_false]
        exact Q1M h hl hnl (hrest.2 fun _ => cz)
    · rw [decide_eq_false (by omega : ¬ (n : Int) > 0), cond_false]
      exact Q1M h hl hnl (hrest.2 fun q => absurd q c0)
theorem rRNum_spec (h : RdR w p bs k) (hl : bs.length < 1000000) :
    Calls Try.prog 45 #[.pointer (some (blk p))] w (GivesV (.int .u64 (numR (bs, k)).1) fun w' => RdR w' p (numR (bs, k)).2.1 (numR (bs, k)).2.2 ∧ Ext (fun b => b = p) w w') := by
  refine (rRNum.ok _ (R := fun v w' => v = .int .u64 (numR (bs, k)).1 ∧ RdR w' p (numR (bs, k)).2.1 (numR (bs, k)).2.2 ∧ Ext (fun b => b = p) w w') ?_).mono fun e w' ⟨v, he, hv, hw⟩ => ⟨by rw [he, hv], hw⟩
  unfold rRNum.M
  obtain ⟨a, c, h1, h2, h3, h4⟩ := id h
  refine ⟨_, h1.cella (i := 1) rfl, ?_⟩
  by_cases hk : k = 0
  · subst hk
    rw [show ((0 : Int) != 0) = false from rfl, cond_false]
    refine ⟨fun j vs w1 => ∃ n : Nat, vs = [.int .i64 n] ∧ j + n = 10 ∧ n ≤ bs.length ∧ (∀ c ∈ bs.take n, 128 ≤ c.toNat) ∧ w1 = w, 10, ⟨0, rfl, rfl, Nat.zero_le _, by simp, rfl⟩, ?_⟩
    rintro j w1 i ⟨n, hi, hj, hn, hc, rfl⟩
    simp only [List.cons.injEq, Value.int.injEq, true_and, and_true] at hi
    subst hi
    refine ⟨_, _, _, h1.cella (i := 0) rfl, ?_⟩
    by_cases c1 : n < bs.length
    · rw [decide_eq_true (by omega : (n : Int) < (bs.length : Int)), cond_true]
      by_cases c2 : n < 10
      · rw [decide_eq_true (by omega : (n : Int) < 10), cond_true]
        obtain ⟨ad, rfl⟩ := h3.addr (by intro e; rw [bytesV, List.map_eq_nil_iff] at e; subst e; simp at c1)
        refine ⟨_, _, _, h1.cella (i := 0) rfl, by omega, by omega, _, by rw [Int.toNat_natCast, Nat.mul_one]; exact h3.at_ (Q13 c1), ?_⟩
        by_cases c3 : 128 ≤ bs[n].toNat
        · rw [decide_eq_true (by omega : (bs[n].toNat : Int) ≥ 128), cond_true]
          refine ⟨j - 1, by omega, n + 1, by rw [w64 (by omega) (by omega)]; rfl, by omega, by omega, fun d hd => ?_, rfl⟩
          rw [List.take_add_one, show bs[n]?.toList = [bs[n]] by simp [c1]] at hd
          rcases List.mem_append.1 hd with hd | hd
          · exact hc d hd
          · rw [List.mem_singleton] at hd; rw [hd]; exact c3
        · rw [decide_eq_false (by omega : ¬ (bs[n].toNat : Int) ≥ 128), cond_false]
          exact exit_ok h hl (by omega) (by omega) hc (.inr (.inr ⟨c1, by omega⟩))
      · rw [decide_eq_false (by omega : ¬ (n : Int) < 10), cond_false]
        exact exit_ok h hl (by omega) (by omega) hc (.inr (.inl (by omega)))
    · rw [decide_eq_false (by omega : ¬ (n : Int) < (bs.length : Int)), cond_false]
      exact exit_ok h hl (by omega) (by omega) hc (.inl (by omega))
  · rw [show (k != 0) = true by simpa using hk, cond_true]
    have hn : numR (bs, k) = (0, (bs, k)) := by unfold numR; rw [if_neg hk]
    rw [hn]
    exact ⟨rfl, h, Ext.refl _ _⟩
theorem rCount_spec (h : RdR w p bs k) (hl : bs.length < 1000000) {m : Int} (hm0 : 0 ≤ m) (hm : m < 4611686018427387904) :
    Calls Try.prog 43 #[.pointer (some (blk p)), .int .i64 m] w (GivesV (.int .i64 (countR m (bs, k)).1) fun w' => RdR w' p (countR m (bs, k)).2.1 (countR m (bs, k)).2.2 ∧ Ext (fun b => b = p) w w') := by
  refine (rRCount.ok _ _ (R := fun v w' => v = .int .i64 (countR m (bs, k)).1 ∧ RdR w' p (countR m (bs, k)).2.1 (countR m (bs, k)).2.2 ∧ Ext (fun b => b = p) w w') ?_).mono fun e w' ⟨v, he, hv, hw⟩ => ⟨by rw [he, hv], hw⟩
  unfold rRCount.M
  have hlt := W.numR_lt (bs, k)
  have hbad : (numR (bs, k)).2.2 ≠ 0 → (numR (bs, k)).1 = 0 := fun hb => by
    unfold numR at hb ⊢
    by_cases h0 : k = 0
    · rw [if_pos h0] at hb ⊢
      cases hr : rdNum bs with
      | none => rfl
      | some q => rw [hr] at hb; exact absurd rfl hb
    · rw [if_neg h0]
  refine (rRNum_spec h hl).mono fun e w5 ⟨he, hr5, hx5⟩ => ⟨_, he, ?_⟩
  unfold countR
  generalize numR (bs, k) = s at *
  obtain ⟨n, bs', k'⟩ := s
  simp only at *
  obtain ⟨a, c, h1, _⟩ := id hr5
  refine ⟨_, h1.cella (i := 1) rfl, ?_⟩
  by_cases hk : k' = 0
  · subst hk
    rw [if_pos rfl, show ((0 : Int) == 0) = true from rfl, cond_true, decide_eq_false (by omega : ¬ m < 0), cond_false, wu64 (n := m) (by omega) (by omega)]
    by_cases c2 : (n : Int) > m
    · rw [decide_eq_true c2, cond_true, if_pos (.inr c2)]
      exact (rFail_spec hr5 3).mono fun e w9 ⟨he, hr, hx⟩ => ⟨he, rfl, hr, hx5.trans hx⟩
    · rw [decide_eq_false c2, cond_false, if_neg (fun h => h.elim (by omega) c2), w64 (by omega) (by omega)]
      exact ⟨rfl, hr5, hx5⟩
  · rw [if_neg hk, beq_eq_false_iff_ne.2 hk, cond_false, hbad hk]
    exact ⟨rfl, hr5, hx5⟩
end
def rTake5.M (r1 : Option Addr) (R : RW) (w : World) : Prop :=
 Calls Try.prog 43 #[.pointer r1, .int .i64 8] w fun am al => ∃ (a5 : Int), am = .returned (.int .i64 a5) ∧
 ∃ (I0 : Nat → List Value → World → Prop) (m7 : Nat), I0 m7 [.slice none 0 0, .int .i64 0] al ∧ ∀ (m8 : Nat) (ab : World) (a2 : Option Addr) (a1 a0 : Nat) (i6 : Int), I0 m8 [.slice a2 a1 a0, .int .i64 i6] ab →
 bif decide (i6 < a5) then (
 r1.elim False fun an =>
 ∃ (a7 : Int), ab.cell? (an.add 1) = some (.int .i64 a7) ∧
 bif a7 == 0 then (
 Calls Try.prog 43 #[.pointer r1, .int .i64 7] ab fun ah ag => ∃ (a4 : Int), ah = .returned (.int .i64 a4) ∧
 Calls Try.prog 43 #[.pointer r1, .int .i64 200] ag fun ai ae => ∃ (a3 : Int), ai = .returned (.int .i64 a3) ∧
 Calls Try.prog 45 #[.pointer r1] ae fun af ac => ∃ (a6 : Int), af = .returned (.int .u64 a6) ∧
 thenW (ac.alloc (.cells #[.int .i64 a4, .int .i64 a3, .int .u64 a6] 66)) fun aj =>
 ∃ (a9 : Option Addr) (a8 aa : Nat) (ad : World), (Builtin.append_ #[28, 28] 28 #[.slice a2 a1 a0, .slice (some (blk ac.heap.size)) 1 1]).run Try.prog aj = .ok (.slice a9 a8 aa) ad ∧
 ∃ ak, ak < m8 ∧ I0 ak [.slice a9 a8 aa, .int .i64 (IntKind.i64.wrap (i6 + 1))] ad) else (
 R (.slice a2 a1 a0) ab)) else (
 R (.slice a2 a1 a0) ab)

theorem rTake5.ok (r1 : Option Addr) {R : RW} {w : World} (h : rTake5.M r1 R w) : Calls Try.prog 67 #[.pointer r1] w fun e w' => ∃ v, e = .returned v ∧ R v w' :=
  Q08 follows (H := [(0, [0, 3], [(4, (.one .slice)), (5, (.one (.int .i64)))])]) (args := [.pointer r1]) (cast (by kernel_rfl) h)

def rRead5.M (aa : Option Addr) (ad ac : Nat) (R : RW) (w : World) : Prop :=
 thenW (w.alloc (.cells #[.slice aa ad ac, .int .i64 0] 83)) fun a9 =>
 Calls Try.prog 67 #[.pointer (some (blk w.heap.size))] a9 fun ab ae => ∃ (a2 : Option Addr) (a0 a1 : Nat), ab = .returned (.slice a2 a0 a1) ∧
 Calls Try.prog 46 #[.pointer (some (blk w.heap.size))] ae fun a8 a7 => ∃ (a3 : Int), a8 = .returned (.int .i64 a3) ∧
 bif a3 != 0 then (
 R (.tuple #[.slice none 0 0, .int .i64 a3]) a7) else (
 Calls Try.prog 51 #[.slice a2 a0 a1] a7 fun a6 a5 => ∃ (a4 : Bool), a6 = .returned (.bool a4) ∧
 bif !a4 then (
 R (.tuple #[.slice none 0 0, .int .i64 4]) a5) else (
 R (.tuple #[.slice a2 a0 a1, .int .i64 0]) a5))

theorem rRead5.ok (a0 : Option Addr) (a1 a2 : Nat) {R : RW} {w : World} (h : rRead5.M a0 a1 a2 R w) : Calls Try.prog 48 #[.slice a0 a1 a2] w fun e w' => ∃ v, e = .returned v ∧ R v w' :=
  Q08 follows (H := []) (args := [.slice a0 a1 a2]) (cast (by kernel_rfl) h)

def takeF : Nat → List Hd → List UInt8 × Int → List Hd × (List UInt8 × Int)
  | 0, hs, s => (hs, s)
  | n + 1, hs, s =>
    if s.2 = 0 then takeF n (hs ++ [(((countR 7 s).1 : Int), (((countR 200 (countR 7 s).2).1 : Int), ((numR (countR 200 (countR 7 s).2).2).1 : Int)))]) (numR (countR 200 (countR 7 s).2).2).2 else (hs, s)
theorem Q3g {s : List UInt8 × Int} (h : s.2 ≠ 0) : numR s = (0, s) := by unfold numR; rw [if_neg h]
theorem Q2A {s : List UInt8 × Int} {m : Int} (h : s.2 ≠ 0) : countR m s = (0, s) := by
  unfold countR; rw [Q3g h, if_neg h]
theorem Q34 : ∀ (n : Nat) (hs : List Hd) (s : List UInt8 × Int), s.2 ≠ 0 → (readF n hs s).2 = s
  | 0, hs, s, h => rfl
  | n + 1, hs, s, h => by
    simp only [readF]
    rw [Q2A h]
    simp only []
    rw [Q2A h]
    simp only []
    rw [Q3g h]
    exact Q34 n _ s h
theorem Q3L : ∀ (n : Nat) (hs : List Hd) (s : List UInt8 × Int), ((readF n hs s).2.2 = 0 → takeF n hs s = readF n hs s) ∧ ((readF n hs s).2.2 ≠ 0 → (takeF n hs s).2.2 = (readF n hs s).2.2)
  | 0, hs, s => ⟨fun _ => rfl, fun _ => rfl⟩
  | n + 1, hs, s => by
    by_cases h : s.2 = 0
    · have ih := Q3L n (hs ++ [(((countR 7 s).1 : Int), (((countR 200 (countR 7 s).2).1 : Int), ((numR (countR 200 (countR 7 s).2).2).1 : Int)))]) (numR (countR 200 (countR 7 s).2).2).2
      simp only [takeF, readF]
      rw [if_pos h]
      exact ih
    · have hst := Q34 (n + 1) hs s h
      simp only [takeF]
      rw [if_neg h, hst]
      exact ⟨fun e => absurd e h, fun _ => rfl⟩
def takeAll (b : List UInt8) : List Hd × (List UInt8 × Int) := takeF (countR 8 (b, 0)).1 [] (countR 8 (b, 0)).2
def refV (b : List UInt8) : List Hd × Int :=
  if doneR (takeAll b).2 ≠ 0 then ([], doneR (takeAll b).2) else if rightV (takeAll b).1 then ((takeAll b).1, 0) else ([], 4)
theorem refV_eq (b : List UInt8) : refV b = readV b := by
  obtain ⟨h1, h2⟩ := Q3L (countR 8 (b, 0)).1 [] (countR 8 (b, 0)).2
  unfold refV readV takeAll readAll
  by_cases h : (readF (countR 8 (b, 0)).1 [] (countR 8 (b, 0)).2).2.2 = 0
  · rw [h1 h]
  · have h3 := h2 h
    have e1 : doneR (takeF (countR 8 (b, 0)).1 [] (countR 8 (b, 0)).2).2 = (readF (countR 8 (b, 0)).1 [] (countR 8 (b, 0)).2).2.2 := by unfold doneR; rw [h3, if_neg h]
    have e2 : doneR (readF (countR 8 (b, 0)).1 [] (countR 8 (b, 0)).2).2 = (readF (countR 8 (b, 0)).1 [] (countR 8 (b, 0)).2).2.2 := by unfold doneR; rw [if_neg h]
    rw [e1, e2, if_pos h, if_pos h]
section
variable {w w' : World} {a : Option Addr} {c : Nat} {p : Nat}
theorem Q22 {b : List UInt8} (hR4 : RdR w p b 0) (hl : b.length < 1000000) :
    Calls Try.prog 67 #[.pointer (some (blk p))] w (fun e w' => ∃ ra rc, e = .returned (.slice ra (takeAll b).1.length rc) ∧ OwnH (p + 1) w' ra rc (takeAll b).1 ∧ RdR w' p (takeAll b).2.1 (takeAll b).2.2 ∧ Ext (fun q => p ≤ q) w w' ∧ (takeAll b).1.length ≤ 8) := by
  refine (rTake5.ok _ (R := fun v w' => ∃ ra rc, v = .slice ra (takeAll b).1.length rc ∧ OwnH (p + 1) w' ra rc (takeAll b).1 ∧ RdR w' p (takeAll b).2.1 (takeAll b).2.2 ∧ Ext (fun q => p ≤ q) w w' ∧ (takeAll b).1.length ≤ 8) ?_).mono fun e w' ⟨v, he, ra, rc, hv, hw⟩ => ⟨ra, rc, by rw [he, hv], hw⟩
  unfold rTake5.M
  have up : ∀ {w1 w2 : World}, Ext (fun q => p ≤ q) w w1 → Ext (fun b => b = p) w1 w2 → Ext (fun q => p ≤ q) w w2 := fun h k => h.trans (k.mono fun q hq _ => by omega)
  refine (rCount_spec hR4 hl (m := 8) (by decide) (by decide)).mono fun e w7 ⟨he, hR7, x7'⟩ => ⟨_, he, ?_⟩
  have x7 := up (Ext.refl _ _) x7'
  have hn8 := Q2h 8 (b, 0) (by decide)
  have hcl : (countR 8 (b, 0)).2.1.length ≤ b.length := W.countR_len 8 (b, 0)
  refine ⟨fun k vs w1 => ∃ (t : Nat) (va : Option Addr) (vc : Nat) (l : List Hd) (s : List UInt8 × Int), vs = [.slice va l.length vc, .int .i64 t] ∧ k + t = (countR 8 (b, 0)).1 ∧ l.length = t ∧ RdR w1 p s.1 s.2 ∧ s.1.length ≤ b.length ∧ OwnH (p + 1) w1 va vc l ∧ (∀ ad, va = some ad → ad.block ≠ p) ∧ takeF k l s = takeAll b ∧ Ext (fun q => p ≤ q) w w1, (countR 8 (b, 0)).1,
    ⟨0, none, 0, [], (countR 8 (b, 0)).2, rfl, rfl, rfl, hR7, hcl, ⟨Q3y _ _ _, fun ad ha => by cases ha⟩, (fun ad ha => by cases ha), rfl, x7⟩, ?_⟩
  rintro k w12 v0 n0 c0 i ⟨t, va, vc, l, s, hvs, hk, hlt2, hR, hsl, hO, hOp, hF, hx⟩
  simp only [List.cons.injEq, Value.int.injEq, Value.slice.injEq, true_and, and_true] at hvs
  obtain ⟨⟨rfl, rfl, rfl⟩, rfl⟩ := hvs
  cases k with
  | zero =>
    rw [show decide ((t : Int) < ((countR 8 (b, 0)).1 : Int)) = false by simp; omega, cond_false]
    simp only [takeF] at hF
    rw [← hF]
    exact ⟨_, _, rfl, hO, hR, hx, by show l.length ≤ 8; omega⟩
  | succ k =>
    rw [show decide ((t : Int) < ((countR 8 (b, 0)).1 : Int)) = true by simp; omega, cond_true]
    obtain ⟨ar, cr, g1, _⟩ := id hR
    refine ⟨_, g1.cella (i := 1) rfl, ?_⟩
    simp only [takeF] at hF
    by_cases hs0 : s.2 = 0
    · rw [beq_iff_eq.2 hs0, cond_true]
      rw [if_pos hs0] at hF
      refine (rCount_spec hR (Nat.lt_of_le_of_lt hsl hl) (m := 7) (by decide) (by decide)).mono fun e w16 ⟨he, hR16, x16'⟩ => ⟨_, he, ?_⟩
      have l16 : (countR 7 (s.1, s.2)).2.1.length ≤ s.1.length := W.countR_len 7 (s.1, s.2)
      have hO16 := hO.ext x16' hOp
      refine (rCount_spec hR16 (Nat.lt_of_le_of_lt (Nat.le_trans l16 hsl) hl) (m := 200) (by decide) (by decide)).mono fun e w20 ⟨he, hR20, x20'⟩ => ⟨_, he, ?_⟩
      have l20 : (countR 200 (countR 7 (s.1, s.2)).2).2.1.length ≤ (countR 7 (s.1, s.2)).2.1.length := W.countR_len 200 (countR 7 (s.1, s.2)).2
      have hO20 := hO16.ext x20' hOp
      refine (rRNum_spec hR20 (Nat.lt_of_le_of_lt (Nat.le_trans l20 (Nat.le_trans l16 hsl)) hl)).mono fun e w24 ⟨he, hR24, x24'⟩ => ⟨_, he, ?_⟩
      have l24 : (numR (countR 200 (countR 7 (s.1, s.2)).2).2).2.1.length ≤ (countR 200 (countR 7 (s.1, s.2)).2).2.1.length := W.numR_len (countR 200 (countR 7 (s.1, s.2)).2).2
      have hO24 := hO20.ext x24' hOp
      have x24 := up (up (up hx x16') x20') x24'
      refine Q02 fun w29 h29 => ?_
      have x29' : Ext no w24 w29 := by subst h29; exact (Ext.refl _ _).alloc _
      have hb29 : Blk w29 w24.heap.size 66 (hdC ((countR 7 (s.1, s.2)).1, (countR 200 (countR 7 (s.1, s.2)).2).1, (numR (countR 200 (countR 7 (s.1, s.2)).2).2).1)) := by subst h29; exact Blk.new _ _ _
      have hpl : p < w24.heap.size := RdR.lt hR24
      obtain ⟨a', c', w31, hrun, hO31, x31', hblk⟩ := (hO24.ext x29' (fun _ _ h => h)).push (ty := 28) Try.underlying28 (by have := x29'.size; omega) (by omega) (RowAt.of_blk hb29)
      have hsz := x29'.size
      have hR31 := RdR.up (RdR.no hR24 x29') x31' fun q hq => by have := hq.1; omega
      refine ⟨a', _, c', w31, hrun, k, by omega, t + 1, a', c', _, (numR (countR 200 (countR 7 (s.1, s.2)).2).2).2, ?_, by omega, ?_, hR31, by omega, hO31, fun ad ha => ?_, hF, (x24.trans x29'.none).trans (x31'.mono fun q hq _ => by have := hq.1; omega)⟩
      · rw [w64 (by omega) (by omega), List.length_append]; rfl
      · rw [List.length_append]; simp; omega
      · rcases hblk ad ha with ⟨b0, hb0, e0⟩ | h
        · rw [e0]; exact hOp b0 hb0
        · omega
    · rw [beq_eq_false_iff_ne.2 hs0, cond_false]
      rw [if_neg hs0] at hF
      rw [← hF]
      exact ⟨_, _, rfl, hO, hR, hx, by show l.length ≤ 8; omega⟩
theorem rRead_spec {b : List UInt8} (hr : RowAt w a (bytesV b)) (hc : b.length ≤ c) (hl : b.length < 1000000) :
    Calls Try.prog 48 #[.slice a b.length c] w (fun e w' => ∃ ra rc, e = .returned (.tuple #[.slice ra (readV b).1.length rc, .int .i64 (readV b).2]) ∧ OwnH w.heap.size w' ra rc (readV b).1 ∧ Ext no w w') := by
  rw [← refV_eq]
  refine (rRead5.ok _ _ _ (R := fun v w' => ∃ ra rc, v = .tuple #[.slice ra (refV b).1.length rc, .int .i64 (refV b).2] ∧ OwnH w.heap.size w' ra rc (refV b).1 ∧ Ext no w w') ?_).mono fun e w' ⟨v, he, ra, rc, hv, hw⟩ => ⟨ra, rc, by rw [he, hv], hw⟩
  unfold rRead5.M
  refine Q02 fun w2 h2 => ?_
  have x2 : Ext no w w2 := by subst h2; exact (Ext.refl _ _).alloc _
  have hb2 : Blk w2 w.heap.size 83 [.slice a b.length c, .int .i64 0] := by subst h2; exact Blk.new _ _ _
  have hR2 : RdR w2 w.heap.size b 0 := ⟨a, c, hb2, hc, hr.no x2, fun h0 ad ha => hr.lt h0 ha⟩
  refine (Q22 hR2 hl).mono fun e w5 ⟨ra, rc, he, hO, hR5, x5', hl8⟩ => ⟨ra, _, rc, he, ?_⟩
  have x5 : Ext no w w5 := x2.then x5' fun q hq => .inr hq
  have nilH : ∀ w1, OwnH w.heap.size w1 none 0 [] := fun w1 => ⟨Q3y _ _ _, fun ad ha => by cases ha⟩
  refine (rDone_spec hR5).mono fun e w8 ⟨he, hw⟩ => ⟨_, he, ?_⟩
  subst hw
  unfold refV
  by_cases hd : doneR ((takeAll b).2.1, (takeAll b).2.2) ≠ 0
  · rw [show (doneR ((takeAll b).2.1, (takeAll b).2.2) != 0) = true by simpa using hd, cond_true, if_pos hd]
    exact ⟨none, 0, rfl, nilH _, x5⟩
  · rw [show (doneR ((takeAll b).2.1, (takeAll b).2.2) != 0) = false by simpa using hd, cond_false, if_neg hd]
    refine (Q1I hO.row (by omega)).mono fun e w38 ⟨he, x38⟩ => ⟨_, he, ?_⟩
    by_cases hri : rightV (takeAll b).1 = true
    · rw [hri, Bool.not_true, cond_false, if_pos rfl]
      exact ⟨_, _, rfl, (hO.ext x38 (fun _ _ h => h)).mono (by omega), x5.trans x38⟩
    · rw [show rightV (takeAll b).1 = false by simpa using hri, Bool.not_false, cond_true, if_neg (by decide)]
      exact ⟨none, 0, rfl, nilH _, x5.trans x38⟩
end
end V5
end Go.Proofs.Ytoempemllkebkaa
