/- The reference's numbers, bytes and reader; bytes held beside each other. -/
import Derived.Test.YtoempemllkebkaaZA
import Derived.Test.YtoempemllkebkaaProg
import Derived.KernelRfl
import Derived.Laws.StructEq
set_option linter.unusedVariables false
set_option linter.unusedSimpArgs false
set_option maxRecDepth 20000
namespace Go.Proofs.Ytoempemllkebkaa.W
open Go Go.Mx Go.Proofs
def wSame.M (a9 : Option Addr) (a1 aa : Nat) (a6 : Option Addr) (a3 ab : Nat) (R : RW) (w : World) : Prop :=
 bif (a1 : Int) != (a3 : Int) then (
 R (.bool false) w) else (
 ∃ (I0 : Nat → List Value → World → Prop) (m4 : Nat), I0 m4 [.int .i64 0] w ∧ ∀ (m5 : Nat) (a2 : World) (i3 : Int), I0 m5 [.int .i64 i3] a2 →
 bif decide (i3 < (a1 : Int)) then (
 thenW (a2.drew) fun a0 =>
 a9.elim False fun a8 =>
 0 ≤ (i3 : Int) ∧ (i3 : Int) < (a1 : Int) ∧
 ∃ (x9 : Int), a0.cell? (a8.add (Int.toNat i3 * 1)) = some (.int .u8 x9) ∧
 a6.elim False fun a7 =>
 0 ≤ (i3 : Int) ∧ (i3 : Int) < (a3 : Int) ∧
 ∃ (a4 : Int), a0.cell? (a7.add (Int.toNat i3 * 1)) = some (.int .u8 a4) ∧
 bif x9 != a4 then (
 R (.bool false) a0) else (
 ∃ a5, a5 < m5 ∧ I0 a5 [.int .i64 (IntKind.i64.wrap (i3 + 1))] a0)) else (
 R (.bool true) a2))

theorem wSame.eq (a1a : Option Addr) (a1n a1c : Nat) (b2a : Option Addr) (b2n b2c : Nat) (R : RW) (w : World) : mfunc Try.prog [(0, [0, 1], [(5, (.one (.int .i64)))])] 11 [.slice a1a a1n a1c, .slice b2a b2n b2c] R w = wSame.M a1a a1n a1c b2a b2n b2c R w := by kernel_rfl
theorem wSame.ok (a5 : Option Addr) (a0 a1 : Nat) (a3 : Option Addr) (a2 a4 : Nat) {R : RW} {w : World} (h : wSame.M a5 a0 a1 a3 a2 a4 R w) : Calls Try.prog 11 #[.slice a5 a0 a1, .slice a3 a2 a4] w fun e w' => ∃ v, e = .returned v ∧ R v w' :=
  Q08 follows (H := [(0, [0, 1], [(5, (.one (.int .i64)))])]) (args := [.slice a5 a0 a1, .slice a3 a2 a4]) (by rw [wSame.eq]; exact h)

def rNum.M (n1 : Int) (R : RW) (w : World) : Prop :=
 bif decide (n1 < 128) then (
 thenW (w.alloc (.cells #[.int .u8 (IntKind.u8.wrap n1)] 5)) fun a8 =>
 R (.slice (some (blk w.heap.size)) 1 1) a8) else (
 128 ≠ (0 : Int) ∧ thenW (w.alloc (.cells #[.int .u8 (IntKind.u8.wrap ((IntKind.u8.wrap (Int.tmod n1 128)) + 128))] 5)) fun a7 =>
 128 ≠ (0 : Int) ∧ Calls Try.prog 39 #[.int .u64 (IntKind.u64.wrap (Int.tdiv n1 128))] a7 fun aa a9 => ∃ (a0 : Option Addr) (a2 a1 : Nat), aa = .returned (.slice a0 a2 a1) ∧
 ∃ (a6 : Option Addr) (a3 a4 : Nat) (a5 : World), (Builtin.append_ #[25, 25] 25 #[.slice (some (blk w.heap.size)) 1 1, .slice a0 a2 a1]).run Try.prog a9 = .ok (.slice a6 a3 a4) a5 ∧
 R (.slice a6 a3 a4) a5)

theorem rNum.eq (n1 : Int) (R : RW) (w : World) : mfunc Try.prog [] 39 [.int .u64 n1] R w = rNum.M n1 R w := by kernel_rfl
theorem rNum.ok (n1 : Int) {R : RW} {w : World} (h : rNum.M n1 R w) : Calls Try.prog 39 #[.int .u64 n1] w fun e w' => ∃ v, e = .returned v ∧ R v w' :=
  Q08 follows (H := []) (args := [.int .u64 n1]) (by rw [rNum.eq]; exact h)

def rRNum.M (r1 : Option Addr) (R : RW) (w : World) : Prop :=
 r1.elim False fun a2 =>
 ∃ (j0 : Int), w.cell? (a2.add 1) = some (.int .i64 j0) ∧
 bif j0 != 0 then (
 R (.int .u64 0) w) else (
 ∃ (I0 : Nat → List Value → World → Prop) (m5 : Nat), I0 m5 [.int .i64 0] w ∧ ∀ (m6 : Nat) (a0 : World) (n4 : Int), I0 m6 [.int .i64 n4] a0 →
 r1.elim False fun a8 =>
 ∃ (jl : Option Addr) (jh ju : Nat), a0.cell? (a8.add 0) = some (.slice jl jh ju) ∧
 bif decide (n4 < (jh : Int)) then (
 bif decide (n4 < 10) then (
 r1.elim False fun jv =>
 ∃ (f0 : Option Addr) (e1 gs : Nat), a0.cell? (jv.add 0) = some (.slice f0 e1 gs) ∧
 f0.elim False fun ka =>
 0 ≤ (n4 : Int) ∧ (n4 : Int) < (e1 : Int) ∧
 ∃ (je : Int), a0.cell? (ka.add (Int.toNat n4 * 1)) = some (.int .u8 je) ∧
 bif decide (je ≥ 128) then (
 ∃ iy, iy < m6 ∧ I0 iy [.int .i64 (IntKind.i64.wrap (n4 + 1))] a0) else (
 r1.elim False fun k1 =>
 ∃ (fr : Option Addr) (ei gm : Nat), a0.cell? (k1.add 0) = some (.slice fr ei gm) ∧
 bif decide (n4 ≥ (ei : Int)) then (
 Calls Try.prog 65 #[.pointer r1, .int .i64 4] a0 fun ij gt => ij = .returned (.tuple #[]) ∧
 R (.int .u64 0) gt) else (
 bif decide (n4 ≥ 10) then (
 Calls Try.prog 65 #[.pointer r1, .int .i64 4] a0 fun im gz => im = .returned (.tuple #[]) ∧
 R (.int .u64 0) gz) else (
 bif n4 == 9 then (
 r1.elim False fun jm =>
 ∃ (dv : Option Addr) (fm i1 : Nat), a0.cell? (jm.add 0) = some (.slice dv fm i1) ∧
 dv.elim False fun k3 =>
 0 ≤ (n4 : Int) ∧ (n4 : Int) < (fm : Int) ∧
 ∃ (ja : Int), a0.cell? (k3.add (Int.toNat n4 * 1)) = some (.int .u8 ja) ∧
 bif ja != 1 then (
 Calls Try.prog 65 #[.pointer r1, .int .i64 4] a0 fun io gp => io = .returned (.tuple #[]) ∧
 R (.int .u64 0) gp) else (
 bif decide (n4 > 0) then (
 r1.elim False fun jy =>
 ∃ (f9 : Option Addr) (d5 i0 : Nat), a0.cell? (jy.add 0) = some (.slice f9 d5 i0) ∧
 f9.elim False fun jt =>
 0 ≤ (n4 : Int) ∧ (n4 : Int) < (d5 : Int) ∧
 ∃ (j4 : Int), a0.cell? (jt.add (Int.toNat n4 * 1)) = some (.int .u8 j4) ∧
 bif j4 == 0 then (
 Calls Try.prog 65 #[.pointer r1, .int .i64 4] a0 fun gh iq => gh = .returned (.tuple #[]) ∧
 R (.int .u64 0) iq) else (
 ∃ (I2 : Nat → List Value → World → Prop) (k9 : Nat), I2 k9 [.int .u64 0, .int .i64 n4] a0 ∧ ∀ (jb : Nat) (ao : World) (al cv : Int), I2 jb [.int .u64 al, .int .i64 cv] ao →
 bif decide (cv ≥ 0) then (
 r1.elim False fun jp =>
 ∃ (e9 : Option Addr) (fg gi : Nat), ao.cell? (jp.add 0) = some (.slice e9 fg gi) ∧
 e9.elim False fun jw =>
 0 ≤ (cv : Int) ∧ (cv : Int) < (fg : Int) ∧
 ∃ (jf : Int), ao.cell? (jw.add (Int.toNat cv * 1)) = some (.int .u8 jf) ∧
 128 ≠ (0 : Int) ∧ ∃ j2, j2 < jb ∧ I2 j2 [.int .u64 (IntKind.u64.wrap ((IntKind.u64.wrap (al * 128)) + (IntKind.u64.wrap (Int.tmod jf 128)))), .int .i64 (IntKind.i64.wrap (cv - 1))] ao) else (
 r1.elim False fun k7 =>
 ∃ (ct : Option Addr) (cr co : Nat), ao.cell? (k7.add 0) = some (.slice ct cr co) ∧
 (0 : Int) ≤ ((IntKind.i64.wrap (n4 + 1)) : Int) ∧ ((IntKind.i64.wrap (n4 + 1)) : Int) ≤ (cr : Int) ∧
 r1.elim False fun j3 =>
 Q01 ao ((j3.add 0).add 0) ∧
 thenW (ao.setCell ((j3.add 0).add 0) (.slice (if co = Int.toNat (IntKind.i64.wrap (n4 + 1)) then ct else Option.map (fun z : Addr => z.add ((Int.toNat (IntKind.i64.wrap (n4 + 1))) * 1)) ct) (cr - (Int.toNat (IntKind.i64.wrap (n4 + 1)))) (co - (Int.toNat (IntKind.i64.wrap (n4 + 1)))))) fun ga =>
 R (.int .u64 al) ga))) else (
 ∃ (I2 : Nat → List Value → World → Prop) (k4 : Nat), I2 k4 [.int .u64 0, .int .i64 n4] a0 ∧ ∀ (j1 : Nat) (aq : World) (ak cx : Int), I2 j1 [.int .u64 ak, .int .i64 cx] aq →
 bif decide (cx ≥ 0) then (
 r1.elim False fun k5 =>
 ∃ (d6 : Option Addr) (dg i8 : Nat), aq.cell? (k5.add 0) = some (.slice d6 dg i8) ∧
 d6.elim False fun k8 =>
 0 ≤ (cx : Int) ∧ (cx : Int) < (dg : Int) ∧
 ∃ (j9 : Int), aq.cell? (k8.add (Int.toNat cx * 1)) = some (.int .u8 j9) ∧
 128 ≠ (0 : Int) ∧ ∃ j6, j6 < j1 ∧ I2 j6 [.int .u64 (IntKind.u64.wrap ((IntKind.u64.wrap (ak * 128)) + (IntKind.u64.wrap (Int.tmod j9 128)))), .int .i64 (IntKind.i64.wrap (cx - 1))] aq) else (
 r1.elim False fun jx =>
 ∃ (cj : Option Addr) (cl cq : Nat), aq.cell? (jx.add 0) = some (.slice cj cl cq) ∧
 (0 : Int) ≤ ((IntKind.i64.wrap (n4 + 1)) : Int) ∧ ((IntKind.i64.wrap (n4 + 1)) : Int) ≤ (cl : Int) ∧
 r1.elim False fun j7 =>
 Q01 aq ((j7.add 0).add 0) ∧
 thenW (aq.setCell ((j7.add 0).add 0) (.slice (if cq = Int.toNat (IntKind.i64.wrap (n4 + 1)) then cj else Option.map (fun z : Addr => z.add ((Int.toNat (IntKind.i64.wrap (n4 + 1))) * 1)) cj) (cl - (Int.toNat (IntKind.i64.wrap (n4 + 1)))) (cq - (Int.toNat (IntKind.i64.wrap (n4 + 1)))))) fun fu =>
 R (.int .u64 ak) fu)))) else (
 bif decide (n4 > 0) then (
 r1.elim False fun jz =>
 ∃ (de : Option Addr) (db g6 : Nat), a0.cell? (jz.add 0) = some (.slice de db g6) ∧
 de.elim False fun k6 =>
 0 ≤ (n4 : Int) ∧ (n4 : Int) < (db : Int) ∧
 ∃ (j5 : Int), a0.cell? (k6.add (Int.toNat n4 * 1)) = some (.int .u8 j5) ∧
 bif j5 == 0 then (
 Calls Try.prog 65 #[.pointer r1, .int .i64 4] a0 fun ii gy => ii = .returned (.tuple #[]) ∧
 R (.int .u64 0) gy) else (
 ∃ (I2 : Nat → List Value → World → Prop) (kb : Nat), I2 kb [.int .u64 0, .int .i64 n4] a0 ∧ ∀ (ji : Nat) (an : World) (am cw : Int), I2 ji [.int .u64 am, .int .i64 cw] an →
 bif decide (cw ≥ 0) then (
 r1.elim False fun jn =>
 ∃ (da : Option Addr) (ej g1 : Nat), an.cell? (jn.add 0) = some (.slice da ej g1) ∧
 da.elim False fun k0 =>
 0 ≤ (cw : Int) ∧ (cw : Int) < (ej : Int) ∧
 ∃ (jd : Int), an.cell? (k0.add (Int.toNat cw * 1)) = some (.int .u8 jd) ∧
 128 ≠ (0 : Int) ∧ ∃ iz, iz < ji ∧ I2 iz [.int .u64 (IntKind.u64.wrap ((IntKind.u64.wrap (am * 128)) + (IntKind.u64.wrap (Int.tmod jd 128)))), .int .i64 (IntKind.i64.wrap (cw - 1))] an) else (
 r1.elim False fun k2 =>
 ∃ (cp : Option Addr) (cs cn : Nat), an.cell? (k2.add 0) = some (.slice cp cs cn) ∧
 (0 : Int) ≤ ((IntKind.i64.wrap (n4 + 1)) : Int) ∧ ((IntKind.i64.wrap (n4 + 1)) : Int) ≤ (cs : Int) ∧
 r1.elim False fun j8 =>
 Q01 an ((j8.add 0).add 0) ∧
 thenW (an.setCell ((j8.add 0).add 0) (.slice (if cn = Int.toNat (IntKind.i64.wrap (n4 + 1)) then cp else Option.map (fun z : Addr => z.add ((Int.toNat (IntKind.i64.wrap (n4 + 1))) * 1)) cp) (cs - (Int.toNat (IntKind.i64.wrap (n4 + 1)))) (cn - (Int.toNat (IntKind.i64.wrap (n4 + 1)))))) fun ir =>
 R (.int .u64 am) ir))) else (
 ∃ (I2 : Nat → List Value → World → Prop) (jo : Nat), I2 jo [.int .u64 0, .int .i64 n4] a0 ∧ ∀ (jc : Nat) (ap : World) (aj cy : Int), I2 jc [.int .u64 aj, .int .i64 cy] ap →
 bif decide (cy ≥ 0) then (
 r1.elim False fun jr =>
 ∃ (ea : Option Addr) (fj fs : Nat), ap.cell? (jr.add 0) = some (.slice ea fj fs) ∧
 ea.elim False fun jk =>
 0 ≤ (cy : Int) ∧ (cy : Int) < (fj : Int) ∧
 ∃ (ix : Int), ap.cell? (jk.add (Int.toNat cy * 1)) = some (.int .u8 ix) ∧
 128 ≠ (0 : Int) ∧ ∃ jj, jj < jc ∧ I2 jj [.int .u64 (IntKind.u64.wrap ((IntKind.u64.wrap (aj * 128)) + (IntKind.u64.wrap (Int.tmod ix 128)))), .int .i64 (IntKind.i64.wrap (cy - 1))] ap) else (
 r1.elim False fun js =>
 ∃ (cm : Option Addr) (cu ck : Nat), ap.cell? (js.add 0) = some (.slice cm cu ck) ∧
 (0 : Int) ≤ ((IntKind.i64.wrap (n4 + 1)) : Int) ∧ ((IntKind.i64.wrap (n4 + 1)) : Int) ≤ (cu : Int) ∧
 r1.elim False fun jg =>
 Q01 ap ((jg.add 0).add 0) ∧
 thenW (ap.setCell ((jg.add 0).add 0) (.slice (if ck = Int.toNat (IntKind.i64.wrap (n4 + 1)) then cm else Option.map (fun z : Addr => z.add ((Int.toNat (IntKind.i64.wrap (n4 + 1))) * 1)) cm) (cu - (Int.toNat (IntKind.i64.wrap (n4 + 1)))) (ck - (Int.toNat (IntKind.i64.wrap (n4 + 1)))))) fun gj =>
 R (.int .u64 aj) gj))))))) else (
 r1.elim False fun jq =>
 ∃ (gf : Option Addr) (dx g9 : Nat), a0.cell? (jq.add 0) = some (.slice gf dx g9) ∧
 bif decide (n4 ≥ (dx : Int)) then (
 Calls Try.prog 65 #[.pointer r1, .int .i64 4] a0 fun gl g2 => gl = .returned (.tuple #[]) ∧
 R (.int .u64 0) g2) else (
 bif decide (n4 ≥ 10) then (
 Calls Try.prog 65 #[.pointer r1, .int .i64 4] a0 fun g4 fe => g4 = .returned (.tuple #[]) ∧
 R (.int .u64 0) fe) else (
 bif n4 == 9 then (
 r1.elim False fun ft =>
 ∃ (c5 : Option Addr) (bw er : Nat), a0.cell? (ft.add 0) = some (.slice c5 bw er) ∧
 c5.elim False fun ge =>
 0 ≤ (n4 : Int) ∧ (n4 : Int) < (bw : Int) ∧
 ∃ (ek : Int), a0.cell? (ge.add (Int.toNat n4 * 1)) = some (.int .u8 ek) ∧
 bif ek != 1 then (
 Calls Try.prog 65 #[.pointer r1, .int .i64 4] a0 fun el f8 => el = .returned (.tuple #[]) ∧
 R (.int .u64 0) f8) else (
 bif decide (n4 > 0) then (
 r1.elim False fun g3 =>
 ∃ (bp : Option Addr) (bq e7 : Nat), a0.cell? (g3.add 0) = some (.slice bp bq e7) ∧
 bp.elim False fun g5 =>
 0 ≤ (n4 : Int) ∧ (n4 : Int) < (bq : Int) ∧
 ∃ (em : Int), a0.cell? (g5.add (Int.toNat n4 * 1)) = some (.int .u8 em) ∧
 bif em == 0 then (
 Calls Try.prog 65 #[.pointer r1, .int .i64 4] a0 fun cz dp => cz = .returned (.tuple #[]) ∧
 R (.int .u64 0) dp) else (
 ∃ (I2 : Nat → List Value → World → Prop) (i3 : Nat), I2 i3 [.int .u64 0, .int .i64 n4] a0 ∧ ∀ (fh : Nat) (a5 : World) (ac aw : Int), I2 fh [.int .u64 ac, .int .i64 aw] a5 →
 bif decide (aw ≥ 0) then (
 r1.elim False fun gx =>
 ∃ (ce : Option Addr) (ca ev : Nat), a5.cell? (gx.add 0) = some (.slice ce ca ev) ∧
 ce.elim False fun it =>
 0 ≤ (aw : Int) ∧ (aw : Int) < (ca : Int) ∧
 ∃ (d0 : Int), a5.cell? (it.add (Int.toNat aw * 1)) = some (.int .u8 d0) ∧
 128 ≠ (0 : Int) ∧ ∃ es, es < fh ∧ I2 es [.int .u64 (IntKind.u64.wrap ((IntKind.u64.wrap (ac * 128)) + (IntKind.u64.wrap (Int.tmod d0 128)))), .int .i64 (IntKind.i64.wrap (aw - 1))] a5) else (
 r1.elim False fun g8 =>
 ∃ (bg : Option Addr) (bi bh : Nat), a5.cell? (g8.add 0) = some (.slice bg bi bh) ∧
 (0 : Int) ≤ ((IntKind.i64.wrap (n4 + 1)) : Int) ∧ ((IntKind.i64.wrap (n4 + 1)) : Int) ≤ (bi : Int) ∧
 r1.elim False fun eq =>
 Q01 a5 ((eq.add 0).add 0) ∧
 thenW (a5.setCell ((eq.add 0).add 0) (.slice (if bh = Int.toNat (IntKind.i64.wrap (n4 + 1)) then bg else Option.map (fun z : Addr => z.add ((Int.toNat (IntKind.i64.wrap (n4 + 1))) * 1)) bg) (bi - (Int.toNat (IntKind.i64.wrap (n4 + 1)))) (bh - (Int.toNat (IntKind.i64.wrap (n4 + 1)))))) fun eo =>
 R (.int .u64 ac) eo))) else (
 ∃ (I2 : Nat → List Value → World → Prop) (ia : Nat), I2 ia [.int .u64 0, .int .i64 n4] a0 ∧ ∀ (fd : Nat) (a9 : World) (ad ar : Int), I2 fd [.int .u64 ad, .int .i64 ar] a9 →
 bif decide (ar ≥ 0) then (
 r1.elim False fun i9 =>
 ∃ (bu : Option Addr) (ci e2 : Nat), a9.cell? (i9.add 0) = some (.slice bu ci e2) ∧
 bu.elim False fun fx =>
 0 ≤ (ar : Int) ∧ (ar : Int) < (ci : Int) ∧
 ∃ (fo : Int), a9.cell? (fx.add (Int.toNat ar * 1)) = some (.int .u8 fo) ∧
 128 ≠ (0 : Int) ∧ ∃ fc, fc < fd ∧ I2 fc [.int .u64 (IntKind.u64.wrap ((IntKind.u64.wrap (ad * 128)) + (IntKind.u64.wrap (Int.tmod fo 128)))), .int .i64 (IntKind.i64.wrap (ar - 1))] a9) else (
 r1.elim False fun ip =>
 ∃ (bn : Option Addr) (be b1 : Nat), a9.cell? (ip.add 0) = some (.slice bn be b1) ∧
 (0 : Int) ≤ ((IntKind.i64.wrap (n4 + 1)) : Int) ∧ ((IntKind.i64.wrap (n4 + 1)) : Int) ≤ (be : Int) ∧
 r1.elim False fun dr =>
 Q01 a9 ((dr.add 0).add 0) ∧
 thenW (a9.setCell ((dr.add 0).add 0) (.slice (if b1 = Int.toNat (IntKind.i64.wrap (n4 + 1)) then bn else Option.map (fun z : Addr => z.add ((Int.toNat (IntKind.i64.wrap (n4 + 1))) * 1)) bn) (be - (Int.toNat (IntKind.i64.wrap (n4 + 1)))) (b1 - (Int.toNat (IntKind.i64.wrap (n4 + 1)))))) fun dl =>
 R (.int .u64 ad) dl)))) else (
 bif decide (n4 > 0) then (
 r1.elim False fun g0 =>
 ∃ (c6 : Option Addr) (c9 df : Nat), a0.cell? (g0.add 0) = some (.slice c6 c9 df) ∧
 c6.elim False fun il =>
 0 ≤ (n4 : Int) ∧ (n4 : Int) < (c9 : Int) ∧
 ∃ (f7 : Int), a0.cell? (il.add (Int.toNat n4 * 1)) = some (.int .u8 f7) ∧
 bif f7 == 0 then (
 Calls Try.prog 65 #[.pointer r1, .int .i64 4] a0 fun dy f4 => dy = .returned (.tuple #[]) ∧
 R (.int .u64 0) f4) else (
 ∃ (I2 : Nat → List Value → World → Prop) (i6 : Nat), I2 i6 [.int .u64 0, .int .i64 n4] a0 ∧ ∀ (e0 : Nat) (a4 : World) (ae az : Int), I2 e0 [.int .u64 ae, .int .i64 az] a4 →
 bif decide (az ≥ 0) then (
 r1.elim False fun fw =>
 ∃ (c2 : Option Addr) (cd d4 : Nat), a4.cell? (fw.add 0) = some (.slice c2 cd d4) ∧
 c2.elim False fun gn =>
 0 ≤ (az : Int) ∧ (az : Int) < (cd : Int) ∧
 ∃ (di : Int), a4.cell? (gn.add (Int.toNat az * 1)) = some (.int .u8 di) ∧
 128 ≠ (0 : Int) ∧ ∃ f3, f3 < e0 ∧ I2 f3 [.int .u64 (IntKind.u64.wrap ((IntKind.u64.wrap (ae * 128)) + (IntKind.u64.wrap (Int.tmod di 128)))), .int .i64 (IntKind.i64.wrap (az - 1))] a4) else (
 r1.elim False fun fv =>
 ∃ (b4 : Option Addr) (bf bk : Nat), a4.cell? (fv.add 0) = some (.slice b4 bf bk) ∧
 (0 : Int) ≤ ((IntKind.i64.wrap (n4 + 1)) : Int) ∧ ((IntKind.i64.wrap (n4 + 1)) : Int) ≤ (bf : Int) ∧
 r1.elim False fun dk =>
 Q01 a4 ((dk.add 0).add 0) ∧
 thenW (a4.setCell ((dk.add 0).add 0) (.slice (if bk = Int.toNat (IntKind.i64.wrap (n4 + 1)) then b4 else Option.map (fun z : Addr => z.add ((Int.toNat (IntKind.i64.wrap (n4 + 1))) * 1)) b4) (bf - (Int.toNat (IntKind.i64.wrap (n4 + 1)))) (bk - (Int.toNat (IntKind.i64.wrap (n4 + 1)))))) fun ey =>
 R (.int .u64 ae) ey))) else (
 ∃ (I2 : Nat → List Value → World → Prop) (g7 : Nat), I2 g7 [.int .u64 0, .int .i64 n4] a0 ∧ ∀ (dd : Nat) (aa : World) (ai av : Int), I2 dd [.int .u64 ai, .int .i64 av] aa →
 bif decide (av ≥ 0) then (
 r1.elim False fun fq =>
 ∃ (bz : Option Addr) (bv en : Nat), aa.cell? (fq.add 0) = some (.slice bz bv en) ∧
 bz.elim False fun gu =>
 0 ≤ (av : Int) ∧ (av : Int) < (bv : Int) ∧
 ∃ (ez : Int), aa.cell? (gu.add (Int.toNat av * 1)) = some (.int .u8 ez) ∧
 128 ≠ (0 : Int) ∧ ∃ dc, dc < dd ∧ I2 dc [.int .u64 (IntKind.u64.wrap ((IntKind.u64.wrap (ai * 128)) + (IntKind.u64.wrap (Int.tmod ez 128)))), .int .i64 (IntKind.i64.wrap (av - 1))] aa) else (
 r1.elim False fun iu =>
 ∃ (b9 : Option Addr) (bm b8 : Nat), aa.cell? (iu.add 0) = some (.slice b9 bm b8) ∧
 (0 : Int) ≤ ((IntKind.i64.wrap (n4 + 1)) : Int) ∧ ((IntKind.i64.wrap (n4 + 1)) : Int) ≤ (bm : Int) ∧
 r1.elim False fun ew =>
 Q01 aa ((ew.add 0).add 0) ∧
 thenW (aa.setCell ((ew.add 0).add 0) (.slice (if b8 = Int.toNat (IntKind.i64.wrap (n4 + 1)) then b9 else Option.map (fun z : Addr => z.add ((Int.toNat (IntKind.i64.wrap (n4 + 1))) * 1)) b9) (bm - (Int.toNat (IntKind.i64.wrap (n4 + 1)))) (b8 - (Int.toNat (IntKind.i64.wrap (n4 + 1)))))) fun dz =>
 R (.int .u64 ai) dz))))))) else (
 r1.elim False fun gr =>
 ∃ (dh : Option Addr) (cg d7 : Nat), a0.cell? (gr.add 0) = some (.slice dh cg d7) ∧
 bif decide (n4 ≥ (cg : Int)) then (
 Calls Try.prog 65 #[.pointer r1, .int .i64 4] a0 fun f5 fb => f5 = .returned (.tuple #[]) ∧
 R (.int .u64 0) fb) else (
 bif decide (n4 ≥ 10) then (
 Calls Try.prog 65 #[.pointer r1, .int .i64 4] a0 fun fa fk => fa = .returned (.tuple #[]) ∧
 R (.int .u64 0) fk) else (
 bif n4 == 9 then (
 r1.elim False fun iv =>
 ∃ (c3 : Option Addr) (cb ed : Nat), a0.cell? (iv.add 0) = some (.slice c3 cb ed) ∧
 c3.elim False fun ie =>
 0 ≤ (n4 : Int) ∧ (n4 : Int) < (cb : Int) ∧
 ∃ (du : Int), a0.cell? (ie.add (Int.toNat n4 * 1)) = some (.int .u8 du) ∧
 bif du != 1 then (
 Calls Try.prog 65 #[.pointer r1, .int .i64 4] a0 fun dt d3 => dt = .returned (.tuple #[]) ∧
 R (.int .u64 0) d3) else (
 bif decide (n4 > 0) then (
 r1.elim False fun gq =>
 ∃ (bs : Option Addr) (cf ds : Nat), a0.cell? (gq.add 0) = some (.slice bs cf ds) ∧
 bs.elim False fun ib =>
 0 ≤ (n4 : Int) ∧ (n4 : Int) < (cf : Int) ∧
 ∃ (dm : Int), a0.cell? (ib.add (Int.toNat n4 * 1)) = some (.int .u8 dm) ∧
 bif dm == 0 then (
 Calls Try.prog 65 #[.pointer r1, .int .i64 4] a0 fun e3 fi => e3 = .returned (.tuple #[]) ∧
 R (.int .u64 0) fi) else (
 ∃ (I2 : Nat → List Value → World → Prop) (iw : Nat), I2 iw [.int .u64 0, .int .i64 n4] a0 ∧ ∀ (f1 : Nat) (a3 : World) (af au : Int), I2 f1 [.int .u64 af, .int .i64 au] a3 →
 bif decide (au ≥ 0) then (
 r1.elim False fun gw =>
 ∃ (c0 : Option Addr) (c4 f6 : Nat), a3.cell? (gw.add 0) = some (.slice c0 c4 f6) ∧
 c0.elim False fun gc =>
 0 ≤ (au : Int) ∧ (au : Int) < (c4 : Int) ∧
 ∃ (f2 : Int), a3.cell? (gc.add (Int.toNat au * 1)) = some (.int .u8 f2) ∧
 128 ≠ (0 : Int) ∧ ∃ d9, d9 < f1 ∧ I2 d9 [.int .u64 (IntKind.u64.wrap ((IntKind.u64.wrap (af * 128)) + (IntKind.u64.wrap (Int.tmod f2 128)))), .int .i64 (IntKind.i64.wrap (au - 1))] a3) else (
 r1.elim False fun gb =>
 ∃ (b6 : Option Addr) (b2 ba : Nat), a3.cell? (gb.add 0) = some (.slice b6 b2 ba) ∧
 (0 : Int) ≤ ((IntKind.i64.wrap (n4 + 1)) : Int) ∧ ((IntKind.i64.wrap (n4 + 1)) : Int) ≤ (b2 : Int) ∧
 r1.elim False fun dn =>
 Q01 a3 ((dn.add 0).add 0) ∧
 thenW (a3.setCell ((dn.add 0).add 0) (.slice (if ba = Int.toNat (IntKind.i64.wrap (n4 + 1)) then b6 else Option.map (fun z : Addr => z.add ((Int.toNat (IntKind.i64.wrap (n4 + 1))) * 1)) b6) (b2 - (Int.toNat (IntKind.i64.wrap (n4 + 1)))) (ba - (Int.toNat (IntKind.i64.wrap (n4 + 1)))))) fun fl =>
 R (.int .u64 af) fl))) else (
 ∃ (I2 : Nat → List Value → World → Prop) (ik : Nat), I2 ik [.int .u64 0, .int .i64 n4] a0 ∧ ∀ (dw : Nat) (a7 : World) (ab b0 : Int), I2 dw [.int .u64 ab, .int .i64 b0] a7 →
 bif decide (b0 ≥ 0) then (
 r1.elim False fun gv =>
 ∃ (c8 : Option Addr) (c1 dj : Nat), a7.cell? (gv.add 0) = some (.slice c8 c1 dj) ∧
 c8.elim False fun fz =>
 0 ≤ (b0 : Int) ∧ (b0 : Int) < (c1 : Int) ∧
 ∃ (e5 : Int), a7.cell? (fz.add (Int.toNat b0 * 1)) = some (.int .u8 e5) ∧
 128 ≠ (0 : Int) ∧ ∃ d2, d2 < dw ∧ I2 d2 [.int .u64 (IntKind.u64.wrap ((IntKind.u64.wrap (ab * 128)) + (IntKind.u64.wrap (Int.tmod e5 128)))), .int .i64 (IntKind.i64.wrap (b0 - 1))] a7) else (
 r1.elim False fun gg =>
 ∃ (bd : Option Addr) (b7 b3 : Nat), a7.cell? (gg.add 0) = some (.slice bd b7 b3) ∧
 (0 : Int) ≤ ((IntKind.i64.wrap (n4 + 1)) : Int) ∧ ((IntKind.i64.wrap (n4 + 1)) : Int) ≤ (b7 : Int) ∧
 r1.elim False fun d8 =>
 Q01 a7 ((d8.add 0).add 0) ∧
 thenW (a7.setCell ((d8.add 0).add 0) (.slice (if b3 = Int.toNat (IntKind.i64.wrap (n4 + 1)) then bd else Option.map (fun z : Addr => z.add ((Int.toNat (IntKind.i64.wrap (n4 + 1))) * 1)) bd) (b7 - (Int.toNat (IntKind.i64.wrap (n4 + 1)))) (b3 - (Int.toNat (IntKind.i64.wrap (n4 + 1)))))) fun e6 =>
 R (.int .u64 ab) e6)))) else (
 bif decide (n4 > 0) then (
 r1.elim False fun i4 =>
 ∃ (ch : Option Addr) (bx dq : Nat), a0.cell? (i4.add 0) = some (.slice ch bx dq) ∧
 ch.elim False fun i7 =>
 0 ≤ (n4 : Int) ∧ (n4 : Int) < (bx : Int) ∧
 ∃ (ex : Int), a0.cell? (i7.add (Int.toNat n4 * 1)) = some (.int .u8 ex) ∧
 bif ex == 0 then (
 Calls Try.prog 65 #[.pointer r1, .int .i64 4] a0 fun eg d1 => eg = .returned (.tuple #[]) ∧
 R (.int .u64 0) d1) else (
 ∃ (I2 : Nat → List Value → World → Prop) (gk : Nat), I2 gk [.int .u64 0, .int .i64 n4] a0 ∧ ∀ (ee : Nat) (a6 : World) (ag ax : Int), I2 ee [.int .u64 ag, .int .i64 ax] a6 →
 bif decide (ax ≥ 0) then (
 r1.elim False fun fy =>
 ∃ (br : Option Addr) (c7 et : Nat), a6.cell? (fy.add 0) = some (.slice br c7 et) ∧
 br.elim False fun ic =>
 0 ≤ (ax : Int) ∧ (ax : Int) < (c7 : Int) ∧
 ∃ (eb : Int), a6.cell? (ic.add (Int.toNat ax * 1)) = some (.int .u8 eb) ∧
 128 ≠ (0 : Int) ∧ ∃ eh, eh < ee ∧ I2 eh [.int .u64 (IntKind.u64.wrap ((IntKind.u64.wrap (ag * 128)) + (IntKind.u64.wrap (Int.tmod eb 128)))), .int .i64 (IntKind.i64.wrap (ax - 1))] a6) else (
 r1.elim False fun ig =>
 ∃ (bo : Option Addr) (bl bj : Nat), a6.cell? (ig.add 0) = some (.slice bo bl bj) ∧
 (0 : Int) ≤ ((IntKind.i64.wrap (n4 + 1)) : Int) ∧ ((IntKind.i64.wrap (n4 + 1)) : Int) ≤ (bl : Int) ∧
 r1.elim False fun ec =>
 Q01 a6 ((ec.add 0).add 0) ∧
 thenW (a6.setCell ((ec.add 0).add 0) (.slice (if bj = Int.toNat (IntKind.i64.wrap (n4 + 1)) then bo else Option.map (fun z : Addr => z.add ((Int.toNat (IntKind.i64.wrap (n4 + 1))) * 1)) bo) (bl - (Int.toNat (IntKind.i64.wrap (n4 + 1)))) (bj - (Int.toNat (IntKind.i64.wrap (n4 + 1)))))) fun eu =>
 R (.int .u64 ag) eu))) else (
 ∃ (I2 : Nat → List Value → World → Prop) (gd : Nat), I2 gd [.int .u64 0, .int .i64 n4] a0 ∧ ∀ (e8 : Nat) (a1 : World) (ah ay : Int), I2 e8 [.int .u64 ah, .int .i64 ay] a1 →
 bif decide (ay ≥ 0) then (
 r1.elim False fun i2 =>
 ∃ (bt : Option Addr) (cc ep : Nat), a1.cell? (i2.add 0) = some (.slice bt cc ep) ∧
 bt.elim False fun ih =>
 0 ≤ (ay : Int) ∧ (ay : Int) < (cc : Int) ∧
 ∃ (fp : Int), a1.cell? (ih.add (Int.toNat ay * 1)) = some (.int .u8 fp) ∧
 128 ≠ (0 : Int) ∧ ∃ ff, ff < e8 ∧ I2 ff [.int .u64 (IntKind.u64.wrap ((IntKind.u64.wrap (ah * 128)) + (IntKind.u64.wrap (Int.tmod fp 128)))), .int .i64 (IntKind.i64.wrap (ay - 1))] a1) else (
 r1.elim False fun i5 =>
 ∃ (bb : Option Addr) (bc b5 : Nat), a1.cell? (i5.add 0) = some (.slice bb bc b5) ∧
 (0 : Int) ≤ ((IntKind.i64.wrap (n4 + 1)) : Int) ∧ ((IntKind.i64.wrap (n4 + 1)) : Int) ≤ (bc : Int) ∧
 r1.elim False fun e4 =>
 Q01 a1 ((e4.add 0).add 0) ∧
 thenW (a1.setCell ((e4.add 0).add 0) (.slice (if b5 = Int.toNat (IntKind.i64.wrap (n4 + 1)) then bb else Option.map (fun z : Addr => z.add ((Int.toNat (IntKind.i64.wrap (n4 + 1))) * 1)) bb) (bc - (Int.toNat (IntKind.i64.wrap (n4 + 1)))) (b5 - (Int.toNat (IntKind.i64.wrap (n4 + 1)))))) fun ef =>
 R (.int .u64 ah) ef)))))))

theorem rRNum.eq (r1 : Option Addr) (R : RW) (w : World) : mfunc Try.prog [(0, [0], [(3, (.one (.int .i64)))]), (2, [0, 3], [(4, (.one (.int .u64))), (5, (.one (.int .i64)))])] 45 [.pointer r1] R w = rRNum.M r1 R w := by kernel_rfl
theorem rRNum.ok (r1 : Option Addr) {R : RW} {w : World} (h : rRNum.M r1 R w) : Calls Try.prog 45 #[.pointer r1] w fun e w' => ∃ v, e = .returned v ∧ R v w' :=
  Q08 follows (H := [(0, [0], [(3, (.one (.int .i64)))]), (2, [0, 3], [(4, (.one (.int .u64))), (5, (.one (.int .i64)))])]) (args := [.pointer r1]) (by rw [rRNum.eq]; exact h)

def rRCount.M (r1 : Option Addr) (a1 : Int) (R : RW) (w : World) : Prop :=
 Calls Try.prog 45 #[.pointer r1] w fun a9 a2 => ∃ (a0 : Int), a9 = .returned (.int .u64 a0) ∧
 r1.elim False fun a6 =>
 ∃ (a5 : Int), a2.cell? (a6.add 1) = some (.int .i64 a5) ∧
 bif a5 == 0 then (
 bif decide (a1 < 0) then (
 Calls Try.prog 65 #[.pointer r1, .int .i64 3] a2 fun a8 a7 => a8 = .returned (.tuple #[]) ∧
 R (.int .i64 0) a7) else (
 bif decide (a0 > (IntKind.u64.wrap a1)) then (
 Calls Try.prog 65 #[.pointer r1, .int .i64 3] a2 fun a4 a3 => a4 = .returned (.tuple #[]) ∧
 R (.int .i64 0) a3) else (
 R (.int .i64 (IntKind.i64.wrap a0)) a2))) else (
 R (.int .i64 (IntKind.i64.wrap a0)) a2)

theorem rRCount.eq (r1 : Option Addr) (most2 : Int) (R : RW) (w : World) : mfunc Try.prog [] 43 [.pointer r1, .int .i64 most2] R w = rRCount.M r1 most2 R w := by kernel_rfl
theorem rRCount.ok (r1 : Option Addr) (a0 : Int) {R : RW} {w : World} (h : rRCount.M r1 a0 R w) : Calls Try.prog 43 #[.pointer r1, .int .i64 a0] w fun e w' => ∃ v, e = .returned v ∧ R v w' :=
  Q08 follows (H := []) (args := [.pointer r1, .int .i64 a0]) (by rw [rRCount.eq]; exact h)

def rRDone.M (r1 : Option Addr) (R : RW) (w : World) : Prop :=
 r1.elim False fun a2 =>
 ∃ (a0 : Int), w.cell? (a2.add 1) = some (.int .i64 a0) ∧
 bif a0 == 0 then (
 r1.elim False fun a4 =>
 ∃ (a7 : Option Addr) (a1 a9 : Nat), w.cell? (a4.add 0) = some (.slice a7 a1 a9) ∧
 bif decide ((a1 : Int) > 0) then (
 R (.int .i64 4) w) else (
 r1.elim False fun a6 =>
 ∃ (a3 : Int), w.cell? (a6.add 1) = some (.int .i64 a3) ∧
 R (.int .i64 a3) w)) else (
 r1.elim False fun a8 =>
 ∃ (a5 : Int), w.cell? (a8.add 1) = some (.int .i64 a5) ∧
 R (.int .i64 a5) w)

theorem rRDone.eq (r1 : Option Addr) (R : RW) (w : World) : mfunc Try.prog [] 46 [.pointer r1] R w = rRDone.M r1 R w := by kernel_rfl
theorem rRDone.ok (r1 : Option Addr) {R : RW} {w : World} (h : rRDone.M r1 R w) : Calls Try.prog 46 #[.pointer r1] w fun e w' => ∃ v, e = .returned v ∧ R v w' :=
  Q08 follows (H := []) (args := [.pointer r1]) (by rw [rRDone.eq]; exact h)

def rRFail.M (r1 : Option Addr) (k2 : Int) (R : RW) (w : World) : Prop :=
 r1.elim False fun a3 =>
 Q01 w ((a3.add 1).add 0) ∧
 thenW (w.setCell ((a3.add 1).add 0) (.int .i64 k2)) fun a0 =>
 r1.elim False fun a5 =>
 Q01 a0 ((a5.add 0).add 0) ∧
 thenW (a0.setCell ((a5.add 0).add 0) (.slice none 0 0)) fun a1 =>
 R (.tuple #[]) a1

theorem rRFail.eq (r1 : Option Addr) (k2 : Int) (R : RW) (w : World) : mfunc Try.prog [] 65 [.pointer r1, .int .i64 k2] R w = rRFail.M r1 k2 R w := by kernel_rfl
theorem rRFail.ok (r1 : Option Addr) (k2 : Int) {R : RW} {w : World} (h : rRFail.M r1 k2 R w) : Calls Try.prog 65 #[.pointer r1, .int .i64 k2] w fun e w' => ∃ v, e = .returned v ∧ R v w' :=
  Q08 follows (H := []) (args := [.pointer r1, .int .i64 k2]) (by rw [rRFail.eq]; exact h)

theorem numL_le (n : Nat) : (numL n).length ≤ 10 := numF_le 10 n
theorem Q1Q : ∀ (k m : Nat), m < 128 ^ k → 0 < k → numF (k + 1) m = numF k m
  | k + 1, m, h, _ => by
    by_cases h1 : m < 128
    · rw [numF, if_pos h1, numF, if_pos h1]
    · rw [numF, if_neg h1]
      conv => rhs; rw [numF, if_neg h1]
      have hk : 0 < k := Nat.pos_of_ne_zero fun e => by subst e; simp at h; omega
      rw [Q1Q k (m / 128) (by rw [Nat.pow_succ] at h; omega) hk]
theorem Q38 {n : Nat} (h : n < 18446744073709551616) (h1 : ¬ n < 128) : numL n = UInt8.ofNat (n % 128 + 128) :: numL (n / 128) := by
  unfold numL
  rw [numF, if_neg h1, Q1Q 9 (n / 128) (by omega) (by decide)]
theorem Q2m (m : Int) (s : List UInt8 × Int) (hm : 0 ≤ m) : ((countR m s).1 : Int) ≤ m := by
  unfold countR
  split
  · split
    · exact hm
    · rename_i h; exact Decidable.byContradiction fun e => h (.inr (by omega))
  · exact hm

section
variable {w w' : World} {a : Option Addr} {c : Nat}
theorem sameB_spec {a b : Option Addr} {c d : Nat} {x y : List UInt8} (ha : RowAt w a (bytesV x)) (hb : RowAt w b (bytesV y)) (hx : x.length < 1000000) :
    Calls Try.prog 11 #[.slice a x.length c, .slice b y.length d] w (GivesW (.bool (decide (x = y))) fun w' => Ext no w w') := by
  refine (wSame.ok _ _ _ _ _ _ (R := fun v w' => v = .bool (decide (x = y)) ∧ Ext no w w') ?_).mono fun e w' ⟨v, he, hv, hw⟩ => ⟨by rw [he, hv], hw⟩
  unfold wSame.M
  by_cases hl : x.length = y.length
  · have hl' : ((x.length : Int) != (y.length : Int)) = false := by simp [hl]
    rw [hl', cond_false]
    refine ⟨fun k vs w1 => ∃ i : Nat, vs = [.int .i64 i] ∧ k = x.length - i ∧ i ≤ x.length ∧ x.take i = y.take i ∧ Ext no w w1, x.length, ⟨0, rfl, rfl, Nat.zero_le _, rfl, Ext.refl _ _⟩, ?_⟩
    rintro k w1 i3 ⟨i, hi, rfl, hle, ht, hw⟩
    simp only [List.cons.injEq, Value.int.injEq, true_and, and_true] at hi
    subst hi
    by_cases hlt : i < x.length
    · have hd : decide ((i : Int) < (x.length : Int)) = true := by simp [hlt]
      rw [hd, cond_true]
      refine Q02 fun w7 h7 => ?_
      have hw7 : Ext no w w7 := hw.trans (by subst h7; exact (Ext.refl _ _).drew)
      have hi2 : i < y.length := hl ▸ hlt
      have hax := ha.ext hw7 (fun _ _ h => h)
      have hby := hb.ext hw7 (fun _ _ h => h)
      obtain ⟨ad, rfl⟩ := hax.addr (by intro e; rw [bytesV, List.map_eq_nil_iff] at e; subst e; simp at hlt)
      obtain ⟨bd, rfl⟩ := hby.addr (by intro e; rw [bytesV, List.map_eq_nil_iff] at e; subst e; simp at hi2)
      refine ⟨by omega, by omega, x[i].toNat, ?_, by omega, by omega, y[i].toNat, ?_, ?_⟩
      · rw [show Int.toNat (i : Int) * 1 = i by omega]; exact hax.at_ (Q14 hlt)
      · rw [show Int.toNat (i : Int) * 1 = i by omega]; exact hby.at_ (Q14 hi2)
      · by_cases he : x[i] = y[i]
        · have h1 : ((x[i].toNat : Int) != (y[i].toNat : Int)) = false := by simp [he]
          rw [h1, cond_false]
          refine ⟨x.length - (i + 1), by omega, i + 1, by rw [w64 (by omega) (by omega)]; rfl, rfl, by omega, ?_, hw7⟩
          rw [List.take_add_one, List.take_add_one, ht]; simp [hlt, hi2, he]
        · have h1 : ((x[i].toNat : Int) != (y[i].toNat : Int)) = true := by
            simp only [bne_iff_ne, ne_eq, Int.natCast_inj, UInt8.toNat_inj]; exact he
          rw [h1, cond_true]
          exact ⟨by rw [decide_eq_false]; rintro rfl; exact he rfl, hw7⟩
    · have hd : decide ((i : Int) < (x.length : Int)) = false := by simp; omega
      rw [hd, cond_false]
      obtain rfl : i = x.length := by omega
      refine ⟨?_, hw⟩
      have : x = y := by
        rw [List.take_length] at ht
        rw [hl, List.take_length] at ht
        exact ht
      simp [this]
  · have hl' : ((x.length : Int) != (y.length : Int)) = true := by simp; omega
    rw [hl', cond_true]
    exact ⟨by rw [decide_eq_false]; rintro rfl; exact hl rfl, Ext.refl _ _⟩
theorem rNum_spec : ∀ (n : Nat) (w : World), n < 18446744073709551616 → Calls Try.prog 39 #[.int .u64 n] w (fun e w' => ∃ a' c', e = .returned (.slice a' (numL n).length c') ∧ OwnB w.heap.size w' a' c' (numL n) ∧ Ext no w w') := by
  intro n
  induction n using Nat.strongRecOn with
  | _ n ih =>
    intro w hn
    refine (rNum.ok _ (R := fun v w' => ∃ a' c', v = (.slice a' (numL n).length c') ∧ OwnB w.heap.size w' a' c' (numL n) ∧ Ext no w w') ?_).mono fun e w' ⟨v, he, a', c', hv, hw⟩ => ⟨a', c', by rw [he, hv], hw⟩
    unfold rNum.M
    have one : ∀ (w2 : World) (x : UInt8), w2 = w.alloc (.cells #[.int .u8 (x.toNat : Int)] 5) → OwnB w.heap.size w2 (some (blk w.heap.size)) 1 [x] ∧ Ext no w w2 := fun w2 x h2 => by
      have hb : Blk w2 w.heap.size 5 (bytesV [x]) := by subst h2; exact Blk.new _ _ _
      exact ⟨⟨Q1O hb rfl (by simp [maxLen]), fun ad ha => by cases ha; exact ⟨Nat.le_refl _, hb.lt⟩⟩, by subst h2; exact (Ext.refl _ _).alloc _⟩
    by_cases h1 : n < 128
    · rw [show decide ((n : Int) < 128) = true by simp; omega, cond_true]
      have hv : IntKind.u8.wrap (n : Int) = ((UInt8.ofNat n).toNat : Int) := by rw [wu8 (by omega) (by omega), ofNat_lt (by omega)]
      have hL : numL n = [UInt8.ofNat n] := by unfold numL; rw [numF, if_pos h1]
      rw [hv, hL]
      refine Q02 fun w2 h2 => ?_
      obtain ⟨q1, q2⟩ := one w2 _ h2
      exact ⟨_, 1, rfl, q1, q2⟩
    · rw [show decide ((n : Int) < 128) = false by simp; omega, cond_false]
      have hm : Int.tmod (n : Int) 128 = ((n % 128 : Nat) : Int) := by rw [Int.tmod_eq_emod_of_nonneg (by omega)]; omega
      have hd : Int.tdiv (n : Int) 128 = ((n / 128 : Nat) : Int) := by rw [Int.tdiv_eq_ediv_of_nonneg (by omega)]; omega
      have hv : IntKind.u8.wrap ((IntKind.u8.wrap (Int.tmod (n : Int) 128)) + 128) = ((UInt8.ofNat (n % 128 + 128)).toNat : Int) := by
        rw [hm, wu8 (n := ((n % 128 : Nat) : Int)) (by omega) (by omega), wu8 (by omega) (by omega), ofNat_lt (by omega)]; omega
      rw [hv, hd, wu64 (by omega) (by omega), Q38 hn h1]
      refine ⟨by decide, Q02 fun w3 h3 => ⟨by decide, ?_⟩⟩
      obtain ⟨q1, q2⟩ := one w3 _ h3
      refine (ih (n / 128) (by omega) w3 (by omega)).mono fun e w6 ⟨a6, c6, he, ho6, x6⟩ => ⟨a6, _, c6, he, ?_⟩
      obtain ⟨a', c', w8, hr, ho8, x8⟩ := (W.OwnB.no q1 x6).append (t := 25) (ty := 25) Try.underlying25 (Nat.le_trans q2.size x6.size) (xc := c6) (W.OwnB.row ho6) (by have := numL_le (n / 128); simp; omega)
      exact ⟨a', _, c', w8, hr, a', c', rfl, ho8, (q2.trans x6).then x8 fun b hb => .inr hb⟩

end
theorem numR_write {n : Nat} (h : n < 18446744073709551616) (r : List UInt8) : numR (numL n ++ r, 0) = (n, (r, 0)) := by
  unfold numR; rw [if_pos rfl, rd_num h]
theorem countR_write {n : Nat} {m : Int} (h : n < 18446744073709551616) (hm : (n : Int) ≤ m) (r : List UInt8) : countR m (numL n ++ r, 0) = (n, (r, 0)) := by
  unfold countR
  rw [numR_write h, if_pos rfl, if_neg (by show ¬ (m < 0 ∨ (n : Int) > m); omega)]
theorem Q3C {s : List UInt8 × Int} (h : s.2 ≠ 0) : (numR s).2.2 ≠ 0 := by
  unfold numR; rw [if_neg h]; exact h
theorem numR_good {s : List UInt8 × Int} (h : (numR s).2.2 = 0) : s.2 = 0 ∧ s.1 = numL (numR s).1 ++ (numR s).2.1 := by
  have h0 : s.2 = 0 := Decidable.byContradiction fun e => Q3C e h
  refine ⟨h0, ?_⟩
  unfold numR at h ⊢
  rw [if_pos h0] at h ⊢
  cases hr : rdNum s.1 with
  | none => rw [hr] at h; exact absurd h (by decide)
  | some q => obtain ⟨n, r⟩ := q; exact (rd_back hr).1
theorem countR_good {m : Int} {s : List UInt8 × Int} (h : (countR m s).2.2 = 0) : s.2 = 0 ∧ s.1 = numL (countR m s).1 ++ (countR m s).2.1 := by
  unfold countR at h ⊢
  by_cases h1 : (numR s).2.2 = 0
  · rw [if_pos h1] at h ⊢
    by_cases h2 : m < 0 ∨ ((numR s).1 : Int) > m
    · rw [if_pos h2] at h; exact absurd h (by decide)
    · rw [if_neg h2]; exact numR_good h1
  · rw [if_neg h1] at h; exact absurd h h1
def RdR (w : World) (p N : Nat) (bs : List UInt8) (k : Int) : Prop :=
  N ≤ p ∧ ∃ a c, Blk w p 83 [.slice a bs.length c, .int .i64 k] ∧ bs.length ≤ c ∧ RowAt w a (bytesV bs) ∧ (bytesV bs ≠ [] → ∀ ad, a = some ad → ad.block < N)
section
variable {w w' : World} {a : Option Addr} {c : Nat} {bs : List UInt8} {p N : Nat} {k : Int}
theorem RdR.no (h : RdR w p N bs k) (e : Ext no w w') : RdR w' p N bs k := by
  obtain ⟨hNp, a, c, h1, h2, h3, h4⟩ := h
  exact ⟨hNp, a, c, h1.ext e id, h2, h3.no e, h4⟩
theorem RdR.up {m : Nat → Prop} (h : RdR w p N bs k) (e : Ext m w w') (hm : ∀ b, m b → p < b) : RdR w' p N bs k := by
  obtain ⟨hNp, a, c, h1, h2, h3, h4⟩ := h
  exact ⟨hNp, a, c, h1.ext e (fun h => by have := hm _ h; omega), h2, h3.ext' e (fun h0 ad ha hb => by have := hm _ hb; have := h4 h0 ad ha; omega), h4⟩
theorem RdR.lt (h : RdR w p N bs k) : p < w.heap.size := by obtain ⟨hNp, a, c, h1, _⟩ := h; exact h1.lt
theorem rFail_spec (h : RdR w p N bs k) (j : Int) : Calls Try.prog 65 #[.pointer (some (blk p)), .int .i64 j] w (GivesW (.tuple #[]) fun w' => RdR w' p N [] j ∧ Ext (fun b => b = p) w w') := by
  refine (rRFail.ok _ _ (R := fun v w' => v = .tuple #[] ∧ RdR w' p N [] j ∧ Ext (fun b => b = p) w w') ?_).mono fun e w' ⟨v, he, hv, hw⟩ => ⟨by rw [he, hv], hw⟩
  unfold rRFail.M
  obtain ⟨hNp, a, c, h1, _⟩ := h
  refine ⟨h1.cana (i := 1) rfl, Q02 fun w4 h4 => ?_⟩
  have hb4 := h1.seta 1 (.int .i64 j)
  rw [add_zero] at h4
  rw [← h4] at hb4
  have e4 : Ext (fun b => b = p) w w4 := by subst h4; exact (Ext.refl (fun b => b = p) w).setCell (a := (blk p).add 1) (.inl (by rw [add_blk])) _
  refine ⟨hb4.cana (i := 0) rfl, Q02 fun w6 h6 => ?_⟩
  rw [add_zero] at h6
  have hb6 := hb4.seta 0 (.slice none 0 0)
  rw [← h6] at hb6
  have e6 : Ext (fun b => b = p) w4 w6 := by subst h6; exact (Ext.refl (fun b => b = p) w4).setCell (a := (blk p).add 0) (.inl rfl) _
  exact ⟨rfl, ⟨hNp, none, 0, hb6, Nat.le_refl _, RowAt.nil _ _, fun h0 => absurd rfl h0⟩, e4.trans e6⟩
theorem rDone_spec (h : RdR w p N bs k) : Calls Try.prog 46 #[.pointer (some (blk p))] w (GivesW (.int .i64 (doneR (bs, k))) fun w' => w' = w) := by
  refine (rRDone.ok _ (R := fun v w' => v = .int .i64 (doneR (bs, k)) ∧ w' = w) ?_).mono fun e w' ⟨v, he, hv, hw⟩ => ⟨by rw [he, hv], hw⟩
  unfold rRDone.M
  obtain ⟨hNp, a, c, h1, h2, h3, h4⟩ := h
  unfold doneR
  refine ⟨_, h1.cella (i := 1) rfl, ?_⟩
  by_cases hk : k = 0
  · subst hk
    rw [show ((0 : Int) == 0) = true from rfl, cond_true, if_pos rfl]
    refine ⟨_, _, _, h1.cella (i := 0) rfl, ?_⟩
    by_cases hb : bs.length > 0
    · rw [decide_eq_true (by omega : (bs.length : Int) > 0), cond_true, if_pos hb]; exact ⟨rfl, rfl⟩
    · rw [decide_eq_false (by omega : ¬ (bs.length : Int) > 0), cond_false, if_neg hb]
      exact ⟨_, h1.cella (i := 1) rfl, rfl, rfl⟩
  · rw [beq_eq_false_iff_ne.2 hk, cond_false, if_neg hk]
    exact ⟨_, h1.cella (i := 1) rfl, rfl, rfl⟩

/-! ### where the number ends -/
theorem Q1d : ∀ (n i : Nat) (bs : List UInt8), i + n ≤ 9 → n ≤ bs.length → (∀ c ∈ bs.take n, 128 ≤ c.toNat) → widthF i bs = widthF (i + n) (bs.drop n)
  | 0, i, bs, _, _, _ => rfl
  | n + 1, i, [], _, h, _ => by simp at h
  | n + 1, i, c :: r, h9, hl, hc => by
    have h1 := hc c (by simp)
    simp only [widthF, List.drop_succ_cons]
    rw [if_neg (by omega), if_neg (by omega), Q1d n (i + 1) r (by omega) (by simpa using hl) fun d hd => hc d (by simp [hd])]
    congr 1; omega
theorem Q1A {bs : List UInt8} (hl : 10 ≤ bs.length) (hc : ∀ c ∈ bs.take 10, 128 ≤ c.toNat) : widthF 0 bs = 0 := by
  rw [Q1d 9 0 bs (by omega) (by omega) fun c h => hc c (List.mem_of_mem_take (l := bs.take 10) (i := 9) (by rw [List.take_take]; exact h))]
  rw [List.drop_eq_getElem_cons (by omega : 9 < bs.length)]
  simp only [widthF]
  have := hc bs[9] (List.mem_take_iff_getElem.2 ⟨9, by omega, rfl⟩)
  rw [if_pos (by first | exact ⟨rfl, by omega⟩ | exact ⟨trivial, by omega⟩)]
theorem Q1q : ∀ (l : List UInt8) (j : Nat), valW (l.drop j) ≤ valW l
  | [], j => by simp
  | a :: r, 0 => Nat.le_refl _
  | a :: r, j + 1 => by
    have := Q1q r j
    simp only [List.drop_succ_cons, valW]; omega

def loop2P (RR : RW) (w : World) (p : Nat) (n4 : Int) : Prop :=
  ∃ (I2 : Nat → List Value → World → Prop) (m35 : Nat), I2 m35 [.int .u64 0, .int .i64 n4] w ∧ ∀ (m36 : Nat) (ww37 : World) (outv33 i34 : Int), I2 m36 [.int .u64 outv33, .int .i64 i34] ww37 →
  bif decide (i34 ≥ 0) then (
  (some (blk p)).elim False fun a38 =>
  ∃ (B39a : Option Addr) (B39n B39c : Nat), ww37.cell? (a38.add 0) = some (.slice B39a B39n B39c) ∧
  B39a.elim False fun a40 =>
  0 ≤ (i34 : Int) ∧ (i34 : Int) < (B39n : Int) ∧
  ∃ (x41 : Int), ww37.cell? (a40.add (Int.toNat i34 * 1)) = some (.int .u8 x41) ∧
  128 ≠ (0 : Int) ∧ ∃ m42, m42 < m36 ∧ I2 m42 [.int .u64 (IntKind.u64.wrap ((IntKind.u64.wrap (outv33 * 128)) + (IntKind.u64.wrap (Int.tmod x41 128)))), .int .i64 (IntKind.i64.wrap (i34 - 1))] ww37) else (
  (some (blk p)).elim False fun a43 =>
  ∃ (B44a : Option Addr) (B44n B44c : Nat), ww37.cell? (a43.add 0) = some (.slice B44a B44n B44c) ∧
  (0 : Int) ≤ ((IntKind.i64.wrap (n4 + 1)) : Int) ∧ ((IntKind.i64.wrap (n4 + 1)) : Int) ≤ (B44n : Int) ∧
  (some (blk p)).elim False fun a45 =>
  Q01 ww37 ((a45.add 0).add 0) ∧
  thenW (ww37.setCell ((a45.add 0).add 0) (.slice (if B44c = Int.toNat (IntKind.i64.wrap (n4 + 1)) then B44a else Option.map (fun z : Addr => z.add ((Int.toNat (IntKind.i64.wrap (n4 + 1))) * 1)) B44a) (B44n - (Int.toNat (IntKind.i64.wrap (n4 + 1)))) (B44c - (Int.toNat (IntKind.i64.wrap (n4 + 1)))))) fun ww46 =>
  RR (.int .u64 outv33) ww46)
theorem Q1M (h : RdR w p N bs 0) (hl : bs.length < 1000000) {n : Nat} (hn : n < bs.length) (hw : widthF 0 bs = n + 1) :
    loop2P (fun v w' => v = .int .u64 (numR (bs, 0)).1 ∧ RdR w' p N (numR (bs, 0)).2.1 (numR (bs, 0)).2.2 ∧ Ext (fun b => b = p) w w') w p n := by
  have hz : widthF 0 bs ≠ 0 := by omega
  obtain ⟨q1, q2, q3, q4, _⟩ := Q1B bs 0 (by omega) hz
  simp only [Nat.sub_zero] at q2 q3 q4
  rw [hw] at q2 q3 q4
  have hnum : numR (bs, 0) = (valW (bs.take (n + 1)), (bs.drop (n + 1), 0)) := by unfold numR rdNum; simp [hw]
  rw [hnum]
  obtain ⟨hNp, a, c, h1, h2, h3, h4⟩ := h
  generalize hL : bs.take (n + 1) = L at *
  have hLl : L.length = n + 1 := by rw [← hL, List.length_take]; omega
  unfold loop2P
  refine ⟨fun j vs w1 => ∃ t : Nat, vs = [.int .u64 (valW (L.drop t)), .int .i64 ((t : Int) - 1)] ∧ j = t ∧ t ≤ n + 1 ∧ w1 = w, n + 1, ⟨n + 1, ?_, rfl, Nat.le_refl _, rfl⟩, ?_⟩
  · rw [List.drop_eq_nil_of_le (by omega)]
    have : (((n + 1 : Nat) : Int) - 1) = n := by omega
    rw [this]; rfl
  rintro t w1 o0 i ⟨t', hi, rfl, htn, rfl⟩
  simp only [List.cons.injEq, Value.int.injEq, true_and, and_true] at hi
  obtain ⟨rfl, rfl⟩ := hi
  cases t with
  | zero =>
    rw [show decide (((0 : Nat) : Int) - 1 ≥ 0) = false from rfl, cond_false]
    have hw1 : IntKind.i64.wrap ((n : Int) + 1) = ((n + 1 : Nat) : Int) := by rw [w64 (by omega) (by omega)]; rfl
    rw [hw1, Int.toNat_natCast, Nat.mul_one]
    refine ⟨a, bs.length, c, h1.cella (i := 0) rfl, by omega, by omega, h1.cana (i := 0) rfl, Q02 fun w23 h23 => ?_⟩
    rw [add_zero] at h23
    have hb := h1.seta 0 (.slice (if c = n + 1 then a else Option.map (fun z : Addr => z.add (n + 1)) a) (bs.length - (n + 1)) (c - (n + 1)))
    rw [← h23] at hb
    have hx : Ext (fun b => b = p) w1 w23 := by subst h23; exact (Ext.refl (fun b => b = p) w1).setCell (a := (blk p).add 0) (.inl rfl) _
    have hdl : (bs.drop (n + 1)).length = bs.length - (n + 1) := List.length_drop
    have hrow := h3.drop (n + 1) c (fun e => by rw [Q13]; omega)
    have hne : bytesV (bs.drop (n + 1)) ≠ [] → bytesV bs ≠ [] := fun h0 e => h0 (by rw [bytesV, List.map_drop, show List.map u8V bs = [] from e]; simp)
    refine ⟨by rw [List.drop_zero], ⟨hNp, _, c - (n + 1), by rw [hdl]; exact hb, by rw [hdl]; omega, ?_, fun h0 ad ha => ?_⟩, hx⟩
    · rw [show bytesV (bs.drop (n + 1)) = (bytesV bs).drop (n + 1) by simp [bytesV]]
      refine hrow.ext' hx fun h0 ad ha hq => ?_
      have hne2 : bytesV bs ≠ [] := fun e => h0 (by rw [e]; simp)
      split at ha
      · have := h4 hne2 ad ha; omega
      · obtain ⟨b0, hb0, rfl⟩ := Option.map_eq_some_iff.1 ha
        rw [Q1h] at hq
        have := h4 hne2 b0 hb0; omega
    · split at ha
      · exact h4 (hne h0) ad ha
      · obtain ⟨b0, hb0, rfl⟩ := Option.map_eq_some_iff.1 ha
        rw [Q1h]; exact h4 (hne h0) b0 hb0
  | succ t =>
    have e1 : (((t + 1 : Nat) : Int) - 1) = (t : Int) := by omega
    rw [e1, show decide ((t : Int) ≥ 0) = true by simp, cond_true]
    have htl : t < bs.length := by omega
    have htL : t < L.length := by omega
    obtain ⟨ad, rfl⟩ := h3.addr (by intro e; rw [bytesV, List.map_eq_nil_iff] at e; subst e; simp at htl)
    have hx := u8_lt bs[t]
    have hLt : L[t] = bs[t] := by simp only [← hL]; rw [List.getElem_take]
    have hdr : L.drop t = bs[t] :: L.drop (t + 1) := by rw [List.drop_eq_getElem_cons htL, hLt]
    have hv : valW (L.drop t) = bs[t].toNat % 128 + 128 * valW (L.drop (t + 1)) := by rw [hdr]; rfl
    have hle := Q1q L t
    have q4' : valW L < 18446744073709551616 := q4
    have hm : Int.tmod (bs[t].toNat : Int) 128 = ((bs[t].toNat % 128 : Nat) : Int) := by rw [Int.tmod_eq_emod_of_nonneg (by omega)]; omega
    refine ⟨_, _, _, h1.cella (i := 0) rfl, by omega, by omega, _, by rw [Int.toNat_natCast, Nat.mul_one]; exact h3.at_ (Q14 htl), by decide, t, by omega, t, ?_, rfl, by omega, rfl⟩
    rw [hm, wu64 (n := ((valW (L.drop (t + 1)) : Nat) : Int) * 128) (by omega) (by omega), wu64 (n := ((bs[t].toNat % 128 : Nat) : Int)) (by omega) (by omega), wu64 (by omega) (by omega), w64 (by omega) (by omega), hv]
    congr 2
    congr 1
    omega

def exitP (RR : RW) (ww7 : World) (p : Nat) (n4 : Int) : Prop :=
  (some (blk p)).elim False fun a15 =>
  ∃ (B16a : Option Addr) (B16n B16c : Nat), ww7.cell? (a15.add 0) = some (.slice B16a B16n B16c) ∧
  bif decide (n4 ≥ (B16n : Int)) then (
  Calls Try.prog 65 #[.pointer (some (blk p)), .int .i64 4] ww7 fun ee17 ww18 => ee17 = .returned (.tuple #[]) ∧
  RR (.int .u64 0) ww18) else (
  bif decide (n4 ≥ 10) then (
  Calls Try.prog 65 #[.pointer (some (blk p)), .int .i64 4] ww7 fun ee19 ww20 => ee19 = .returned (.tuple #[]) ∧
  RR (.int .u64 0) ww20) else (
  bif n4 == 9 then (
  (some (blk p)).elim False fun a21 =>
  ∃ (B22a : Option Addr) (B22n B22c : Nat), ww7.cell? (a21.add 0) = some (.slice B22a B22n B22c) ∧
  B22a.elim False fun a23 =>
  0 ≤ (n4 : Int) ∧ (n4 : Int) < (B22n : Int) ∧
  ∃ (x24 : Int), ww7.cell? (a23.add (Int.toNat n4 * 1)) = some (.int .u8 x24) ∧
  bif x24 != 1 then (
  Calls Try.prog 65 #[.pointer (some (blk p)), .int .i64 4] ww7 fun ee25 ww26 => ee25 = .returned (.tuple #[]) ∧
  RR (.int .u64 0) ww26) else (
  bif decide (n4 > 0) then (
  (some (blk p)).elim False fun a27 =>
  ∃ (B28a : Option Addr) (B28n B28c : Nat), ww7.cell? (a27.add 0) = some (.slice B28a B28n B28c) ∧
  B28a.elim False fun a29 =>
  0 ≤ (n4 : Int) ∧ (n4 : Int) < (B28n : Int) ∧
  ∃ (x30 : Int), ww7.cell? (a29.add (Int.toNat n4 * 1)) = some (.int .u8 x30) ∧
  bif x30 == 0 then (
  Calls Try.prog 65 #[.pointer (some (blk p)), .int .i64 4] ww7 fun ee31 ww32 => ee31 = .returned (.tuple #[]) ∧
  RR (.int .u64 0) ww32) else (
  loop2P RR ww7 p n4)) else (
  loop2P RR ww7 p n4))) else (
  bif decide (n4 > 0) then (
  (some (blk p)).elim False fun a61 =>
  ∃ (B62a : Option Addr) (B62n B62c : Nat), ww7.cell? (a61.add 0) = some (.slice B62a B62n B62c) ∧
  B62a.elim False fun a63 =>
  0 ≤ (n4 : Int) ∧ (n4 : Int) < (B62n : Int) ∧
  ∃ (x64 : Int), ww7.cell? (a63.add (Int.toNat n4 * 1)) = some (.int .u8 x64) ∧
  bif x64 == 0 then (
  Calls Try.prog 65 #[.pointer (some (blk p)), .int .i64 4] ww7 fun ee65 ww66 => ee65 = .returned (.tuple #[]) ∧
  RR (.int .u64 0) ww66) else (
  loop2P RR ww7 p n4)) else (
  loop2P RR ww7 p n4))))
theorem exit_ok (h : RdR w p N bs 0) (hl : bs.length < 1000000) {n : Nat} (hn : n ≤ bs.length) (h10 : n ≤ 10) (hc : ∀ c ∈ bs.take n, 128 ≤ c.toNat) (hs : n = bs.length ∨ n = 10 ∨ ∃ hn : n < bs.length, bs[n].toNat < 128) :
    exitP (fun v w' => v = .int .u64 (numR (bs, 0)).1 ∧ RdR w' p N (numR (bs, 0)).2.1 (numR (bs, 0)).2.2 ∧ Ext (fun b => b = p) w w') w p n := by
  obtain ⟨hNp, a, c, h1, h2, h3, h4⟩ := id h
  -- where there is no number
  have bad : widthF 0 bs = 0 → Calls Try.prog 65 #[.pointer (some (blk p)), .int .i64 4] w fun ee ww => ee = .returned (.tuple #[]) ∧ (fun v w' => v = Value.int .u64 (numR (bs, 0)).1 ∧ RdR w' p N (numR (bs, 0)).2.1 (numR (bs, 0)).2.2 ∧ Ext (fun b => b = p) w w') (.int .u64 0) ww := fun hz => by
    have hnum : numR (bs, 0) = (0, ([], 4)) := by unfold numR rdNum; simp [hz]
    rw [hnum]
    exact (rFail_spec h 4).mono fun e w9 ⟨he, hr, hx⟩ => ⟨he, rfl, hr, hx⟩
  unfold exitP
  refine ⟨a, bs.length, c, h1.cella (i := 0) rfl, ?_⟩
  by_cases c1 : n = bs.length
  · rw [decide_eq_true (by omega : (n : Int) ≥ (bs.length : Int)), cond_true]
    refine bad ?_
    by_cases c2 : n ≤ 9
    · rw [Q1d n 0 bs (by omega) (by omega) hc, List.drop_eq_nil_of_le (by omega)]; rfl
    · exact Q1A (by omega) (by rw [show (10 : Nat) = n by omega]; exact hc)
  rw [decide_eq_false (by omega : ¬ (n : Int) ≥ (bs.length : Int)), cond_false]
  have hnl : n < bs.length := by omega
  by_cases c2 : n = 10
  · rw [decide_eq_true (by omega : (n : Int) ≥ 10), cond_true]
    exact bad (Q1A (by omega) (by rw [show (10 : Nat) = n by omega]; exact hc))
  rw [decide_eq_false (by omega : ¬ (n : Int) ≥ 10), cond_false]
  have hlt : bs[n].toNat < 128 := by
    rcases hs with hs | hs | ⟨_, hs⟩
    · exact absurd hs c1
    · exact absurd hs c2
    · exact hs
  have hskip := Q1d n 0 bs (by omega) (by omega) hc
  rw [List.drop_eq_getElem_cons hnl, Nat.zero_add] at hskip
  simp only [widthF] at hskip
  obtain ⟨ad, rfl⟩ := h3.addr (by intro e; rw [bytesV, List.map_eq_nil_iff] at e; subst e; simp at hnl)
  have hcell : w.cell? (ad.add (Int.toNat (n : Int) * 1)) = some (.int .u8 (bs[n].toNat : Int)) := by rw [Int.toNat_natCast, Nat.mul_one]; exact h3.at_ (Q14 hnl)
  -- behind the test for the last byte of all
  have rest : ¬ (n = 9 ∧ bs[n].toNat ≠ 1) → (n > 0 → bs[n].toNat = 0 → widthF 0 bs = 0) ∧ ((n > 0 → bs[n].toNat ≠ 0) → widthF 0 bs = n + 1) := fun hq => by
    rw [if_neg hq, if_pos hlt] at hskip
    exact ⟨fun q1 q2 => by rw [hskip, if_pos ⟨q2, q1⟩], fun q => by rw [hskip, if_neg fun ⟨e1, e2⟩ => q e2 e1]⟩
  by_cases c9 : n = 9
  · rw [beq_iff_eq.2 (by omega : (n : Int) = 9), cond_true]
    refine ⟨_, _, _, h1.cella (i := 0) rfl, by omega, by omega, _, hcell, ?_⟩
    by_cases c8 : bs[n].toNat = 1
    · rw [show ((bs[n].toNat : Int) != 1) = false by simp; omega, cond_false, decide_eq_true (by omega : (n : Int) > 0), cond_true]
      refine ⟨_, _, _, h1.cella (i := 0) rfl, by omega, by omega, _, hcell, ?_⟩
      rw [beq_eq_false_iff_ne.2 (by omega : (bs[n].toNat : Int) ≠ 0), cond_false]
      exact Q1M h hl hnl ((rest fun q => q.2 c8).2 fun _ => by omega)
    · rw [show ((bs[n].toNat : Int) != 1) = true by simp; omega, cond_true]
      refine bad ?_
      rw [hskip, if_pos ⟨c9, c8⟩]
  · rw [beq_eq_false_iff_ne.2 (by omega : (n : Int) ≠ 9), cond_false]
    have hrest := rest fun q => c9 q.1
    by_cases c0 : n > 0
    · rw [decide_eq_true (by omega : (n : Int) > 0), cond_true]
      refine ⟨_, _, _, h1.cella (i := 0) rfl, by omega, by omega, _, hcell, ?_⟩
      by_cases cz : bs[n].toNat = 0
      · rw [beq_iff_eq.2 (by omega : (bs[n].toNat : Int) = 0), cond_true]
        exact bad (hrest.1 c0 cz)
      · rw [beq_eq_false_iff_ne.2 (by omega : (bs[n].toNat : Int) ≠ 0), cond_false]
        exact Q1M h hl hnl (hrest.2 fun _ => cz)
    · rw [decide_eq_false (by omega : ¬ (n : Int) > 0), cond_false]
      exact Q1M h hl hnl (hrest.2 fun q => absurd q c0)
theorem rRNum_spec (h : RdR w p N bs k) (hl : bs.length < 1000000) :
    Calls Try.prog 45 #[.pointer (some (blk p))] w (GivesW (.int .u64 (numR (bs, k)).1) fun w' => RdR w' p N (numR (bs, k)).2.1 (numR (bs, k)).2.2 ∧ Ext (fun b => b = p) w w') := by
  refine (rRNum.ok _ (R := fun v w' => v = .int .u64 (numR (bs, k)).1 ∧ RdR w' p N (numR (bs, k)).2.1 (numR (bs, k)).2.2 ∧ Ext (fun b => b = p) w w') ?_).mono fun e w' ⟨v, he, hv, hw⟩ => ⟨by rw [he, hv], hw⟩
  unfold rRNum.M
  obtain ⟨hNp, a, c, h1, h2, h3, h4⟩ := id h
  refine ⟨_, h1.cella (i := 1) rfl, ?_⟩
  by_cases hk : k = 0
  · subst hk
    rw [show ((0 : Int) != 0) = false from rfl, cond_false]
    refine ⟨fun j vs w1 => ∃ n : Nat, vs = [.int .i64 n] ∧ j + n = 10 ∧ n ≤ bs.length ∧ (∀ c ∈ bs.take n, 128 ≤ c.toNat) ∧ w1 = w, 10, ⟨0, rfl, rfl, Nat.zero_le _, by simp, rfl⟩, ?_⟩
    rintro j w1 i ⟨n, hi, hj, hn, hc, rfl⟩
    simp only [List.cons.injEq, Value.int.injEq, true_and, and_true] at hi
    subst hi
    refine ⟨_, _, _, h1.cella (i := 0) rfl, ?_⟩
    by_cases c1 : n < bs.length
    · rw [decide_eq_true (by omega : (n : Int) < (bs.length : Int)), cond_true]
      by_cases c2 : n < 10
      · rw [decide_eq_true (by omega : (n : Int) < 10), cond_true]
        obtain ⟨ad, rfl⟩ := h3.addr (by intro e; rw [bytesV, List.map_eq_nil_iff] at e; subst e; simp at c1)
        refine ⟨_, _, _, h1.cella (i := 0) rfl, by omega, by omega, _, by rw [Int.toNat_natCast, Nat.mul_one]; exact h3.at_ (Q14 c1), ?_⟩
        by_cases c3 : 128 ≤ bs[n].toNat
        · rw [decide_eq_true (by omega : (bs[n].toNat : Int) ≥ 128), cond_true]
          refine ⟨j - 1, by omega, n + 1, by rw [w64 (by omega) (by omega)]; rfl, by omega, by omega, fun d hd => ?_, rfl⟩
          rw [List.take_add_one, show bs[n]?.toList = [bs[n]] by simp [c1]] at hd
          rcases List.mem_append.1 hd with hd | hd
          · exact hc d hd
          · rw [List.mem_singleton] at hd; rw [hd]; exact c3
        · rw [decide_eq_false (by omega : ¬ (bs[n].toNat : Int) ≥ 128), cond_false]
          exact exit_ok h hl (by omega) (by omega) hc (.inr (.inr ⟨c1, by omega⟩))
      · rw [decide_eq_false (by omega : ¬ (n : Int) < 10), cond_false]
        exact exit_ok h hl (by omega) (by omega) hc (.inr (.inl (by omega)))
    · rw [decide_eq_false (by omega : ¬ (n : Int) < (bs.length : Int)), cond_false]
      exact exit_ok h hl (by omega) (by omega) hc (.inl (by omega))
  · rw [show (k != 0) = true by simpa using hk, cond_true]
    have hn : numR (bs, k) = (0, (bs, k)) := by unfold numR; rw [if_neg hk]
    rw [hn]
    exact ⟨rfl, h, Ext.refl _ _⟩
theorem rCount_spec (h : RdR w p N bs k) (hl : bs.length < 1000000) {m : Int} (hm0 : 0 ≤ m) (hm : m < 4611686018427387904) :
    Calls Try.prog 43 #[.pointer (some (blk p)), .int .i64 m] w (GivesW (.int .i64 (countR m (bs, k)).1) fun w' => RdR w' p N (countR m (bs, k)).2.1 (countR m (bs, k)).2.2 ∧ Ext (fun b => b = p) w w') := by
  refine (rRCount.ok _ _ (R := fun v w' => v = .int .i64 (countR m (bs, k)).1 ∧ RdR w' p N (countR m (bs, k)).2.1 (countR m (bs, k)).2.2 ∧ Ext (fun b => b = p) w w') ?_).mono fun e w' ⟨v, he, hv, hw⟩ => ⟨by rw [he, hv], hw⟩
  unfold rRCount.M
  have hlt := W.numR_lt (bs, k)
  have hbad : (numR (bs, k)).2.2 ≠ 0 → (numR (bs, k)).1 = 0 := fun hb => by
    unfold numR at hb ⊢
    by_cases h0 : k = 0
    · rw [if_pos h0] at hb ⊢
      cases hr : rdNum bs with
      | none => rfl
      | some q => rw [hr] at hb; exact absurd rfl hb
    · rw [if_neg h0]
  refine (rRNum_spec h hl).mono fun e w5 ⟨he, hr5, hx5⟩ => ⟨_, he, ?_⟩
  unfold countR
  generalize numR (bs, k) = s at *
  obtain ⟨n, bs', k'⟩ := s
  simp only at *
  obtain ⟨hNp, a, c, h1, _⟩ := id hr5
  refine ⟨_, h1.cella (i := 1) rfl, ?_⟩
  by_cases hk : k' = 0
  · subst hk
    rw [if_pos rfl, show ((0 : Int) == 0) = true from rfl, cond_true, decide_eq_false (by omega : ¬ m < 0), cond_false, wu64 (n := m) (by omega) (by omega)]
    by_cases c2 : (n : Int) > m
    · rw [decide_eq_true c2, cond_true, if_pos (.inr c2)]
      exact (rFail_spec hr5 3).mono fun e w9 ⟨he, hr, hx⟩ => ⟨he, rfl, hr, hx5.trans hx⟩
    · rw [decide_eq_false c2, cond_false, if_neg (fun h => h.elim (by omega) c2), w64 (by omega) (by omega)]
      exact ⟨rfl, hr5, hx5⟩
  · rw [if_neg hk, beq_eq_false_iff_ne.2 hk, cond_false, hbad hk]
    exact ⟨rfl, hr5, hx5⟩
end
end Go.Proofs.Ytoempemllkebkaa.W
namespace Go.Mx
def Ret (v : Value) (Q : World → Prop) (e : Ending) (w' : World) : Prop := e = .returned v ∧ Q w'
def Priv (w w' : World) (L : List Nat) : Prop := ∀ p ∈ L, w.heap.size ≤ p ∧ p < w'.heap.size
theorem Priv.nil {w w' : World} : Priv w w' [] := fun p hp => by simp at hp
theorem Priv.cons {w w' : World} {p : Nat} {L : List Nat} (h1 : w.heap.size ≤ p) (h2 : p < w'.heap.size) (h : Priv w w' L) : Priv w w' (p :: L) := fun q hq => by
  rcases List.mem_cons.1 hq with rfl | hq
  · exact ⟨h1, h2⟩
  · exact h q hq
theorem Priv.one {w w' : World} {p : Nat} (h : Priv w w' [p]) : w.heap.size ≤ p ∧ p < w'.heap.size := h p (by simp)
theorem Priv.two {w w' : World} {p q : Nat} (h : Priv w w' [p, q]) : (w.heap.size ≤ p ∧ p < w'.heap.size) ∧ w.heap.size ≤ q ∧ q < w'.heap.size := ⟨h p (by simp), h q (by simp)⟩
def Privq (w : World) (q : Nat) (L : List Nat) : Prop := ∀ p ∈ L, w.heap.size ≤ p ∧ p < q
theorem Privq.nil {w : World} {q : Nat} : Privq w q [] := fun p hp => by simp at hp
theorem Privq.cons {w : World} {q p : Nat} {L : List Nat} (h1 : w.heap.size ≤ p) (h2 : p < q) (h : Privq w q L) : Privq w q (p :: L) := fun r hr => by
  rcases List.mem_cons.1 hr with rfl | hr
  · exact ⟨h1, h2⟩
  · exact h r hr
theorem Privq.one {w : World} {q p : Nat} (h : Privq w q [p]) : w.heap.size ≤ p ∧ p < q := h p (by simp)
def Keep (L : List Nat) (w w' : World) : Prop := ∀ p ∈ L, p < w.heap.size → w'.heap[p]? = w.heap[p]?
section
variable {m : Nat → Prop} {w w0 w' : World} {L : List Nat} {p q i : Nat} {t : TypeId} {cs : List Value} {a : Addr} {v : Value}
theorem Ext.keep (h : Ext m w w') (hm : ∀ p ∈ L, p < w.heap.size → ¬ m p) : Keep L w w' := fun p hp hl => h.block p hl (hm p hp hl)
theorem Ext.kept (h : Ext no w w') : Keep L w w' := h.keep fun _ _ _ hb => hb
theorem Keep.refl (L : List Nat) (w : World) : Keep L w w := fun _ _ _ => rfl
theorem Keep.blk (h : Keep L w w') (hb : Blk w p t cs) (hp : p ∈ L) : Blk w' p t cs := by
  unfold Blk at hb ⊢
  rw [h p hp (Array.getElem?_eq_some_iff.1 hb).1]; exact hb
theorem Blk.celli (h : Blk w p t cs) (i : Nat) (ha : a = ⟨p, i, Option.none⟩) (hv : cs[i]? = some v) : w.cell? a = some v := by subst ha; exact h.cell hv
theorem Blk.cani (h : Blk w p t cs) (i : Nat) (ha : a = ⟨p, i, Option.none⟩) (hv : cs[i]? = some v) : Q01 w a := by subst ha; exact h.can hv
theorem Blk.seti (h : Blk w p t cs) (i : Nat) (ha : a = ⟨p, i, Option.none⟩) (e : w' = w.setCell a v) : Blk w' p t (cs.set i v) := by subst ha; subst e; exact h.set i v
theorem Blk.oth (h : Blk w p t cs) (ha : a = ⟨q, i, Option.none⟩) (hne : p ≠ q) (e : w' = w.setCell a v) : Blk w' p t cs := by subst ha; subst e; exact h.set_other hne v
theorem Blk.of_new (e : w' = w.alloc (.cells cs.toArray t)) : Blk w' w.heap.size t cs := by subst e; exact Blk.new _ _ _
theorem Blk.x_drew (h : Blk w p t cs) (e : w' = w.drew) : Blk w' p t cs := by subst e; exact h
theorem Blk.x_alloc (h : Blk w p t cs) {o : Obj} (e : w' = w.alloc o) : Blk w' p t cs := by subst e; exact h.alloc o
theorem Ext.x_drew (h : Ext m w0 w) (e : w' = w.drew) : Ext m w0 w' := by subst e; exact h.drew
theorem Ext.x_alloc (h : Ext m w0 w) {o : Obj} (e : w' = w.alloc o) : Ext m w0 w' := by subst e; exact h.alloc o
theorem Ext.x_set (h : Ext m w0 w) (ha : a = ⟨q, i, Option.none⟩) (hq : m q ∨ w0.heap.size ≤ q) (e : w' = w.setCell a v) : Ext m w0 w' := by subst ha; subst e; exact h.setCell hq v
theorem Q2x (h : Ext no w w') : ∀ {cs : List Value} {i : Nat}, cellsAt w a cs i → cellsAt w' a cs i
  | [], _, _ => trivial
  | _ :: _, _, hc => ⟨h.cell hc.1 id, Q2x h hc.2⟩
theorem Q0N {o : Obj} (e : w' = w.alloc o) : w.heap.size < w'.heap.size := by subst e; simp
end
theorem Q1j {w w' : World} {K : World → Prop} (h : thenW w K) (e : w' = w) : K w' := by subst e; exact h
theorem bif_of {c : Bool} {A B : Prop} (h1 : c = true → A) (h2 : c = false → B) : bif c then A else B := by cases c; exact h2 rfl; exact h1 rfl
theorem bif_fo {c : Bool} {A B : Prop} (h2 : c = false → B) (h1 : c = true → A) : bif c then A else B := by cases c; exact h2 rfl; exact h1 rfl
theorem bif_tt {c : Bool} {A B : Prop} (h : c = true) (h1 : A) : bif c then A else B := by subst h; exact h1
theorem bif_ff {c : Bool} {A B : Prop} (h : c = false) (h1 : B) : bif c then A else B := by subst h; exact h1
theorem Q0L {α : Type} {o : Option α} {a : α} {K : α → Prop} (h : o = some a) (k : K a) : o.elim False K := by subst h; exact k
theorem cong1 (f : Int → Bool) {a b : Int} {r : Bool} (h : a = b) (hd : f b = r) : f a = r := by subst h; exact hd
theorem not_t {b : Bool} (h : (!b) = true) : b = false := by simpa using h
theorem not_f {b : Bool} (h : (!b) = false) : b = true := by simpa using h
theorem bne_t {a b : Int} (h : (a != b) = true) : a ≠ b := by simpa using h
theorem bne_f {a b : Int} (h : (a != b) = false) : a = b := by simpa using h
theorem beq_t {a b : Int} (h : (a == b) = true) : a = b := by simpa using h
theorem beq_f {a b : Int} (h : (a == b) = false) : a ≠ b := by simpa using h
theorem bbeq_t {a b : Bool} (h : (a == b) = true) : a = b := by simpa using h
theorem bbeq_f {a b : Bool} (h : (a == b) = false) : a ≠ b := by simpa using h
abbrev cutA (a : Option Addr) (c l sz : Nat) : Option Addr := if c = l then a else Option.map (fun z : Addr => z.add (l * sz)) a
theorem Q4v (a : Option Addr) (c k : Nat) : (if c = 0 then a else Option.map (fun z : Addr => z.add (0 * k)) a) = a := by
  split
  · rfl
  · rw [Nat.zero_mul]; cases a <;> rfl
theorem RowAt.cut {w : World} {a : Option Addr} {cs : List Value} (h : RowAt w a cs) (k c : Nat) (hc : cs.length ≤ c) : RowAt w (cutA a c k 1) (cs.drop k) := by
  have := h.drop k c (fun e => by omega)
  unfold cutA
  rw [Nat.mul_one]; exact this
theorem Q23 {a : Option Addr} {c l sz : Nat} {ad : Addr} (h : cutA a c l sz = some ad) : ∃ b, a = some b ∧ b.block = ad.block := by
  unfold cutA at h
  split at h
  · exact ⟨ad, h, rfl⟩
  · obtain ⟨b, hb, rfl⟩ := Option.map_eq_some_iff.1 h
    exact ⟨b, hb, (Q1h _ _).symm⟩
end Go.Mx
set_option linter.unusedSectionVars false
namespace Go.Mx
abbrev Own := Nat → Option Nat
def Tags (w : World) (o : Own) : Prop := ∀ b j, b < w.heap.size → o b = some j → j < w.heap.size
structure Step (K : Nat → Prop) (w : World) (o : Own) (w' : World) (o' : Own) : Prop where
  ext : Ext (fun b => ∃ k, o b = some k ∧ K k) w w'
  same : ∀ b, b < w.heap.size → o' b = o b
  ok0 : Tags w o
  ok : Tags w' o'
def grow (w : World) (o : Own) : Own := fun b => if b < w.heap.size then o b else none
def tag (o : Own) (p j : Nat) : Own := fun b => if b = p then some j else o b
section
variable {K K1 : Nat → Prop} {w w1 w' : World} {o o1 o' : Own} {p q j : Nat}
theorem Step.refl (K : Nat → Prop) (h : Tags w o) : Step K w o w o := ⟨Ext.refl _ _, fun _ _ => rfl, h, h⟩
theorem Step.size (h : Step K w o w' o') : w.heap.size ≤ w'.heap.size := h.ext.size
theorem Step.mono (h : Step K w o w' o') (hk : ∀ j, K j → j < w.heap.size → K1 j) : Step K1 w o w' o' :=
  ⟨h.ext.mono fun b ⟨k, h1, h2⟩ hb => ⟨k, h1, hk k h2 (h.ok0 b k hb h1)⟩, h.same, h.ok0, h.ok⟩
theorem Step.trans' (h : Step K w o w1 o1) (k : Step K1 w1 o1 w' o') (hk : ∀ j, K1 j → K j ∨ w.heap.size ≤ j) : Step K w o w' o' := by
  refine ⟨h.ext.then k.ext fun b ⟨j, h1, h2⟩ => ?_, fun b hb => (k.same b (Nat.lt_of_lt_of_le hb h.size)).trans (h.same b hb), h.ok0, k.ok⟩
  by_cases hb : b < w.heap.size
  · rw [h.same b hb] at h1
    rcases hk j h2 with h3 | h3
    · exact .inl ⟨j, h1, h3⟩
    · have := h.ok0 b j hb h1; omega
  · exact .inr (by omega)
theorem Step.trans (h : Step K w o w1 o1) (k : Step K w1 o1 w' o') : Step K w o w' o' := h.trans' k fun _ h => .inl h
theorem Step.none (h : Step no w o w' o') : Step K w o w' o' := h.mono fun _ h _ => h.elim
theorem grow_lt {b : Nat} (h : b < w.heap.size) : grow w o b = o b := if_pos h
theorem grow_ge {b : Nat} (h : w.heap.size ≤ b) : grow w o b = none := if_neg (by omega)
theorem Tags.grow (h : Tags w o) (hs : w.heap.size ≤ w'.heap.size) : Tags w' (grow w o) := fun b j hb hj => by
  by_cases hl : b < w.heap.size
  · rw [grow_lt hl] at hj; exact Nat.lt_of_lt_of_le (h b j hl hj) hs
  · rw [grow_ge (by omega)] at hj; cases hj
theorem Q1k : tag o p j p = some j := if_pos rfl
theorem tag_ne {b : Nat} (h : b ≠ p) : tag o p j b = o b := if_neg h
theorem Tags.tag (h : Tags w o) (hj : j < w.heap.size) : Tags w (tag o p j) := fun b i hb hi => by
  by_cases hp : b = p
  · subst hp; rw [Q1k] at hi; cases hi; exact hj
  · rw [tag_ne hp] at hi; exact h b i hb hi
theorem Step.of_no (h : Ext no w w') (ok : Tags w o) : Step no w o w' (grow w o) := ⟨h.mono fun _ h _ => h.elim, fun _ hb => grow_lt hb, ok, ok.grow h.size⟩
theorem Step.tag (h : Step K w o w' o') (hp : w.heap.size ≤ p) (hj : j < w'.heap.size) : Step K w o w' (tag o' p j) :=
  ⟨h.ext, fun b hb => by rw [tag_ne (by omega)]; exact h.same b hb, h.ok0, h.ok.tag hj⟩
theorem Step.of_ext {m : Nat → Prop} (h : Ext m w w') (ok : Tags w o) (hm : ∀ b, m b → b < w.heap.size → o b = some p) : Step (fun j => j = p) w o w' (grow w o) :=
  ⟨h.mono fun b hb hl => ⟨p, hm b hb hl, rfl⟩, fun _ hb => grow_lt hb, ok, ok.grow h.size⟩
theorem Step.at (h : Step K w o w' o') {b : Nat} (hb : b < w.heap.size) (hk : ∀ k, o b = some k → ¬ K k) : w'.heap[b]? = w.heap[b]? :=
  h.ext.block b hb fun ⟨k, h1, h2⟩ => hk k h1 h2
theorem Step.blk (h : Step K w o w' o') {t : TypeId} {cs : List Value} (hb : Blk w p t cs) (hp : o p = some j) (hj : ¬ K j) : Blk w' p t cs := by
  have := h.at hb.lt fun k hk => by rw [hp] at hk; cases hk; exact hj
  unfold Blk at hb ⊢
  rw [this]; exact hb
theorem Step.own (h : Step K w o w' o') (hp : p < w.heap.size) : o' p = o p := h.same p hp
def Row (w : World) (o : Own) (a : Option Addr) (cs : List Value) : Prop := RowAt w a cs ∧ (cs ≠ [] → ∀ ad, a = some ad → o ad.block = none)
theorem Row.nil (w : World) (o : Own) (a : Option Addr) : Row w o a [] := ⟨RowAt.nil _ _, fun h => absurd rfl h⟩
theorem Row.step {a : Option Addr} {cs : List Value} (h : Row w o a cs) (k : Step K w o w' o') : Row w' o' a cs :=
  ⟨h.1.ext' k.ext fun h0 ad ha ⟨j, h1, _⟩ => (by rw [h.2 h0 ad ha] at h1; cases h1), fun h0 ad ha => by rw [k.same _ (h.1.lt h0 ha)]; exact h.2 h0 ad ha⟩
theorem Row.fresh {a : Option Addr} {cs : List Value} (h : RowAt w' a cs) (hf : ∀ ad, a = some ad → w.heap.size ≤ ad.block) : Row w' (grow w o) a cs := ⟨h, fun _ ad ha => grow_ge (hf ad ha)⟩
end
/-! ### rows that grow, of an owner -/
section
variable {K K1 : Nat → Prop} {w w1 w' : World} {o o1 o' : Own} {p q j k : Nat}
structure Grows (e size : Nat) (w : World) (o : Own) (k : Nat) (a : Option Addr) (n c : Nat) (cs : List Value) : Prop where
  own : w.ownsRow 0 e size (.slice a n c) n cs
  tg : ∀ ad, a = some ad → o ad.block = some k ∧ ad.block < w.heap.size
theorem Grows.row {e size : Nat} {a : Option Addr} {n c : Nat} {cs : List Value} (h : Grows e size w o k a n c cs) : RowAt w a cs := by
  obtain ⟨_, _, hv, hr⟩ := RowAt.of_owns h.own
  cases hv; exact hr
theorem owns_ext' {m : Nat → Prop} {e size n : Nat} {v : Value} {xs : List Value} (h : w.ownsRow 0 e size v n xs) (x : Ext m w w') (hn : ∀ b, v.ownBlock = some b → ¬ m b) : w'.ownsRow 0 e size v n xs := by
  refine ⟨h.1, ?_⟩
  rcases h.2 with h2 | ⟨g, cap, cur, hv, hb, hg, hr⟩
  · exact .inl h2
  · exact .inr ⟨g, cap, cur, hv, hb, x.get hg (hn g (by rw [hv]; rfl)), hr⟩
theorem Grows.step {e size : Nat} {a : Option Addr} {n c : Nat} {cs : List Value} (h : Grows e size w o k a n c cs) (s : Step K w o w' o') (hk : ¬ K k) : Grows e size w' o' k a n c cs := by
  refine ⟨owns_ext' h.own s.ext fun b hb ⟨i, h1, h2⟩ => ?_, fun ad ha => ?_⟩
  · cases a with
    | none => simp [Value.ownBlock] at hb
    | some ad =>
      simp only [Value.ownBlock, Option.some.injEq] at hb
      subst hb
      rw [(h.tg ad rfl).1] at h1; cases h1; exact hk h2
  · have := h.tg ad ha
    exact ⟨by rw [s.own this.2]; exact this.1, Nat.lt_of_lt_of_le this.2 s.size⟩
theorem Grows.keep {e size : Nat} {a : Option Addr} {n c : Nat} {cs : List Value} (h : Grows e size w o k a n c cs) {m : Nat → Prop} (x : Ext m w w') (hm : ∀ ad, a = some ad → ¬ m ad.block) (ho : ∀ b, b < w.heap.size → o' b = o b) : Grows e size w' o' k a n c cs := by
  refine ⟨owns_ext' h.own x fun b hb => ?_, fun ad ha => ?_⟩
  · cases a with
    | none => simp [Value.ownBlock] at hb
    | some ad => simp only [Value.ownBlock, Option.some.injEq] at hb; subst hb; exact hm ad rfl
  · have := h.tg ad ha
    exact ⟨by rw [ho _ this.2]; exact this.1, Nat.lt_of_lt_of_le this.2 x.size⟩
theorem Grows.nil (e size : Nat) (w : World) (o : Own) (k : Nat) : Grows e size w o k none 0 0 [] := ⟨⟨by simp, .inl ⟨rfl, rfl⟩⟩, fun ad ha => by cases ha⟩
theorem Grows.push {P : Program} {t ty e : TypeId} {i : TypeInfo} {z : Value} {size bytes : Nat} (ht : P.underlying t = some (.slice e)) (hi : P.info? e = some i) (hz : i.zero = some z)
    (hsize : i.size = size) (hby : i.bytes = bytes) (hzs : z.cells.size = size) (hsz : 0 < size) {a : Option Addr} {n c : Nat} {cs : List Value} (h : Grows e size w o k a n c cs) (ok : Tags w o) (hk : k < w.heap.size)
    {xa : Option Addr} {m xc : Nat} {news : List Value} (hl : news.length = m * size) (hnews : RowAt w xa news) (h1 : ∀ u ∈ news, u.oneCell' = true) (hb : (n + m) * bytes ≤ 140737488355328) (h63 : n + m ≤ 9223372036854775807) :
    ∃ a' c' w' o', (Builtin.append_ #[t, t] ty #[.slice a n c, .slice xa m xc]).run P w = .ok (.slice a' (n + m) c') w' ∧ Step (fun j => j = k) w o w' o' ∧ Grows e size w' o' k a' (n + m) c' (cs ++ news) ∧
      (∀ b, b < w.heap.size → (∀ ad, a = some ad → b ≠ ad.block) → w'.heap[b]? = w.heap[b]?) ∧ (∀ ad, a' = some ad → (∃ b, a = some b ∧ ad.block = b.block) ∨ ad.block = w.heap.size) := by
  obtain ⟨a', c', w', hr, ho, hg, hbk⟩ := Q1r (ty := ty) ht hi hz hsize hby hzs hsz h.own (xa := xa) (m := m) (c := xc) hl hnews h1 hb h63
  have hrow : ∀ q, (Value.slice a n c).ownBlock = some q → o q = some k ∧ q < w.heap.size ∧ ∃ ad, a = some ad ∧ q = ad.block := fun q hq => by
    cases a with
    | none => simp [Value.ownBlock] at hq
    | some ad => simp only [Value.ownBlock, Option.some.injEq] at hq; subst hq; exact ⟨(h.tg ad rfl).1, (h.tg ad rfl).2, ad, rfl, rfl⟩
  have X : Ext (fun b => (Value.slice a n c).ownBlock = some b) w w' := Ext.of_grown hg fun q hq => .inl hq
  have s : Step (fun j => j = k) w o w' (grow w o) := Step.of_ext X ok fun b hb _ => (hrow b hb).1
  refine ⟨a', c', w', tag (grow w o) w.heap.size k, hr, s.tag (Nat.le_refl _) (Nat.lt_of_lt_of_le hk s.size), ⟨ho, fun ad ha => ?_⟩, fun b hb hne => X.block b hb fun hq => ?_, fun ad ha => ?_⟩
  · have hlt := (Q1l ho).2 ad ha
    subst ha
    refine ⟨?_, hlt⟩
    rcases hbk with hq | hq
    · obtain ⟨q1, q2, _⟩ := hrow _ hq.symm
      rw [tag_ne (by omega), grow_lt q2]; exact q1
    · simp only [Value.ownBlock, Option.some.injEq] at hq
      rw [hq]; exact Q1k
  · obtain ⟨_, _, ad, ha, rfl⟩ := hrow b hq
    exact hne ad ha rfl
  · subst ha
    rcases hbk with hq | hq
    · obtain ⟨_, _, b, hb1, hb2⟩ := hrow _ hq.symm
      exact .inl ⟨b, hb1, hb2⟩
    · simp only [Value.ownBlock, Option.some.injEq] at hq; exact .inr hq
end
end Go.Mx
namespace Go.Proofs.Ytoempemllkebkaa
open Go Go.Mx Go.Proofs
theorem follows : Try.prog.follows .mixedOrders = true := by kernel_rfl
end Go.Proofs.Ytoempemllkebkaa
namespace Go.Proofs.Ytoempemllkebkaa
open Go Go.Mx Go.Proofs
theorem W.eqf_step {P : Program} {w : World} {d : Nat} {xs ys : Array Value} {f : Field} {fs : List Field} {a b : Value} {r : Bool} (n : f.name ≠ "_") (qa : (part f.type xs f.offset).run P w = .ok a w) (qb : (part f.type ys f.offset).run P w = .ok b w) (he : (Op.equalIn d f.type a b).run P w = .ok r w) :
    (Op.eqFields d xs ys (f :: fs)).run P w = if r then (Op.eqFields d xs ys fs).run P w else .ok false w := by
  simp only [Op.eqFields, n, ne_eq, not_false_eq_true, if_true, Sem.run_bind, qa, qb, he, Result.andThen_ok]
  cases r <;> simp
theorem eqT24 (x0 x1 y0 y1 : Int) (w : World) : (Op.equalIn 10000 24 (.agg #[.int .i64 x0, .int .i64 x1]) (.agg #[.int .i64 y0, .int .i64 y1])).run Try.prog w = .ok (decide (x0 = y0 ∧ x1 = y1)) w := by
  obtain ⟨f0, f1, ht, n0, o0, p0, u0, n1, o1, p1, u1, hp⟩ : ∃ f0 f1, Try.prog.underlying 24 = some (.struct #[f0, f1]) ∧ f0.name ≠ "_" ∧ f0.offset = 0 ∧ Try.prog.plainKey f0.type = true ∧ Try.prog.underlying f0.type = some (.int .i64) ∧ f1.name ≠ "_" ∧ f1.offset = 1 ∧ Try.prog.plainKey f1.type = true ∧ Try.prog.underlying f1.type = some (.int .i64) ∧ Try.prog.stoodInHeld 24 = false :=
    ⟨_, _, Try.underlying24, by decide, rfl, by kernel_rfl, by kernel_rfl, by decide, rfl, by kernel_rfl, by kernel_rfl, by kernel_rfl⟩
  have hf : Try.prog.fieldsOf 24 = #[f0, f1] := by simp [Program.fieldsOf, ht]
  rw [show (10000 : Nat) = 9998 + 1 + 1 from rfl, run_equalIn_struct w (9998 + 1) _ _ _ (by rw [hf]; exact ht) hp, hf]
  show (Op.eqFields (9998 + 1) _ _ [f0, f1]).run Try.prog w = _
  rw [W.eqf_step n0 (run_part_plain w p0 (by rw [o0]; rfl)) (run_part_plain w p0 (by rw [o0]; rfl)) (run_equalIn_int w _ _ _ _ _ _ u0), W.eqf_step n1 (run_part_plain w p1 (by rw [o1]; rfl)) (run_part_plain w p1 (by rw [o1]; rfl)) (run_equalIn_int w _ _ _ _ _ _ u1)]
  by_cases e0 : x0 = y0 <;> by_cases e1 : x1 = y1 <;> simp [e0, e1, Op.eqFields]
theorem Q4i (x0 x1 y0 y1 : Int) (w : World) : (binOp .eql 24 (.agg #[.int .i64 x0, .int .i64 x1]) (.agg #[.int .i64 y0, .int .i64 y1])).run Try.prog w = .ok (.bool (decide (x0 = y0 ∧ x1 = y1))) w := by rw [run_eql_struct, eqT24]; rfl
end Go.Proofs.Ytoempemllkebkaa
namespace Go.Proofs.Ytoempemllkebkaa
open Go Go.Mx Go.Proofs
open W (OwnB Rd RdR GivesW numR countR doneR zig unzig intR)
abbrev Q0o.J1 (ae : Option Addr) (a3 : Int) (R : RW) (aa : World) : Prop :=
 ae.elim False fun ag =>
 ∃ (a5 : Option Addr) (ad a4 : Nat), aa.cell? (ag.add 0) = some (.slice a5 ad a4) ∧
 (0 : Int) ≤ (a3 : Int) ∧ (a3 : Int) ≤ (a4 : Int) ∧
 Calls Try.prog 57 #[.slice (if a4 = 0 then a5 else Option.map (fun z : Addr => z.add (0 * 1)) a5) ((Int.toNat a3) - 0) (a4 - 0)] aa fun ab a8 => ∃ (a0 : Option Addr) (a1 a2 : Nat), ab = .returned (.slice a0 a1 a2) ∧
 ae.elim False fun ah =>
 ∃ (a6 : Option Addr) (a9 a7 : Nat), a8.cell? (ah.add 0) = some (.slice a6 a9 a7) ∧
 (0 : Int) ≤ (a3 : Int) ∧ (a3 : Int) ≤ (a9 : Int) ∧
 ae.elim False fun af =>
 Q01 a8 ((af.add 0).add 0) ∧
 thenW (a8.setCell ((af.add 0).add 0) (.slice (if a7 = Int.toNat a3 then a6 else Option.map (fun z : Addr => z.add ((Int.toNat a3) * 1)) a6) (a9 - (Int.toNat a3)) (a7 - (Int.toNat a3)))) fun ac =>
 R (.slice a0 a1 a2) ac

abbrev Q0o.J2 (a4 : Option Addr) (a7 : Int) (R : RW) (a0 : World) : Prop :=
 a4.elim False fun a8 =>
 ∃ (a2 : Option Addr) (a1 a6 : Nat), a0.cell? (a8.add 0) = some (.slice a2 a1 a6) ∧
 bif decide (a7 > (a1 : Int)) then (
 Calls Try.prog 74 #[.pointer a4, .int .i64 4] a0 fun a5 a3 => a5 = .returned (.tuple #[]) ∧
 R (.slice none 0 0) a3) else (
 Q0o.J1 a4 a7 R a0)

def Q0o.M (r1 : Option Addr) (n2 : Int) (R : RW) (w : World) : Prop :=
 Calls Try.prog 72 #[.pointer r1] w fun a2 a0 => ∃ (a1 : Bool), a2 = .returned (.bool a1) ∧
 bif !a1 then (
 R (.slice none 0 0) a0) else (
 Q0o.J2 r1 n2 R a0)

theorem Q0o.ok (r1 : Option Addr) (n2 : Int) {R : RW} {w : World} (h : Q0o.M r1 n2 R w) : Calls Try.prog 75 #[.pointer r1, .int .i64 n2] w fun e w' => ∃ v, e = .returned v ∧ R v w' :=
  Q08 follows (H := []) (args := [.pointer r1, .int .i64 n2]) (cast (by kernel_rfl) h)

def Q0o.N (r1 : Option Addr) (n2 : Int) (R : RW) (w : World) : Prop :=
 Calls Try.prog 72 #[.pointer r1] w fun aj aa => ∃ (ad : Bool), aj = .returned (.bool ad) ∧
 (ad = false →
 R (.slice none 0 0) aa) ∧
 (ad = true →
 ∃ a7 : Addr, r1 = some a7 ∧
 ∃ (ai : Option Addr) (ab ak : Nat), aa.cell? (a7.add 0) = some (.slice ai ab ak) ∧
 (n2 > (ab : Int) →
 Calls Try.prog 74 #[.pointer r1, .int .i64 4] aa fun ah ac => ah = .returned (.tuple #[]) ∧
 R (.slice none 0 0) ac) ∧
 (n2 ≤ (ab : Int) →
 ∃ (a8 : Option Addr) (ag a3 : Nat), aa.cell? (a7.add 0) = some (.slice a8 ag a3) ∧
 (0 : Int) ≤ (n2 : Int) ∧ (n2 : Int) ≤ (a3 : Int) ∧ 
 Calls Try.prog 57 #[.slice a8 (Int.toNat n2) a3] aa fun ae a5 => ∃ (a1 : Option Addr) (a0 a2 : Nat), ae = .returned (.slice a1 a0 a2) ∧
 ∃ (a9 : Option Addr) (a6 a4 : Nat), a5.cell? (a7.add 0) = some (.slice a9 a6 a4) ∧
 (0 : Int) ≤ (n2 : Int) ∧ (n2 : Int) ≤ (a6 : Int) ∧ 
 Q01 a5 ((a7.add 0).add 0) ∧
 thenW (a5.setCell ((a7.add 0).add 0) (.slice (cutA a9 a4 (Int.toNat n2) 1) (a6 - (Int.toNat n2)) (a4 - (Int.toNat n2)))) fun af =>
 R (.slice a1 a0 a2) af))

theorem Q0o.up (r1 : Option Addr) (n2 : Int) {R : RW} {w : World} (h : Q0o.N r1 n2 R w) : Q0o.M r1 n2 R w := by
  unfold Q0o.M
  unfold Q0o.N at h
  refine h.mono fun au ar h => ?_
  obtain ⟨al, he, h⟩ := h
  refine ⟨al, he, ?_⟩
  refine bif_of (fun c6 => ?_) (fun c6 => ?_)
  ·have h := h.1 (not_t c6)
   exact h
  have h := h.2 (not_f c6)
  unfold Q0o.J2
  obtain ⟨a7, a3, h⟩ := h
  refine Q0L a3 ?_
  obtain ⟨ai, ah, aq, ag, h⟩ := h
  refine ⟨ai, ah, aq, ag, ?_⟩
  refine bif_of (fun ab => ?_) (fun ab => ?_)
  ·have h := h.1 (of_decide_eq_true ab)
   refine h.mono fun ap ak h => ?_
   obtain ⟨he, h⟩ := h
   refine ⟨he, ?_⟩
   exact h
  have h := h.2 (Int.not_lt.1 (of_decide_eq_false ab))
  unfold Q0o.J1
  refine Q0L a3 ?_
  obtain ⟨a5, ac, a8, af, h⟩ := h
  refine ⟨a5, ac, a8, af, ?_⟩
  obtain ⟨aa, a4, h⟩ := h
  refine ⟨aa, a4, ?_⟩
  try rw [Q4v]
  refine h.mono fun am ao h => ?_
  obtain ⟨a1, a0, a2, he, h⟩ := h
  refine ⟨a1, a0, a2, he, ?_⟩
  refine Q0L a3 ?_
  obtain ⟨a6, ad, a9, ae, h⟩ := h
  refine ⟨a6, ad, a9, ae, ?_⟩
  obtain ⟨aa, a4, h⟩ := h
  refine ⟨aa, a4, ?_⟩
  refine Q0L a3 ?_
  obtain ⟨hcs, h⟩ := h
  refine ⟨hcs, Q02 fun an aj => ?_⟩
  replace h := Q1j h aj
  exact h

theorem Q0o.go (r1 : Option Addr) (n2 : Int) {R : RW} {w : World} (h : Q0o.N r1 n2 R w) : Calls Try.prog 75 #[.pointer r1, .int .i64 n2] w fun e w' => ∃ v, e = .returned v ∧ R v w' := Q0o.ok r1 n2 (Q0o.up r1 n2 h)
def Q0G.M (r1 : Option Addr) (a4 : Int) (R : RW) (w : World) : Prop :=
 Calls Try.prog 54 #[.pointer r1, .int .i64 a4] w fun a8 a5 => ∃ (a2 : Int), a8 = .returned (.int .i64 a2) ∧
 Calls Try.prog 75 #[.pointer r1, .int .i64 a2] a5 fun a6 a7 => ∃ (a0 : Option Addr) (a3 a1 : Nat), a6 = .returned (.slice a0 a3 a1) ∧
 R (.slice a0 a3 a1) a7

theorem Q0G.ok (r1 : Option Addr) (a0 : Int) {R : RW} {w : World} (h : Q0G.M r1 a0 R w) : Calls Try.prog 55 #[.pointer r1, .int .i64 a0] w fun e w' => ∃ v, e = .returned v ∧ R v w' :=
  Q08 follows (H := []) (args := [.pointer r1, .int .i64 a0]) (cast (by kernel_rfl) h)

def Q0G.N (r1 : Option Addr) (a4 : Int) (R : RW) (w : World) : Prop :=
 Calls Try.prog 54 #[.pointer r1, .int .i64 a4] w fun a8 a5 => ∃ (a2 : Int), a8 = .returned (.int .i64 a2) ∧
 Calls Try.prog 75 #[.pointer r1, .int .i64 a2] a5 fun a6 a7 => ∃ (a0 : Option Addr) (a3 a1 : Nat), a6 = .returned (.slice a0 a3 a1) ∧
 R (.slice a0 a3 a1) a7

theorem Q0G.up (r1 : Option Addr) (a0 : Int) {R : RW} {w : World} (h : Q0G.N r1 a0 R w) : Q0G.M r1 a0 R w := by
  unfold Q0G.M
  unfold Q0G.N at h
  refine h.mono fun a8 a5 h => ?_
  obtain ⟨a3, he, h⟩ := h
  refine ⟨a3, he, ?_⟩
  refine h.mono fun a6 a7 h => ?_
  obtain ⟨a1, a4, a2, he, h⟩ := h
  refine ⟨a1, a4, a2, he, ?_⟩
  exact h

theorem Q0G.go (r1 : Option Addr) (a0 : Int) {R : RW} {w : World} (h : Q0G.N r1 a0 R w) : Calls Try.prog 55 #[.pointer r1, .int .i64 a0] w fun e w' => ∃ v, e = .returned v ∧ R v w' := Q0G.ok r1 a0 (Q0G.up r1 a0 h)
def Q0H.M (n1 : Int) (R : RW) (w : World) : Prop :=
 bif decide (n1 ≥ 0) then (
 Calls Try.prog 39 #[.int .u64 (IntKind.u64.wrap ((IntKind.u64.wrap n1) * 2))] w fun a6 a7 => ∃ (a3 : Option Addr) (a5 a4 : Nat), a6 = .returned (.slice a3 a5 a4) ∧
 R (.slice a3 a5 a4) a7) else (
 Calls Try.prog 39 #[.int .u64 (IntKind.u64.wrap ((IntKind.u64.wrap ((IntKind.u64.wrap (IntKind.i64.wrap (0 - (IntKind.i64.wrap (n1 + 1))))) * 2)) + 1))] w fun a9 a8 => ∃ (a2 : Option Addr) (a0 a1 : Nat), a9 = .returned (.slice a2 a0 a1) ∧
 R (.slice a2 a0 a1) a8)

theorem Q0H.ok (n1 : Int) {R : RW} {w : World} (h : Q0H.M n1 R w) : Calls Try.prog 96 #[.int .i64 n1] w fun e w' => ∃ v, e = .returned v ∧ R v w' :=
  Q08 follows (H := []) (args := [.int .i64 n1]) (cast (by kernel_rfl) h)

def Q0H.N (n1 : Int) (R : RW) (w : World) : Prop :=
 (n1 ≥ 0 →
 Calls Try.prog 39 #[.int .u64 (IntKind.u64.wrap ((IntKind.u64.wrap n1) * 2))] w fun a9 a6 => ∃ (a4 : Option Addr) (a5 a2 : Nat), a9 = .returned (.slice a4 a5 a2) ∧
 R (.slice a4 a5 a2) a6) ∧
 (n1 < 0 →
 (-9223372036854775808 : Int) ≤ (n1 + 1) ∧ (n1 + 1) < 9223372036854775808 ∧
 (-9223372036854775808 : Int) ≤ (0 - (n1 + 1)) ∧ (0 - (n1 + 1)) < 9223372036854775808 ∧
 Calls Try.prog 39 #[.int .u64 (IntKind.u64.wrap ((IntKind.u64.wrap ((IntKind.u64.wrap (0 - (n1 + 1))) * 2)) + 1))] w fun a7 a8 => ∃ (a1 : Option Addr) (a3 a0 : Nat), a7 = .returned (.slice a1 a3 a0) ∧
 R (.slice a1 a3 a0) a8)

theorem Q0H.up (n1 : Int) {R : RW} {w : World} (h : Q0H.N n1 R w) : Q0H.M n1 R w := by
  unfold Q0H.M
  unfold Q0H.N at h
  refine bif_of (fun c2 => ?_) (fun c2 => ?_)
  ·have h := h.1 (of_decide_eq_true c2)
   refine h.mono fun ab a8 h => ?_
   obtain ⟨a4, a5, a2, he, h⟩ := h
   refine ⟨a4, a5, a2, he, ?_⟩
   exact h
  have h := h.2 (Int.not_le.1 (of_decide_eq_false c2))
  obtain ⟨a6, a7, h⟩ := h
  try rw [w64 a6 a7]
  obtain ⟨a6, a7, h⟩ := h
  try rw [w64 a6 a7]
  refine h.mono fun a9 aa h => ?_
  obtain ⟨a1, a3, a0, he, h⟩ := h
  refine ⟨a1, a3, a0, he, ?_⟩
  exact h

theorem Q0H.go (n1 : Int) {R : RW} {w : World} (h : Q0H.N n1 R w) : Calls Try.prog 96 #[.int .i64 n1] w fun e w' => ∃ v, e = .returned v ∧ R v w' := Q0H.ok n1 (Q0H.up n1 h)
def Q0C.M (a8 : Option Addr) (a4 a9 : Nat) (R : RW) (w : World) : Prop :=
 Calls Try.prog 39 #[.int .u64 (IntKind.u64.wrap (a4 : Int))] w fun aa ab => ∃ (a0 : Option Addr) (a2 a1 : Nat), aa = .returned (.slice a0 a2 a1) ∧
 ∃ (a3 : Option Addr) (a5 a7 : Nat) (a6 : World), (Builtin.append_ #[25, 25] 25 #[.slice a0 a2 a1, .slice a8 a4 a9]).run Try.prog ab = .ok (.slice a3 a5 a7) a6 ∧
 R (.slice a3 a5 a7) a6

theorem Q0C.ok (a0 : Option Addr) (a2 a1 : Nat) {R : RW} {w : World} (h : Q0C.M a0 a2 a1 R w) : Calls Try.prog 42 #[.slice a0 a2 a1] w fun e w' => ∃ v, e = .returned v ∧ R v w' :=
  Q08 follows (H := []) (args := [.slice a0 a2 a1]) (cast (by kernel_rfl) h)

def Q0C.N (a8 : Option Addr) (a4 a9 : Nat) (R : RW) (w : World) : Prop :=
 Calls Try.prog 39 #[.int .u64 (IntKind.u64.wrap (a4 : Int))] w fun aa ab => ∃ (a0 : Option Addr) (a2 a1 : Nat), aa = .returned (.slice a0 a2 a1) ∧
 ∃ (a3 : Option Addr) (a5 a7 : Nat) (a6 : World), (Builtin.append_ #[25, 25] 25 #[.slice a0 a2 a1, .slice a8 a4 a9]).run Try.prog ab = .ok (.slice a3 a5 a7) a6 ∧
 R (.slice a3 a5 a7) a6

theorem Q0C.up (a3 : Option Addr) (a5 a4 : Nat) {R : RW} {w : World} (h : Q0C.N a3 a5 a4 R w) : Q0C.M a3 a5 a4 R w := by
  unfold Q0C.M
  unfold Q0C.N at h
  refine h.mono fun aa ab h => ?_
  obtain ⟨a0, a2, a1, he, h⟩ := h
  refine ⟨a0, a2, a1, he, ?_⟩
  obtain ⟨a6, a7, a9, a8, hr, h⟩ := h
  refine ⟨a6, a7, a9, a8, hr, ?_⟩
  exact h

theorem Q0C.go (a0 : Option Addr) (a2 a1 : Nat) {R : RW} {w : World} (h : Q0C.N a0 a2 a1 R w) : Calls Try.prog 42 #[.slice a0 a2 a1] w fun e w' => ∃ v, e = .returned v ∧ R v w' := Q0C.ok a0 a2 a1 (Q0C.up a0 a2 a1 h)
def Q0i.M (r1 : Option Addr) (R : RW) (w : World) : Prop :=
 Calls Try.prog 45 #[.pointer r1] w fun a2 a1 => ∃ (a0 : Int), a2 = .returned (.int .u64 a0) ∧
 2 ≠ (0 : Int) ∧ bif (Int.tmod a0 2) == 0 then (
 2 ≠ (0 : Int) ∧ R (.int .i64 (IntKind.i64.wrap (IntKind.u64.wrap (Int.tdiv a0 2)))) a1) else (
 2 ≠ (0 : Int) ∧ R (.int .i64 (IntKind.i64.wrap ((IntKind.i64.wrap (0 - (IntKind.i64.wrap (IntKind.u64.wrap (Int.tdiv a0 2))))) - 1))) a1)

theorem Q0i.ok (r1 : Option Addr) {R : RW} {w : World} (h : Q0i.M r1 R w) : Calls Try.prog 86 #[.pointer r1] w fun e w' => ∃ v, e = .returned v ∧ R v w' :=
  Q08 follows (H := []) (args := [.pointer r1]) (cast (by kernel_rfl) h)

def Q0i.N (r1 : Option Addr) (R : RW) (w : World) : Prop :=
 Calls Try.prog 45 #[.pointer r1] w fun a2 a1 => ∃ (a0 : Int), a2 = .returned (.int .u64 a0) ∧
 ((Int.tmod a0 2) = 0 →
 (-9223372036854775808 : Int) ≤ (IntKind.u64.wrap (Int.tdiv a0 2)) ∧ (IntKind.u64.wrap (Int.tdiv a0 2)) < 9223372036854775808 ∧
 R (.int .i64 (IntKind.u64.wrap (Int.tdiv a0 2))) a1) ∧
 ((Int.tmod a0 2) ≠ 0 →
 (-9223372036854775808 : Int) ≤ (IntKind.u64.wrap (Int.tdiv a0 2)) ∧ (IntKind.u64.wrap (Int.tdiv a0 2)) < 9223372036854775808 ∧
 (-9223372036854775808 : Int) ≤ (0 - (IntKind.u64.wrap (Int.tdiv a0 2))) ∧ (0 - (IntKind.u64.wrap (Int.tdiv a0 2))) < 9223372036854775808 ∧
 (-9223372036854775808 : Int) ≤ ((0 - (IntKind.u64.wrap (Int.tdiv a0 2))) - 1) ∧ ((0 - (IntKind.u64.wrap (Int.tdiv a0 2))) - 1) < 9223372036854775808 ∧
 R (.int .i64 ((0 - (IntKind.u64.wrap (Int.tdiv a0 2))) - 1)) a1)

theorem Q0i.up (r1 : Option Addr) {R : RW} {w : World} (h : Q0i.N r1 R w) : Q0i.M r1 R w := by
  unfold Q0i.M
  unfold Q0i.N at h
  refine h.mono fun a3 a4 h => ?_
  obtain ⟨a2, he, h⟩ := h
  refine ⟨a2, he, ?_⟩
  refine ⟨by decide, ?_⟩
  refine bif_of (fun c5 => ?_) (fun c5 => ?_)
  ·have h := h.1 (beq_t c5)
   refine ⟨by decide, ?_⟩
   obtain ⟨a0, a1, h⟩ := h
   try rw [w64 a0 a1]
   exact h
  have h := h.2 (beq_f c5)
  refine ⟨by decide, ?_⟩
  obtain ⟨a0, a1, h⟩ := h
  try rw [w64 a0 a1]
  obtain ⟨a0, a1, h⟩ := h
  try rw [w64 a0 a1]
  obtain ⟨a0, a1, h⟩ := h
  try rw [w64 a0 a1]
  exact h

theorem Q0i.go (r1 : Option Addr) {R : RW} {w : World} (h : Q0i.N r1 R w) : Calls Try.prog 86 #[.pointer r1] w fun e w' => ∃ v, e = .returned v ∧ R v w' := Q0i.ok r1 (Q0i.up r1 h)
abbrev Q0b.J1 (a1 : Int) (a7 : Option Addr) (R : RW) (a0 : World) : Prop :=
 a7.elim False fun ai =>
 ∃ (a9 : Option Addr) (a8 ae : Nat), a0.cell? (ai.add 0) = some (.slice a9 a8 ae) ∧
 bif decide (a1 > (a8 : Int)) then (
 Calls Try.prog 65 #[.pointer a7, .int .i64 4] a0 fun aa ac => aa = .returned (.tuple #[]) ∧
 R (.slice none 0 0) ac) else (
 a7.elim False fun ag =>
 ∃ (a5 : Option Addr) (ab a2 : Nat), a0.cell? (ag.add 0) = some (.slice a5 ab a2) ∧
 (0 : Int) ≤ (a1 : Int) ∧ (a1 : Int) ≤ (a2 : Int) ∧
 a7.elim False fun ah =>
 ∃ (a6 : Option Addr) (a4 a3 : Nat), a0.cell? (ah.add 0) = some (.slice a6 a4 a3) ∧
 (0 : Int) ≤ (a1 : Int) ∧ (a1 : Int) ≤ (a4 : Int) ∧
 a7.elim False fun af =>
 Q01 a0 ((af.add 0).add 0) ∧
 thenW (a0.setCell ((af.add 0).add 0) (.slice (if a3 = Int.toNat a1 then a6 else Option.map (fun z : Addr => z.add ((Int.toNat a1) * 1)) a6) (a4 - (Int.toNat a1)) (a3 - (Int.toNat a1)))) fun ad =>
 R (.slice (if a2 = 0 then a5 else Option.map (fun z : Addr => z.add (0 * 1)) a5) ((Int.toNat a1) - 0) (a2 - 0)) ad)

def Q0b.M (r1 : Option Addr) (a1 : Int) (R : RW) (w : World) : Prop :=
 Calls Try.prog 43 #[.pointer r1, .int .i64 a1] w fun a4 a2 => ∃ (a0 : Int), a4 = .returned (.int .i64 a0) ∧
 r1.elim False fun a6 =>
 ∃ (a3 : Int), a2.cell? (a6.add 1) = some (.int .i64 a3) ∧
 bif a3 != 0 then (
 R (.slice none 0 0) a2) else (
 Q0b.J1 a0 r1 R a2)

theorem Q0b.ok (r1 : Option Addr) (a0 : Int) {R : RW} {w : World} (h : Q0b.M r1 a0 R w) : Calls Try.prog 44 #[.pointer r1, .int .i64 a0] w fun e w' => ∃ v, e = .returned v ∧ R v w' :=
  Q08 follows (H := []) (args := [.pointer r1, .int .i64 a0]) (cast (by kernel_rfl) h)

def Q0b.N (r1 : Option Addr) (a7 : Int) (R : RW) (w : World) : Prop :=
 Calls Try.prog 43 #[.pointer r1, .int .i64 a7] w fun ah a1 => ∃ (a0 : Int), ah = .returned (.int .i64 a0) ∧
 ∃ a6 : Addr, r1 = some a6 ∧
 ∃ (ae : Int), a1.cell? (a6.add 1) = some (.int .i64 ae) ∧
 (ae ≠ 0 →
 R (.slice none 0 0) a1) ∧
 (ae = 0 →
 ∃ (ab : Option Addr) (a4 af : Nat), a1.cell? (a6.add 0) = some (.slice ab a4 af) ∧
 (a0 > (a4 : Int) →
 Calls Try.prog 65 #[.pointer r1, .int .i64 4] a1 fun aa ag => aa = .returned (.tuple #[]) ∧
 R (.slice none 0 0) ag) ∧
 (a0 ≤ (a4 : Int) →
 ∃ (a8 : Option Addr) (ac a3 : Nat), a1.cell? (a6.add 0) = some (.slice a8 ac a3) ∧
 (0 : Int) ≤ (a0 : Int) ∧ (a0 : Int) ≤ (a3 : Int) ∧ 
 ∃ (a9 : Option Addr) (a2 a5 : Nat), a1.cell? (a6.add 0) = some (.slice a9 a2 a5) ∧
 (0 : Int) ≤ (a0 : Int) ∧ (a0 : Int) ≤ (a2 : Int) ∧ 
 Q01 a1 ((a6.add 0).add 0) ∧
 thenW (a1.setCell ((a6.add 0).add 0) (.slice (cutA a9 a5 (Int.toNat a0) 1) (a2 - (Int.toNat a0)) (a5 - (Int.toNat a0)))) fun ad =>
 R (.slice a8 (Int.toNat a0) a3) ad))

theorem Q0b.up (r1 : Option Addr) (a0 : Int) {R : RW} {w : World} (h : Q0b.N r1 a0 R w) : Q0b.M r1 a0 R w := by
  unfold Q0b.M
  unfold Q0b.N at h
  refine h.mono fun aq ap h => ?_
  obtain ⟨a1, he, h⟩ := h
  refine ⟨a1, he, ?_⟩
  obtain ⟨a6, a2, h⟩ := h
  refine Q0L a2 ?_
  obtain ⟨aj, ak, h⟩ := h
  refine ⟨aj, ak, ?_⟩
  refine bif_of (fun c9 => ?_) (fun c9 => ?_)
  ·have h := h.1 (bne_t c9)
   exact h
  have h := h.2 (bne_f c9)
  unfold Q0b.J1
  refine Q0L a2 ?_
  obtain ⟨ac, a7, a9, ai, h⟩ := h
  refine ⟨ac, a7, a9, ai, ?_⟩
  refine bif_of (fun ad => ?_) (fun ad => ?_)
  ·have h := h.1 (of_decide_eq_true ad)
   refine h.mono fun am ao h => ?_
   obtain ⟨he, h⟩ := h
   refine ⟨he, ?_⟩
   exact h
  have h := h.2 (Int.not_lt.1 (of_decide_eq_false ad))
  refine Q0L a2 ?_
  obtain ⟨ag, ah, aa, ab, h⟩ := h
  refine ⟨ag, ah, aa, ab, ?_⟩
  obtain ⟨ae, a3, h⟩ := h
  refine ⟨ae, a3, ?_⟩
  try rw [Q4v]
  refine Q0L a2 ?_
  obtain ⟨a5, a4, af, a8, h⟩ := h
  refine ⟨a5, a4, af, a8, ?_⟩
  obtain ⟨ae, a3, h⟩ := h
  refine ⟨ae, a3, ?_⟩
  refine Q0L a2 ?_
  obtain ⟨hcs, h⟩ := h
  refine ⟨hcs, Q02 fun an al => ?_⟩
  replace h := Q1j h al
  exact h

theorem Q0b.go (r1 : Option Addr) (a0 : Int) {R : RW} {w : World} (h : Q0b.N r1 a0 R w) : Calls Try.prog 44 #[.pointer r1, .int .i64 a0] w fun e w' => ∃ v, e = .returned v ∧ R v w' := Q0b.ok r1 a0 (Q0b.up r1 a0 h)
abbrev RS := List UInt8 × Int
def takeR (n : Nat) (s : RS) : List UInt8 × RS := if s.2 = 0 then (if s.1.length < n then ([], ([], 4)) else (s.1.take n, (s.1.drop n, 0))) else ([], s)
def bytesR (m : Int) (s : RS) : List UInt8 × RS := takeR (countR m s).1 (countR m s).2
theorem Q54 (n : Nat) (s : RS) : (takeR n s).2.1.length ≤ s.1.length ∧ (takeR n s).1.length ≤ s.1.length := by
  unfold takeR
  split
  · split
    · simp
    · simp; omega
  · simp
theorem Q1o (m : Int) (s : RS) : (bytesR m s).2.1.length ≤ s.1.length ∧ (bytesR m s).1.length ≤ s.1.length := by
  have h1 := W.countR_len m s
  have h2 := Q54 (countR m s).1 (countR m s).2
  unfold bytesR
  omega
section
variable {w w' : World} {a : Option Addr} {c N p : Nat} {bs : List UInt8} {k : Int}
theorem Rd_drop (h : Rd w p bs k) {a : Option Addr} {c : Nat} (hb : Blk w p 100 [.slice a bs.length c, .int .i64 k]) {n : Nat} (hn : n ≤ bs.length) (hc : bs.length ≤ c) (hr : RowAt w a (bytesV bs)) (h4 : bytesV bs ≠ [] → ∀ ad, a = some ad → ad.block < p)
    (e : w' = w.setCell ((blk p).add 0) (.slice (cutA a c n 1) (bs.length - n) (c - n))) : Rd w' p (bs.drop n) k ∧ Ext (fun b => b = p) w w' := by
  have hx : Ext (fun b => b = p) w w' := (Ext.refl (fun b => b = p) w).x_set (q := p) (i := 0) rfl (.inl rfl) e
  have hb' := hb.seti 0 rfl e
  have hne : bytesV (bs.drop n) ≠ [] → bytesV bs ≠ [] := fun h0 e => h0 (by rw [bytesV, List.map_drop, show List.map u8V bs = [] from e]; simp)
  refine ⟨⟨cutA a c n 1, c - n, by rw [List.length_drop]; exact hb', by rw [List.length_drop]; omega, ?_, fun h0 ad ha => ?_⟩, hx⟩
  · have := hr.cut n c (by rw [Q13]; exact hc)
    rw [show bytesV (bs.drop n) = (bytesV bs).drop n by simp [bytesV]]
    refine this.ext' hx fun h0 ad ha hq => ?_
    obtain ⟨b, hb, hbb⟩ := Q23 ha
    have := h4 (fun e => h0 (by rw [e]; simp)) b hb
    omega
  · obtain ⟨b, hb, hbb⟩ := Q23 ha
    have := h4 (hne h0) b hb
    omega
theorem Q5c (h : Rd w p bs k) (hl : bs.length < 1000000) (n : Nat) :
    Calls Try.prog 75 #[.pointer (some (blk p)), .int .i64 n] w (fun e w' => ∃ a c, e = .returned (.slice a (takeR n (bs, k)).1.length c) ∧ OwnB w.heap.size w' a c (takeR n (bs, k)).1 ∧ Rd w' p (takeR n (bs, k)).2.1 (takeR n (bs, k)).2.2 ∧ Ext (fun b => b = p) w w') := by
  refine (Q0o.go _ _ (R := fun v w' => ∃ a c, v = (.slice a (takeR n (bs, k)).1.length c) ∧ OwnB w.heap.size w' a c (takeR n (bs, k)).1 ∧ Rd w' p (takeR n (bs, k)).2.1 (takeR n (bs, k)).2.2 ∧ Ext (fun b => b = p) w w') ?_).mono fun e w' ⟨v, he, a, c, hv, hw⟩ => ⟨a, c, by rw [he, hv], hw⟩
  unfold Q0o.N
  refine (W.ok_spec h).mono fun e w5 ⟨he, hw⟩ => ⟨_, he, fun hk => ?_, fun hk => ?_⟩ <;> subst hw <;> simp only [beq_iff_eq, beq_eq_false_iff_ne] at hk
  · unfold takeR
    rw [if_neg hk]
    exact ⟨none, 0, rfl, OwnB.nil _ _, h, Ext.refl _ _⟩
  · subst hk
    obtain ⟨a, c, h1, h2, h3, h4⟩ := id h
    refine ⟨_, rfl, a, bs.length, c, h1.cella (i := 0) rfl, fun hn => ?_, fun hn => ?_⟩
    · unfold takeR
      rw [if_pos rfl, if_pos (by show bs.length < n; omega)]
      refine (W.fail_spec h 4).mono fun e w12 ⟨he, hr, hx⟩ => ⟨he, none, 0, rfl, OwnB.nil _ _, hr, hx⟩
    · unfold takeR
      rw [if_pos rfl, if_neg (by show ¬ bs.length < n; omega)]
      refine ⟨a, bs.length, c, h1.cella (i := 0) rfl, by omega, by omega, ?_⟩
      rw [Int.toNat_natCast]
      have ht : bytesV (bs.take n) = (bytesV bs).take n := by simp [bytesV]
      have hlt : (bs.take n).length = n := by rw [List.length_take]; omega
      have hc := W.clone_spec (c := c) (bs := bs.take n) (a := a) (w := w5) (by rw [ht]; exact h3.take n) (by omega)
      rw [hlt] at hc
      refine hc.mono fun e w18 ⟨ra, rc, he, hO, hx⟩ => ⟨ra, n, rc, he, ?_⟩
      have h' := h.no hx
      refine ⟨a, bs.length, c, (h1.ext hx id).cella (i := 0) rfl, by omega, by omega, (h1.ext hx id).cana (i := 0) rfl, Q02 fun w23 e23 => ?_⟩
      obtain ⟨q1, q2⟩ := Rd_drop h' (h1.ext hx id) (n := n) (by omega) h2 (h3.no hx) h4 e23
      refine ⟨ra, rc, by rw [hlt], hO.ext q2 fun ad ha hb => ?_, q1, hx.none.trans q2⟩
      have := (hO.fr ad ha).1
      have := h1.lt
      omega
theorem Q2P (h : Rd w p bs k) (hl : bs.length < 1000000) {m : Int} (hm : m < 4611686018427387904) :
    Calls Try.prog 55 #[.pointer (some (blk p)), .int .i64 m] w (fun e w' => ∃ a c, e = .returned (.slice a (bytesR m (bs, k)).1.length c) ∧ OwnB w.heap.size w' a c (bytesR m (bs, k)).1 ∧ Rd w' p (bytesR m (bs, k)).2.1 (bytesR m (bs, k)).2.2 ∧ Ext (fun b => b = p) w w') := by
  refine (Q0G.go _ _ (R := fun v w' => ∃ a c, v = (.slice a (bytesR m (bs, k)).1.length c) ∧ OwnB w.heap.size w' a c (bytesR m (bs, k)).1 ∧ Rd w' p (bytesR m (bs, k)).2.1 (bytesR m (bs, k)).2.2 ∧ Ext (fun b => b = p) w w') ?_).mono fun e w' ⟨v, he, a, c, hv, hw⟩ => ⟨a, c, by rw [he, hv], hw⟩
  unfold Q0G.N
  refine (W.Count_spec h hl hm).mono fun e w5 ⟨he, hr, hx⟩ => ⟨_, he, ?_⟩
  have hlen := W.countR_len m (bs, k)
  refine (Q5c hr (by simp only at hlen; omega) _).mono fun e w8 ⟨a, c, he, hO, hr2, hx2⟩ => ⟨a, _, c, he, a, c, rfl, ⟨hO.own, fun ad ha => ⟨Nat.le_trans hx.size (hO.fr ad ha).1, (hO.fr ad ha).2⟩⟩, hr2, hx.trans hx2⟩

/-! ### the reference's -/
theorem Q3R {n : Int} (h0 : -9223372036854775808 ≤ n) (h1 : n < 9223372036854775808) :
    Calls Try.prog 96 #[.int .i64 n] w (fun e w' => ∃ a' c', e = .returned (.slice a' (numL (zig n)).length c') ∧ OwnB w.heap.size w' a' c' (numL (zig n)) ∧ Ext no w w') := by
  refine (Q0H.go _ (R := fun v w' => ∃ a' c', v = (.slice a' (numL (zig n)).length c') ∧ OwnB w.heap.size w' a' c' (numL (zig n)) ∧ Ext no w w') ?_).mono fun e w' ⟨v, he, a, c, hv, hw⟩ => ⟨a, c, by rw [he, hv], hw⟩
  unfold Q0H.N
  have hz := W.zig_lt h0 h1
  refine ⟨fun hn => ?_, fun hn => ?_⟩
  · rw [wu64 (n := n) (by omega) (by omega), wu64 (n := n * 2) (by omega) (by omega)]
    have e : n * 2 = ((zig n : Nat) : Int) := by unfold zig; rw [if_pos (by omega)]; omega
    rw [e]
    exact (W.rNum_spec (zig n) w hz).mono fun e w5 ⟨a', c', he, hO, hx⟩ => ⟨a', _, c', he, a', c', rfl, hO, hx⟩
  · refine ⟨by omega, by omega, by omega, by omega, ?_⟩
    rw [wu64 (n := 0 - (n + 1)) (by omega) (by omega), wu64 (n := (0 - (n + 1)) * 2) (by omega) (by omega), wu64 (by omega) (by omega)]
    have e : (0 - (n + 1)) * 2 + 1 = ((zig n : Nat) : Int) := by unfold zig; rw [if_neg (by omega)]; omega
    rw [e]
    exact (W.rNum_spec (zig n) w hz).mono fun e w5 ⟨a', c', he, hO, hx⟩ => ⟨a', _, c', he, a', c', rfl, hO, hx⟩
theorem Q1J {xs : List UInt8} {xa : Option Addr} {xc : Nat} (hx : RowAt w xa (bytesV xs)) (hl : xs.length ≤ 1000000) :
    Calls Try.prog 42 #[.slice xa xs.length xc] w (fun e w' => ∃ a' c', e = .returned (.slice a' (numL xs.length ++ xs).length c') ∧ OwnB w.heap.size w' a' c' (numL xs.length ++ xs) ∧ Ext no w w') := by
  refine (Q0C.go _ _ _ (R := fun v w' => ∃ a' c', v = (.slice a' (numL xs.length ++ xs).length c') ∧ OwnB w.heap.size w' a' c' (numL xs.length ++ xs) ∧ Ext no w w') ?_).mono fun e w' ⟨v, he, a, c, hv, hw⟩ => ⟨a, c, by rw [he, hv], hw⟩
  unfold Q0C.N
  rw [wu64 (n := (xs.length : Int)) (by omega) (by omega)]
  refine (W.rNum_spec xs.length w (by omega)).mono fun e w4 ⟨a4, c4, he, hO, hx4⟩ => ⟨a4, _, c4, he, ?_⟩
  have hnl : (numL xs.length).length ≤ 10 := numF_le 10 _
  obtain ⟨a', c', w7, hr, hO7, hx7⟩ := hO.append (t := 25) (ty := 25) Try.underlying25 hx4.size (xc := xc) (hx.no hx4) (by omega)
  exact ⟨a', _, c', w7, hr, a', c', rfl, hO7, hx4.then hx7 fun b hb => .inr hb⟩
theorem Q3n (h : RdR w p N bs k) (hl : bs.length < 1000000) :
    Calls Try.prog 86 #[.pointer (some (blk p))] w (GivesW (.int .i64 (intR (bs, k)).1) fun w' => RdR w' p N (intR (bs, k)).2.1 (intR (bs, k)).2.2 ∧ Ext (fun b => b = p) w w') := by
  refine (Q0i.go _ (R := fun v w' => v = .int .i64 (intR (bs, k)).1 ∧ RdR w' p N (intR (bs, k)).2.1 (intR (bs, k)).2.2 ∧ Ext (fun b => b = p) w w') ?_).mono fun e w' ⟨v, he, hv, hw⟩ => ⟨by rw [he, hv], hw⟩
  unfold Q0i.N
  refine (W.rRNum_spec h hl).mono fun e w4 ⟨he, hr, hx⟩ => ⟨_, he, ?_⟩
  have hlt := W.numR_lt (bs, k)
  unfold intR
  generalize numR (bs, k) = s at *
  have e1 : Int.tmod (s.1 : Int) 2 = ((s.1 % 2 : Nat) : Int) := by rw [Int.tmod_eq_emod_of_nonneg (by omega)]; omega
  have e2 : Int.tdiv (s.1 : Int) 2 = ((s.1 / 2 : Nat) : Int) := by rw [Int.tdiv_eq_ediv_of_nonneg (by omega)]; omega
  rw [e1, e2, wu64 (by omega) (by omega)]
  unfold unzig
  refine ⟨fun h2 => ?_, fun h2 => ?_⟩
  · rw [if_pos (by omega)]
    exact ⟨by omega, by omega, rfl, hr, hx⟩
  · rw [if_neg (by omega)]
    exact ⟨by omega, by omega, by omega, by omega, by omega, by omega, by rw [Int.zero_sub], hr, hx⟩
theorem Q5D (h : RdR w p N bs k) {a : Option Addr} {c : Nat} (hb : Blk w p 83 [.slice a bs.length c, .int .i64 k]) {n : Nat} (hn : n ≤ bs.length) (hc : bs.length ≤ c) (hr : RowAt w a (bytesV bs)) (h4 : bytesV bs ≠ [] → ∀ ad, a = some ad → ad.block < N)
    (e : w' = w.setCell ((blk p).add 0) (.slice (cutA a c n 1) (bs.length - n) (c - n))) : RdR w' p N (bs.drop n) k ∧ Ext (fun b => b = p) w w' := by
  have hx : Ext (fun b => b = p) w w' := (Ext.refl (fun b => b = p) w).x_set (q := p) (i := 0) rfl (.inl rfl) e
  have hb' := hb.seti 0 rfl e
  have hne : bytesV (bs.drop n) ≠ [] → bytesV bs ≠ [] := fun h0 e => h0 (by rw [bytesV, List.map_drop, show List.map u8V bs = [] from e]; simp)
  have hNp := h.1
  refine ⟨⟨hNp, cutA a c n 1, c - n, by rw [List.length_drop]; exact hb', by rw [List.length_drop]; omega, ?_, fun h0 ad ha => ?_⟩, hx⟩
  · have := hr.cut n c (by rw [Q13]; exact hc)
    rw [show bytesV (bs.drop n) = (bytesV bs).drop n by simp [bytesV]]
    refine this.ext' hx fun h0 ad ha hq => ?_
    obtain ⟨b, hb, hbb⟩ := Q23 ha
    have := h4 (fun e => h0 (by rw [e]; simp)) b hb
    omega
  · obtain ⟨b, hb, hbb⟩ := Q23 ha
    have := h4 (hne h0) b hb
    omega
theorem Q18 (h : RdR w p N bs k) (hl : bs.length < 1000000) {m : Int} (hm0 : 0 ≤ m) (hm : m < 4611686018427387904) :
    Calls Try.prog 44 #[.pointer (some (blk p)), .int .i64 m] w (fun e w' => ∃ a c, e = .returned (.slice a (bytesR m (bs, k)).1.length c) ∧ (bytesR m (bs, k)).1.length ≤ c ∧ RowAt w' a (bytesV (bytesR m (bs, k)).1) ∧ (bytesV (bytesR m (bs, k)).1 ≠ [] → ∀ ad, a = some ad → ad.block < N) ∧
      RdR w' p N (bytesR m (bs, k)).2.1 (bytesR m (bs, k)).2.2 ∧ Ext (fun b => b = p) w w') := by
  refine (Q0b.go _ _ (R := fun v w' => ∃ a c, v = (.slice a (bytesR m (bs, k)).1.length c) ∧ (bytesR m (bs, k)).1.length ≤ c ∧ RowAt w' a (bytesV (bytesR m (bs, k)).1) ∧ (bytesV (bytesR m (bs, k)).1 ≠ [] → ∀ ad, a = some ad → ad.block < N) ∧
      RdR w' p N (bytesR m (bs, k)).2.1 (bytesR m (bs, k)).2.2 ∧ Ext (fun b => b = p) w w') ?_).mono fun e w' ⟨v, he, a, c, hv, hw⟩ => ⟨a, c, by rw [he, hv], hw⟩
  unfold Q0b.N
  refine (W.rCount_spec h hl hm0 hm).mono fun e w5 ⟨he, hr, hx⟩ => ⟨_, he, ?_⟩
  have hlen := W.countR_len m (bs, k)
  unfold bytesR
  generalize countR m (bs, k) = s at *
  obtain ⟨n, l, k2⟩ := s
  simp only at *
  obtain ⟨hNp, a, c, h1, h2, h3, h4⟩ := id hr
  refine ⟨_, rfl, _, h1.cella (i := 1) rfl, fun hk => ?_, fun hk => ?_⟩
  · unfold takeR
    rw [if_neg hk]
    exact ⟨none, 0, rfl, Nat.le_refl _, RowAt.nil _ _, fun h0 => absurd rfl h0, hr, hx⟩
  · subst hk
    refine ⟨a, l.length, c, h1.cella (i := 0) rfl, fun hn => ?_, fun hn => ?_⟩
    · unfold takeR
      rw [if_pos rfl, if_pos (by show l.length < n; omega)]
      exact (W.rFail_spec hr 4).mono fun e w12 ⟨he, hr, hx2⟩ => ⟨he, none, 0, rfl, Nat.le_refl _, RowAt.nil _ _, fun h0 => absurd rfl h0, hr, hx.trans hx2⟩
    · unfold takeR
      rw [if_pos rfl, if_neg (by show ¬ l.length < n; omega)]
      refine ⟨a, l.length, c, h1.cella (i := 0) rfl, by omega, by omega, a, l.length, c, h1.cella (i := 0) rfl, by omega, by omega, h1.cana (i := 0) rfl, Q02 fun w23 e23 => ?_⟩
      rw [Int.toNat_natCast] at e23 ⊢
      have ht : bytesV (l.take n) = (bytesV l).take n := by simp [bytesV]
      have hlt : (l.take n).length = n := by rw [List.length_take]; omega
      obtain ⟨q1, q2⟩ := Q5D hr h1 (n := n) (by omega) h2 h3 h4 e23
      have hne : bytesV (l.take n) ≠ [] → bytesV l ≠ [] := fun h0 e => h0 (by rw [ht, e]; simp)
      refine ⟨a, c, by rw [hlt], by rw [hlt]; omega, ?_, fun h0 => h4 (hne h0), q1, hx.trans q2⟩
      rw [ht]
      refine (h3.take n).ext' q2 fun h0 ad ha hb => ?_
      have := h4 (fun e => h0 (by rw [e]; simp)) ad ha
      omega
end
end Go.Proofs.Ytoempemllkebkaa
namespace Go.Proofs.Ytoempemllkebkaa
open Go Go.Mx Go.Proofs
open W (OwnB Rd RdR GivesW numR countR doneR zig unzig intR)
def Q0d.M (n1 a0 a1 : Int) (R : RW) (w : World) : Prop :=
 bif decide (n1 ≥ a0) then (
 R (.bool (decide (n1 < a1))) w) else (
 R (.bool false) w)

theorem Q0d.ok (n1 a0 a1 : Int) {R : RW} {w : World} (h : Q0d.M n1 a0 a1 R w) : Calls Try.prog 82 #[.int .i64 n1, .int .i64 a0, .int .i64 a1] w fun e w' => ∃ v, e = .returned v ∧ R v w' :=
  Q08 follows (H := []) (args := [.int .i64 n1, .int .i64 a0, .int .i64 a1]) (cast (by kernel_rfl) h)

def Q0d.N (n1 a0 a1 : Int) (R : RW) (w : World) : Prop :=
 (n1 ≥ a0 →
 R (.bool (decide (n1 < a1))) w) ∧
 (n1 < a0 →
 R (.bool false) w)

theorem Q0d.up (n1 a0 a1 : Int) {R : RW} {w : World} (h : Q0d.N n1 a0 a1 R w) : Q0d.M n1 a0 a1 R w := by
  unfold Q0d.M
  unfold Q0d.N at h
  refine bif_of (fun c4 => ?_) (fun c4 => ?_)
  ·have h := h.1 (of_decide_eq_true c4)
   exact h
  have h := h.2 (Int.not_le.1 (of_decide_eq_false c4))
  exact h

theorem Q0d.go (n1 a0 a1 : Int) {R : RW} {w : World} (h : Q0d.N n1 a0 a1 R w) : Calls Try.prog 82 #[.int .i64 n1, .int .i64 a0, .int .i64 a1] w fun e w' => ∃ v, e = .returned v ∧ R v w' := Q0d.ok n1 a0 a1 (Q0d.up n1 a0 a1 h)
theorem Q0d.run (n1 a0 a1 : Int) {V : Value} {Q : World → Prop} {w : World} (h : Q0d.N n1 a0 a1 (fun v w' => v = V ∧ Q w') w) : Calls Try.prog 82 #[.int .i64 n1, .int .i64 a0, .int .i64 a1] w (Ret V Q) := (Q0d.go n1 a0 a1 h).mono fun e w' ⟨v, he, hv, hq⟩ => ⟨by rw [he, hv], hq⟩

def Q0d.F (n1 a0 a1 : Int) : Bool :=
  if n1 ≥ a0 then
    (decide (n1 < a1))
  else
    false
theorem Q0d.pure (n1 a0 a1 : Int) {w : World} : Calls Try.prog 82 #[.int .i64 n1, .int .i64 a0, .int .i64 a1] w (Ret (.bool (Q0d.F n1 a0 a1)) fun w' => Ext no w w') := by
  refine Q0d.run n1 a0 a1 ?_
  unfold Q0d.N
  refine ⟨fun c0 => ?_, fun c0 => ?_⟩
  ·exact ⟨by unfold Q0d.F; rw [if_pos c0], Ext.refl _ _⟩
  ·exact ⟨by unfold Q0d.F; rw [if_neg (show ¬ (n1 ≥ a0) from by omega)], Ext.refl _ _⟩

def Q0y.M (a0 : Int) (R : RW) (w : World) : Prop :=
 bif decide (a0 ≥ 0) then (
 R (.bool (decide (a0 < 8))) w) else (
 R (.bool false) w)

theorem Q0y.ok (a0 : Int) {R : RW} {w : World} (h : Q0y.M a0 R w) : Calls Try.prog 94 #[.int .i64 a0] w fun e w' => ∃ v, e = .returned v ∧ R v w' :=
  Q08 follows (H := []) (args := [.int .i64 a0]) (cast (by kernel_rfl) h)

def Q0y.N (a0 : Int) (R : RW) (w : World) : Prop :=
 (a0 ≥ 0 →
 R (.bool (decide (a0 < 8))) w) ∧
 (a0 < 0 →
 R (.bool false) w)

theorem Q0y.up (a0 : Int) {R : RW} {w : World} (h : Q0y.N a0 R w) : Q0y.M a0 R w := by
  unfold Q0y.M
  unfold Q0y.N at h
  refine bif_of (fun c2 => ?_) (fun c2 => ?_)
  ·have h := h.1 (of_decide_eq_true c2)
   exact h
  have h := h.2 (Int.not_le.1 (of_decide_eq_false c2))
  exact h

theorem Q0y.go (a0 : Int) {R : RW} {w : World} (h : Q0y.N a0 R w) : Calls Try.prog 94 #[.int .i64 a0] w fun e w' => ∃ v, e = .returned v ∧ R v w' := Q0y.ok a0 (Q0y.up a0 h)
theorem Q0y.run (a0 : Int) {V : Value} {Q : World → Prop} {w : World} (h : Q0y.N a0 (fun v w' => v = V ∧ Q w') w) : Calls Try.prog 94 #[.int .i64 a0] w (Ret V Q) := (Q0y.go a0 h).mono fun e w' ⟨v, he, hv, hq⟩ => ⟨by rw [he, hv], hq⟩

def Q0y.F (a0 : Int) : Bool :=
  if a0 ≥ 0 then
    (decide (a0 < 8))
  else
    false
theorem Q0y.pure (a0 : Int) {w : World} : Calls Try.prog 94 #[.int .i64 a0] w (Ret (.bool (Q0y.F a0)) fun w' => Ext no w w') := by
  refine Q0y.run a0 ?_
  unfold Q0y.N
  refine ⟨fun c0 => ?_, fun c0 => ?_⟩
  ·exact ⟨by unfold Q0y.F; rw [if_pos c0], Ext.refl _ _⟩
  ·exact ⟨by unfold Q0y.F; rw [if_neg (show ¬ (a0 ≥ 0) from by omega)], Ext.refl _ _⟩

def Q0z.M (a3 a2 : Int) (R : RW) (w : World) : Prop :=
 thenW (w.alloc (.cells #[.int .i64 a3, .int .i64 a2] 24)) fun a1 =>
 ∃ (T4 : Int), a1.cell? ((blk w.heap.size).add 0) = some (.int .i64 T4) ∧
 bif decide (T4 > 0) then (
 ∃ (T5 : Int), a1.cell? ((blk w.heap.size).add 0) = some (.int .i64 T5) ∧
 bif decide (T5 ≤ 1099511627776) then (
 ∃ (W6 : Int), a1.cell? ((blk w.heap.size).add 1) = some (.int .i64 W6) ∧
 Calls Try.prog 94 #[.int .i64 W6] a1 fun a5 a4 => ∃ (a0 : Bool), a5 = .returned (.bool a0) ∧
 R (.bool a0) a4) else (
 R (.bool false) a1)) else (
 R (.bool false) a1)

theorem Q0z.ok (a1 a0 : Int) {R : RW} {w : World} (h : Q0z.M a1 a0 R w) : Calls Try.prog 83 #[.agg #[.int .i64 a1, .int .i64 a0]] w fun e w' => ∃ v, e = .returned v ∧ R v w' :=
  Q08 follows (H := []) (args := [.agg #[.int .i64 a1, .int .i64 a0]]) (cast (by kernel_rfl) h)

def Q0z.N (a1 a3 : Int) (R : RW) (w : World) : Prop :=
 (a1 > 0 →
 (a1 ≤ 1099511627776 →
 ∀ (a2 : World), Ext no w a2 →
 R (.bool (Q0y.F a3)) a2) ∧
 ((1099511627776 : Int) < a1 →
 ∀ (a0 : World), Ext no w a0 →
 R (.bool false) a0)) ∧
 (a1 ≤ 0 →
 ∀ (a0 : World), Ext no w a0 →
 R (.bool false) a0)

theorem Q0z.up (a1 a0 : Int) {R : RW} {w : World} (h : Q0z.N a1 a0 R w) : Q0z.M a1 a0 R w := by
  unfold Q0z.M
  unfold Q0z.N at h
  refine Q02 fun a4 e3 => ?_
  have a3 := Blk.of_new e3
  have a6 := ((Ext.refl no w)).size
  have a2 := (Ext.refl no w).x_alloc e3
  refine ⟨a1, a3.celli 0 rfl rfl, ?_⟩
  refine bif_fo (fun c4 => ?_) (fun c4 => ?_)
  ·have h := h.2 (Int.not_lt.1 (of_decide_eq_false c4))
   have h := h a4 a2
   exact h
  have h := h.1 (of_decide_eq_true c4)
  refine ⟨a1, a3.celli 0 rfl rfl, ?_⟩
  refine bif_fo (fun c5 => ?_) (fun c5 => ?_)
  ·have h := h.2 (Int.not_le.1 (of_decide_eq_false c5))
   have h := h a4 a2
   exact h
  have h := h.1 (of_decide_eq_true c5)
  refine ⟨a0, a3.celli 1 rfl rfl, ?_⟩
  refine (Q0y.pure a0).mono fun ee ww6 ⟨he, hxx⟩ => ⟨(Q0y.F a0), he, ?_⟩
  have a5 := a2.trans hxx
  have h := h ww6 a5
  exact h

theorem Q0z.go (a1 a0 : Int) {R : RW} {w : World} (h : Q0z.N a1 a0 R w) : Calls Try.prog 83 #[.agg #[.int .i64 a1, .int .i64 a0]] w fun e w' => ∃ v, e = .returned v ∧ R v w' := Q0z.ok a1 a0 (Q0z.up a1 a0 h)
theorem Q0z.run (a1 a0 : Int) {V : Value} {Q : World → Prop} {w : World} (h : Q0z.N a1 a0 (fun v w' => v = V ∧ Q w') w) : Calls Try.prog 83 #[.agg #[.int .i64 a1, .int .i64 a0]] w (Ret V Q) := (Q0z.go a1 a0 h).mono fun e w' ⟨v, he, hv, hq⟩ => ⟨by rw [he, hv], hq⟩

def Q0z.F (a0 a1 : Int) : Bool :=
  if a0 > 0 then
    if a0 ≤ 1099511627776 then
      (Q0y.F a1)
    else
      false
  else
    false
theorem Q0z.pure (a0 a1 : Int) {w : World} : Calls Try.prog 83 #[.agg #[.int .i64 a0, .int .i64 a1]] w (Ret (.bool (Q0z.F a0 a1)) fun w' => Ext no w w') := by
  refine Q0z.run a0 a1 ?_
  unfold Q0z.N
  refine ⟨fun c0 => ?_, fun c0 => ?_⟩
  ·refine ⟨fun c1 => ?_, fun c1 => ?_⟩
   ·intro w' hx; exact ⟨by unfold Q0z.F; rw [if_pos c0, if_pos c1], hx⟩
   ·intro w' hx; exact ⟨by unfold Q0z.F; rw [if_pos c0, if_neg (show ¬ (a0 ≤ 1099511627776) from by omega)], hx⟩
  ·intro w' hx; exact ⟨by unfold Q0z.F; rw [if_neg (show ¬ (a0 > 0) from by omega)], hx⟩

def Q0g.M (au ba bm bq bp b8 : Int) (bd : Option Addr) (b5 bf : Nat) (bo : Int) (R : RW) (w : World) : Prop :=
 thenW (w.alloc (.cells #[.int .i64 au, .int .i64 ba, .int .u64 bm, .int .i64 bq, .int .i64 bp, .int .i64 b8, .slice bd b5 bf, .int .u64 bo] 27)) fun c1 =>
 ∃ (ac : Int), c1.cell? ((blk w.heap.size).add 0) = some (.int .i64 ac) ∧
 Calls Try.prog 82 #[.int .i64 ac, .int .i64 0, .int .i64 8] c1 fun bs az => ∃ (a7 : Bool), bs = .returned (.bool a7) ∧
 bif !a7 then (
 bif !a7 then (
 R (.bool false) az) else (
 ∃ (bl bg : Int), cellsAt az ((blk w.heap.size).add 3) [.int .i64 bl, .int .i64 bg] 0 ∧
 Calls Try.prog 83 #[.agg #[.int .i64 bl, .int .i64 bg]] az fun bv a1 => ∃ (a8 : Bool), bv = .returned (.bool a8) ∧
 bif !a8 then (
 bif !a8 then (
 R (.bool false) a1) else (
 ∃ (ar : Int), a1.cell? ((blk w.heap.size).add 2) = some (.int .u64 ar) ∧
 ∃ (ag : Int), a1.cell? ((blk w.heap.size).add 1) = some (.int .i64 ag) ∧
 R (.bool ((ar == 0) == (ag == 0))) a1)) else (
 ∃ (bw : Int), a1.cell? (((blk w.heap.size).add 3).add 1) = some (.int .i64 bw) ∧
 ∃ (a3 : Int), a1.cell? ((blk w.heap.size).add 0) = some (.int .i64 a3) ∧
 bif bw != a3 then (
 bif bw != a3 then (
 R (.bool false) a1) else (
 ∃ (b4 : Int), a1.cell? ((blk w.heap.size).add 2) = some (.int .u64 b4) ∧
 ∃ (ap : Int), a1.cell? ((blk w.heap.size).add 1) = some (.int .i64 ap) ∧
 R (.bool ((b4 == 0) == (ap == 0))) a1)) else (
 ∃ (bb : Option Addr) (ao be : Nat), a1.cell? ((blk w.heap.size).add 6) = some (.slice bb ao be) ∧
 bif decide ((ao : Int) > 1100) then (
 R (.bool false) a1) else (
 ∃ (b2 : Int), a1.cell? ((blk w.heap.size).add 2) = some (.int .u64 b2) ∧
 ∃ (af : Int), a1.cell? ((blk w.heap.size).add 1) = some (.int .i64 af) ∧
 R (.bool ((b2 == 0) == (af == 0))) a1))))) else (
 ∃ (al : Int), az.cell? ((blk w.heap.size).add 1) = some (.int .i64 al) ∧
 Calls Try.prog 82 #[.int .i64 al, .int .i64 0, .int .i64 200] az fun bu b0 => ∃ (a5 : Bool), bu = .returned (.bool a5) ∧
 bif !a5 then (
 bif !a5 then (
 R (.bool false) b0) else (
 ∃ (bh bj : Int), cellsAt b0 ((blk w.heap.size).add 3) [.int .i64 bh, .int .i64 bj] 0 ∧
 Calls Try.prog 83 #[.agg #[.int .i64 bh, .int .i64 bj]] b0 fun c0 a0 => ∃ (aa : Bool), c0 = .returned (.bool aa) ∧
 bif !aa then (
 bif !aa then (
 R (.bool false) a0) else (
 ∃ (av : Int), a0.cell? ((blk w.heap.size).add 2) = some (.int .u64 av) ∧
 ∃ (am : Int), a0.cell? ((blk w.heap.size).add 1) = some (.int .i64 am) ∧
 R (.bool ((av == 0) == (am == 0))) a0)) else (
 ∃ (br : Int), a0.cell? (((blk w.heap.size).add 3).add 1) = some (.int .i64 br) ∧
 ∃ (a6 : Int), a0.cell? ((blk w.heap.size).add 0) = some (.int .i64 a6) ∧
 bif br != a6 then (
 bif br != a6 then (
 R (.bool false) a0) else (
 ∃ (ay : Int), a0.cell? ((blk w.heap.size).add 2) = some (.int .u64 ay) ∧
 ∃ (ah : Int), a0.cell? ((blk w.heap.size).add 1) = some (.int .i64 ah) ∧
 R (.bool ((ay == 0) == (ah == 0))) a0)) else (
 ∃ (bc : Option Addr) (ad b6 : Nat), a0.cell? ((blk w.heap.size).add 6) = some (.slice bc ad b6) ∧
 bif decide ((ad : Int) > 1100) then (
 R (.bool false) a0) else (
 ∃ (aw : Int), a0.cell? ((blk w.heap.size).add 2) = some (.int .u64 aw) ∧
 ∃ (aq : Int), a0.cell? ((blk w.heap.size).add 1) = some (.int .i64 aq) ∧
 R (.bool ((aw == 0) == (aq == 0))) a0))))) else (
 ∃ (an : Int), b0.cell? ((blk w.heap.size).add 5) = some (.int .i64 an) ∧
 Calls Try.prog 82 #[.int .i64 an, .int .i64 (-1), .int .i64 20] b0 fun bx bn => ∃ (ab : Bool), bx = .returned (.bool ab) ∧
 bif !ab then (
 R (.bool false) bn) else (
 ∃ (bk bi : Int), cellsAt bn ((blk w.heap.size).add 3) [.int .i64 bk, .int .i64 bi] 0 ∧
 Calls Try.prog 83 #[.agg #[.int .i64 bk, .int .i64 bi]] bn fun bz a2 => ∃ (a9 : Bool), bz = .returned (.bool a9) ∧
 bif !a9 then (
 bif !a9 then (
 R (.bool false) a2) else (
 ∃ (ax : Int), a2.cell? ((blk w.heap.size).add 2) = some (.int .u64 ax) ∧
 ∃ (aj : Int), a2.cell? ((blk w.heap.size).add 1) = some (.int .i64 aj) ∧
 R (.bool ((ax == 0) == (aj == 0))) a2)) else (
 ∃ (bt : Int), a2.cell? (((blk w.heap.size).add 3).add 1) = some (.int .i64 bt) ∧
 ∃ (a4 : Int), a2.cell? ((blk w.heap.size).add 0) = some (.int .i64 a4) ∧
 bif bt != a4 then (
 bif bt != a4 then (
 R (.bool false) a2) else (
 ∃ (b1 : Int), a2.cell? ((blk w.heap.size).add 2) = some (.int .u64 b1) ∧
 ∃ (ae : Int), a2.cell? ((blk w.heap.size).add 1) = some (.int .i64 ae) ∧
 R (.bool ((b1 == 0) == (ae == 0))) a2)) else (
 ∃ (b9 : Option Addr) (ak b7 : Nat), a2.cell? ((blk w.heap.size).add 6) = some (.slice b9 ak b7) ∧
 bif decide ((ak : Int) > 1100) then (
 R (.bool false) a2) else (
 ∃ (b3 : Int), a2.cell? ((blk w.heap.size).add 2) = some (.int .u64 b3) ∧
 ∃ (ai : Int), a2.cell? ((blk w.heap.size).add 1) = some (.int .i64 ai) ∧
 R (.bool ((b3 == 0) == (ai == 0))) a2))))))

theorem Q0g.ok (a0 a4 a6 a7 a8 a1 : Int) (a3 : Option Addr) (a2 a5 : Nat) (a9 : Int) {R : RW} {w : World} (h : Q0g.M a0 a4 a6 a7 a8 a1 a3 a2 a5 a9 R w) : Calls Try.prog 62 #[.agg #[.int .i64 a0, .int .i64 a4, .int .u64 a6, .int .i64 a7, .int .i64 a8, .int .i64 a1, .slice a3 a2 a5, .int .u64 a9]] w fun e w' => ∃ v, e = .returned v ∧ R v w' :=
  Q08 follows (H := []) (args := [.agg #[.int .i64 a0, .int .i64 a4, .int .u64 a6, .int .i64 a7, .int .i64 a8, .int .i64 a1, .slice a3 a2 a5, .int .u64 a9]]) (cast (by kernel_rfl) h)

def Q0g.N (a0 a2 a7 a6 a4 a5 : Int) (ac : Option Addr) (a3 ab : Nat) (ad : Int) (R : RW) (w : World) : Prop :=
 ((Q0d.F a0 0 8) = false →
 ∀ (a9 : World), Ext no w a9 →
 R (.bool false) a9) ∧
 ((Q0d.F a0 0 8) = true →
 ((Q0d.F a2 0 200) = false →
 ∀ (a8 : World), Ext no w a8 →
 R (.bool false) a8) ∧
 ((Q0d.F a2 0 200) = true →
 ((Q0d.F a5 (-1) 20) = false →
 ∀ (aa : World), Ext no w aa →
 R (.bool false) aa) ∧
 ((Q0d.F a5 (-1) 20) = true →
 ((Q0z.F a6 a4) = false →
 ∀ (a1 : World), Ext no w a1 →
 R (.bool false) a1) ∧
 ((Q0z.F a6 a4) = true →
 (a4 ≠ a0 →
 ∀ (a1 : World), Ext no w a1 →
 R (.bool false) a1) ∧
 (a4 = a0 →
 ((a3 : Int) > 1100 →
 ∀ (a1 : World), Ext no w a1 →
 R (.bool false) a1) ∧
 ((a3 : Int) ≤ 1100 →
 ∀ (a1 : World), Ext no w a1 →
 R (.bool ((a7 == 0) == (a2 == 0))) a1))))))

theorem Q0g.up (a0 a1 a9 a8 a3 a2 : Int) (a5 : Option Addr) (a4 a6 : Nat) (ab : Int) {R : RW} {w : World} (h : Q0g.N a0 a1 a9 a8 a3 a2 a5 a4 a6 ab R w) : Q0g.M a0 a1 a9 a8 a3 a2 a5 a4 a6 ab R w := by
  unfold Q0g.M
  unfold Q0g.N at h
  refine Q02 fun am e9 => ?_
  have a7 := Blk.of_new e9
  have an := ((Ext.refl no w)).size
  have al := (Ext.refl no w).x_alloc e9
  refine ⟨a0, a7.celli 0 rfl rfl, ?_⟩
  refine (Q0d.pure a0 0 8).mono fun ee ww10 ⟨he, hxx⟩ => ⟨(Q0d.F a0 0 8), he, ?_⟩
  have ae := al.trans hxx
  have a7 := a7.ext hxx id
  refine bif_of (fun af => ?_) (fun af => ?_)
  ·have h := h.1 (not_t af)
   refine bif_tt af ?_
   have h := h ww10 ae
   exact h
  have h := h.2 (not_f af)
  refine ⟨a1, a7.celli 1 rfl rfl, ?_⟩
  refine (Q0d.pure a1 0 200).mono fun ee ww13 ⟨he, hxx⟩ => ⟨(Q0d.F a1 0 200), he, ?_⟩
  have ac := ae.trans hxx
  have a7 := a7.ext hxx id
  refine bif_of (fun ah => ?_) (fun ah => ?_)
  ·have h := h.1 (not_t ah)
   refine bif_tt ah ?_
   have h := h ww13 ac
   exact h
  have h := h.2 (not_f ah)
  refine ⟨a2, a7.celli 5 rfl rfl, ?_⟩
  refine (Q0d.pure a2 (-1) 20).mono fun ee ww16 ⟨he, hxx⟩ => ⟨(Q0d.F a2 (-1) 20), he, ?_⟩
  have ad := ac.trans hxx
  have a7 := a7.ext hxx id
  refine bif_of (fun aj => ?_) (fun aj => ?_)
  ·have h := h.1 (not_t aj)
   have h := h ww16 ad
   exact h
  have h := h.2 (not_f aj)
  refine ⟨a8, a3, ⟨a7.celli 3 rfl rfl, a7.celli 4 rfl rfl, trivial⟩, ?_⟩
  refine (Q0z.pure a8 a3).mono fun ee ww19 ⟨he, hxx⟩ => ⟨(Q0z.F a8 a3), he, ?_⟩
  have aa := ad.trans hxx
  have a7 := a7.ext hxx id
  refine bif_of (fun ag => ?_) (fun ag => ?_)
  ·have h := h.1 (not_t ag)
   refine bif_tt ag ?_
   have h := h ww19 aa
   exact h
  have h := h.2 (not_f ag)
  refine ⟨a3, a7.celli 4 rfl rfl, ?_⟩
  refine ⟨a0, a7.celli 0 rfl rfl, ?_⟩
  refine bif_of (fun ai => ?_) (fun ai => ?_)
  ·have h := h.1 (bne_t ai)
   refine bif_tt ai ?_
   have h := h ww19 aa
   exact h
  have h := h.2 (bne_f ai)
  refine ⟨a5, a4, a6, a7.celli 6 rfl rfl, ?_⟩
  refine bif_of (fun ak => ?_) (fun ak => ?_)
  ·have h := h.1 (of_decide_eq_true ak)
   have h := h ww19 aa
   exact h
  have h := h.2 (Int.not_lt.1 (of_decide_eq_false ak))
  refine ⟨a9, a7.celli 2 rfl rfl, ?_⟩
  refine ⟨a1, a7.celli 1 rfl rfl, ?_⟩
  have h := h ww19 aa
  exact h

theorem Q0g.go (a0 a4 a6 a7 a8 a1 : Int) (a3 : Option Addr) (a2 a5 : Nat) (a9 : Int) {R : RW} {w : World} (h : Q0g.N a0 a4 a6 a7 a8 a1 a3 a2 a5 a9 R w) : Calls Try.prog 62 #[.agg #[.int .i64 a0, .int .i64 a4, .int .u64 a6, .int .i64 a7, .int .i64 a8, .int .i64 a1, .slice a3 a2 a5, .int .u64 a9]] w fun e w' => ∃ v, e = .returned v ∧ R v w' := Q0g.ok a0 a4 a6 a7 a8 a1 a3 a2 a5 a9 (Q0g.up a0 a4 a6 a7 a8 a1 a3 a2 a5 a9 h)
theorem Q0g.run (a0 a4 a6 a7 a8 a1 : Int) (a3 : Option Addr) (a2 a5 : Nat) (a9 : Int) {V : Value} {Q : World → Prop} {w : World} (h : Q0g.N a0 a4 a6 a7 a8 a1 a3 a2 a5 a9 (fun v w' => v = V ∧ Q w') w) : Calls Try.prog 62 #[.agg #[.int .i64 a0, .int .i64 a4, .int .u64 a6, .int .i64 a7, .int .i64 a8, .int .i64 a1, .slice a3 a2 a5, .int .u64 a9]] w (Ret V Q) := (Q0g.go a0 a4 a6 a7 a8 a1 a3 a2 a5 a9 h).mono fun e w' ⟨v, he, hv, hq⟩ => ⟨by rw [he, hv], hq⟩

def Q0g.F (a0 a1 a5 a6 a4 a2 : Int) (a7 : Option Addr) (a3 a8 : Nat) (a9 : Int) : Bool :=
  if (Q0d.F a0 0 8) = false then
    false
  else
    if (Q0d.F a1 0 200) = false then
      false
    else
      if (Q0d.F a2 (-1) 20) = false then
        false
      else
        if (Q0z.F a6 a4) = false then
          false
        else
          if a4 ≠ a0 then
            false
          else
            if (a3 : Int) > 1100 then
              false
            else
              ((a5 == 0) == (a1 == 0))
theorem Q0g.pure (a1 a4 a6 a7 a8 a5 : Int) (a3 : Option Addr) (a0 a2 : Nat) (a9 : Int) {w : World} : Calls Try.prog 62 #[.agg #[.int .i64 a1, .int .i64 a4, .int .u64 a6, .int .i64 a7, .int .i64 a8, .int .i64 a5, .slice a3 a0 a2, .int .u64 a9]] w (Ret (.bool (Q0g.F a1 a4 a6 a7 a8 a5 a3 a0 a2 a9)) fun w' => Ext no w w') := by
  refine Q0g.run a1 a4 a6 a7 a8 a5 a3 a0 a2 a9 ?_
  unfold Q0g.N
  refine ⟨fun c0 => ?_, fun c0 => ?_⟩
  ·intro w' hx; exact ⟨by unfold Q0g.F; rw [if_pos c0], hx⟩
  ·refine ⟨fun c1 => ?_, fun c1 => ?_⟩
   ·intro w' hx; exact ⟨by unfold Q0g.F; rw [if_neg (by rw [c0]; decide), if_pos c1], hx⟩
   ·refine ⟨fun c2 => ?_, fun c2 => ?_⟩
    ·intro w' hx; exact ⟨by unfold Q0g.F; rw [if_neg (by rw [c0]; decide), if_neg (by rw [c1]; decide), if_pos c2], hx⟩
    ·refine ⟨fun c3 => ?_, fun c3 => ?_⟩
     ·intro w' hx; exact ⟨by unfold Q0g.F; rw [if_neg (by rw [c0]; decide), if_neg (by rw [c1]; decide), if_neg (by rw [c2]; decide), if_pos c3], hx⟩
     ·refine ⟨fun c4 => ?_, fun c4 => ?_⟩
      ·intro w' hx; exact ⟨by unfold Q0g.F; rw [if_neg (by rw [c0]; decide), if_neg (by rw [c1]; decide), if_neg (by rw [c2]; decide), if_neg (by rw [c3]; decide), if_pos c4], hx⟩
      ·refine ⟨fun c5 => ?_, fun c5 => ?_⟩
       ·intro w' hx; exact ⟨by unfold Q0g.F; rw [if_neg (by rw [c0]; decide), if_neg (by rw [c1]; decide), if_neg (by rw [c2]; decide), if_neg (by rw [c3]; decide), if_neg (not_not_intro c4), if_pos c5], hx⟩
       ·intro w' hx; exact ⟨by unfold Q0g.F; rw [if_neg (by rw [c0]; decide), if_neg (by rw [c1]; decide), if_neg (by rw [c2]; decide), if_neg (by rw [c3]; decide), if_neg (not_not_intro c4), if_neg (show ¬ ((a0 : Int) > 1100) from by omega)], hx⟩

def Q06.M (a2 a1 : Int) (R : RW) (w : World) : Prop :=
 thenW (w.alloc (.cells #[.int .i64 a2, .int .i64 a1] 24)) fun a0 =>
 ∃ (T4 : Int), a0.cell? ((blk w.heap.size).add 0) = some (.int .i64 T4) ∧
 bif decide (T4 ≥ 1) then (
 ∃ (T5 : Int), a0.cell? ((blk w.heap.size).add 0) = some (.int .i64 T5) ∧
 bif decide (T5 ≤ 1099511627776) then (
 ∃ (W6 : Int), a0.cell? ((blk w.heap.size).add 1) = some (.int .i64 W6) ∧
 bif decide (W6 ≥ 0) then (
 ∃ (W7 : Int), a0.cell? ((blk w.heap.size).add 1) = some (.int .i64 W7) ∧
 R (.bool (decide (W7 < 8))) a0) else (
 R (.bool false) a0)) else (
 R (.bool false) a0)) else (
 R (.bool false) a0)

theorem Q06.ok (a1 a0 : Int) {R : RW} {w : World} (h : Q06.M a1 a0 R w) : Calls Try.prog 68 #[.agg #[.int .i64 a1, .int .i64 a0]] w fun e w' => ∃ v, e = .returned v ∧ R v w' :=
  Q08 follows (H := []) (args := [.agg #[.int .i64 a1, .int .i64 a0]]) (cast (by kernel_rfl) h)

def Q06.N (a1 a2 : Int) (R : RW) (w : World) : Prop :=
 (a1 ≥ 1 →
 (a1 ≤ 1099511627776 →
 (a2 ≥ 0 →
 ∀ (a0 : World), Ext no w a0 →
 R (.bool (decide (a2 < 8))) a0) ∧
 (a2 < 0 →
 ∀ (a0 : World), Ext no w a0 →
 R (.bool false) a0)) ∧
 ((1099511627776 : Int) < a1 →
 ∀ (a0 : World), Ext no w a0 →
 R (.bool false) a0)) ∧
 (a1 < 1 →
 ∀ (a0 : World), Ext no w a0 →
 R (.bool false) a0)

theorem Q06.up (a2 a1 : Int) {R : RW} {w : World} (h : Q06.N a2 a1 R w) : Q06.M a2 a1 R w := by
  unfold Q06.M
  unfold Q06.N at h
  refine Q02 fun a0 e3 => ?_
  have a4 := Blk.of_new e3
  have a5 := ((Ext.refl no w)).size
  have a3 := (Ext.refl no w).x_alloc e3
  refine ⟨a2, a4.celli 0 rfl rfl, ?_⟩
  refine bif_fo (fun c4 => ?_) (fun c4 => ?_)
  ·have h := h.2 (Int.not_le.1 (of_decide_eq_false c4))
   have h := h a0 a3
   exact h
  have h := h.1 (of_decide_eq_true c4)
  refine ⟨a2, a4.celli 0 rfl rfl, ?_⟩
  refine bif_fo (fun c5 => ?_) (fun c5 => ?_)
  ·have h := h.2 (Int.not_le.1 (of_decide_eq_false c5))
   have h := h a0 a3
   exact h
  have h := h.1 (of_decide_eq_true c5)
  refine ⟨a1, a4.celli 1 rfl rfl, ?_⟩
  refine bif_fo (fun c6 => ?_) (fun c6 => ?_)
  ·have h := h.2 (Int.not_le.1 (of_decide_eq_false c6))
   have h := h a0 a3
   exact h
  have h := h.1 (of_decide_eq_true c6)
  refine ⟨a1, a4.celli 1 rfl rfl, ?_⟩
  have h := h a0 a3
  exact h

theorem Q06.go (a1 a0 : Int) {R : RW} {w : World} (h : Q06.N a1 a0 R w) : Calls Try.prog 68 #[.agg #[.int .i64 a1, .int .i64 a0]] w fun e w' => ∃ v, e = .returned v ∧ R v w' := Q06.ok a1 a0 (Q06.up a1 a0 h)
theorem Q06.run (a1 a0 : Int) {V : Value} {Q : World → Prop} {w : World} (h : Q06.N a1 a0 (fun v w' => v = V ∧ Q w') w) : Calls Try.prog 68 #[.agg #[.int .i64 a1, .int .i64 a0]] w (Ret V Q) := (Q06.go a1 a0 h).mono fun e w' ⟨v, he, hv, hq⟩ => ⟨by rw [he, hv], hq⟩

def Q06.F (a1 a0 : Int) : Bool :=
  if a1 ≥ 1 then
    if a1 ≤ 1099511627776 then
      if a0 ≥ 0 then
        (decide (a0 < 8))
      else
        false
    else
      false
  else
    false
theorem Q06.pure (a0 a1 : Int) {w : World} : Calls Try.prog 68 #[.agg #[.int .i64 a0, .int .i64 a1]] w (Ret (.bool (Q06.F a0 a1)) fun w' => Ext no w w') := by
  refine Q06.run a0 a1 ?_
  unfold Q06.N
  refine ⟨fun c0 => ?_, fun c0 => ?_⟩
  ·refine ⟨fun c1 => ?_, fun c1 => ?_⟩
   ·refine ⟨fun c2 => ?_, fun c2 => ?_⟩
    ·intro w' hx; exact ⟨by unfold Q06.F; rw [if_pos c0, if_pos c1, if_pos c2], hx⟩
    ·intro w' hx; exact ⟨by unfold Q06.F; rw [if_pos c0, if_pos c1, if_neg (show ¬ (a1 ≥ 0) from by omega)], hx⟩
   ·intro w' hx; exact ⟨by unfold Q06.F; rw [if_pos c0, if_neg (show ¬ (a0 ≤ 1099511627776) from by omega)], hx⟩
  ·intro w' hx; exact ⟨by unfold Q06.F; rw [if_neg (show ¬ (a0 ≥ 1) from by omega)], hx⟩

def Q03.M (ac ag an aq ap af : Int) (ai : Option Addr) (ae ak : Nat) (ao : Int) (R : RW) (w : World) : Prop :=
 thenW (w.alloc (.cells #[.int .i64 ac, .int .i64 ag, .int .u64 an, .int .i64 aq, .int .i64 ap, .int .i64 af, .slice ai ae ak, .int .u64 ao] 27)) fun ab =>
 ∃ (a2 : Int), ab.cell? ((blk w.heap.size).add 0) = some (.int .i64 a2) ∧
 bif decide (a2 ≥ 0) then (
 ∃ (a3 : Int), ab.cell? ((blk w.heap.size).add 0) = some (.int .i64 a3) ∧
 bif decide (a3 < 8) then (
 ∃ (aa : Int), ab.cell? ((blk w.heap.size).add 1) = some (.int .i64 aa) ∧
 bif decide (aa ≥ 0) then (
 ∃ (a5 : Int), ab.cell? ((blk w.heap.size).add 1) = some (.int .i64 a5) ∧
 bif decide (a5 < 200) then (
 ∃ (ad : Int), ab.cell? ((blk w.heap.size).add 2) = some (.int .u64 ad) ∧
 ∃ (a8 : Int), ab.cell? ((blk w.heap.size).add 1) = some (.int .i64 a8) ∧
 bif (ad == 0) == (a8 == 0) then (
 ∃ (am al : Int), cellsAt ab ((blk w.heap.size).add 3) [.int .i64 am, .int .i64 al] 0 ∧
 Calls Try.prog 68 #[.agg #[.int .i64 am, .int .i64 al]] ab fun ar a0 => ∃ (a4 : Bool), ar = .returned (.bool a4) ∧
 bif a4 then (
 ∃ (au : Int), a0.cell? (((blk w.heap.size).add 3).add 1) = some (.int .i64 au) ∧
 ∃ (a1 : Int), a0.cell? ((blk w.heap.size).add 0) = some (.int .i64 a1) ∧
 bif au == a1 then (
 ∃ (a6 : Int), a0.cell? ((blk w.heap.size).add 5) = some (.int .i64 a6) ∧
 bif decide (a6 ≥ (-1)) then (
 ∃ (a7 : Int), a0.cell? ((blk w.heap.size).add 5) = some (.int .i64 a7) ∧
 bif decide (a7 < 20) then (
 ∃ (ah : Option Addr) (a9 aj : Nat), a0.cell? ((blk w.heap.size).add 6) = some (.slice ah a9 aj) ∧
 R (.bool (decide ((a9 : Int) ≤ 1100))) a0) else (
 R (.bool false) a0)) else (
 R (.bool false) a0)) else (
 R (.bool false) a0)) else (
 R (.bool false) a0)) else (
 R (.bool false) ab)) else (
 R (.bool false) ab)) else (
 R (.bool false) ab)) else (
 R (.bool false) ab)) else (
 R (.bool false) ab)

theorem Q03.ok (a0 a4 a6 a7 a8 a1 : Int) (a3 : Option Addr) (a2 a5 : Nat) (a9 : Int) {R : RW} {w : World} (h : Q03.M a0 a4 a6 a7 a8 a1 a3 a2 a5 a9 R w) : Calls Try.prog 49 #[.agg #[.int .i64 a0, .int .i64 a4, .int .u64 a6, .int .i64 a7, .int .i64 a8, .int .i64 a1, .slice a3 a2 a5, .int .u64 a9]] w fun e w' => ∃ v, e = .returned v ∧ R v w' :=
  Q08 follows (H := []) (args := [.agg #[.int .i64 a0, .int .i64 a4, .int .u64 a6, .int .i64 a7, .int .i64 a8, .int .i64 a1, .slice a3 a2 a5, .int .u64 a9]]) (cast (by kernel_rfl) h)

def Q03.N (a0 a1 a6 a8 a5 a3 : Int) (aa : Option Addr) (a7 a9 : Nat) (ab : Int) (R : RW) (w : World) : Prop :=
 (a0 ≥ 0 →
 (a0 < 8 →
 (a1 ≥ 0 →
 (a1 < 200 →
 ((a6 == 0) = (a1 == 0) →
 ((Q06.F a8 a5) = true →
 (a5 = a0 →
 (a3 ≥ (-1) →
 (a3 < 20 →
 ∀ (a2 : World), Ext no w a2 →
 R (.bool (decide ((a7 : Int) ≤ 1100))) a2) ∧
 ((20 : Int) ≤ a3 →
 ∀ (a2 : World), Ext no w a2 →
 R (.bool false) a2)) ∧
 (a3 < (-1) →
 ∀ (a2 : World), Ext no w a2 →
 R (.bool false) a2)) ∧
 (a5 ≠ a0 →
 ∀ (a2 : World), Ext no w a2 →
 R (.bool false) a2)) ∧
 ((Q06.F a8 a5) = false →
 ∀ (a2 : World), Ext no w a2 →
 R (.bool false) a2)) ∧
 ((a6 == 0) ≠ (a1 == 0) →
 ∀ (a4 : World), Ext no w a4 →
 R (.bool false) a4)) ∧
 ((200 : Int) ≤ a1 →
 ∀ (a4 : World), Ext no w a4 →
 R (.bool false) a4)) ∧
 (a1 < 0 →
 ∀ (a4 : World), Ext no w a4 →
 R (.bool false) a4)) ∧
 ((8 : Int) ≤ a0 →
 ∀ (a4 : World), Ext no w a4 →
 R (.bool false) a4)) ∧
 (a0 < 0 →
 ∀ (a4 : World), Ext no w a4 →
 R (.bool false) a4)

theorem Q03.up (a0 a1 a8 a7 a3 a2 : Int) (a5 : Option Addr) (a4 a6 : Nat) (ab : Int) {R : RW} {w : World} (h : Q03.N a0 a1 a8 a7 a3 a2 a5 a4 a6 ab R w) : Q03.M a0 a1 a8 a7 a3 a2 a5 a4 a6 ab R w := by
  unfold Q03.M
  unfold Q03.N at h
  refine Q02 fun ad e9 => ?_
  have a9 := Blk.of_new e9
  have an := ((Ext.refl no w)).size
  have ac := (Ext.refl no w).x_alloc e9
  refine ⟨a0, a9.celli 0 rfl rfl, ?_⟩
  refine bif_fo (fun aj => ?_) (fun aj => ?_)
  ·have h := h.2 (Int.not_le.1 (of_decide_eq_false aj))
   have h := h ad ac
   exact h
  have h := h.1 (of_decide_eq_true aj)
  refine ⟨a0, a9.celli 0 rfl rfl, ?_⟩
  refine bif_fo (fun ah => ?_) (fun ah => ?_)
  ·have h := h.2 (Int.not_lt.1 (of_decide_eq_false ah))
   have h := h ad ac
   exact h
  have h := h.1 (of_decide_eq_true ah)
  refine ⟨a1, a9.celli 1 rfl rfl, ?_⟩
  refine bif_fo (fun ai => ?_) (fun ai => ?_)
  ·have h := h.2 (Int.not_le.1 (of_decide_eq_false ai))
   have h := h ad ac
   exact h
  have h := h.1 (of_decide_eq_true ai)
  refine ⟨a1, a9.celli 1 rfl rfl, ?_⟩
  refine bif_fo (fun af => ?_) (fun af => ?_)
  ·have h := h.2 (Int.not_lt.1 (of_decide_eq_false af))
   have h := h ad ac
   exact h
  have h := h.1 (of_decide_eq_true af)
  refine ⟨a8, a9.celli 2 rfl rfl, ?_⟩
  refine ⟨a1, a9.celli 1 rfl rfl, ?_⟩
  refine bif_fo (fun al => ?_) (fun al => ?_)
  ·have h := h.2 (bbeq_f al)
   have h := h ad ac
   exact h
  have h := h.1 (bbeq_t al)
  refine ⟨a7, a3, ⟨a9.celli 3 rfl rfl, a9.celli 4 rfl rfl, trivial⟩, ?_⟩
  refine (Q06.pure a7 a3).mono fun ee ww15 ⟨he, hxx⟩ => ⟨(Q06.F a7 a3), he, ?_⟩
  have aa := ac.trans hxx
  have a9 := a9.ext hxx id
  refine bif_fo (fun ae => ?_) (fun ae => ?_)
  ·have h := h.2 ae
   have h := h ww15 aa
   exact h
  have h := h.1 ae
  refine ⟨a3, a9.celli 4 rfl rfl, ?_⟩
  refine ⟨a0, a9.celli 0 rfl rfl, ?_⟩
  refine bif_fo (fun ak => ?_) (fun ak => ?_)
  ·have h := h.2 (beq_f ak)
   have h := h ww15 aa
   exact h
  have h := h.1 (beq_t ak)
  refine ⟨a2, a9.celli 5 rfl rfl, ?_⟩
  refine bif_fo (fun ag => ?_) (fun ag => ?_)
  ·have h := h.2 (Int.not_le.1 (of_decide_eq_false ag))
   have h := h ww15 aa
   exact h
  have h := h.1 (of_decide_eq_true ag)
  refine ⟨a2, a9.celli 5 rfl rfl, ?_⟩
  refine bif_fo (fun am => ?_) (fun am => ?_)
  ·have h := h.2 (Int.not_lt.1 (of_decide_eq_false am))
   have h := h ww15 aa
   exact h
  have h := h.1 (of_decide_eq_true am)
  refine ⟨a5, a4, a6, a9.celli 6 rfl rfl, ?_⟩
  have h := h ww15 aa
  exact h

theorem Q03.go (a0 a4 a6 a7 a8 a1 : Int) (a3 : Option Addr) (a2 a5 : Nat) (a9 : Int) {R : RW} {w : World} (h : Q03.N a0 a4 a6 a7 a8 a1 a3 a2 a5 a9 R w) : Calls Try.prog 49 #[.agg #[.int .i64 a0, .int .i64 a4, .int .u64 a6, .int .i64 a7, .int .i64 a8, .int .i64 a1, .slice a3 a2 a5, .int .u64 a9]] w fun e w' => ∃ v, e = .returned v ∧ R v w' := Q03.ok a0 a4 a6 a7 a8 a1 a3 a2 a5 a9 (Q03.up a0 a4 a6 a7 a8 a1 a3 a2 a5 a9 h)
theorem Q03.run (a0 a4 a6 a7 a8 a1 : Int) (a3 : Option Addr) (a2 a5 : Nat) (a9 : Int) {V : Value} {Q : World → Prop} {w : World} (h : Q03.N a0 a4 a6 a7 a8 a1 a3 a2 a5 a9 (fun v w' => v = V ∧ Q w') w) : Calls Try.prog 49 #[.agg #[.int .i64 a0, .int .i64 a4, .int .u64 a6, .int .i64 a7, .int .i64 a8, .int .i64 a1, .slice a3 a2 a5, .int .u64 a9]] w (Ret V Q) := (Q03.go a0 a4 a6 a7 a8 a1 a3 a2 a5 a9 h).mono fun e w' ⟨v, he, hv, hq⟩ => ⟨by rw [he, hv], hq⟩

def Q03.F (a0 a1 a5 a6 a4 a2 : Int) (a7 : Option Addr) (a3 a8 : Nat) (a9 : Int) : Bool :=
  if a0 ≥ 0 then
    if a0 < 8 then
      if a1 ≥ 0 then
        if a1 < 200 then
          if (a5 == 0) = (a1 == 0) then
            if (Q06.F a6 a4) = true then
              if a4 = a0 then
                if a2 ≥ (-1) then
                  if a2 < 20 then
                    (decide ((a3 : Int) ≤ 1100))
                  else
                    false
                else
                  false
              else
                false
            else
              false
          else
            false
        else
          false
      else
        false
    else
      false
  else
    false
theorem Q03.pure (a0 a1 a6 a7 a8 a2 : Int) (a5 : Option Addr) (a4 a3 : Nat) (a9 : Int) {w : World} : Calls Try.prog 49 #[.agg #[.int .i64 a0, .int .i64 a1, .int .u64 a6, .int .i64 a7, .int .i64 a8, .int .i64 a2, .slice a5 a4 a3, .int .u64 a9]] w (Ret (.bool (Q03.F a0 a1 a6 a7 a8 a2 a5 a4 a3 a9)) fun w' => Ext no w w') := by
  refine Q03.run a0 a1 a6 a7 a8 a2 a5 a4 a3 a9 ?_
  unfold Q03.N
  refine ⟨fun c0 => ?_, fun c0 => ?_⟩
  ·refine ⟨fun c1 => ?_, fun c1 => ?_⟩
   ·refine ⟨fun c2 => ?_, fun c2 => ?_⟩
    ·refine ⟨fun c3 => ?_, fun c3 => ?_⟩
     ·refine ⟨fun c4 => ?_, fun c4 => ?_⟩
      ·refine ⟨fun c5 => ?_, fun c5 => ?_⟩
       ·refine ⟨fun c6 => ?_, fun c6 => ?_⟩
        ·refine ⟨fun c7 => ?_, fun c7 => ?_⟩
         ·refine ⟨fun c8 => ?_, fun c8 => ?_⟩
          ·intro w' hx; exact ⟨by unfold Q03.F; rw [if_pos c0, if_pos c1, if_pos c2, if_pos c3, if_pos c4, if_pos c5, if_pos c6, if_pos c7, if_pos c8], hx⟩
          ·intro w' hx; exact ⟨by unfold Q03.F; rw [if_pos c0, if_pos c1, if_pos c2, if_pos c3, if_pos c4, if_pos c5, if_pos c6, if_pos c7, if_neg (show ¬ (a2 < 20) from by omega)], hx⟩
         ·intro w' hx; exact ⟨by unfold Q03.F; rw [if_pos c0, if_pos c1, if_pos c2, if_pos c3, if_pos c4, if_pos c5, if_pos c6, if_neg (show ¬ (a2 ≥ (-1)) from by omega)], hx⟩
        ·intro w' hx; exact ⟨by unfold Q03.F; rw [if_pos c0, if_pos c1, if_pos c2, if_pos c3, if_pos c4, if_pos c5, if_neg c6], hx⟩
       ·intro w' hx; exact ⟨by unfold Q03.F; rw [if_pos c0, if_pos c1, if_pos c2, if_pos c3, if_pos c4, if_neg (by rw [c5]; decide)], hx⟩
      ·intro w' hx; exact ⟨by unfold Q03.F; rw [if_pos c0, if_pos c1, if_pos c2, if_pos c3, if_neg c4], hx⟩
     ·intro w' hx; exact ⟨by unfold Q03.F; rw [if_pos c0, if_pos c1, if_pos c2, if_neg (show ¬ (a1 < 200) from by omega)], hx⟩
    ·intro w' hx; exact ⟨by unfold Q03.F; rw [if_pos c0, if_pos c1, if_neg (show ¬ (a1 ≥ 0) from by omega)], hx⟩
   ·intro w' hx; exact ⟨by unfold Q03.F; rw [if_pos c0, if_neg (show ¬ (a0 < 8) from by omega)], hx⟩
  ·intro w' hx; exact ⟨by unfold Q03.F; rw [if_neg (show ¬ (a0 ≥ 0) from by omega)], hx⟩

structure Ent where
  w : Int
  i : Int
  pv : Int
  t : Int
  tw : Int
  ep : Int
  body : List UInt8
  sg : Int
deriving DecidableEq
def Ent.zero : Ent := ⟨0, 0, 0, 0, 0, 0, [], 0⟩
def entC (e : Ent) (a : Option Addr) (c : Nat) : List Value := [.int .i64 e.w, .int .i64 e.i, .int .u64 e.pv, .int .i64 e.t, .int .i64 e.tw, .int .i64 e.ep, .slice a e.body.length c, .int .u64 e.sg]
def entV (e : Ent) (a : Option Addr) (c : Nat) : Value := .agg #[.int .i64 e.w, .int .i64 e.i, .int .u64 e.pv, .int .i64 e.t, .int .i64 e.tw, .int .i64 e.ep, .slice a e.body.length c, .int .u64 e.sg]
structure Ent.fit (e : Ent) : Prop where
  pv0 : 0 ≤ e.pv
  pv1 : e.pv < 18446744073709551616
  sg0 : 0 ≤ e.sg
  sg1 : e.sg < 18446744073709551616
def Q0u (e : Ent) : Bool := decide (0 ≤ e.w ∧ e.w < 8 ∧ 0 ≤ e.i ∧ e.i < 200 ∧ -1 ≤ e.ep ∧ e.ep < 20 ∧ 0 < e.t ∧ e.t ≤ 1099511627776 ∧ e.tw = e.w ∧ e.body.length ≤ 1100 ∧ (e.pv = 0 ↔ e.i = 0))
theorem beq_dec (x y : Int) : ((x == 0) == (y == 0)) = decide (x = 0 ↔ y = 0) := by
  rw [Bool.eq_iff_iff, decide_eq_true_eq, beq_iff_eq, Bool.eq_iff_iff, beq_iff_eq, beq_iff_eq]
theorem Q5s (n a b : Int) : Q0d.F n a b = decide (a ≤ n ∧ n < b) := by
  unfold Q0d.F
  by_cases h : n ≥ a
  · rw [if_pos h, decide_eq_decide]; omega
  · rw [if_neg h, eq_comm, decide_eq_false_iff_not]; omega
theorem Q3P (t w : Int) : Q0z.F t w = decide (0 < t ∧ t ≤ 1099511627776 ∧ 0 ≤ w ∧ w < 8) := by
  unfold Q0z.F Q0y.F
  by_cases h : t > 0
  · rw [if_pos h]
    by_cases h1 : t ≤ 1099511627776
    · rw [if_pos h1]
      by_cases h2 : w ≥ 0
      · rw [if_pos h2, decide_eq_decide]; omega
      · rw [if_neg h2, eq_comm, decide_eq_false_iff_not]; omega
    · rw [if_neg h1, eq_comm, decide_eq_false_iff_not]; omega
  · rw [if_neg h, eq_comm, decide_eq_false_iff_not]; omega
theorem Q4W (t w : Int) : Q06.F t w = decide (0 < t ∧ t ≤ 1099511627776 ∧ 0 ≤ w ∧ w < 8) := by
  unfold Q06.F
  by_cases h : t ≥ 1
  · rw [if_pos h]
    by_cases h1 : t ≤ 1099511627776
    · rw [if_pos h1]
      by_cases h2 : w ≥ 0
      · rw [if_pos h2, decide_eq_decide]; omega
      · rw [if_neg h2, eq_comm, decide_eq_false_iff_not]; omega
    · rw [if_neg h1, eq_comm, decide_eq_false_iff_not]; omega
  · rw [if_neg h, eq_comm, decide_eq_false_iff_not]; omega
theorem Q2w (e : Ent) (a : Option Addr) (c : Nat) : Q0g.F e.w e.i e.pv e.t e.tw e.ep a e.body.length c e.sg = Q0u e := by
  unfold Q0g.F Q0u
  rw [beq_dec]
  simp only [Q5s, Q3P, decide_eq_false_iff_not]
  rw [Bool.eq_iff_iff, decide_eq_true_eq]
  (repeat' split) <;> simp only [Bool.false_eq_true, decide_eq_true_eq, false_iff] <;> omega
theorem Q1z (e : Ent) (a : Option Addr) (c : Nat) : Q03.F e.w e.i e.pv e.t e.tw e.ep a e.body.length c e.sg = Q0u e := by
  unfold Q03.F Q0u
  have h : ((e.pv == 0) = (e.i == 0)) ↔ (e.pv = 0 ↔ e.i = 0) := by rw [Bool.eq_iff_iff]; simp
  simp only [Q4W, h, decide_eq_true_eq, decide_eq_false_iff_not]
  rw [Bool.eq_iff_iff, decide_eq_true_eq]
  (repeat' split) <;> simp only [Bool.false_eq_true, decide_eq_true_eq, false_iff] <;> omega
def stampL (t w : Int) : List UInt8 := numL (zig t) ++ numL w.toNat
def textL (e : Ent) : List UInt8 := numL e.w.toNat ++ numL e.i.toNat ++ numL e.pv.toNat ++ stampL e.t e.tw ++ numL (zig e.ep) ++ (numL e.body.length ++ e.body)
def bytesL (e : Ent) : List UInt8 := textL e ++ numL e.sg.toNat
theorem Q2U (t w : Int) : (stampL t w).length ≤ 20 := by
  have h1 := W.numL_le (zig t); have h2 := W.numL_le w.toNat
  unfold stampL; rw [List.length_append]; omega
theorem Q3z (e : Ent) : (textL e).length ≤ 70 + e.body.length := by
  have h1 := W.numL_le e.w.toNat; have h2 := W.numL_le e.i.toNat; have h3 := W.numL_le e.pv.toNat; have h4 := Q2U e.t e.tw; have h5 := W.numL_le (zig e.ep); have h6 := W.numL_le e.body.length
  unfold textL; simp only [List.length_append]; omega
theorem Q5l (e : Ent) : (bytesL e).length ≤ 80 + e.body.length := by
  have h1 := Q3z e; have h2 := W.numL_le e.sg.toNat
  unfold bytesL; rw [List.length_append]; omega
def stampR (s : RS) : (Int × Nat) × RS := (((intR s).1, (countR 7 (intR s).2).1), (countR 7 (intR s).2).2)
def entR1 (s : RS) : RS := (countR 7 s).2
def entR2 (s : RS) : RS := (countR 199 (entR1 s)).2
def entR3 (s : RS) : RS := (numR (entR2 s)).2
def entR4 (s : RS) : RS := (stampR (entR3 s)).2
def entR5 (s : RS) : RS := (intR (entR4 s)).2
def entR6 (s : RS) : RS := (bytesR 1100 (entR5 s)).2
def entR7 (s : RS) : RS := (numR (entR6 s)).2
def entR (s : RS) : Ent := ⟨(countR 7 s).1, (countR 199 (entR1 s)).1, (numR (entR2 s)).1, (stampR (entR3 s)).1.1, (stampR (entR3 s)).1.2, (intR (entR4 s)).1, (bytesR 1100 (entR5 s)).1, (numR (entR6 s)).1⟩
def readE (b : List UInt8) : Ent × Int :=
  if doneR (entR7 (b, 0)) ≠ 0 then (Ent.zero, doneR (entR7 (b, 0))) else if Q0u (entR (b, 0)) = true then (entR (b, 0), 0) else (Ent.zero, 4)
theorem Q2K (s : RS) : (intR s).2.1.length ≤ s.1.length := W.numR_len s
theorem Q4P (s : RS) : (stampR s).2.1.length ≤ s.1.length := Nat.le_trans (W.countR_len 7 _) (Q2K s)
theorem Q4p (s : RS) : (entR1 s).1.length ≤ s.1.length ∧ (entR2 s).1.length ≤ s.1.length ∧ (entR3 s).1.length ≤ s.1.length ∧ (entR4 s).1.length ≤ s.1.length ∧ (entR5 s).1.length ≤ s.1.length ∧ (entR6 s).1.length ≤ s.1.length ∧ (entR7 s).1.length ≤ s.1.length := by
  have h1 : (entR1 s).1.length ≤ s.1.length := W.countR_len 7 s
  have h2 : (entR2 s).1.length ≤ (entR1 s).1.length := W.countR_len 199 _
  have h3 : (entR3 s).1.length ≤ (entR2 s).1.length := W.numR_len _
  have h4 : (entR4 s).1.length ≤ (entR3 s).1.length := Q4P _
  have h5 : (entR5 s).1.length ≤ (entR4 s).1.length := Q2K _
  have h6 : (entR6 s).1.length ≤ (entR5 s).1.length := (Q1o 1100 _).1
  have h7 : (entR7 s).1.length ≤ (entR6 s).1.length := W.numR_len _
  omega
/-! ### the plain law -/
theorem Q3K {t : Int} (h0 : -9223372036854775808 ≤ t) (h1 : t < 9223372036854775808) (r : List UInt8) : intR (numL (zig t) ++ r, 0) = (t, (r, 0)) := by
  unfold intR
  rw [W.numR_write (W.zig_lt h0 h1), W.unzig_zig]
theorem Q43 (x r : List UInt8) : takeR x.length (x ++ r, 0) = (x, (r, 0)) := by
  unfold takeR
  rw [if_pos rfl, if_neg (by simp), List.take_left' rfl, List.drop_left' rfl]
theorem Q1f {m : Int} {x : List UInt8} (hm : (x.length : Int) ≤ m) (hx : x.length < 18446744073709551616) (r : List UInt8) : bytesR m (numL x.length ++ (x ++ r), 0) = (x, (r, 0)) := by
  unfold bytesR
  rw [W.countR_write hx hm, Q43]
theorem Q4F {n : Nat} {s : RS} (h : (takeR n s).2.2 = 0) : s.2 = 0 ∧ s.1 = (takeR n s).1 ++ (takeR n s).2.1 ∧ (takeR n s).1.length = n := by
  unfold takeR at h ⊢
  by_cases h0 : s.2 = 0
  · rw [if_pos h0] at h ⊢
    by_cases h1 : s.1.length < n
    · rw [if_pos h1] at h; exact absurd h (by decide)
    · rw [if_neg h1]
      exact ⟨h0, (List.take_append_drop n s.1).symm, by simp; omega⟩
  · rw [if_neg h0] at h; exact absurd h h0
theorem Q1n {m : Int} {s : RS} (h : (bytesR m s).2.2 = 0) : s.2 = 0 ∧ s.1 = numL (bytesR m s).1.length ++ ((bytesR m s).1 ++ (bytesR m s).2.1) := by
  unfold bytesR at h ⊢
  obtain ⟨h1, h2, h3⟩ := Q4F h
  obtain ⟨h4, h5⟩ := W.countR_good h1
  refine ⟨h4, ?_⟩
  rw [h3, ← h2]; exact h5
theorem Q3J {s : RS} (h : (intR s).2.2 = 0) : s.2 = 0 ∧ s.1 = numL (zig (intR s).1) ++ (intR s).2.1 := by
  unfold intR at h ⊢
  obtain ⟨h1, h2⟩ := W.numR_good h
  exact ⟨h1, by rw [W.zig_unzig]; exact h2⟩
theorem Q19 (e : Ent) : Q0u e = true ↔ (0 ≤ e.w ∧ e.w < 8 ∧ 0 ≤ e.i ∧ e.i < 200 ∧ -1 ≤ e.ep ∧ e.ep < 20 ∧ 0 < e.t ∧ e.t ≤ 1099511627776 ∧ e.tw = e.w ∧ e.body.length ≤ 1100 ∧ (e.pv = 0 ↔ e.i = 0)) := decide_eq_true_iff
theorem Q4H {e : Ent} (h : Q0u e = true) (hf : e.fit) (r : List UInt8) : entR (bytesL e ++ r, 0) = e ∧ entR7 (bytesL e ++ r, 0) = (r, 0) := by
  obtain ⟨h1, h2, h3, h4, h5, h6, h7, h8, h9, h10, h11⟩ := (Q19 e).1 h
  obtain ⟨l2, l3, l4, l5, l6, l7, l8, e1, rfl, rfl, rfl, rfl, rfl, rfl, rfl⟩ : ∃ l2 l3 l4 l5 l6 l7 l8, bytesL e ++ r = numL e.w.toNat ++ l2 ∧ l2 = numL e.i.toNat ++ l3 ∧ l3 = numL e.pv.toNat ++ l4 ∧ l4 = numL (zig e.t) ++ l5 ∧ l5 = numL e.tw.toNat ++ l6 ∧ l6 = numL (zig e.ep) ++ l7 ∧
      l7 = numL e.body.length ++ (e.body ++ l8) ∧ l8 = numL e.sg.toNat ++ r := ⟨_, _, _, _, _, _, _, by unfold bytesL textL stampL; simp only [List.append_assoc], rfl, rfl, rfl, rfl, rfl, rfl, rfl⟩
  have f1 := hf.pv0; have f2 := hf.pv1; have f3 := hf.sg0; have f4 := hf.sg1
  have q1 := W.countR_write (n := e.w.toNat) (m := 7) (by omega) (by omega) (numL e.i.toNat ++ (numL e.pv.toNat ++ (numL (zig e.t) ++ (numL e.tw.toNat ++ (numL (zig e.ep) ++ (numL e.body.length ++ (e.body ++ (numL e.sg.toNat ++ r))))))))
  rw [← e1] at q1
  have q2 := W.countR_write (n := e.i.toNat) (m := 199) (by omega) (by omega) (numL e.pv.toNat ++ (numL (zig e.t) ++ (numL e.tw.toNat ++ (numL (zig e.ep) ++ (numL e.body.length ++ (e.body ++ (numL e.sg.toNat ++ r)))))))
  have p1 : entR1 (bytesL e ++ r, 0) = (numL e.i.toNat ++ (numL e.pv.toNat ++ (numL (zig e.t) ++ (numL e.tw.toNat ++ (numL (zig e.ep) ++ (numL e.body.length ++ (e.body ++ (numL e.sg.toNat ++ r))))))), 0) := congrArg Prod.snd q1
  rw [← p1] at q2
  have q3 := W.numR_write (n := e.pv.toNat) (by omega) (numL (zig e.t) ++ (numL e.tw.toNat ++ (numL (zig e.ep) ++ (numL e.body.length ++ (e.body ++ (numL e.sg.toNat ++ r))))))
  have p2 : entR2 (bytesL e ++ r, 0) = (numL e.pv.toNat ++ (numL (zig e.t) ++ (numL e.tw.toNat ++ (numL (zig e.ep) ++ (numL e.body.length ++ (e.body ++ (numL e.sg.toNat ++ r)))))), 0) := congrArg Prod.snd q2
  rw [← p2] at q3
  have q4 := Q3K (t := e.t) (by omega) (by omega) (numL e.tw.toNat ++ (numL (zig e.ep) ++ (numL e.body.length ++ (e.body ++ (numL e.sg.toNat ++ r)))))
  have p3 : entR3 (bytesL e ++ r, 0) = (numL (zig e.t) ++ (numL e.tw.toNat ++ (numL (zig e.ep) ++ (numL e.body.length ++ (e.body ++ (numL e.sg.toNat ++ r))))), 0) := congrArg Prod.snd q3
  rw [← p3] at q4
  have q5 := W.countR_write (n := e.tw.toNat) (m := 7) (by omega) (by omega) (numL (zig e.ep) ++ (numL e.body.length ++ (e.body ++ (numL e.sg.toNat ++ r))))
  have p5 : (intR (entR3 (bytesL e ++ r, 0))).2 = (numL e.tw.toNat ++ (numL (zig e.ep) ++ (numL e.body.length ++ (e.body ++ (numL e.sg.toNat ++ r)))), 0) := congrArg Prod.snd q4
  rw [← p5] at q5
  have q6 := Q3K (t := e.ep) (by omega) (by omega) (numL e.body.length ++ (e.body ++ (numL e.sg.toNat ++ r)))
  have p6 : entR4 (bytesL e ++ r, 0) = (numL (zig e.ep) ++ (numL e.body.length ++ (e.body ++ (numL e.sg.toNat ++ r))), 0) := congrArg Prod.snd q5
  rw [← p6] at q6
  have q7 := Q1f (x := e.body) (m := 1100) (by omega) (by omega) (numL e.sg.toNat ++ r)
  have p7 : entR5 (bytesL e ++ r, 0) = (numL e.body.length ++ (e.body ++ (numL e.sg.toNat ++ r)), 0) := congrArg Prod.snd q6
  rw [← p7] at q7
  have q8 := W.numR_write (n := e.sg.toNat) (by omega) r
  have p8 : entR6 (bytesL e ++ r, 0) = (numL e.sg.toNat ++ r, 0) := congrArg Prod.snd q7
  rw [← p8] at q8
  refine ⟨?_, congrArg Prod.snd q8⟩
  unfold entR stampR
  rw [q1, q2, q3, q5, q4, q6, q7, q8]
  simp only
  obtain ⟨w, i, pv, t, tw, ep, body, sg⟩ := e
  simp only at *
  rw [Int.toNat_of_nonneg h1, Int.toNat_of_nonneg h3, Int.toNat_of_nonneg f1, Int.toNat_of_nonneg (by omega : 0 ≤ tw), Int.toNat_of_nonneg f3]
theorem Q2c {e : Ent} (h : Q0u e = true) (hf : e.fit) : readE (bytesL e) = (e, 0) := by
  obtain ⟨h1, h2⟩ := Q4H h hf []
  rw [List.append_nil] at h1 h2
  unfold readE
  rw [h2, h1, if_neg (by simp [doneR]), if_pos h]
theorem Q51 {s : RS} (h : (entR7 s).2 = 0) : s.2 = 0 ∧ s.1 = bytesL (entR s) ++ (entR7 s).1 ∧ (entR s).fit := by
  obtain ⟨a8, b8⟩ := W.numR_good (s := entR6 s) h
  obtain ⟨a7, b7⟩ := Q1n (s := entR5 s) a8
  obtain ⟨a6, b6⟩ := Q3J (s := entR4 s) a7
  obtain ⟨a5, b5⟩ := W.countR_good (s := (intR (entR3 s)).2) a6
  obtain ⟨a4, b4⟩ := Q3J (s := entR3 s) a5
  obtain ⟨a3, b3⟩ := W.numR_good (s := entR2 s) a4
  obtain ⟨a2, b2⟩ := W.countR_good (s := entR1 s) a3
  obtain ⟨a1, b1⟩ := W.countR_good (s := s) a2
  refine ⟨a1, ?_, ⟨Int.natCast_nonneg _, ?_, Int.natCast_nonneg _, ?_⟩⟩
  · rw [b1]
    show _ ++ (entR1 s).1 = _
    rw [b2]
    show _ ++ (_ ++ (entR2 s).1) = _
    rw [b3]
    show _ ++ (_ ++ (_ ++ (entR3 s).1)) = _
    rw [b4, b5]
    show _ ++ (_ ++ (_ ++ (_ ++ (_ ++ (entR4 s).1)))) = _
    rw [b6]
    show _ ++ (_ ++ (_ ++ (_ ++ (_ ++ (_ ++ (entR5 s).1))))) = _
    rw [b7]
    show _ ++ (_ ++ (_ ++ (_ ++ (_ ++ (_ ++ (_ ++ (_ ++ (entR6 s).1))))))) = _
    rw [b8]
    show _ ++ (_ ++ (_ ++ (_ ++ (_ ++ (_ ++ (_ ++ (_ ++ (_ ++ (entR7 s).1)))))))) = _
    unfold bytesL textL stampL
    simp only [List.append_assoc]
    rfl
  · exact Int.ofNat_lt.2 (W.numR_lt (entR2 s))
  · exact Int.ofNat_lt.2 (W.numR_lt (entR6 s))
theorem Q3k {s : RS} (h : doneR s = 0) : s = ([], 0) := by
  obtain ⟨l, k⟩ := s
  unfold doneR at h
  by_cases h0 : k = 0
  · subst h0
    simp only [if_true] at h
    by_cases h1 : l.length > 0
    · rw [if_pos h1] at h; exact absurd h (by decide)
    · rw [List.eq_nil_of_length_eq_zero (by omega : l.length = 0)]
  · rw [if_neg h0] at h; exact absurd h h0
theorem Q22 {b : List UInt8} (h : (readE b).2 = 0) : bytesL (readE b).1 = b ∧ Q0u (readE b).1 = true ∧ (readE b).1.fit := by
  unfold readE at h ⊢
  by_cases h0 : doneR (entR7 (b, 0)) ≠ 0
  · rw [if_pos h0] at h; exact absurd h h0
  rw [if_neg h0] at h ⊢
  by_cases h1 : Q0u (entR (b, 0)) = true
  · rw [if_pos h1]
    have h2 := Q3k (Decidable.not_not.1 h0)
    obtain ⟨g1, g2, g3⟩ := Q51 (s := (b, 0)) (by rw [h2])
    rw [h2, List.append_nil] at g2
    exact ⟨g2.symm, h1, g3⟩
  · rw [if_neg h1] at h; exact absurd h (by decide)
end Go.Proofs.Ytoempemllkebkaa
namespace Go.Proofs.Ytoempemllkebkaa
open Go Go.Mx Go.Proofs
open W (OwnB Rd RdR GivesW numR countR doneR zig unzig intR)
def Q0P.M (a5 : Option Addr) (a0 a1 : Nat) (a3 : Option Addr) (a2 a4 : Nat) (R : RW) (w : World) : Prop :=
 ∃ (s3 : ByteArray), (convert 25 9 (.slice a5 a0 a1)).run Try.prog w = .ok (.string s3) w ∧
 ∃ (s4 : ByteArray), (convert 25 9 (.slice a3 a2 a4)).run Try.prog w = .ok (.string s4) w ∧
 R (.bool (s3.toList == s4.toList)) w

theorem Q0P.ok (a5 : Option Addr) (a0 a1 : Nat) (a3 : Option Addr) (a2 a4 : Nat) {R : RW} {w : World} (h : Q0P.M a5 a0 a1 a3 a2 a4 R w) : Calls Try.prog 59 #[.slice a5 a0 a1, .slice a3 a2 a4] w fun e w' => ∃ v, e = .returned v ∧ R v w' :=
  Q08 follows (H := []) (args := [.slice a5 a0 a1, .slice a3 a2 a4]) (cast (by kernel_rfl) h)

def Q0P.N (a5 : Option Addr) (a0 a1 : Nat) (a3 : Option Addr) (a2 a4 : Nat) (R : RW) (w : World) : Prop :=
 ∃ (s3 : ByteArray), (convert 25 9 (.slice a5 a0 a1)).run Try.prog w = .ok (.string s3) w ∧
 ∃ (s5 : ByteArray), (convert 25 9 (.slice a3 a2 a4)).run Try.prog w = .ok (.string s5) w ∧
 R (.bool (s3.toList == s5.toList)) w

theorem Q0P.up (a5 : Option Addr) (a0 a1 : Nat) (a3 : Option Addr) (a2 a4 : Nat) {R : RW} {w : World} (h : Q0P.N a5 a0 a1 a3 a2 a4 R w) : Q0P.M a5 a0 a1 a3 a2 a4 R w := by
  unfold Q0P.M
  unfold Q0P.N at h
  obtain ⟨s3, a6, h⟩ := h
  refine ⟨s3, a6, ?_⟩
  obtain ⟨s5, a7, h⟩ := h
  refine ⟨s5, a7, ?_⟩
  exact h

theorem Q0P.go (a5 : Option Addr) (a0 a1 : Nat) (a3 : Option Addr) (a2 a4 : Nat) {R : RW} {w : World} (h : Q0P.N a5 a0 a1 a3 a2 a4 R w) : Calls Try.prog 59 #[.slice a5 a0 a1, .slice a3 a2 a4] w fun e w' => ∃ v, e = .returned v ∧ R v w' := Q0P.ok a5 a0 a1 a3 a2 a4 (Q0P.up a5 a0 a1 a3 a2 a4 h)
theorem Q0P.run (a5 : Option Addr) (a0 a1 : Nat) (a3 : Option Addr) (a2 a4 : Nat) {V : Value} {Q : World → Prop} {w : World} (h : Q0P.N a5 a0 a1 a3 a2 a4 (fun v w' => v = V ∧ Q w') w) : Calls Try.prog 59 #[.slice a5 a0 a1, .slice a3 a2 a4] w (Ret V Q) := (Q0P.go a5 a0 a1 a3 a2 a4 h).mono fun e w' ⟨v, he, hv, hq⟩ => ⟨by rw [he, hv], hq⟩

def Q16.M (aa : Option Addr) (ae ac : Nat) (ad ab : Int) (R : RW) (w : World) : Prop :=
 thenW (w.alloc (.cells #[.int .i64 ad, .int .i64 ab] 24)) fun ag =>
 thenW (ag.drew) fun a7 =>
 ∃ (T6 : Int), a7.cell? ((blk w.heap.size).add 0) = some (.int .i64 T6) ∧
 ∃ (W7 : Int), a7.cell? ((blk w.heap.size).add 1) = some (.int .i64 W7) ∧
 Calls Try.prog 89 #[.slice aa ae ac, .int .i64 T6] a7 fun af a6 => ∃ (a5 : Option Addr) (a3 a4 : Nat), af = .returned (.slice a5 a3 a4) ∧
 a6.cell? ((blk w.heap.size).add 1) = some (.int .i64 W7) ∧
 Calls Try.prog 26 #[.slice a5 a3 a4, .int .u64 (IntKind.u64.wrap (if (0 : Int) > W7 then 0 else W7))] a6 fun a9 a8 => ∃ (a2 : Option Addr) (a0 a1 : Nat), a9 = .returned (.slice a2 a0 a1) ∧
 R (.slice a2 a0 a1) a8

theorem Q16.ok (a0 : Option Addr) (a3 a2 : Nat) (a4 a1 : Int) {R : RW} {w : World} (h : Q16.M a0 a3 a2 a4 a1 R w) : Calls Try.prog 90 #[.slice a0 a3 a2, .agg #[.int .i64 a4, .int .i64 a1]] w fun e w' => ∃ v, e = .returned v ∧ R v w' :=
  Q08 follows (H := []) (args := [.slice a0 a3 a2, .agg #[.int .i64 a4, .int .i64 a1]]) (cast (by kernel_rfl) h)

def Q16.N (ab : Option Addr) (ae ad : Nat) (ac a9 : Int) (R : RW) (w : World) : Prop :=
 ∀ (a6 : World) (p6 : Nat), Ext no w a6 → Priv w a6 [p6] →
 Calls Try.prog 89 #[.slice ab ae ad, .int .i64 ac] a6 fun af aa => ∃ (a3 : Option Addr) (a5 a4 : Nat), af = .returned (.slice a3 a5 a4) ∧
 Keep [p6] a6 aa ∧
 Calls Try.prog 26 #[.slice a3 a5 a4, .int .u64 (IntKind.u64.wrap (if (0 : Int) > a9 then 0 else a9))] aa fun a8 a7 => ∃ (a0 : Option Addr) (a1 a2 : Nat), a8 = .returned (.slice a0 a1 a2) ∧
 R (.slice a0 a1 a2) a7

theorem Q16.up (a9 : Option Addr) (aa ab : Nat) (a7 a8 : Int) {R : RW} {w : World} (h : Q16.N a9 aa ab a7 a8 R w) : Q16.M a9 aa ab a7 a8 R w := by
  unfold Q16.M
  unfold Q16.N at h
  refine Q02 fun ak e4 => ?_
  have a0 := Blk.of_new e4
  have ad := ((Ext.refl no w)).size
  have ac := (Ext.refl no w).x_alloc e4
  refine Q02 fun af e5 => ?_
  have ae := ac.x_drew e5
  have a0 := a0.x_drew e5
  refine ⟨a7, a0.celli 0 rfl rfl, ?_⟩
  refine ⟨a8, a0.celli 1 rfl rfl, ?_⟩
  have h := h af (w.heap.size) ae (Priv.cons ad a0.lt Priv.nil)
  refine h.mono fun aj ai h => ?_
  obtain ⟨a4, a6, a5, he, hk, h⟩ := h
  refine ⟨a4, a6, a5, he, ?_⟩
  have a0 := hk.blk a0 (by simp)
  refine ⟨a0.celli 1 rfl rfl, ?_⟩
  refine h.mono fun ah ag h => ?_
  obtain ⟨a1, a2, a3, he, h⟩ := h
  refine ⟨a1, a2, a3, he, ?_⟩
  exact h

theorem Q16.go (a0 : Option Addr) (a3 a2 : Nat) (a4 a1 : Int) {R : RW} {w : World} (h : Q16.N a0 a3 a2 a4 a1 R w) : Calls Try.prog 90 #[.slice a0 a3 a2, .agg #[.int .i64 a4, .int .i64 a1]] w fun e w' => ∃ v, e = .returned v ∧ R v w' := Q16.ok a0 a3 a2 a4 a1 (Q16.up a0 a3 a2 a4 a1 h)
def Q11.M (r1 : Option Addr) (R : RW) (w : World) : Prop :=
 thenW (w.alloc (.cells #[.int .i64 0, .int .i64 0] 24)) fun ab =>
 Calls Try.prog 100 #[.pointer r1] ab fun ae a9 => ∃ (a6 : Int), ae = .returned (.int .i64 a6) ∧
 Q01 a9 (((blk w.heap.size).add 0).add 0) ∧
 thenW (a9.setCell (((blk w.heap.size).add 0).add 0) (.int .i64 a6)) fun ac =>
 Calls Try.prog 54 #[.pointer r1, .int .i64 7] ac fun ad aa => ∃ (a1 : Int), ad = .returned (.int .i64 a1) ∧
 Q01 aa (((blk w.heap.size).add 1).add 0) ∧
 thenW (aa.setCell (((blk w.heap.size).add 1).add 0) (.int .i64 a1)) fun a3 =>
 ∃ (a7 a8 : Int), cellsAt a3 (blk w.heap.size) [.int .i64 a7, .int .i64 a8] 0 ∧
 Q01 a3 ((blk w.heap.size).add 0) ∧
 thenW (a3.setCell ((blk w.heap.size).add 0) (.int .i64 a7)) fun a4 =>
 Q01 a4 ((blk w.heap.size).add 1) ∧
 thenW (a4.setCell ((blk w.heap.size).add 1) (.int .i64 a8)) fun a5 =>
 ∃ (a2 a0 : Int), cellsAt a5 (blk w.heap.size) [.int .i64 a2, .int .i64 a0] 0 ∧
 R (.agg #[.int .i64 a2, .int .i64 a0]) a5

theorem Q11.ok (r1 : Option Addr) {R : RW} {w : World} (h : Q11.M r1 R w) : Calls Try.prog 99 #[.pointer r1] w fun e w' => ∃ v, e = .returned v ∧ R v w' :=
  Q08 follows (H := []) (args := [.pointer r1]) (cast (by kernel_rfl) h)

def Q11.N (r1 : Option Addr) (R : RW) (w : World) : Prop :=
 ∀ (a4 : World) (p3 : Nat), Ext no w a4 → Priv w a4 [p3] →
 Calls Try.prog 100 #[.pointer r1] a4 fun a7 a6 => ∃ (a2 : Int), a7 = .returned (.int .i64 a2) ∧
 Keep [p3] a4 a6 ∧
 ∀ (a5 : World), Ext (fun b => b = p3) a6 a5 →
 Calls Try.prog 54 #[.pointer r1, .int .i64 7] a5 fun a8 a3 => ∃ (a0 : Int), a8 = .returned (.int .i64 a0) ∧
 Keep [p3] a5 a3 ∧
 ∀ (a1 : World), Ext (fun b => b = p3) a3 a1 →
 R (.agg #[.int .i64 a2, .int .i64 a0]) a1

theorem Q11.up (r1 : Option Addr) {R : RW} {w : World} (h : Q11.N r1 R w) : Q11.M r1 R w := by
  unfold Q11.M
  unfold Q11.N at h
  refine Q02 fun ag e2 => ?_
  have a0 := Blk.of_new e2
  have ae := ((Ext.refl no w)).size
  have aj := (Ext.refl no w).x_alloc e2
  have h := h ag (w.heap.size) aj (Priv.cons ae a0.lt Priv.nil)
  refine h.mono fun am a7 h => ?_
  obtain ⟨a2, he, hk, h⟩ := h
  refine ⟨a2, he, ?_⟩
  have a0 := hk.blk a0 (by simp)
  have ad : Ext (fun b => b = w.heap.size) a7 a7 := ((Ext.refl no a7)).none
  refine ⟨a0.cani 0 rfl rfl, Q02 fun ai e7 => ?_⟩
  have af := ad.x_set (q := w.heap.size) (i := 0) rfl (.inl rfl) e7
  have a0 := a0.seti 0 rfl e7
  have h := h ai af
  refine h.mono fun al a3 h => ?_
  obtain ⟨a1, he, hk, h⟩ := h
  refine ⟨a1, he, ?_⟩
  have a0 := hk.blk a0 (by simp)
  have a6 : Ext (fun b => b = w.heap.size) a3 a3 := ((Ext.refl no a3)).none
  refine ⟨a0.cani 1 rfl rfl, Q02 fun ak ab => ?_⟩
  have a8 := a6.x_set (q := w.heap.size) (i := 1) rfl (.inl rfl) ab
  have a0 := a0.seti 1 rfl ab
  refine ⟨a2, a1, ⟨a0.celli 0 rfl rfl, a0.celli 1 rfl rfl, trivial⟩, ?_⟩
  refine ⟨a0.cani 0 rfl rfl, Q02 fun ah aa => ?_⟩
  have a5 := a8.x_set (q := w.heap.size) (i := 0) rfl (.inl rfl) aa
  have a0 := a0.seti 0 rfl aa
  refine ⟨a0.cani 1 rfl rfl, Q02 fun a9 ac => ?_⟩
  have a4 := a5.x_set (q := w.heap.size) (i := 1) rfl (.inl rfl) ac
  have a0 := a0.seti 1 rfl ac
  refine ⟨a2, a1, ⟨a0.celli 0 rfl rfl, a0.celli 1 rfl rfl, trivial⟩, ?_⟩
  have h := h a9 a4
  exact h

theorem Q11.go (r1 : Option Addr) {R : RW} {w : World} (h : Q11.N r1 R w) : Calls Try.prog 99 #[.pointer r1] w fun e w' => ∃ v, e = .returned v ∧ R v w' := Q11.ok r1 (Q11.up r1 h)
theorem Q11.run (r1 : Option Addr) {V : Value} {Q : World → Prop} {w : World} (h : Q11.N r1 (fun v w' => v = V ∧ Q w') w) : Calls Try.prog 99 #[.pointer r1] w (Ret V Q) := (Q11.go r1 h).mono fun e w' ⟨v, he, hv, hq⟩ => ⟨by rw [he, hv], hq⟩

abbrev Q0x.J1 (j8 : Int) (I0 : Nat → List Value → World → Prop) (ag : Option Addr) (ah m5 : Nat) (aa : Option Addr) (R : RW) (a7 : World) : Prop :=
 ag.elim False fun af =>
 0 ≤ (j8 : Int) ∧ (j8 : Int) < (ah : Int) ∧
 ∃ (ad : Int), a7.cell? (af.add (Int.toNat j8 * 1)) = some (.int .u64 ad) ∧
 aa.elim False fun ae =>
 ∃ (a4 : Option Addr) (a3 a5 : Nat), a7.cell? ae = some (.slice a4 a3 a5) ∧
 Calls Try.prog 26 #[.slice a4 a3 a5, .int .u64 ad] a7 fun a8 a6 => ∃ (a0 : Option Addr) (a2 a1 : Nat), a8 = .returned (.slice a0 a2 a1) ∧
 aa.elim False fun ac =>
 Q01 a6 (ac.add 0) ∧
 thenW (a6.setCell (ac.add 0) (.slice a0 a2 a1)) fun a9 =>
 ∃ ab, ab < m5 ∧ I0 ab [.int .i64 (IntKind.i64.wrap (j8 + 1))] a9

def Q0x.M (a2 a3 : Option Addr) (a1 a4 : Nat) (R : RW) (w : World) : Prop :=
 ∃ (I0 : Nat → List Value → World → Prop) (m4 : Nat), I0 m4 [.int .i64 0] w ∧ ∀ (m5 : Nat) (a0 : World) (t3 : Int), I0 m5 [.int .i64 t3] a0 →
 bif decide (t3 < (a1 : Int)) then (
 Q0x.J1 t3 I0 a3 a1 m5 a2 R a0) else (
 R (.tuple #[]) a0)

theorem Q0x.ok (a1 a2 : Option Addr) (a3 a0 : Nat) {R : RW} {w : World} (h : Q0x.M a1 a2 a3 a0 R w) : Calls Try.prog 88 #[.pointer a1, .slice a2 a3 a0] w fun e w' => ∃ v, e = .returned v ∧ R v w' :=
  Q08 follows (H := [(0, [0, 6, 7], [(8, (.one (.int .i64)))])]) (args := [.pointer a1, .slice a2 a3 a0]) (cast (by kernel_rfl) h)

def Q0x.N (af ag : Option Addr) (ac ah : Nat) (R : RW) (w : World) : Prop :=
 ∃ (I0 : Nat → List Value → World → Prop) (m4 : Nat), I0 m4 [.int .i64 0] w ∧ ∀ (m5 : Nat) (a3 : World) (t3 : Int), I0 m5 [.int .i64 t3] a3 →
 (t3 < (ac : Int) →
 ∃ a8 : Addr, ag = some a8 ∧
 0 ≤ (t3 : Int) ∧ (t3 : Int) < (ac : Int) ∧
 ∃ (ad : Int), a3.cell? (a8.add (Int.toNat t3 * 1)) = some (.int .u64 ad) ∧
 ∃ a9 : Addr, af = some a9 ∧
 ∃ (a5 : Option Addr) (a4 a6 : Nat), a3.cell? a9 = some (.slice a5 a4 a6) ∧
 Calls Try.prog 26 #[.slice a5 a4 a6, .int .u64 ad] a3 fun ab a7 => ∃ (a0 : Option Addr) (a2 a1 : Nat), ab = .returned (.slice a0 a2 a1) ∧
 Q01 a7 (a9.add 0) ∧
 thenW (a7.setCell (a9.add 0) (.slice a0 a2 a1)) fun aa =>
 (-9223372036854775808 : Int) ≤ (t3 + 1) ∧ (t3 + 1) < 9223372036854775808 ∧
 ∃ ae, ae < m5 ∧ I0 ae [.int .i64 (t3 + 1)] aa) ∧
 ((ac : Int) ≤ t3 →
 R (.tuple #[]) a3)

theorem Q0x.up (ac aa : Option Addr) (a9 ab : Nat) {R : RW} {w : World} (h : Q0x.N ac aa a9 ab R w) : Q0x.M ac aa a9 ab R w := by
  unfold Q0x.M
  unfold Q0x.N at h
  obtain ⟨I0, m4, h0, h⟩ := h
  refine ⟨I0, m4, h0, fun m5 ag t3 hI => ?_⟩
  have h := h m5 ag t3 hI
  refine bif_fo (fun c7 => ?_) (fun c7 => ?_)
  ·have h := h.2 (Int.not_lt.1 (of_decide_eq_false c7))
   exact h
  have h := h.1 (of_decide_eq_true c7)
  unfold Q0x.J1
  obtain ⟨a8, ak, h⟩ := h
  refine Q0L ak ?_
  obtain ⟨ae, af, h⟩ := h
  refine ⟨ae, af, ?_⟩
  obtain ⟨am, ad, h⟩ := h
  refine ⟨am, ad, ?_⟩
  obtain ⟨aq, a3, h⟩ := h
  refine Q0L a3 ?_
  obtain ⟨a4, a6, a7, a5, h⟩ := h
  refine ⟨a4, a6, a7, a5, ?_⟩
  refine h.mono fun ao al h => ?_
  obtain ⟨a1, a0, a2, he, h⟩ := h
  refine ⟨a1, a0, a2, he, ?_⟩
  refine Q0L a3 ?_
  obtain ⟨hcs, h⟩ := h
  refine ⟨hcs, Q02 fun an aj => ?_⟩
  replace h := Q1j h aj
  obtain ⟨ah, ap, h⟩ := h
  try rw [w64 ah ap]
  obtain ⟨ai, hk, h⟩ := h
  exact ⟨ai, hk, h⟩

theorem Q0x.go (a1 a2 : Option Addr) (a3 a0 : Nat) {R : RW} {w : World} (h : Q0x.N a1 a2 a3 a0 R w) : Calls Try.prog 88 #[.pointer a1, .slice a2 a3 a0] w fun e w' => ∃ v, e = .returned v ∧ R v w' := Q0x.ok a1 a2 a3 a0 (Q0x.up a1 a2 a3 a0 h)
def Q12.M (aa ak aq az ax aj : Int) (al : Option Addr) (ai an : Nat) (aw : Int) (R : RW) (w : World) : Prop :=
 thenW (w.alloc (.cells #[.int .i64 aa, .int .i64 ak, .int .u64 aq, .int .i64 az, .int .i64 ax, .int .i64 aj, .slice al ai an, .int .u64 aw] 27)) fun b2 =>
 thenW (b2.alloc (.cells #[.slice none 0 0] 113)) fun ad =>
 ∃ (a3 : Int), ad.cell? ((blk w.heap.size).add 0) = some (.int .i64 a3) ∧
 ∃ (a8 : Int), ad.cell? ((blk w.heap.size).add 1) = some (.int .i64 a8) ∧
 ∃ (ac : Int), ad.cell? ((blk w.heap.size).add 2) = some (.int .u64 ac) ∧
 thenW (ad.alloc (.cells #[.int .u64 (IntKind.u64.wrap a3), .int .u64 (IntKind.u64.wrap a8), .int .u64 ac] 22)) fun b8 =>
 Calls Try.prog 88 #[.pointer (some (blk b2.heap.size)), .slice (some (blk ad.heap.size)) 3 3] b8 fun b7 b6 => b7 = .returned (.tuple #[]) ∧
 thenW (b6.drew) fun am =>
 ∃ (av : Option Addr) (b0 ar : Nat), am.cell? (blk b2.heap.size) = some (.slice av b0 ar) ∧
 ∃ (ao ap : Int), cellsAt am ((blk w.heap.size).add 3) [.int .i64 ao, .int .i64 ap] 0 ∧
 ∃ (a0 : Int), am.cell? ((blk w.heap.size).add 5) = some (.int .i64 a0) ∧
 Calls Try.prog 90 #[.slice av b0 ar, .agg #[.int .i64 ao, .int .i64 ap]] am fun b1 au => ∃ (ae : Option Addr) (ah af : Nat), b1 = .returned (.slice ae ah af) ∧
 au.cell? ((blk w.heap.size).add 5) = some (.int .i64 a0) ∧
 Calls Try.prog 89 #[.slice ae ah af, .int .i64 a0] au fun b4 ay => ∃ (ag : Option Addr) (a9 ab : Nat), b4 = .returned (.slice ag a9 ab) ∧
 ∃ (a5 : Option Addr) (a6 a7 : Nat), ay.cell? ((blk w.heap.size).add 6) = some (.slice a5 a6 a7) ∧
 Calls Try.prog 29 #[.slice ag a9 ab, .slice a5 a6 a7] ay fun b3 b5 => ∃ (a4 : Option Addr) (a1 a2 : Nat), b3 = .returned (.slice a4 a1 a2) ∧
 R (.slice a4 a1 a2) b5

theorem Q12.ok (a0 a4 a6 a7 a8 a1 : Int) (a3 : Option Addr) (a2 a5 : Nat) (a9 : Int) {R : RW} {w : World} (h : Q12.M a0 a4 a6 a7 a8 a1 a3 a2 a5 a9 R w) : Calls Try.prog 76 #[.agg #[.int .i64 a0, .int .i64 a4, .int .u64 a6, .int .i64 a7, .int .i64 a8, .int .i64 a1, .slice a3 a2 a5, .int .u64 a9]] w fun e w' => ∃ v, e = .returned v ∧ R v w' :=
  Q08 follows (H := []) (args := [.agg #[.int .i64 a0, .int .i64 a4, .int .u64 a6, .int .i64 a7, .int .i64 a8, .int .i64 a1, .slice a3 a2 a5, .int .u64 a9]]) (cast (by kernel_rfl) h)

def Q12.N (a3 af ah aq an ad : Int) (ag : Option Addr) (ac ae : Nat) (b1 : Int) (R : RW) (w : World) : Prop :=
 ∀ (a6 : World) (al av : Nat), Ext no w a6 → Blk a6 al 113 [.slice none 0 0] → w.heap.size ≤ al → al < a6.heap.size → Privq w al [av] →
 ∀ (a9 : World) (au : Nat), Ext no a6 a9 → Blk a9 au 22 [.int .u64 (IntKind.u64.wrap a3), .int .u64 (IntKind.u64.wrap af), .int .u64 ah] → a6.heap.size ≤ au → au < a9.heap.size →
 Calls Try.prog 88 #[.pointer (some (blk al)), .slice (some (blk au)) 3 3] a9 fun b0 ai => b0 = .returned (.tuple #[]) ∧
 Keep [av] a9 ai ∧
 ∃ (ar : Option Addr) (ao am : Nat), ai.cell? (blk al) = some (.slice ar ao am) ∧
 ∀ (aj : World), Ext no ai aj →
 Calls Try.prog 90 #[.slice ar ao am, .agg #[.int .i64 aq, .int .i64 an]] aj fun aw ak => ∃ (ab : Option Addr) (aa a5 : Nat), aw = .returned (.slice ab aa a5) ∧
 Keep [av] aj ak ∧
 Calls Try.prog 89 #[.slice ab aa a5, .int .i64 ad] ak fun ax ap => ∃ (a8 : Option Addr) (a7 a4 : Nat), ax = .returned (.slice a8 a7 a4) ∧
 Keep [av] ak ap ∧
 Calls Try.prog 29 #[.slice a8 a7 a4, .slice ag ac ae] ap fun ay az => ∃ (a1 : Option Addr) (a2 a0 : Nat), ay = .returned (.slice a1 a2 a0) ∧
 R (.slice a1 a2 a0) az

theorem Q12.up (a0 a5 a7 aa a9 a3 : Int) (a6 : Option Addr) (a2 a4 : Nat) (ae : Int) {R : RW} {w : World} (h : Q12.N a0 a5 a7 aa a9 a3 a6 a2 a4 ae R w) : Q12.M a0 a5 a7 aa a9 a3 a6 a2 a4 ae R w := by
  unfold Q12.M
  unfold Q12.N at h
  refine Q02 fun az e9 => ?_
  have a1 := Blk.of_new e9
  have b0 := ((Ext.refl no w)).size
  have ax := (Ext.refl no w).x_alloc e9
  refine Q02 fun ad an => ?_
  have b1 := a1.lt
  have a1 := a1.x_alloc an
  have h := h ad az.heap.size (w.heap.size) (ax.x_alloc an) (Blk.of_new an) (ax).size (Q0N an) (Privq.cons b0 b1 Privq.nil)
  refine ⟨a0, a1.celli 0 rfl rfl, ?_⟩
  refine ⟨a5, a1.celli 1 rfl rfl, ?_⟩
  refine ⟨a7, a1.celli 2 rfl rfl, ?_⟩
  refine Q02 fun ap am => ?_
  have a1 := a1.x_alloc am
  have h := h ap ad.heap.size ((Ext.refl no ad).x_alloc am) (Blk.of_new am) ((Ext.refl no ad)).size (Q0N am)
  refine h.mono fun b8 ar h => ?_
  obtain ⟨he, hk, h⟩ := h
  refine ⟨he, ?_⟩
  have a1 := hk.blk a1 (by simp)
  refine Q02 fun au ay => ?_
  have al := (Ext.refl no ar).x_drew ay
  have a1 := a1.x_drew ay
  obtain ⟨aw, aq, ao, av, h⟩ := h
  refine ⟨aw, aq, ao, (al).cell av id, ?_⟩
  refine ⟨aa, a9, ⟨a1.celli 3 rfl rfl, a1.celli 4 rfl rfl, trivial⟩, ?_⟩
  refine ⟨a3, a1.celli 5 rfl rfl, ?_⟩
  have h := h au al
  refine h.mono fun b2 b6 h => ?_
  obtain ⟨ak, aj, ag, he, hk, h⟩ := h
  refine ⟨ak, aj, ag, he, ?_⟩
  have a1 := hk.blk a1 (by simp)
  refine ⟨a1.celli 5 rfl rfl, ?_⟩
  refine h.mono fun b3 b5 h => ?_
  obtain ⟨ai, ah, af, he, hk, h⟩ := h
  refine ⟨ai, ah, af, he, ?_⟩
  have a1 := hk.blk a1 (by simp)
  refine ⟨a6, a2, a4, a1.celli 6 rfl rfl, ?_⟩
  refine h.mono fun b4 b7 h => ?_
  obtain ⟨ab, ac, a8, he, h⟩ := h
  refine ⟨ab, ac, a8, he, ?_⟩
  exact h

theorem Q12.go (a0 a4 a6 a7 a8 a1 : Int) (a3 : Option Addr) (a2 a5 : Nat) (a9 : Int) {R : RW} {w : World} (h : Q12.N a0 a4 a6 a7 a8 a1 a3 a2 a5 a9 R w) : Calls Try.prog 76 #[.agg #[.int .i64 a0, .int .i64 a4, .int .u64 a6, .int .i64 a7, .int .i64 a8, .int .i64 a1, .slice a3 a2 a5, .int .u64 a9]] w fun e w' => ∃ v, e = .returned v ∧ R v w' := Q12.ok a0 a4 a6 a7 a8 a1 a3 a2 a5 a9 (Q12.up a0 a4 a6 a7 a8 a1 a3 a2 a5 a9 h)
abbrev Q0S.J1 (ak : Addr) (R : RW) (al : World) : Prop :=
 thenW (al.drew) fun ah =>
 ∃ (a0 a5 a7 ac ab a2 : Int) (a3 : Option Addr) (a1 a4 : Nat) (aa : Int), cellsAt ah ak [.int .i64 a0, .int .i64 a5, .int .u64 a7, .int .i64 ac, .int .i64 ab, .int .i64 a2, .slice a3 a1 a4, .int .u64 aa] 0 ∧
 ∃ (ag : Int), ah.cell? (ak.add 7) = some (.int .u64 ag) ∧
 Calls Try.prog 76 #[.agg #[.int .i64 a0, .int .i64 a5, .int .u64 a7, .int .i64 ac, .int .i64 ab, .int .i64 a2, .slice a3 a1 a4, .int .u64 aa]] ah fun an ai => ∃ (a8 : Option Addr) (a9 a6 : Nat), an = .returned (.slice a8 a9 a6) ∧
 ai.cell? (ak.add 7) = some (.int .u64 ag) ∧
 Calls Try.prog 26 #[.slice a8 a9 a6, .int .u64 ag] ai fun aj am => ∃ (ae : Option Addr) (ad af : Nat), aj = .returned (.slice ae ad af) ∧
 R (.tuple #[.slice ae ad af, .int .i64 0]) am

def Q0S.M (a8 ae ah ak aj ad : Int) (af : Option Addr) (ac ag : Nat) (ai : Int) (R : RW) (w : World) : Prop :=
 thenW (w.alloc (.cells #[.int .i64 a8, .int .i64 ae, .int .u64 ah, .int .i64 ak, .int .i64 aj, .int .i64 ad, .slice af ac ag, .int .u64 ai] 27)) fun an =>
 ∃ (a0 a5 a7 a9 aa a2 : Int) (a4 : Option Addr) (a3 a1 : Nat) (ab : Int), cellsAt an (blk w.heap.size) [.int .i64 a0, .int .i64 a5, .int .u64 a7, .int .i64 a9, .int .i64 aa, .int .i64 a2, .slice a4 a3 a1, .int .u64 ab] 0 ∧
 Calls Try.prog 62 #[.agg #[.int .i64 a0, .int .i64 a5, .int .u64 a7, .int .i64 a9, .int .i64 aa, .int .i64 a2, .slice a4 a3 a1, .int .u64 ab]] an fun am al => ∃ (a6 : Bool), am = .returned (.bool a6) ∧
 bif !a6 then (
 R (.tuple #[.slice none 0 0, .int .i64 1]) al) else (
 Q0S.J1 (blk w.heap.size) R al)

theorem Q0S.ok (a0 a4 a6 a7 a8 a1 : Int) (a3 : Option Addr) (a2 a5 : Nat) (a9 : Int) {R : RW} {w : World} (h : Q0S.M a0 a4 a6 a7 a8 a1 a3 a2 a5 a9 R w) : Calls Try.prog 58 #[.agg #[.int .i64 a0, .int .i64 a4, .int .u64 a6, .int .i64 a7, .int .i64 a8, .int .i64 a1, .slice a3 a2 a5, .int .u64 a9]] w fun e w' => ∃ v, e = .returned v ∧ R v w' :=
  Q08 follows (H := []) (args := [.agg #[.int .i64 a0, .int .i64 a4, .int .u64 a6, .int .i64 a7, .int .i64 a8, .int .i64 a1, .slice a3 a2 a5, .int .u64 a9]]) (cast (by kernel_rfl) h)

def Q0S.N (a0 a3 a6 ad ac a2 : Int) (a4 : Option Addr) (a1 a5 : Nat) (a8 : Int) (R : RW) (w : World) : Prop :=
 ((Q0g.F a0 a3 a6 ad ac a2 a4 a1 a5 a8) = false →
 ∀ (ah : World), Ext no w ah →
 R (.tuple #[.slice none 0 0, .int .i64 1]) ah) ∧
 ((Q0g.F a0 a3 a6 ad ac a2 a4 a1 a5 a8) = true →
 ∀ (ag : World) (am : Nat), Ext no w ag → Priv w ag [am] →
 Calls Try.prog 76 #[.agg #[.int .i64 a0, .int .i64 a3, .int .u64 a6, .int .i64 ad, .int .i64 ac, .int .i64 a2, .slice a4 a1 a5, .int .u64 a8]] ag fun ak ai => ∃ (a9 : Option Addr) (aa a7 : Nat), ak = .returned (.slice a9 aa a7) ∧
 Keep [am] ag ai ∧
 Calls Try.prog 26 #[.slice a9 aa a7, .int .u64 a8] ai fun aj al => ∃ (ae : Option Addr) (ab af : Nat), aj = .returned (.slice ae ab af) ∧
 R (.tuple #[.slice ae ab af, .int .i64 0]) al)

theorem Q0S.up (a0 a3 a6 aa a9 a2 : Int) (a4 : Option Addr) (a1 a5 : Nat) (a8 : Int) {R : RW} {w : World} (h : Q0S.N a0 a3 a6 aa a9 a2 a4 a1 a5 a8 R w) : Q0S.M a0 a3 a6 aa a9 a2 a4 a1 a5 a8 R w := by
  unfold Q0S.M
  unfold Q0S.N at h
  refine Q02 fun au e9 => ?_
  have a7 := Blk.of_new e9
  have am := ((Ext.refl no w)).size
  have an := (Ext.refl no w).x_alloc e9
  refine ⟨a0, a3, a6, aa, a9, a2, a4, a1, a5, a8, ⟨a7.celli 0 rfl rfl, a7.celli 1 rfl rfl, a7.celli 2 rfl rfl, a7.celli 3 rfl rfl, a7.celli 4 rfl rfl, a7.celli 5 rfl rfl, a7.celli 6 rfl rfl, a7.celli 7 rfl rfl, trivial⟩, ?_⟩
  refine (Q0g.pure a0 a3 a6 aa a9 a2 a4 a1 a5 a8).mono fun ee ww10 ⟨he, hxx⟩ => ⟨(Q0g.F a0 a3 a6 aa a9 a2 a4 a1 a5 a8), he, ?_⟩
  have ah := an.trans hxx
  have a7 := a7.ext hxx id
  refine bif_of (fun aj => ?_) (fun aj => ?_)
  ·have h := h.1 (not_t aj)
   have h := h ww10 ah
   exact h
  have h := h.2 (not_f aj)
  unfold Q0S.J1
  refine Q02 fun ak al => ?_
  have ai := ah.x_drew al
  have a7 := a7.x_drew al
  refine ⟨a0, a3, a6, aa, a9, a2, a4, a1, a5, a8, ⟨a7.celli 0 rfl rfl, a7.celli 1 rfl rfl, a7.celli 2 rfl rfl, a7.celli 3 rfl rfl, a7.celli 4 rfl rfl, a7.celli 5 rfl rfl, a7.celli 6 rfl rfl, a7.celli 7 rfl rfl, trivial⟩, ?_⟩
  refine ⟨a8, a7.celli 7 rfl rfl, ?_⟩
  have h := h ak (w.heap.size) ai (Priv.cons am a7.lt Priv.nil)
  refine h.mono fun ap ar h => ?_
  obtain ⟨ac, ad, ab, he, hk, h⟩ := h
  refine ⟨ac, ad, ab, he, ?_⟩
  have a7 := hk.blk a7 (by simp)
  refine ⟨a7.celli 7 rfl rfl, ?_⟩
  refine h.mono fun ao aq h => ?_
  obtain ⟨af, ae, ag, he, h⟩ := h
  refine ⟨af, ae, ag, he, ?_⟩
  exact h

theorem Q0S.go (a0 a4 a6 a7 a8 a1 : Int) (a3 : Option Addr) (a2 a5 : Nat) (a9 : Int) {R : RW} {w : World} (h : Q0S.N a0 a4 a6 a7 a8 a1 a3 a2 a5 a9 R w) : Calls Try.prog 58 #[.agg #[.int .i64 a0, .int .i64 a4, .int .u64 a6, .int .i64 a7, .int .i64 a8, .int .i64 a1, .slice a3 a2 a5, .int .u64 a9]] w fun e w' => ∃ v, e = .returned v ∧ R v w' := Q0S.ok a0 a4 a6 a7 a8 a1 a3 a2 a5 a9 (Q0S.up a0 a4 a6 a7 a8 a1 a3 a2 a5 a9 h)
abbrev Q0X.J1 (cd : Int) (c8 a0 : Addr) (R : RW) (cc : World) : Prop :=
 Q01 cc ((c8.add 5).add 0) ∧
 thenW (cc.setCell ((c8.add 5).add 0) (.int .i64 cd)) fun bk =>
 ∃ (bg : Int), bk.cell? (c8.add 5) = some (.int .i64 bg) ∧
 bif bg != cd then (
 Q01 bk (a0.add 0) ∧
 thenW (bk.setCell (a0.add 0) (.int .i64 0)) fun cb =>
 Q01 cb (a0.add 1) ∧
 thenW (cb.setCell (a0.add 1) (.int .i64 0)) fun c9 =>
 Q01 c9 (a0.add 2) ∧
 thenW (c9.setCell (a0.add 2) (.int .u64 0)) fun bu =>
 Q01 bu (a0.add 3) ∧
 thenW (bu.setCell (a0.add 3) (.int .i64 0)) fun c6 =>
 Q01 c6 (a0.add 4) ∧
 thenW (c6.setCell (a0.add 4) (.int .i64 0)) fun bn =>
 Q01 bn (a0.add 5) ∧
 thenW (bn.setCell (a0.add 5) (.int .i64 0)) fun bl =>
 Q01 bl (a0.add 6) ∧
 thenW (bl.setCell (a0.add 6) (.slice none 0 0)) fun c2 =>
 Q01 c2 (a0.add 7) ∧
 thenW (c2.setCell (a0.add 7) (.int .u64 0)) fun bm =>
 ∃ (a1 ac an aw aq a4 : Int) (ag : Option Addr) (ae ah : Nat) (ay : Int), cellsAt bm a0 [.int .i64 a1, .int .i64 ac, .int .u64 an, .int .i64 aw, .int .i64 aq, .int .i64 a4, .slice ag ae ah, .int .u64 ay] 0 ∧
 R (.tuple #[.agg #[.int .i64 a1, .int .i64 ac, .int .u64 an, .int .i64 aw, .int .i64 aq, .int .i64 a4, .slice ag ae ah, .int .u64 ay], .int .i64 4]) bm) else (
 ∃ (ak b7 ba bh be b4 : Int) (ao : Option Addr) (b5 ax : Nat) (bi : Int), cellsAt bk c8 [.int .i64 ak, .int .i64 b7, .int .u64 ba, .int .i64 bh, .int .i64 be, .int .i64 b4, .slice ao b5 ax, .int .u64 bi] 0 ∧
 Calls Try.prog 62 #[.agg #[.int .i64 ak, .int .i64 b7, .int .u64 ba, .int .i64 bh, .int .i64 be, .int .i64 b4, .slice ao b5 ax, .int .u64 bi]] bk fun ca bc => ∃ (bb : Bool), ca = .returned (.bool bb) ∧
 bif !bb then (
 Q01 bc (a0.add 0) ∧
 thenW (bc.setCell (a0.add 0) (.int .i64 0)) fun bp =>
 Q01 bp (a0.add 1) ∧
 thenW (bp.setCell (a0.add 1) (.int .i64 0)) fun bq =>
 Q01 bq (a0.add 2) ∧
 thenW (bq.setCell (a0.add 2) (.int .u64 0)) fun bx =>
 Q01 bx (a0.add 3) ∧
 thenW (bx.setCell (a0.add 3) (.int .i64 0)) fun c4 =>
 Q01 c4 (a0.add 4) ∧
 thenW (c4.setCell (a0.add 4) (.int .i64 0)) fun bz =>
 Q01 bz (a0.add 5) ∧
 thenW (bz.setCell (a0.add 5) (.int .i64 0)) fun bo =>
 Q01 bo (a0.add 6) ∧
 thenW (bo.setCell (a0.add 6) (.slice none 0 0)) fun c3 =>
 Q01 c3 (a0.add 7) ∧
 thenW (c3.setCell (a0.add 7) (.int .u64 0)) fun c0 =>
 ∃ (a3 a8 al b2 au a6 : Int) (ab : Option Addr) (ai a9 : Nat) (az : Int), cellsAt c0 a0 [.int .i64 a3, .int .i64 a8, .int .u64 al, .int .i64 b2, .int .i64 au, .int .i64 a6, .slice ab ai a9, .int .u64 az] 0 ∧
 R (.tuple #[.agg #[.int .i64 a3, .int .i64 a8, .int .u64 al, .int .i64 b2, .int .i64 au, .int .i64 a6, .slice ab ai a9, .int .u64 az], .int .i64 4]) c0) else (
 ∃ (aj b1 b9 bf bj b0 : Int) (b3 : Option Addr) (b8 av : Nat) (bd : Int), cellsAt bc c8 [.int .i64 aj, .int .i64 b1, .int .u64 b9, .int .i64 bf, .int .i64 bj, .int .i64 b0, .slice b3 b8 av, .int .u64 bd] 0 ∧
 Q01 bc (a0.add 0) ∧
 thenW (bc.setCell (a0.add 0) (.int .i64 aj)) fun c7 =>
 Q01 c7 (a0.add 1) ∧
 thenW (c7.setCell (a0.add 1) (.int .i64 b1)) fun bt =>
 Q01 bt (a0.add 2) ∧
 thenW (bt.setCell (a0.add 2) (.int .u64 b9)) fun c5 =>
 Q01 c5 (a0.add 3) ∧
 thenW (c5.setCell (a0.add 3) (.int .i64 bf)) fun bv =>
 Q01 bv (a0.add 4) ∧
 thenW (bv.setCell (a0.add 4) (.int .i64 bj)) fun bw =>
 Q01 bw (a0.add 5) ∧
 thenW (bw.setCell (a0.add 5) (.int .i64 b0)) fun bs =>
 Q01 bs (a0.add 6) ∧
 thenW (bs.setCell (a0.add 6) (.slice b3 b8 av)) fun br =>
 Q01 br (a0.add 7) ∧
 thenW (br.setCell (a0.add 7) (.int .u64 bd)) fun c1 =>
 ∃ (a2 a5 am b6 ar a7 : Int) (ad : Option Addr) (af aa : Nat) (ap : Int), cellsAt c1 a0 [.int .i64 a2, .int .i64 a5, .int .u64 am, .int .i64 b6, .int .i64 ar, .int .i64 a7, .slice ad af aa, .int .u64 ap] 0 ∧
 R (.tuple #[.agg #[.int .i64 a2, .int .i64 a5, .int .u64 am, .int .i64 b6, .int .i64 ar, .int .i64 a7, .slice ad af aa, .int .u64 ap], .int .i64 0]) c1))

def Q0X.M (bk : Option Addr) (bl bp : Nat) (R : RW) (w : World) : Prop :=
 thenW (w.alloc (.cells #[.int .i64 0, .int .i64 0, .int .u64 0, .int .i64 0, .int .i64 0, .int .i64 0, .slice none 0 0, .int .u64 0] 27)) fun bn =>
 Calls Try.prog 33 #[.slice bk bl bp] bn fun bo ae => ∃ (a0 : Option Addr), bo = .returned (.pointer a0) ∧
 thenW (ae.alloc (.cells #[.int .i64 0, .int .i64 0, .int .u64 0, .int .i64 0, .int .i64 0, .int .i64 0, .slice none 0 0, .int .u64 0] 27)) fun bm =>
 Calls Try.prog 54 #[.pointer a0, .int .i64 7] bm fun bj bg => ∃ (ah : Int), bj = .returned (.int .i64 ah) ∧
 Q01 bg (((blk ae.heap.size).add 0).add 0) ∧
 thenW (bg.setCell (((blk ae.heap.size).add 0).add 0) (.int .i64 ah)) fun b9 =>
 Calls Try.prog 54 #[.pointer a0, .int .i64 199] b9 fun b4 av => ∃ (ag : Int), b4 = .returned (.int .i64 ag) ∧
 Q01 av (((blk ae.heap.size).add 1).add 0) ∧
 thenW (av.setCell (((blk ae.heap.size).add 1).add 0) (.int .i64 ag)) fun b3 =>
 Calls Try.prog 71 #[.pointer a0] b3 fun bd ax => ∃ (aj : Int), bd = .returned (.int .u64 aj) ∧
 Q01 ax (((blk ae.heap.size).add 2).add 0) ∧
 thenW (ax.setCell (((blk ae.heap.size).add 2).add 0) (.int .u64 aj)) fun b8 =>
 Calls Try.prog 99 #[.pointer a0] b8 fun b7 az => ∃ (bh bi : Int), b7 = .returned (.agg #[.int .i64 bh, .int .i64 bi]) ∧
 Q01 az (((blk ae.heap.size).add 3).add 0) ∧
 thenW (az.setCell (((blk ae.heap.size).add 3).add 0) (.int .i64 bh)) fun ar =>
 Q01 ar (((blk ae.heap.size).add 3).add 1) ∧
 thenW (ar.setCell (((blk ae.heap.size).add 3).add 1) (.int .i64 bi)) fun b2 =>
 Calls Try.prog 100 #[.pointer a0] b2 fun ba be => ∃ (ak : Int), ba = .returned (.int .i64 ak) ∧
 Calls Try.prog 55 #[.pointer a0, .int .i64 1100] be fun bb aq => ∃ (ac : Option Addr) (aa ab : Nat), bb = .returned (.slice ac aa ab) ∧
 Q01 aq (((blk ae.heap.size).add 6).add 0) ∧
 thenW (aq.setCell (((blk ae.heap.size).add 6).add 0) (.slice ac aa ab)) fun bf =>
 Calls Try.prog 71 #[.pointer a0] bf fun b6 au => ∃ (ai : Int), b6 = .returned (.int .u64 ai) ∧
 Q01 au (((blk ae.heap.size).add 7).add 0) ∧
 thenW (au.setCell (((blk ae.heap.size).add 7).add 0) (.int .u64 ai)) fun b5 =>
 Calls Try.prog 56 #[.pointer a0] b5 fun bc al => ∃ (af : Int), bc = .returned (.int .i64 af) ∧
 bif af != 0 then (
 Q01 al ((blk w.heap.size).add 0) ∧
 thenW (al.setCell ((blk w.heap.size).add 0) (.int .i64 0)) fun ap =>
 Q01 ap ((blk w.heap.size).add 1) ∧
 thenW (ap.setCell ((blk w.heap.size).add 1) (.int .i64 0)) fun aw =>
 Q01 aw ((blk w.heap.size).add 2) ∧
 thenW (aw.setCell ((blk w.heap.size).add 2) (.int .u64 0)) fun b1 =>
 Q01 b1 ((blk w.heap.size).add 3) ∧
 thenW (b1.setCell ((blk w.heap.size).add 3) (.int .i64 0)) fun an =>
 Q01 an ((blk w.heap.size).add 4) ∧
 thenW (an.setCell ((blk w.heap.size).add 4) (.int .i64 0)) fun ay =>
 Q01 ay ((blk w.heap.size).add 5) ∧
 thenW (ay.setCell ((blk w.heap.size).add 5) (.int .i64 0)) fun am =>
 Q01 am ((blk w.heap.size).add 6) ∧
 thenW (am.setCell ((blk w.heap.size).add 6) (.slice none 0 0)) fun ao =>
 Q01 ao ((blk w.heap.size).add 7) ∧
 thenW (ao.setCell ((blk w.heap.size).add 7) (.int .u64 0)) fun b0 =>
 ∃ (a1 a3 a7 ad a9 a2 : Int) (a4 : Option Addr) (a6 a5 : Nat) (a8 : Int), cellsAt b0 (blk w.heap.size) [.int .i64 a1, .int .i64 a3, .int .u64 a7, .int .i64 ad, .int .i64 a9, .int .i64 a2, .slice a4 a6 a5, .int .u64 a8] 0 ∧
 R (.tuple #[.agg #[.int .i64 a1, .int .i64 a3, .int .u64 a7, .int .i64 ad, .int .i64 a9, .int .i64 a2, .slice a4 a6 a5, .int .u64 a8], .int .i64 af]) b0) else (
 Q0X.J1 ak (blk ae.heap.size) (blk w.heap.size) R al)

theorem Q0X.ok (a1 : Option Addr) (a0 a2 : Nat) {R : RW} {w : World} (h : Q0X.M a1 a0 a2 R w) : Calls Try.prog 98 #[.slice a1 a0 a2] w fun e w' => ∃ v, e = .returned v ∧ R v w' :=
  Q08 follows (H := []) (args := [.slice a1 a0 a2]) (cast (by kernel_rfl) h)

def Q0X.N (b7 : Option Addr) (b8 b9 : Nat) (R : RW) (w : World) : Prop :=
 ∀ (av : World) (p3 : Nat), Ext no w av → Priv w av [p3] →
 Calls Try.prog 33 #[.slice b7 b8 b9] av fun ba b1 => ∃ (a1 : Option Addr), ba = .returned (.pointer a1) ∧
 Keep [p3] av b1 ∧
 ∀ (ax : World) (p8 : Nat), Ext no b1 ax → Priv b1 ax [p8] →
 Calls Try.prog 54 #[.pointer a1, .int .i64 7] ax fun b2 aq => ∃ (a7 : Int), b2 = .returned (.int .i64 a7) ∧
 Keep [p3, p8] ax aq ∧
 ∀ (ad : World), Ext (fun b => b = p8) aq ad →
 Calls Try.prog 54 #[.pointer a1, .int .i64 199] ad fun b3 am => ∃ (a5 : Int), b3 = .returned (.int .i64 a5) ∧
 Keep [p3, p8] ad am ∧
 ∀ (ae : World), Ext (fun b => b = p8) am ae →
 Calls Try.prog 71 #[.pointer a1] ae fun az ap => ∃ (a9 : Int), az = .returned (.int .u64 a9) ∧
 Keep [p3, p8] ae ap ∧
 ∀ (af : World), Ext (fun b => b = p8) ap af →
 Calls Try.prog 99 #[.pointer a1] af fun ay aj => ∃ (aw au : Int), ay = .returned (.agg #[.int .i64 aw, .int .i64 au]) ∧
 Keep [p3, p8] af aj ∧
 ∀ (ah : World), Ext (fun b => b = p8) aj ah →
 Calls Try.prog 100 #[.pointer a1] ah fun b4 ag => ∃ (a4 : Int), b4 = .returned (.int .i64 a4) ∧
 Keep [p3, p8] ah ag ∧
 Calls Try.prog 55 #[.pointer a1, .int .i64 1100] ag fun b5 al => ∃ (a3 : Option Addr) (a2 a0 : Nat), b5 = .returned (.slice a3 a2 a0) ∧
 Keep [p3, p8] ag al ∧
 ∀ (ab : World), Ext (fun b => b = p8) al ab →
 Calls Try.prog 71 #[.pointer a1] ab fun b6 ak => ∃ (a8 : Int), b6 = .returned (.int .u64 a8) ∧
 Keep [p3, p8] ab ak ∧
 ∀ (ac : World), Ext (fun b => b = p8) ak ac →
 Calls Try.prog 56 #[.pointer a1] ac fun b0 aa => ∃ (a6 : Int), b0 = .returned (.int .i64 a6) ∧
 Keep [p3, p8] ac aa ∧
 (a6 ≠ 0 →
 ∀ (ao : World), Ext (fun b => b = p3) aa ao →
 R (.tuple #[.agg #[.int .i64 0, .int .i64 0, .int .u64 0, .int .i64 0, .int .i64 0, .int .i64 0, .slice none 0 0, .int .u64 0], .int .i64 a6]) ao) ∧
 (a6 = 0 →
 (a4 ≠ a4 →
 ∀ (ar : World), Ext (fun b => b = p3 ∨ b = p8) aa ar →
 R (.tuple #[.agg #[.int .i64 0, .int .i64 0, .int .u64 0, .int .i64 0, .int .i64 0, .int .i64 0, .slice none 0 0, .int .u64 0], .int .i64 4]) ar) ∧
 (a4 = a4 →
 ((Q0g.F a7 a5 a9 aw au a4 a3 a2 a0 a8) = false →
 ∀ (ai : World), Ext (fun b => b = p3 ∨ b = p8) aa ai →
 R (.tuple #[.agg #[.int .i64 0, .int .i64 0, .int .u64 0, .int .i64 0, .int .i64 0, .int .i64 0, .slice none 0 0, .int .u64 0], .int .i64 4]) ai) ∧
 ((Q0g.F a7 a5 a9 aw au a4 a3 a2 a0 a8) = true →
 ∀ (an : World), Ext (fun b => b = p3 ∨ b = p8) aa an →
 R (.tuple #[.agg #[.int .i64 a7, .int .i64 a5, .int .u64 a9, .int .i64 aw, .int .i64 au, .int .i64 a4, .slice a3 a2 a0, .int .u64 a8], .int .i64 0]) an)))

theorem Q0X.up (dr : Option Addr) (ds el : Nat) {R : RW} {w : World} (h : Q0X.N dr ds el R w) : Q0X.M dr ds el R w := by
  unfold Q0X.M
  unfold Q0X.N at h
  refine Q02 fun f1 e2 => ?_
  have a0 := Blk.of_new e2
  have er := ((Ext.refl no w)).size
  have et := (Ext.refl no w).x_alloc e2
  have h := h f1 (w.heap.size) et (Priv.cons er a0.lt Priv.nil)
  refine h.mono fun f3 a8 h => ?_
  obtain ⟨aw, he, hk, h⟩ := h
  refine ⟨aw, he, ?_⟩
  have a0 := hk.blk a0 (by simp)
  refine Q02 fun f2 e7 => ?_
  have a6 := Blk.of_new e7
  have ew := ((Ext.refl no a8)).size
  have ab := Nat.ne_of_lt a0.lt
  have a0 := a0.x_alloc e7
  have ev := (Ext.refl no a8).x_alloc e7
  have h := h f2 (a8.heap.size) ev (Priv.cons ew a6.lt Priv.nil)
  refine h.mono fun f0 aj h => ?_
  obtain ⟨a2, he, hk, h⟩ := h
  refine ⟨a2, he, ?_⟩
  have a0 := hk.blk a0 (by simp)
  have a6 := hk.blk a6 (by simp)
  have dk : Ext (fun b => b = a8.heap.size) aj aj := ((Ext.refl no aj)).none
  refine ⟨a6.cani 0 rfl rfl, Q02 fun az cg => ?_⟩
  have b4 := dk.x_set (q := a8.heap.size) (i := 0) rfl (.inl rfl) cg
  have a0 := a0.oth (q := a8.heap.size) (i := 0) rfl ab cg
  have a6 : Blk az a8.heap.size 27 [.int .i64 a2, .int .i64 0, .int .u64 0, .int .i64 0, .int .i64 0, .int .i64 0, .slice none 0 0, .int .u64 0] := a6.seti 0 rfl cg
  have h := h az b4
  refine h.mono fun es ah h => ?_
  obtain ⟨a1, he, hk, h⟩ := h
  refine ⟨a1, he, ?_⟩
  have a0 := hk.blk a0 (by simp)
  have a6 := hk.blk a6 (by simp)
  have d3 : Ext (fun b => b = a8.heap.size) ah ah := ((Ext.refl no ah)).none
  refine ⟨a6.cani 1 rfl rfl, Q02 fun ap c7 => ?_⟩
  have b5 := d3.x_set (q := a8.heap.size) (i := 1) rfl (.inl rfl) c7
  have a0 := a0.oth (q := a8.heap.size) (i := 1) rfl ab c7
  have a6 : Blk ap a8.heap.size 27 [.int .i64 a2, .int .i64 a1, .int .u64 0, .int .i64 0, .int .i64 0, .int .i64 0, .slice none 0 0, .int .u64 0] := a6.seti 1 rfl c7
  have h := h ap b5
  refine h.mono fun eq ak h => ?_
  obtain ⟨a7, he, hk, h⟩ := h
  refine ⟨a7, he, ?_⟩
  have a0 := hk.blk a0 (by simp)
  have a6 := hk.blk a6 (by simp)
  have bd : Ext (fun b => b = a8.heap.size) ak ak := ((Ext.refl no ak)).none
  refine ⟨a6.cani 2 rfl rfl, Q02 fun ar cj => ?_⟩
  have ck := bd.x_set (q := a8.heap.size) (i := 2) rfl (.inl rfl) cj
  have a0 := a0.oth (q := a8.heap.size) (i := 2) rfl ab cj
  have a6 : Blk ar a8.heap.size 27 [.int .i64 a2, .int .i64 a1, .int .u64 a7, .int .i64 0, .int .i64 0, .int .i64 0, .slice none 0 0, .int .u64 0] := a6.seti 2 rfl cj
  have h := h ar ck
  refine h.mono fun ez af h => ?_
  obtain ⟨ad, ae, he, hk, h⟩ := h
  refine ⟨ad, ae, he, ?_⟩
  have a0 := hk.blk a0 (by simp)
  have a6 := hk.blk a6 (by simp)
  have cc : Ext (fun b => b = a8.heap.size) af af := ((Ext.refl no af)).none
  refine ⟨a6.cani 3 rfl rfl, Q02 fun cp ci => ?_⟩
  have dd := cc.x_set (q := a8.heap.size) (i := 3) rfl (.inl rfl) ci
  have a0 := a0.oth (q := a8.heap.size) (i := 3) rfl ab ci
  have a6 : Blk cp a8.heap.size 27 [.int .i64 a2, .int .i64 a1, .int .u64 a7, .int .i64 ad, .int .i64 0, .int .i64 0, .slice none 0 0, .int .u64 0] := a6.seti 3 rfl ci
  refine ⟨a6.cani 4 rfl rfl, Q02 fun b1 cq => ?_⟩
  have co := dd.x_set (q := a8.heap.size) (i := 4) rfl (.inl rfl) cq
  have a0 := a0.oth (q := a8.heap.size) (i := 4) rfl ab cq
  have a6 : Blk b1 a8.heap.size 27 [.int .i64 a2, .int .i64 a1, .int .u64 a7, .int .i64 ad, .int .i64 ae, .int .i64 0, .slice none 0 0, .int .u64 0] := a6.seti 4 rfl cq
  have h := h b1 co
  refine h.mono fun ex eu h => ?_
  obtain ⟨a9, he, hk, h⟩ := h
  refine ⟨a9, he, ?_⟩
  have a0 := hk.blk a0 (by simp)
  have a6 := hk.blk a6 (by simp)
  refine h.mono fun ey al h => ?_
  obtain ⟨a5, a3, a4, he, hk, h⟩ := h
  refine ⟨a5, a3, a4, he, ?_⟩
  have a0 := hk.blk a0 (by simp)
  have a6 := hk.blk a6 (by simp)
  have bf : Ext (fun b => b = a8.heap.size) al al := ((Ext.refl no al)).none
  refine ⟨a6.cani 6 rfl rfl, Q02 fun ax cf => ?_⟩
  have di := bf.x_set (q := a8.heap.size) (i := 6) rfl (.inl rfl) cf
  have a0 := a0.oth (q := a8.heap.size) (i := 6) rfl ab cf
  have a6 : Blk ax a8.heap.size 27 [.int .i64 a2, .int .i64 a1, .int .u64 a7, .int .i64 ad, .int .i64 ae, .int .i64 0, .slice a5 a3 a4, .int .u64 0] := a6.seti 6 rfl cf
  have h := h ax di
  refine h.mono fun ep ag h => ?_
  obtain ⟨aa, he, hk, h⟩ := h
  refine ⟨aa, he, ?_⟩
  have a0 := hk.blk a0 (by simp)
  have a6 := hk.blk a6 (by simp)
  have bj : Ext (fun b => b = a8.heap.size) ag ag := ((Ext.refl no ag)).none
  refine ⟨a6.cani 7 rfl rfl, Q02 fun ay d8 => ?_⟩
  have cy := bj.x_set (q := a8.heap.size) (i := 7) rfl (.inl rfl) d8
  have a0 := a0.oth (q := a8.heap.size) (i := 7) rfl ab d8
  have a6 : Blk ay a8.heap.size 27 [.int .i64 a2, .int .i64 a1, .int .u64 a7, .int .i64 ad, .int .i64 ae, .int .i64 0, .slice a5 a3 a4, .int .u64 aa] := a6.seti 7 rfl d8
  have h := h ay cy
  refine h.mono fun eo ac h => ?_
  obtain ⟨ai, he, hk, h⟩ := h
  refine ⟨ai, he, ?_⟩
  have a0 := hk.blk a0 (by simp)
  have a6 := hk.blk a6 (by simp)
  refine bif_of (fun bk => ?_) (fun bk => ?_)
  ·have h := h.1 (bne_t bk)
   have bi : Ext (fun b => b = w.heap.size) ac ac := ((Ext.refl no ac)).none
   refine ⟨a0.cani 0 rfl rfl, Q02 fun be dn => ?_⟩
   have bt := bi.x_set (q := w.heap.size) (i := 0) rfl (.inl rfl) dn
   have a0 : Blk be w.heap.size 27 [.int .i64 0, .int .i64 0, .int .u64 0, .int .i64 0, .int .i64 0, .int .i64 0, .slice none 0 0, .int .u64 0] := a0.seti 0 rfl dn
   refine ⟨a0.cani 1 rfl rfl, Q02 fun c5 eb => ?_⟩
   have bq := bt.x_set (q := w.heap.size) (i := 1) rfl (.inl rfl) eb
   have a0 : Blk c5 w.heap.size 27 [.int .i64 0, .int .i64 0, .int .u64 0, .int .i64 0, .int .i64 0, .int .i64 0, .slice none 0 0, .int .u64 0] := a0.seti 1 rfl eb
   refine ⟨a0.cani 2 rfl rfl, Q02 fun b2 ea => ?_⟩
   have d2 := bq.x_set (q := w.heap.size) (i := 2) rfl (.inl rfl) ea
   have a0 : Blk b2 w.heap.size 27 [.int .i64 0, .int .i64 0, .int .u64 0, .int .i64 0, .int .i64 0, .int .i64 0, .slice none 0 0, .int .u64 0] := a0.seti 2 rfl ea
   refine ⟨a0.cani 3 rfl rfl, Q02 fun bx dp => ?_⟩
   have d7 := d2.x_set (q := w.heap.size) (i := 3) rfl (.inl rfl) dp
   have a0 : Blk bx w.heap.size 27 [.int .i64 0, .int .i64 0, .int .u64 0, .int .i64 0, .int .i64 0, .int .i64 0, .slice none 0 0, .int .u64 0] := a0.seti 3 rfl dp
   refine ⟨a0.cani 4 rfl rfl, Q02 fun c8 e3 => ?_⟩
   have bn := d7.x_set (q := w.heap.size) (i := 4) rfl (.inl rfl) e3
   have a0 : Blk c8 w.heap.size 27 [.int .i64 0, .int .i64 0, .int .u64 0, .int .i64 0, .int .i64 0, .int .i64 0, .slice none 0 0, .int .u64 0] := a0.seti 4 rfl e3
   refine ⟨a0.cani 5 rfl rfl, Q02 fun ba en => ?_⟩
   have dc := bn.x_set (q := w.heap.size) (i := 5) rfl (.inl rfl) en
   have a0 : Blk ba w.heap.size 27 [.int .i64 0, .int .i64 0, .int .u64 0, .int .i64 0, .int .i64 0, .int .i64 0, .slice none 0 0, .int .u64 0] := a0.seti 5 rfl en
   refine ⟨a0.cani 6 rfl rfl, Q02 fun c1 ec => ?_⟩
   have bp := dc.x_set (q := w.heap.size) (i := 6) rfl (.inl rfl) ec
   have a0 : Blk c1 w.heap.size 27 [.int .i64 0, .int .i64 0, .int .u64 0, .int .i64 0, .int .i64 0, .int .i64 0, .slice none 0 0, .int .u64 0] := a0.seti 6 rfl ec
   refine ⟨a0.cani 7 rfl rfl, Q02 fun ao e5 => ?_⟩
   have bm := bp.x_set (q := w.heap.size) (i := 7) rfl (.inl rfl) e5
   have a0 : Blk ao w.heap.size 27 [.int .i64 0, .int .i64 0, .int .u64 0, .int .i64 0, .int .i64 0, .int .i64 0, .slice none 0 0, .int .u64 0] := a0.seti 7 rfl e5
   refine ⟨0, 0, 0, 0, 0, 0, none, 0, 0, 0, ⟨a0.celli 0 rfl rfl, a0.celli 1 rfl rfl, a0.celli 2 rfl rfl, a0.celli 3 rfl rfl, a0.celli 4 rfl rfl, a0.celli 5 rfl rfl, a0.celli 6 rfl rfl, a0.celli 7 rfl rfl, trivial⟩, ?_⟩
   have h := h ao bm
   exact h
  have h := h.2 (bne_f bk)
  unfold Q0X.J1
  have c0 : Ext (fun b => b = a8.heap.size) ac ac := ((Ext.refl no ac)).none
  refine ⟨a6.cani 5 rfl rfl, Q02 fun aq cb => ?_⟩
  have b0 := c0.x_set (q := a8.heap.size) (i := 5) rfl (.inl rfl) cb
  have a0 := a0.oth (q := a8.heap.size) (i := 5) rfl ab cb
  have a6 : Blk aq a8.heap.size 27 [.int .i64 a2, .int .i64 a1, .int .u64 a7, .int .i64 ad, .int .i64 ae, .int .i64 a9, .slice a5 a3 a4, .int .u64 aa] := a6.seti 5 rfl cb
  refine ⟨a9, a6.celli 5 rfl rfl, ?_⟩
  refine bif_of (fun d6 => ?_) (fun d6 => ?_)
  ·have h := h.1 (bne_t d6)
   have de : Ext (fun b => b = w.heap.size ∨ b = a8.heap.size) ac aq := (b0).mono fun _ h _ => .inr h
   refine ⟨a0.cani 0 rfl rfl, Q02 fun cl dt => ?_⟩
   have c3 := de.x_set (q := w.heap.size) (i := 0) rfl (.inl (.inl rfl)) dt
   have a0 : Blk cl w.heap.size 27 [.int .i64 0, .int .i64 0, .int .u64 0, .int .i64 0, .int .i64 0, .int .i64 0, .slice none 0 0, .int .u64 0] := a0.seti 0 rfl dt
   refine ⟨a0.cani 1 rfl rfl, Q02 fun c4 dv => ?_⟩
   have ch := c3.x_set (q := w.heap.size) (i := 1) rfl (.inl (.inl rfl)) dv
   have a0 : Blk c4 w.heap.size 27 [.int .i64 0, .int .i64 0, .int .u64 0, .int .i64 0, .int .i64 0, .int .i64 0, .slice none 0 0, .int .u64 0] := a0.seti 1 rfl dv
   refine ⟨a0.cani 2 rfl rfl, Q02 fun dj ek => ?_⟩
   have bs := ch.x_set (q := w.heap.size) (i := 2) rfl (.inl (.inl rfl)) ek
   have a0 : Blk dj w.heap.size 27 [.int .i64 0, .int .i64 0, .int .u64 0, .int .i64 0, .int .i64 0, .int .i64 0, .slice none 0 0, .int .u64 0] := a0.seti 2 rfl ek
   refine ⟨a0.cani 3 rfl rfl, Q02 fun da ej => ?_⟩
   have cv := bs.x_set (q := w.heap.size) (i := 3) rfl (.inl (.inl rfl)) ej
   have a0 : Blk da w.heap.size 27 [.int .i64 0, .int .i64 0, .int .u64 0, .int .i64 0, .int .i64 0, .int .i64 0, .slice none 0 0, .int .u64 0] := a0.seti 3 rfl ej
   refine ⟨a0.cani 4 rfl rfl, Q02 fun d4 eh => ?_⟩
   have ct := cv.x_set (q := w.heap.size) (i := 4) rfl (.inl (.inl rfl)) eh
   have a0 : Blk d4 w.heap.size 27 [.int .i64 0, .int .i64 0, .int .u64 0, .int .i64 0, .int .i64 0, .int .i64 0, .slice none 0 0, .int .u64 0] := a0.seti 4 rfl eh
   refine ⟨a0.cani 5 rfl rfl, Q02 fun bb em => ?_⟩
   have bv := ct.x_set (q := w.heap.size) (i := 5) rfl (.inl (.inl rfl)) em
   have a0 : Blk bb w.heap.size 27 [.int .i64 0, .int .i64 0, .int .u64 0, .int .i64 0, .int .i64 0, .int .i64 0, .slice none 0 0, .int .u64 0] := a0.seti 5 rfl em
   refine ⟨a0.cani 6 rfl rfl, Q02 fun c6 e6 => ?_⟩
   have cm := bv.x_set (q := w.heap.size) (i := 6) rfl (.inl (.inl rfl)) e6
   have a0 : Blk c6 w.heap.size 27 [.int .i64 0, .int .i64 0, .int .u64 0, .int .i64 0, .int .i64 0, .int .i64 0, .slice none 0 0, .int .u64 0] := a0.seti 6 rfl e6
   refine ⟨a0.cani 7 rfl rfl, Q02 fun au du => ?_⟩
   have dh := cm.x_set (q := w.heap.size) (i := 7) rfl (.inl (.inl rfl)) du
   have a0 : Blk au w.heap.size 27 [.int .i64 0, .int .i64 0, .int .u64 0, .int .i64 0, .int .i64 0, .int .i64 0, .slice none 0 0, .int .u64 0] := a0.seti 7 rfl du
   refine ⟨0, 0, 0, 0, 0, 0, none, 0, 0, 0, ⟨a0.celli 0 rfl rfl, a0.celli 1 rfl rfl, a0.celli 2 rfl rfl, a0.celli 3 rfl rfl, a0.celli 4 rfl rfl, a0.celli 5 rfl rfl, a0.celli 6 rfl rfl, a0.celli 7 rfl rfl, trivial⟩, ?_⟩
   have h := h au dh
   exact h
  have h := h.2 (bne_f d6)
  refine ⟨a2, a1, a7, ad, ae, a9, a5, a3, a4, aa, ⟨a6.celli 0 rfl rfl, a6.celli 1 rfl rfl, a6.celli 2 rfl rfl, a6.celli 3 rfl rfl, a6.celli 4 rfl rfl, a6.celli 5 rfl rfl, a6.celli 6 rfl rfl, a6.celli 7 rfl rfl, trivial⟩, ?_⟩
  refine (Q0g.pure a2 a1 a7 ad ae a9 a5 a3 a4 aa).mono fun ee ww60 ⟨he, hxx⟩ => ⟨(Q0g.F a2 a1 a7 ad ae a9 a5 a3 a4 aa), he, ?_⟩
  have am := b0.trans hxx.none
  have a0 := a0.ext hxx id
  have a6 := a6.ext hxx id
  refine bif_of (fun b7 => ?_) (fun b7 => ?_)
  ·have h := h.1 (not_t b7)
   have cs : Ext (fun b => b = w.heap.size ∨ b = a8.heap.size) ac ww60 := (am).mono fun _ h _ => .inr h
   refine ⟨a0.cani 0 rfl rfl, Q02 fun cw ef => ?_⟩
   have d0 := cs.x_set (q := w.heap.size) (i := 0) rfl (.inl (.inl rfl)) ef
   have a0 : Blk cw w.heap.size 27 [.int .i64 0, .int .i64 0, .int .u64 0, .int .i64 0, .int .i64 0, .int .i64 0, .slice none 0 0, .int .u64 0] := a0.seti 0 rfl ef
   refine ⟨a0.cani 1 rfl rfl, Q02 fun db dq => ?_⟩
   have bw := d0.x_set (q := w.heap.size) (i := 1) rfl (.inl (.inl rfl)) dq
   have a0 : Blk db w.heap.size 27 [.int .i64 0, .int .i64 0, .int .u64 0, .int .i64 0, .int .i64 0, .int .i64 0, .slice none 0 0, .int .u64 0] := a0.seti 1 rfl dq
   refine ⟨a0.cani 2 rfl rfl, Q02 fun br ei => ?_⟩
   have ca := bw.x_set (q := w.heap.size) (i := 2) rfl (.inl (.inl rfl)) ei
   have a0 : Blk br w.heap.size 27 [.int .i64 0, .int .i64 0, .int .u64 0, .int .i64 0, .int .i64 0, .int .i64 0, .slice none 0 0, .int .u64 0] := a0.seti 2 rfl ei
   refine ⟨a0.cani 3 rfl rfl, Q02 fun bc dy => ?_⟩
   have cn := ca.x_set (q := w.heap.size) (i := 3) rfl (.inl (.inl rfl)) dy
   have a0 : Blk bc w.heap.size 27 [.int .i64 0, .int .i64 0, .int .u64 0, .int .i64 0, .int .i64 0, .int .i64 0, .slice none 0 0, .int .u64 0] := a0.seti 3 rfl dy
   refine ⟨a0.cani 4 rfl rfl, Q02 fun c2 e8 => ?_⟩
   have bo := cn.x_set (q := w.heap.size) (i := 4) rfl (.inl (.inl rfl)) e8
   have a0 : Blk c2 w.heap.size 27 [.int .i64 0, .int .i64 0, .int .u64 0, .int .i64 0, .int .i64 0, .int .i64 0, .slice none 0 0, .int .u64 0] := a0.seti 4 rfl e8
   refine ⟨a0.cani 5 rfl rfl, Q02 fun b3 e1 => ?_⟩
   have bg := bo.x_set (q := w.heap.size) (i := 5) rfl (.inl (.inl rfl)) e1
   have a0 : Blk b3 w.heap.size 27 [.int .i64 0, .int .i64 0, .int .u64 0, .int .i64 0, .int .i64 0, .int .i64 0, .slice none 0 0, .int .u64 0] := a0.seti 5 rfl e1
   refine ⟨a0.cani 6 rfl rfl, Q02 fun ce e4 => ?_⟩
   have cr := bg.x_set (q := w.heap.size) (i := 6) rfl (.inl (.inl rfl)) e4
   have a0 : Blk ce w.heap.size 27 [.int .i64 0, .int .i64 0, .int .u64 0, .int .i64 0, .int .i64 0, .int .i64 0, .slice none 0 0, .int .u64 0] := a0.seti 6 rfl e4
   refine ⟨a0.cani 7 rfl rfl, Q02 fun av e0 => ?_⟩
   have bu := cr.x_set (q := w.heap.size) (i := 7) rfl (.inl (.inl rfl)) e0
   have a0 : Blk av w.heap.size 27 [.int .i64 0, .int .i64 0, .int .u64 0, .int .i64 0, .int .i64 0, .int .i64 0, .slice none 0 0, .int .u64 0] := a0.seti 7 rfl e0
   refine ⟨0, 0, 0, 0, 0, 0, none, 0, 0, 0, ⟨a0.celli 0 rfl rfl, a0.celli 1 rfl rfl, a0.celli 2 rfl rfl, a0.celli 3 rfl rfl, a0.celli 4 rfl rfl, a0.celli 5 rfl rfl, a0.celli 6 rfl rfl, a0.celli 7 rfl rfl, trivial⟩, ?_⟩
   have h := h av bu
   exact h
  have h := h.2 (not_f b7)
  refine ⟨a2, a1, a7, ad, ae, a9, a5, a3, a4, aa, ⟨a6.celli 0 rfl rfl, a6.celli 1 rfl rfl, a6.celli 2 rfl rfl, a6.celli 3 rfl rfl, a6.celli 4 rfl rfl, a6.celli 5 rfl rfl, a6.celli 6 rfl rfl, a6.celli 7 rfl rfl, trivial⟩, ?_⟩
  have cu : Ext (fun b => b = w.heap.size ∨ b = a8.heap.size) ac ww60 := (am).mono fun _ h _ => .inr h
  refine ⟨a0.cani 0 rfl rfl, Q02 fun bz dw => ?_⟩
  have b8 := cu.x_set (q := w.heap.size) (i := 0) rfl (.inl (.inl rfl)) dw
  have a0 : Blk bz w.heap.size 27 [.int .i64 a2, .int .i64 0, .int .u64 0, .int .i64 0, .int .i64 0, .int .i64 0, .slice none 0 0, .int .u64 0] := a0.seti 0 rfl dw
  refine ⟨a0.cani 1 rfl rfl, Q02 fun bh dm => ?_⟩
  have dg := b8.x_set (q := w.heap.size) (i := 1) rfl (.inl (.inl rfl)) dm
  have a0 : Blk bh w.heap.size 27 [.int .i64 a2, .int .i64 a1, .int .u64 0, .int .i64 0, .int .i64 0, .int .i64 0, .slice none 0 0, .int .u64 0] := a0.seti 1 rfl dm
  refine ⟨a0.cani 2 rfl rfl, Q02 fun cx dz => ?_⟩
  have d1 := dg.x_set (q := w.heap.size) (i := 2) rfl (.inl (.inl rfl)) dz
  have a0 : Blk cx w.heap.size 27 [.int .i64 a2, .int .i64 a1, .int .u64 a7, .int .i64 0, .int .i64 0, .int .i64 0, .slice none 0 0, .int .u64 0] := a0.seti 2 rfl dz
  refine ⟨a0.cani 3 rfl rfl, Q02 fun b9 dx => ?_⟩
  have bl := d1.x_set (q := w.heap.size) (i := 3) rfl (.inl (.inl rfl)) dx
  have a0 : Blk b9 w.heap.size 27 [.int .i64 a2, .int .i64 a1, .int .u64 a7, .int .i64 ad, .int .i64 0, .int .i64 0, .slice none 0 0, .int .u64 0] := a0.seti 3 rfl dx
  refine ⟨a0.cani 4 rfl rfl, Q02 fun cz ed => ?_⟩
  have d9 := bl.x_set (q := w.heap.size) (i := 4) rfl (.inl (.inl rfl)) ed
  have a0 : Blk cz w.heap.size 27 [.int .i64 a2, .int .i64 a1, .int .u64 a7, .int .i64 ad, .int .i64 ae, .int .i64 0, .slice none 0 0, .int .u64 0] := a0.seti 4 rfl ed
  refine ⟨a0.cani 5 rfl rfl, Q02 fun cd dl => ?_⟩
  have df := d9.x_set (q := w.heap.size) (i := 5) rfl (.inl (.inl rfl)) dl
  have a0 : Blk cd w.heap.size 27 [.int .i64 a2, .int .i64 a1, .int .u64 a7, .int .i64 ad, .int .i64 ae, .int .i64 a9, .slice none 0 0, .int .u64 0] := a0.seti 5 rfl dl
  refine ⟨a0.cani 6 rfl rfl, Q02 fun b6 e9 => ?_⟩
  have c9 := df.x_set (q := w.heap.size) (i := 6) rfl (.inl (.inl rfl)) e9
  have a0 : Blk b6 w.heap.size 27 [.int .i64 a2, .int .i64 a1, .int .u64 a7, .int .i64 ad, .int .i64 ae, .int .i64 a9, .slice a5 a3 a4, .int .u64 0] := a0.seti 6 rfl e9
  refine ⟨a0.cani 7 rfl rfl, Q02 fun an eg => ?_⟩
  have d5 := c9.x_set (q := w.heap.size) (i := 7) rfl (.inl (.inl rfl)) eg
  have a0 : Blk an w.heap.size 27 [.int .i64 a2, .int .i64 a1, .int .u64 a7, .int .i64 ad, .int .i64 ae, .int .i64 a9, .slice a5 a3 a4, .int .u64 aa] := a0.seti 7 rfl eg
  refine ⟨a2, a1, a7, ad, ae, a9, a5, a3, a4, aa, ⟨a0.celli 0 rfl rfl, a0.celli 1 rfl rfl, a0.celli 2 rfl rfl, a0.celli 3 rfl rfl, a0.celli 4 rfl rfl, a0.celli 5 rfl rfl, a0.celli 6 rfl rfl, a0.celli 7 rfl rfl, trivial⟩, ?_⟩
  have h := h an d5
  exact h

theorem Q0X.go (a1 : Option Addr) (a0 a2 : Nat) {R : RW} {w : World} (h : Q0X.N a1 a0 a2 R w) : Calls Try.prog 98 #[.slice a1 a0 a2] w fun e w' => ∃ v, e = .returned v ∧ R v w' := Q0X.ok a1 a0 a2 (Q0X.up a1 a0 a2 h)
def Q0W.M (ai av b4 b9 b7 ar : Int) (au : Option Addr) (aq ao : Nat) (b8 an al ap b2 b5 aj : Int) (ag : Option Addr) (ah am : Nat) (b3 : Int) (R : RW) (w : World) : Prop :=
 thenW (w.alloc (.cells #[.int .i64 ai, .int .i64 av, .int .u64 b4, .int .i64 b9, .int .i64 b7, .int .i64 ar, .slice au aq ao, .int .u64 b8] 27)) fun a3 =>
 thenW (a3.alloc (.cells #[.int .i64 an, .int .i64 al, .int .u64 ap, .int .i64 b2, .int .i64 b5, .int .i64 aj, .slice ag ah am, .int .u64 b3] 27)) fun bb =>
 thenW (bb.drew) fun b6 =>
 ∃ (ae : Option Addr) (a7 aa : Nat), b6.cell? ((blk w.heap.size).add 6) = some (.slice ae a7 aa) ∧
 ∃ (a5 : Option Addr) (ad ab : Nat), b6.cell? ((blk a3.heap.size).add 6) = some (.slice a5 ad ab) ∧
 Calls Try.prog 59 #[.slice ae a7 aa, .slice a5 ad ab] b6 fun ba a0 => ∃ (a8 : Bool), ba = .returned (.bool a8) ∧
 bif a8 then (
 ∃ (a2 : Int), a0.cell? ((blk w.heap.size).add 0) = some (.int .i64 a2) ∧
 ∃ (a1 : Int), a0.cell? ((blk a3.heap.size).add 0) = some (.int .i64 a1) ∧
 bif a2 == a1 then (
 ∃ (a4 : Int), a0.cell? ((blk w.heap.size).add 1) = some (.int .i64 a4) ∧
 ∃ (a9 : Int), a0.cell? ((blk a3.heap.size).add 1) = some (.int .i64 a9) ∧
 bif a4 == a9 then (
 ∃ (af : Int), a0.cell? ((blk w.heap.size).add 2) = some (.int .u64 af) ∧
 ∃ (ak : Int), a0.cell? ((blk a3.heap.size).add 2) = some (.int .u64 ak) ∧
 bif af == ak then (
 ∃ (aw ax : Int), cellsAt a0 ((blk w.heap.size).add 3) [.int .i64 aw, .int .i64 ax] 0 ∧
 ∃ (ay az : Int), cellsAt a0 ((blk a3.heap.size).add 3) [.int .i64 ay, .int .i64 az] 0 ∧
 ∃ (bc : Bool), (binOp .eql 24 (.agg #[.int .i64 aw, .int .i64 ax]) (.agg #[.int .i64 ay, .int .i64 az])).run Try.prog a0 = .ok (.bool bc) a0 ∧
 bif bc then (
 ∃ (ac : Int), a0.cell? ((blk w.heap.size).add 5) = some (.int .i64 ac) ∧
 ∃ (a6 : Int), a0.cell? ((blk a3.heap.size).add 5) = some (.int .i64 a6) ∧
 bif ac == a6 then (
 ∃ (b0 : Int), a0.cell? ((blk w.heap.size).add 7) = some (.int .u64 b0) ∧
 ∃ (b1 : Int), a0.cell? ((blk a3.heap.size).add 7) = some (.int .u64 b1) ∧
 R (.bool (b0 == b1)) a0) else (
 R (.bool false) a0)) else (
 R (.bool false) a0)) else (
 R (.bool false) a0)) else (
 R (.bool false) a0)) else (
 R (.bool false) a0)) else (
 R (.bool false) a0)

theorem Q0W.ok (a2 ac af aj ah aa : Int) (ab : Option Addr) (a9 a8 : Nat) (ai a6 a4 a7 ad ag a3 : Int) (a0 : Option Addr) (a1 a5 : Nat) (ae : Int) {R : RW} {w : World} (h : Q0W.M a2 ac af aj ah aa ab a9 a8 ai a6 a4 a7 ad ag a3 a0 a1 a5 ae R w) : Calls Try.prog 30 #[.agg #[.int .i64 a2, .int .i64 ac, .int .u64 af, .int .i64 aj, .int .i64 ah, .int .i64 aa, .slice ab a9 a8, .int .u64 ai], .agg #[.int .i64 a6, .int .i64 a4, .int .u64 a7, .int .i64 ad, .int .i64 ag, .int .i64 a3, .slice a0 a1 a5, .int .u64 ae]] w fun e w' => ∃ v, e = .returned v ∧ R v w' :=
  Q08 follows (H := []) (args := [.agg #[.int .i64 a2, .int .i64 ac, .int .u64 af, .int .i64 aj, .int .i64 ah, .int .i64 aa, .slice ab a9 a8, .int .u64 ai], .agg #[.int .i64 a6, .int .i64 a4, .int .u64 a7, .int .i64 ad, .int .i64 ag, .int .i64 a3, .slice a0 a1 a5, .int .u64 ae]]) (cast (by kernel_rfl) h)

def Q0W.N (a2 a8 ac ak aj a7 : Int) (ah : Option Addr) (ag af : Nat) (am a5 a4 a6 aa ad a3 : Int) (a9 : Option Addr) (ab ae : Nat) (al : Int) (R : RW) (w : World) : Prop :=
 ∀ (ai : World) (ap ao : Nat), Ext no w ai → Priv w ai [ap, ao] →
 Calls Try.prog 59 #[.slice ah ag af, .slice a9 ab ae] ai fun an a1 => ∃ (a0 : Bool), an = .returned (.bool a0) ∧
 Keep [ap, ao] ai a1 ∧
 (a0 = true →
 (a2 = a5 →
 (a8 = a4 →
 (ac = a6 →
 (ak = aa ∧ aj = ad →
 (a7 = a3 →
 R (.bool (am == al)) a1) ∧
 (a7 ≠ a3 →
 R (.bool false) a1)) ∧
 (¬ (ak = aa ∧ aj = ad) →
 R (.bool false) a1)) ∧
 (ac ≠ a6 →
 R (.bool false) a1)) ∧
 (a8 ≠ a4 →
 R (.bool false) a1)) ∧
 (a2 ≠ a5 →
 R (.bool false) a1)) ∧
 (a0 = false →
 R (.bool false) a1)

theorem Q0W.up (a2 ae ah aj ai ab : Int) (ac : Option Addr) (a9 a7 : Nat) (al a4 a5 a8 aa ad a3 : Int) (a0 : Option Addr) (a1 a6 : Nat) (ag : Int) {R : RW} {w : World} (h : Q0W.N a2 ae ah aj ai ab ac a9 a7 al a4 a5 a8 aa ad a3 a0 a1 a6 ag R w) : Q0W.M a2 ae ah aj ai ab ac a9 a7 al a4 a5 a8 aa ad a3 a0 a1 a6 ag R w := by
  unfold Q0W.M
  unfold Q0W.N at h
  refine Q02 fun az b3 => ?_
  have af := Blk.of_new b3
  have b6 := ((Ext.refl no w)).size
  have an := (Ext.refl no w).x_alloc b3
  refine Q02 fun b7 ax => ?_
  have ak := Blk.of_new ax
  have b8 := (an).size
  have b2 := Nat.ne_of_lt af.lt
  have af := af.x_alloc ax
  have ao := an.x_alloc ax
  refine Q02 fun b0 ay => ?_
  have b1 := ao.x_drew ay
  have af := af.x_drew ay
  have ak := ak.x_drew ay
  refine ⟨ac, a9, a7, af.celli 6 rfl rfl, ?_⟩
  refine ⟨a0, a1, a6, ak.celli 6 rfl rfl, ?_⟩
  have h := h b0 (w.heap.size) (az.heap.size) b1 (Priv.cons b6 af.lt (Priv.cons b8 ak.lt Priv.nil))
  refine h.mono fun b4 b5 h => ?_
  obtain ⟨am, he, hk, h⟩ := h
  refine ⟨am, he, ?_⟩
  have af := hk.blk af (by simp)
  have ak := hk.blk ak (by simp)
  refine bif_fo (fun ar => ?_) (fun ar => ?_)
  ·have h := h.2 ar
   exact h
  have h := h.1 ar
  refine ⟨a2, af.celli 0 rfl rfl, ?_⟩
  refine ⟨a4, ak.celli 0 rfl rfl, ?_⟩
  refine bif_fo (fun aw => ?_) (fun aw => ?_)
  ·have h := h.2 (beq_f aw)
   exact h
  have h := h.1 (beq_t aw)
  refine ⟨ae, af.celli 1 rfl rfl, ?_⟩
  refine ⟨a5, ak.celli 1 rfl rfl, ?_⟩
  refine bif_fo (fun au => ?_) (fun au => ?_)
  ·have h := h.2 (beq_f au)
   exact h
  have h := h.1 (beq_t au)
  refine ⟨ah, af.celli 2 rfl rfl, ?_⟩
  refine ⟨a8, ak.celli 2 rfl rfl, ?_⟩
  refine bif_fo (fun aq => ?_) (fun aq => ?_)
  ·have h := h.2 (beq_f aq)
   exact h
  have h := h.1 (beq_t aq)
  refine ⟨aj, ai, ⟨af.celli 3 rfl rfl, af.celli 4 rfl rfl, trivial⟩, ?_⟩
  refine ⟨aa, ad, ⟨ak.celli 3 rfl rfl, ak.celli 4 rfl rfl, trivial⟩, ?_⟩
  refine ⟨_, Q4i aj ai aa ad _, ?_⟩
  refine bif_fo (fun av => ?_) (fun av => ?_)
  ·have h := h.2 (of_decide_eq_false av)
   exact h
  have h := h.1 (of_decide_eq_true av)
  refine ⟨ab, af.celli 5 rfl rfl, ?_⟩
  refine ⟨a3, ak.celli 5 rfl rfl, ?_⟩
  refine bif_fo (fun ap => ?_) (fun ap => ?_)
  ·have h := h.2 (beq_f ap)
   exact h
  have h := h.1 (beq_t ap)
  refine ⟨al, af.celli 7 rfl rfl, ?_⟩
  refine ⟨ag, ak.celli 7 rfl rfl, ?_⟩
  exact h

theorem Q0W.go (a2 ac af aj ah aa : Int) (ab : Option Addr) (a9 a8 : Nat) (ai a6 a4 a7 ad ag a3 : Int) (a0 : Option Addr) (a1 a5 : Nat) (ae : Int) {R : RW} {w : World} (h : Q0W.N a2 ac af aj ah aa ab a9 a8 ai a6 a4 a7 ad ag a3 a0 a1 a5 ae R w) : Calls Try.prog 30 #[.agg #[.int .i64 a2, .int .i64 ac, .int .u64 af, .int .i64 aj, .int .i64 ah, .int .i64 aa, .slice ab a9 a8, .int .u64 ai], .agg #[.int .i64 a6, .int .i64 a4, .int .u64 a7, .int .i64 ad, .int .i64 ag, .int .i64 a3, .slice a0 a1 a5, .int .u64 ae]] w fun e w' => ∃ v, e = .returned v ∧ R v w' := Q0W.ok a2 ac af aj ah aa ab a9 a8 ai a6 a4 a7 ad ag a3 a0 a1 a5 ae (Q0W.up a2 ac af aj ah aa ab a9 a8 ai a6 a4 a7 ad ag a3 a0 a1 a5 ae h)
theorem Q0W.run (a2 ac af aj ah aa : Int) (ab : Option Addr) (a9 a8 : Nat) (ai a6 a4 a7 ad ag a3 : Int) (a0 : Option Addr) (a1 a5 : Nat) (ae : Int) {V : Value} {Q : World → Prop} {w : World} (h : Q0W.N a2 ac af aj ah aa ab a9 a8 ai a6 a4 a7 ad ag a3 a0 a1 a5 ae (fun v w' => v = V ∧ Q w') w) : Calls Try.prog 30 #[.agg #[.int .i64 a2, .int .i64 ac, .int .u64 af, .int .i64 aj, .int .i64 ah, .int .i64 aa, .slice ab a9 a8, .int .u64 ai], .agg #[.int .i64 a6, .int .i64 a4, .int .u64 a7, .int .i64 ad, .int .i64 ag, .int .i64 a3, .slice a0 a1 a5, .int .u64 ae]] w (Ret V Q) := (Q0W.go a2 ac af aj ah aa ab a9 a8 ai a6 a4 a7 ad ag a3 a0 a1 a5 ae h).mono fun e w' ⟨v, he, hv, hq⟩ => ⟨by rw [he, hv], hq⟩

theorem keep1 {w w' : World} {m : Nat → Prop} {p : Nat} (h : Ext m w w') (hp : ¬ m p) : Keep [p] w w' := h.keep fun q hq _ => by simp at hq; subst hq; exact hp
theorem keep2 {w w' : World} {m : Nat → Prop} {p q : Nat} (h : Ext m w w') (hp : ¬ m p) (hq : ¬ m q) : Keep [p, q] w w' := h.keep fun r hr _ => by
  simp at hr
  rcases hr with rfl | rfl
  · exact hp
  · exact hq
theorem OwnB.up {N M : Nat} {w : World} {a : Option Addr} {c : Nat} {bs : List UInt8} (h : OwnB N w a c bs) (hM : M ≤ N) : OwnB M w a c bs := ⟨h.own, fun ad ha => ⟨Nat.le_trans hM (h.fr ad ha).1, (h.fr ad ha).2⟩⟩
theorem app {w0 wi w1 : World} {N : Nat} {a xa : Option Addr} {c xc : Nat} {l x : List UInt8} (hB : OwnB N wi a c l) (X : Ext no w0 wi) (h0 : w0.heap.size ≤ N) (hN : N ≤ wi.heap.size) (hx : Ext no wi w1) (hO : RowAt w1 xa (bytesV x)) (hl : l.length + x.length ≤ 100000000) :
    ∃ a' c' w', (Builtin.append_ #[25, 25] 25 #[.slice a l.length c, .slice xa x.length xc]).run Try.prog w1 = .ok (.slice a' (l ++ x).length c') w' ∧ OwnB N w' a' c' (l ++ x) ∧ Ext no w0 w' ∧ Ext (fun b => N ≤ b) w1 w' ∧ N ≤ w'.heap.size := by
  obtain ⟨a', c', w', hr, hO2, hx2⟩ := (hB.no hx).append (t := 25) (ty := 25) Try.underlying25 (Nat.le_trans hN hx.size) (xc := xc) hO hl
  exact ⟨a', c', w', hr, hO2, (X.trans hx).then hx2 fun b hb => .inr (Nat.le_trans h0 hb), hx2, Nat.le_trans hN (Nat.le_trans hx.size hx2.size)⟩
section
variable {w w' : World} {a : Option Addr} {c N p : Nat} {bs : List UInt8} {k : Int}
theorem Q5v (h : RowAt w a (bytesV bs)) (hl : bs.length ≤ 900000) {t s : Int} (h0 : -9223372036854775808 ≤ t) (h1 : t < 9223372036854775808) (hs : s < 9223372036854775808) :
    Calls Try.prog 90 #[.slice a bs.length c, .agg #[.int .i64 t, .int .i64 s]] w (fun e w' => ∃ a' c', e = .returned (.slice a' (bs ++ stampL t s).length c') ∧ OwnB w.heap.size w' a' c' (bs ++ stampL t s) ∧ Ext no w w') := by
  refine (Q16.go _ _ _ _ _ (R := fun v w' => ∃ a' c', v = (.slice a' (bs ++ stampL t s).length c') ∧ OwnB w.heap.size w' a' c' (bs ++ stampL t s) ∧ Ext no w w') ?_).mono fun e w' ⟨v, he, a, c, hv, hw⟩ => ⟨a, c, by rw [he, hv], hw⟩
  unfold Q16.N
  intro w5 p6 hx5 hp
  refine (W.Int_spec (h.no hx5) (by omega) h0 h1).mono fun e w9 ⟨a9, c9, he, hO, hx9⟩ => ⟨a9, _, c9, he, hx9.kept, ?_⟩
  have e1 : IntKind.u64.wrap (if (0 : Int) > s then 0 else s) = ((s.toNat : Nat) : Int) := by split <;> rw [wu64 (by omega) (by omega)] <;> omega
  rw [e1]
  have hz := W.numL_le (zig t)
  refine (W.Num_spec hO.row (by rw [List.length_append]; omega) (n := s.toNat) (by omega)).mono fun e w12 ⟨a12, c12, he, hO2, hx12⟩ => ⟨a12, _, c12, he, a12, c12, ?_, ?_, (hx5.trans hx9).trans hx12⟩
  · unfold stampL; rw [List.append_assoc]
  · unfold stampL; rw [← List.append_assoc]; exact OwnB.up hO2 (Nat.le_trans hx5.size hx9.size)
theorem Q53 {q : Nat} (hq : Blk w q 113 [.slice a bs.length c]) (h : RowAt w a (bytesV bs)) (ho : ∀ ad, a = some ad → ad.block ≠ q) {la : Option Addr} {lc : Nat} {xs : List Nat} (hx : RowAt w la (xs.map fun (n : Nat) => Value.int .u64 (n : Int))) (hla : ∀ ad, la = some ad → ad.block ≠ q)
    (hxs : ∀ n ∈ xs, n < 18446744073709551616) (hl : bs.length + xs.length * 10 ≤ 900000) :
    Calls Try.prog 88 #[.pointer (some (blk q)), .slice la xs.length lc] w (fun e w' => e = .returned (.tuple #[]) ∧ ∃ a' c', Blk w' q 113 [.slice a' (bs ++ xs.flatMap numL).length c'] ∧ RowAt w' a' (bytesV (bs ++ xs.flatMap numL)) ∧ (∀ ad, a' = some ad → ad.block ≠ q ∧ (a' = a ∨ w.heap.size ≤ ad.block)) ∧ Ext (fun b => b = q) w w') := by
  refine (Q0x.go _ _ _ _ (R := fun v w' => v = .tuple #[] ∧ ∃ a' c', Blk w' q 113 [.slice a' (bs ++ xs.flatMap numL).length c'] ∧ RowAt w' a' (bytesV (bs ++ xs.flatMap numL)) ∧ (∀ ad, a' = some ad → ad.block ≠ q ∧ (a' = a ∨ w.heap.size ≤ ad.block)) ∧ Ext (fun b => b = q) w w') ?_).mono fun e w' ⟨v, he, hv, hw⟩ => ⟨by rw [he, hv], hw⟩
  unfold Q0x.N
  refine ⟨fun k vs w1 => ∃ (t : Nat) (a1 : Option Addr) (c1 : Nat) (l1 : List UInt8), vs = [.int .i64 t] ∧ k + t = xs.length ∧ l1 = bs ++ (xs.take t).flatMap numL ∧ l1.length ≤ bs.length + t * 10 ∧ Blk w1 q 113 [.slice a1 l1.length c1] ∧ RowAt w1 a1 (bytesV l1) ∧ (∀ ad, a1 = some ad → ad.block ≠ q ∧ (a1 = a ∨ w.heap.size ≤ ad.block)) ∧ Ext (fun b => b = q) w w1, xs.length,
    ⟨0, a, c, bs, rfl, rfl, by simp, by omega, hq, h, fun ad ha => ⟨ho ad ha, .inl rfl⟩, Ext.refl _ _⟩, ?_⟩
  rintro k w1 i ⟨t, a1, c1, l1, hi, hk, hl1, hlen, hb, hr, hf, X⟩
  simp only [List.cons.injEq, Value.int.injEq, true_and, and_true] at hi
  subst hi
  refine ⟨fun ht => ?_, fun ht => ?_⟩
  · have htl : t < xs.length := by omega
    have hx1 := hx.ext' X fun _ ad ha => hla ad ha
    obtain ⟨ad, rfl⟩ := hx1.addr (by intro e; rw [List.map_eq_nil_iff] at e; subst e; simp at htl)
    have hnb := hxs xs[t] (List.getElem_mem htl)
    refine ⟨ad, rfl, by omega, by omega, xs[t], by rw [Int.toNat_natCast, Nat.mul_one]; exact hx1.at_ (by simp [htl]), blk q, rfl, a1, _, c1, hb.cella (i := 0) rfl, ?_⟩
    refine (W.Num_spec hr (by omega) hnb).mono fun e w16 ⟨a2, c2, he, hO, hx16⟩ => ⟨a2, _, c2, he, (hb.ext hx16 id).cana (i := 0) rfl, Q02 fun w18 e18 => ?_⟩
    have hb18 := (hb.ext hx16 id).seti 0 rfl e18
    have x18 : Ext (fun b => b = q) w16 w18 := (Ext.refl (fun b => b = q) w16).x_set (q := q) (i := 0) rfl (.inl rfl) e18
    have hne : ∀ ad, a2 = some ad → ad.block ≠ q := fun ad ha e => by have := (hO.fr ad ha).1; have := hb.lt; omega
    have htk : xs.take (t + 1) = xs.take t ++ [xs[t]] := by rw [List.take_add_one]; simp [htl]
    have hnl := W.numL_le xs[t]
    refine ⟨by omega, by omega, k - 1, by omega, t + 1, a2, c2, l1 ++ numL xs[t], rfl, by omega, ?_, by rw [List.length_append]; omega, hb18, hO.row.ext' x18 fun _ ad ha => hne ad ha, fun ad ha => ⟨hne ad ha, .inr (Nat.le_trans X.size (hO.fr ad ha).1)⟩, (X.trans hx16.none).trans x18⟩
    rw [hl1, htk, List.flatMap_append, List.append_assoc]; simp
  · obtain rfl : t = xs.length := by omega
    rw [List.take_length] at hl1
    subst hl1
    exact ⟨rfl, a1, c1, hb, hr, hf, X⟩
theorem Q55 {e : Ent} (hr : Q0u e = true) (hf : e.fit) {ba : Option Addr} {bc : Nat} (hb : RowAt w ba (bytesV e.body)) :
    Calls Try.prog 76 #[entV e ba bc] w (fun x w' => ∃ a' c', x = .returned (.slice a' (textL e).length c') ∧ OwnB w.heap.size w' a' c' (textL e) ∧ Ext no w w') := by
  obtain ⟨h1, h2, h3, h4, h5, h6, h7, h8, h9, h10, h11⟩ := (Q19 e).1 hr
  have f1 := hf.pv0; have f2 := hf.pv1
  refine (Q12.go e.w e.i e.pv e.t e.tw e.ep ba e.body.length bc e.sg (R := fun v w' => ∃ a' c', v = (.slice a' (textL e).length c') ∧ OwnB w.heap.size w' a' c' (textL e) ∧ Ext no w w') ?_).mono fun x w' ⟨v, he, a, c, hv, hw⟩ => ⟨a, c, by rw [he, hv], hw⟩
  unfold Q12.N
  intro w10 q p X10 hq hq1 hq2 hp w13 q2 X13 hq3 hq4 hq5
  rw [wu64 (n := e.w) h1 (by omega), wu64 (n := e.i) h3 (by omega)] at hq3
  have hrow : RowAt w13 (some (blk q2)) (([e.w.toNat, e.i.toNat, e.pv.toNat] : List Nat).map fun (n : Nat) => Value.int .u64 (n : Int)) := by
    have := RowAt.of_blk hq3
    simp only [List.map_cons, List.map_nil, Int.toNat_of_nonneg h1, Int.toNat_of_nonneg h3, Int.toNat_of_nonneg f1]
    exact this
  have hp1 := hp.one
  refine (Q53 (bs := []) (q := q) (hq.ext X13 id) (RowAt.nil _ _) (fun ad ha => by cases ha) hrow (fun ad ha => by cases ha; simp only [blk]; omega) (by simp; omega) (by simp)).mono fun x w16 ⟨he, a1, c1, hb1, hr1, hf1, X16⟩ => ?_
  have hw16 : Ext no w w16 := (X10.trans X13).then X16 fun b hb => .inr (by omega)
  have hpq : p ≠ q := by omega
  have e1 : ([] ++ [e.w.toNat, e.i.toNat, e.pv.toNat].flatMap numL) = numL e.w.toNat ++ numL e.i.toNat ++ numL e.pv.toNat := by simp
  rw [e1] at hr1 hb1
  refine ⟨he, keep1 X16 hpq, a1, _, c1, hb1.cell (i := 0) rfl, fun w17 X17 => ?_⟩
  have g1 := W.numL_le e.w.toNat; have g2 := W.numL_le e.i.toNat; have g3 := W.numL_le e.pv.toNat; have g4 := Q2U e.t e.tw; have g5 := W.numL_le (zig e.ep)
  have h17 := hw16.trans X17
  refine (Q5v (hr1.no X17) (by simp only [List.length_append]; omega) (by omega) (by omega) (by omega)).mono fun x w22 ⟨a2, c2, he, hO2, X22⟩ => ⟨a2, _, c2, he, X22.kept, ?_⟩
  refine (W.Int_spec hO2.row (by simp only [List.length_append]; omega) (by omega) (by omega)).mono fun x w25 ⟨a3, c3, he, hO3, X25⟩ => ⟨a3, _, c3, he, X25.kept, ?_⟩
  have h25 := (h17.trans X22).trans X25
  refine (W.Bytes_spec hO3.row (by simp only [List.length_append]; omega) (hb.no h25) (by omega)).mono fun x w28 ⟨a4, c4, he, hO4, X28⟩ => ⟨a4, _, c4, he, a4, c4, ?_, ?_, h25.trans X28⟩
  · unfold textL; simp only [List.append_assoc]
  · unfold textL; rw [← List.append_assoc]; exact OwnB.up hO4 h25.size
theorem Q4c {e : Ent} (hf : Q0u e = true → e.fit) {ba : Option Addr} {bc : Nat} (hb : RowAt w ba (bytesV e.body)) :
    Calls Try.prog 58 #[entV e ba bc] w (fun x w' => Ext no w w' ∧ ((Q0u e = false ∧ x = .returned (.tuple #[.slice none 0 0, .int .i64 1])) ∨ (Q0u e = true ∧ ∃ a' c', x = .returned (.tuple #[.slice a' (bytesL e).length c', .int .i64 0]) ∧ OwnB w.heap.size w' a' c' (bytesL e)))) := by
  refine (Q0S.go e.w e.i e.pv e.t e.tw e.ep ba e.body.length bc e.sg (R := fun v w' => Ext no w w' ∧ ((Q0u e = false ∧ v = (.tuple #[.slice none 0 0, .int .i64 1])) ∨ (Q0u e = true ∧ ∃ a' c', v = (.tuple #[.slice a' (bytesL e).length c', .int .i64 0]) ∧ OwnB w.heap.size w' a' c' (bytesL e)))) ?_).mono fun x w' ⟨v, he, hx, hv⟩ => ⟨hx, hv.imp (fun ⟨h1, h2⟩ => ⟨h1, by rw [he, h2]⟩) fun ⟨h1, a, c, h2, h3⟩ => ⟨h1, a, c, by rw [he, h2], h3⟩⟩
  unfold Q0S.N
  rw [Q2w]
  refine ⟨fun h w10 X => ⟨X, .inl ⟨h, rfl⟩⟩, fun h w13 p X hp => ?_⟩
  have hf := hf h
  have f3 := hf.sg0; have f4 := hf.sg1
  have hbl := ((Q19 e).1 h).2.2.2.2.2.2.2.2.2.1
  have htl := Q3z e
  refine (Q55 h hf (hb.no X)).mono fun x w17 ⟨a1, c1, he, hO, X17⟩ => ⟨a1, _, c1, he, X17.kept, ?_⟩
  rw [← Int.toNat_of_nonneg f3]
  refine (W.Num_spec hO.row (by omega) (n := e.sg.toNat) (by omega)).mono fun x w20 ⟨a2, c2, he, hO2, X20⟩ => ⟨a2, _, c2, he, (X.trans X17).trans X20, .inr ⟨h, a2, c2, rfl, OwnB.up hO2 (X.trans X17).size⟩⟩
/-! ### reading -/
theorem Q5E (h : Rd w p bs k) (hl : bs.length < 1000000) :
    Calls Try.prog 99 #[.pointer (some (blk p))] w (GivesW (.agg #[.int .i64 (stampR (bs, k)).1.1, .int .i64 (stampR (bs, k)).1.2]) fun w' => Rd w' p (stampR (bs, k)).2.1 (stampR (bs, k)).2.2 ∧ Ext (fun b => b = p) w w') := by
  refine (Q11.run _ (Q := fun w' => Rd w' p (stampR (bs, k)).2.1 (stampR (bs, k)).2.2 ∧ Ext (fun b => b = p) w w') ?_)
  unfold Q11.N
  intro w2 p3 X2 hp
  have hp := hp.one
  have hpp : p < p3 := by have := h.lt; omega
  refine (W.RInt_spec (h.no X2) hl).mono fun e w6 ⟨he, h6, X6⟩ => ⟨_, he, keep1 X6 (by omega), fun w7 X7 => ?_⟩
  have h7 := h6.up X7 fun b hb => by omega
  have hlen := Q2K (bs, k)
  have hc := W.Count_spec h7 (by simp only at hlen; omega) (m := 7) (by decide)
  refine hc.mono fun e w10 ⟨he, h10, X10⟩ => ⟨_, he, keep1 X10 (by omega), fun w13 X13 => ?_⟩
  have h13 := h10.up X13 fun b hb => by omega
  refine ⟨rfl, h13, ?_⟩
  have y1 : Ext (fun b => b = p) w w7 := (X2.none.trans X6).then X7 fun b hb => .inr (by omega)
  exact (y1.trans X10).then X13 fun b hb => .inr (by omega)
theorem Read_spec (h : RowAt w a (bytesV bs)) (hc : bs.length ≤ c) (hl : bs.length < 1000000) :
    Calls Try.prog 98 #[.slice a bs.length c] w (fun e w' => ∃ a' c', e = .returned (.tuple #[entV (readE bs).1 a' c', .int .i64 (readE bs).2]) ∧ RowAt w' a' (bytesV (readE bs).1.body) ∧ (∀ ad, a' = some ad → w.heap.size ≤ ad.block) ∧ Ext no w w') := by
  refine (Q0X.go _ _ _ (R := fun v w' => ∃ a' c', v = (.tuple #[entV (readE bs).1 a' c', .int .i64 (readE bs).2]) ∧ RowAt w' a' (bytesV (readE bs).1.body) ∧ (∀ ad, a' = some ad → w.heap.size ≤ ad.block) ∧ Ext no w w') ?_).mono fun e w' ⟨v, he, a, c, hv, hw⟩ => ⟨a, c, by rw [he, hv], hw⟩
  unfold Q0X.N
  intro w2 p3 X2 hp3
  have hp3 := hp3.one
  obtain ⟨L1, L2, L3, L4, L5, L6, L7⟩ := Q4p (bs, 0)
  simp only at L1 L2 L3 L4 L5 L6 L7
  refine (W.Read_spec (h.no X2) hc).mono fun e w6 ⟨q, he, hr6, hq6, X6⟩ => ⟨_, he, X6.kept, fun w7 p8 X7 hp8 => ?_⟩
  have hp8 := hp8.one
  have hq7 := hr6.lt
  have s6 := X6.size
  have Y7 : Ext no w w7 := (X2.trans X6).trans X7
  -- what is changed is new
  have new : ∀ {w1 w2 : World}, Ext no w w1 → Ext (fun b => b = q) w1 w2 → Ext no w w2 := fun h1 h2 => h1.then h2 fun b hb => .inr (by omega)
  have new8 : ∀ {w1 w2 : World}, Ext no w w1 → Ext (fun b => b = p8) w1 w2 → Ext no w w2 := fun h1 h2 => h1.then h2 fun b hb => .inr (by omega)
  have new3 : ∀ {w1 w2 : World}, Ext no w w1 → Ext (fun b => b = p3) w1 w2 → Ext no w w2 := fun h1 h2 => h1.then h2 fun b hb => .inr (by omega)
  have up8 : ∀ b, b = p8 → q < b := fun b hb => by omega
  have k8 : ¬ (p8 = q) := by omega
  have k3 : ¬ (p3 = q) := by omega
  refine (W.Count_spec (hr6.no X7) hl (m := 7) (by decide)).mono fun e w11 ⟨he, hr11, X11⟩ => ⟨_, he, keep2 X11 k3 k8, fun w12 X12 => ?_⟩
  refine (W.Count_spec (bs := (entR1 (bs, 0)).1) (k := (entR1 (bs, 0)).2) (hr11.up X12 up8) (by omega) (m := 199) (by decide)).mono fun e w15 ⟨he, hr15, X15⟩ => ⟨_, he, keep2 X15 k3 k8, fun w16 X16 => ?_⟩
  refine (W.RNum_spec (bs := (entR2 (bs, 0)).1) (k := (entR2 (bs, 0)).2) (hr15.up X16 up8) (by omega)).mono fun e w19 ⟨he, hr19, X19⟩ => ⟨_, he, keep2 X19 k3 k8, fun w20 X20 => ?_⟩
  refine (Q5E (bs := (entR3 (bs, 0)).1) (k := (entR3 (bs, 0)).2) (hr19.up X20 up8) (by omega)).mono fun e w24 ⟨he, hr24, X24⟩ => ⟨_, _, he, keep2 X24 k3 k8, fun w26 X26 => ?_⟩
  refine (W.RInt_spec (bs := (entR4 (bs, 0)).1) (k := (entR4 (bs, 0)).2) (hr24.up X26 up8) (by omega)).mono fun e w29 ⟨he, hr29, X29⟩ => ⟨_, he, keep2 X29 k3 k8, ?_⟩
  refine (Q2P (bs := (entR5 (bs, 0)).1) (k := (entR5 (bs, 0)).2) hr29 (by omega) (m := 1100) (by decide)).mono fun e w32 ⟨ba, bc, he, hO, hr32, X32⟩ => ⟨ba, _, bc, he, keep2 X32 k3 k8, fun w33 X33 => ?_⟩
  have Y29 := new (new8 (new (new8 (new (new8 (new (new8 (new Y7 X11) X12) X15) X16) X19) X20) X24) X26) X29
  have hO33 : OwnB w29.heap.size w33 ba bc (bytesR 1100 (entR5 (bs, 0))).1 := hO.ext X33 fun ad ha hb => by have := (hO.fr ad ha).1; have := X29.size; have := X26.size; have := X24.size; have := X20.size; have := X19.size; have := X16.size; have := X15.size; have := X12.size; have := X11.size; omega
  have s29 : w7.heap.size ≤ w29.heap.size := by have := X29.size; have := X26.size; have := X24.size; have := X20.size; have := X19.size; have := X16.size; have := X15.size; have := X12.size; have := X11.size; omega
  refine (W.RNum_spec (bs := (entR6 (bs, 0)).1) (k := (entR6 (bs, 0)).2) (hr32.up X33 up8) (by omega)).mono fun e w36 ⟨he, hr36, X36⟩ => ⟨_, he, keep2 X36 k3 k8, fun w37 X37 => ?_⟩
  have hO37 : OwnB w29.heap.size w37 ba bc (bytesR 1100 (entR5 (bs, 0))).1 := (hO33.ext X36 fun ad ha hb => by have := (hO.fr ad ha).1; have := X7.size; omega).ext X37 fun ad ha hb => by have := (hO.fr ad ha).1; omega
  refine (W.Done_spec (bs := (entR7 (bs, 0)).1) (k := (entR7 (bs, 0)).2) (hr36.up X37 up8)).mono fun e w40 ⟨he, hw⟩ => ⟨_, he, Keep.refl _ _ |> fun k => by subst hw; exact k, ?_⟩
  subst hw
  have Y40 := new8 (new (new8 (new Y29 X32) X33) X36) X37
  have hF := Q2w (entR (bs, 0)) ba bc
  have hF' : Q0g.F ((countR 7 (bs, 0)).1 : Int) ((countR 199 (entR1 (bs, 0))).1 : Int) ((numR (entR2 (bs, 0))).1 : Int) (stampR (entR3 (bs, 0))).1.1 ((stampR (entR3 (bs, 0))).1.2 : Int) (intR (entR4 (bs, 0))).1 ba (bytesR 1100 (entR5 (bs, 0))).1.length bc ((numR (entR6 (bs, 0))).1 : Int) = Q0u (entR (bs, 0)) := hF
  have new38 : ∀ {w1 w2 : World}, Ext no w w1 → Ext (fun b => b = p3 ∨ b = p8) w1 w2 → Ext no w w2 := fun h1 h2 => h1.then h2 fun b hb => .inr (by omega)
  refine ⟨fun hd w49 X49 => ?_, fun hd => ⟨fun hn => absurd rfl hn, fun _ => ⟨fun hr w69 X69 => ?_, fun hr w77 X77 => ?_⟩⟩⟩
  · have : readE bs = (Ent.zero, doneR (entR7 (bs, 0))) := by unfold readE; rw [if_pos hd]
    rw [this]
    exact ⟨none, 0, rfl, RowAt.nil _ _, fun ad ha => by (cases ha), new3 Y40 X49⟩
  · rw [hF'] at hr
    have : readE bs = (Ent.zero, 4) := by unfold readE; rw [if_neg (by rw [hd]; simp), if_neg (by rw [hr]; simp)]
    rw [this]
    exact ⟨none, 0, rfl, RowAt.nil _ _, fun ad ha => by (cases ha), new38 Y40 X69⟩
  · rw [hF'] at hr
    have : readE bs = (entR (bs, 0), 0) := by unfold readE; rw [if_neg (by rw [hd]; simp), if_pos hr]
    rw [this]
    refine ⟨ba, bc, rfl, ?_, fun ad ha => ?_, new38 Y40 X77⟩
    · refine (hO37.ext X77 fun ad ha hb => ?_).row
      have := (hO.fr ad ha).1; have := X7.size; omega
    · have := (hO.fr ad ha).1; have := Y7.size; omega
end
end Go.Proofs.Ytoempemllkebkaa
namespace Go.Proofs.Ytoempemllkebkaa
open Go Go.Mx Go.Proofs
open W (OwnB Rd RdR GivesW numR countR doneR zig unzig intR)
theorem litB {w w1 : World} {t e : TypeId} (hs : Try.prog.underlying t = some (.slice e)) (he : Try.prog.underlying e = some (.int .u8)) (bs : List UInt8) {q : Nat} (X : Ext no w w1) (hb : Blk w1 q e (bytesV bs)) (hq : w.heap.size ≤ q) :
    ∃ w2, (convert t t (.slice (some (blk q)) bs.length bs.length)).run Try.prog w1 = .ok (.slice (some (blk q)) bs.length bs.length) w2 ∧ RowAt w2 (some (blk q)) (bytesV bs) ∧ Ext no w w2 :=
  ⟨_, Q50 hs he hb, (RowAt.of_blk hb).freeze _ _, X.freeze (.inr hq) _⟩
section
variable {w w' : World} {a : Option Addr} {c N p : Nat} {bs : List UInt8} {k : Int}
theorem Q4C {b : Option Addr} {d : Nat} {x y : List UInt8} (ha : RowAt w a (bytesV x)) (hb : RowAt w b (bytesV y)) :
    Calls Try.prog 59 #[.slice a x.length c, .slice b y.length d] w (Ret (.bool (decide (x = y))) fun w' => w' = w) := by
  refine Q0P.run _ _ _ _ _ _ ?_
  unfold Q0P.N
  refine ⟨_, Q4h Try.underlying25 Try.underlying5 Try.underlying9 ha, _, Q4h Try.underlying25 Try.underlying5 Try.underlying9 hb, ?_, rfl⟩
  have key := Q5i x y
  have e : ∀ s : List UInt8, (ByteArray.mk s.toArray).toList = s := fun s => by
    simp
  congr 1
  rw [e, e, Bool.eq_iff_iff]
  simp
theorem Q2r {e f : Ent} {b : Option Addr} {d : Nat} (ha : RowAt w a (bytesV e.body)) (hb : RowAt w b (bytesV f.body)) :
    Calls Try.prog 30 #[entV e a c, entV f b d] w (Ret (.bool (decide (e = f))) fun w' => Ext no w w') := by
  refine Q0W.run _ _ _ _ _ _ _ _ _ _ _ _ _ _ _ _ _ _ _ _ ?_
  unfold Q0W.N
  intro w19 p20 p21 X hp
  refine (Q4C (ha.no X) (hb.no X)).mono fun x w24 ⟨he, hw⟩ => ⟨_, he, by subst hw; exact Keep.refl _ _, ?_⟩
  subst hw
  obtain ⟨e1, e2, e3, e4, e5, e6, e7, e8⟩ := e
  obtain ⟨f1, f2, f3, f4, f5, f6, f7, f8⟩ := f
  simp only [Ent.mk.injEq]
  refine ⟨fun h => ?_, fun h => ?_⟩
  · have h := of_decide_eq_true h
    subst h
    refine ⟨fun c1 => ⟨fun c2 => ⟨fun c3 => ⟨fun c4 => ⟨fun c5 => ?_, fun c5 => ?_⟩, fun c4 => ?_⟩, fun c3 => ?_⟩, fun c2 => ?_⟩, fun c1 => ?_⟩ <;> refine ⟨?_, X⟩
    · congr 1; rw [Bool.eq_iff_iff, beq_iff_eq, decide_eq_true_eq]; exact ⟨fun h => ⟨c1, c2, c3, c4.1, c4.2, c5, rfl, h⟩, fun h => h.2.2.2.2.2.2.2⟩
    · rw [decide_eq_false fun h => c5 h.2.2.2.2.2.1]
    · rw [decide_eq_false fun h => c4 ⟨h.2.2.2.1, h.2.2.2.2.1⟩]
    · rw [decide_eq_false fun h => c3 h.2.2.1]
    · rw [decide_eq_false fun h => c2 h.2.1]
    · rw [decide_eq_false fun h => c1 h.1]
  · have h := of_decide_eq_false h
    exact ⟨by rw [decide_eq_false fun q => h q.2.2.2.2.2.2.1], X⟩
end
end Go.Proofs.Ytoempemllkebkaa