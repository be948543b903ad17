/- The reference's numbers, bytes and reader; bytes held beside each other. -/
import Derived.Test.YtoempemllkebkaaZA
import Derived.Test.YtoempemllkebkaaProg
import Derived.KernelRfl
import Derived.Laws.StructEq
set_option linter.unusedVariables false
set_option linter.unusedSimpArgs false
set_option maxRecDepth 20000
namespace Go.Proofs.Ytoempemllkebkaa.W
open Go Go.Mx Go.Proofs
def wSame.M (a7 : Option Addr) (a2 aa : Nat) (a9 : Option Addr) (a5 ab : Nat) (R : RW) (w : World) : Prop :=
 bif (a2 : Int) != (a5 : Int) then (
 R (.bool false) w) else (
 ∃ (I0 : Nat → List Value → World → Prop) (m4 : Nat), I0 m4 [.int .i64 0] w ∧ ∀ (m5 : Nat) (a1 : World) (i3 : Int), I0 m5 [.int .i64 i3] a1 →
 bif decide (i3 < (a2 : Int)) then (
 thenW (a1.drew) fun a0 =>
 a7.elim False fun a8 =>
 0 ≤ (i3 : Int) ∧ (i3 : Int) < (a2 : Int) ∧
 ∃ (x9 : Int), a0.cell? (a8.add (Int.toNat i3 * 1)) = some (.int .u8 x9) ∧
 a9.elim False fun a6 =>
 0 ≤ (i3 : Int) ∧ (i3 : Int) < (a5 : Int) ∧
 ∃ (a4 : Int), a0.cell? (a6.add (Int.toNat i3 * 1)) = some (.int .u8 a4) ∧
 bif x9 != a4 then (
 R (.bool false) a0) else (
 ∃ a3, a3 < m5 ∧ I0 a3 [.int .i64 (IntKind.i64.wrap (i3 + 1))] a0)) else (
 R (.bool true) a1))

theorem wSame.eq (a1a : Option Addr) (a1n a1c : Nat) (b2a : Option Addr) (b2n b2c : Nat) (R : RW) (w : World) : mfunc Try.prog [(0, [0, 1], [(5, (.one (.int .i64)))])] 11 [.slice a1a a1n a1c, .slice b2a b2n b2c] R w = wSame.M a1a a1n a1c b2a b2n b2c R w := by kernel_rfl
theorem wSame.ok (a1 : Option Addr) (a4 a0 : Nat) (a3 : Option Addr) (a5 a2 : Nat) {R : RW} {w : World} (h : wSame.M a1 a4 a0 a3 a5 a2 R w) : Calls Try.prog 11 #[.slice a1 a4 a0, .slice a3 a5 a2] w fun e w' => ∃ v, e = .returned v ∧ R v w' :=
  Q09 follows (H := [(0, [0, 1], [(5, (.one (.int .i64)))])]) (args := [.slice a1 a4 a0, .slice a3 a5 a2]) (by rw [wSame.eq]; exact h)

def rNum.M (n1 : Int) (R : RW) (w : World) : Prop :=
 bif decide (n1 < 128) then (
 thenW (w.alloc (.cells #[.int .u8 (IntKind.u8.wrap n1)] 5)) fun a9 =>
 R (.slice (some (blk w.heap.size)) 1 1) a9) else (
 128 ≠ (0 : Int) ∧ thenW (w.alloc (.cells #[.int .u8 (IntKind.u8.wrap ((IntKind.u8.wrap (Int.tmod n1 128)) + 128))] 5)) fun aa =>
 128 ≠ (0 : Int) ∧ Calls Try.prog 39 #[.int .u64 (IntKind.u64.wrap (Int.tdiv n1 128))] aa fun a8 a7 => ∃ (a1 : Option Addr) (a0 a2 : Nat), a8 = .returned (.slice a1 a0 a2) ∧
 ∃ (a4 : Option Addr) (a5 a3 : Nat) (a6 : World), (Builtin.append_ #[25, 25] 25 #[.slice (some (blk w.heap.size)) 1 1, .slice a1 a0 a2]).run Try.prog a7 = .ok (.slice a4 a5 a3) a6 ∧
 R (.slice a4 a5 a3) a6)

theorem rNum.eq (n1 : Int) (R : RW) (w : World) : mfunc Try.prog [] 39 [.int .u64 n1] R w = rNum.M n1 R w := by kernel_rfl
theorem rNum.ok (n1 : Int) {R : RW} {w : World} (h : rNum.M n1 R w) : Calls Try.prog 39 #[.int .u64 n1] w fun e w' => ∃ v, e = .returned v ∧ R v w' :=
  Q09 follows (H := []) (args := [.int .u64 n1]) (by rw [rNum.eq]; exact h)

def rRNum.M (r1 : Option Addr) (R : RW) (w : World) : Prop :=
 r1.elim False fun a2 =>
 ∃ (j3 : Int), w.cell? (a2.add 1) = some (.int .i64 j3) ∧
 bif j3 != 0 then (
 R (.int .u64 0) w) else (
 ∃ (I0 : Nat → List Value → World → Prop) (m5 : Nat), I0 m5 [.int .i64 0] w ∧ ∀ (m6 : Nat) (a0 : World) (n4 : Int), I0 m6 [.int .i64 n4] a0 →
 r1.elim False fun a8 =>
 ∃ (k2 : Option Addr) (jg kb : Nat), a0.cell? (a8.add 0) = some (.slice k2 jg kb) ∧
 bif decide (n4 < (jg : Int)) then (
 bif decide (n4 < 10) then (
 r1.elim False fun jz =>
 ∃ (ds : Option Addr) (ew fy : Nat), a0.cell? (jz.add 0) = some (.slice ds ew fy) ∧
 ds.elim False fun jv =>
 0 ≤ (n4 : Int) ∧ (n4 : Int) < (ew : Int) ∧
 ∃ (jh : Int), a0.cell? (jv.add (Int.toNat n4 * 1)) = some (.int .u8 jh) ∧
 bif decide (jh ≥ 128) then (
 ∃ iz, iz < m6 ∧ I0 iz [.int .i64 (IntKind.i64.wrap (n4 + 1))] a0) else (
 r1.elim False fun jn =>
 ∃ (gf : Option Addr) (fg gq : Nat), a0.cell? (jn.add 0) = some (.slice gf fg gq) ∧
 bif decide (n4 ≥ (fg : Int)) then (
 Calls Try.prog 65 #[.pointer r1, .int .i64 4] a0 fun iw g8 => iw = .returned (.tuple #[]) ∧
 R (.int .u64 0) g8) else (
 bif decide (n4 ≥ 10) then (
 Calls Try.prog 65 #[.pointer r1, .int .i64 4] a0 fun ib io => ib = .returned (.tuple #[]) ∧
 R (.int .u64 0) io) else (
 bif n4 == 9 then (
 r1.elim False fun k7 =>
 ∃ (e4 : Option Addr) (da fw : Nat), a0.cell? (k7.add 0) = some (.slice e4 da fw) ∧
 e4.elim False fun k3 =>
 0 ≤ (n4 : Int) ∧ (n4 : Int) < (da : Int) ∧
 ∃ (j9 : Int), a0.cell? (k3.add (Int.toNat n4 * 1)) = some (.int .u8 j9) ∧
 bif j9 != 1 then (
 Calls Try.prog 65 #[.pointer r1, .int .i64 4] a0 fun g1 gb => g1 = .returned (.tuple #[]) ∧
 R (.int .u64 0) gb) else (
 bif decide (n4 > 0) then (
 r1.elim False fun jp =>
 ∃ (dp : Option Addr) (ep gm : Nat), a0.cell? (jp.add 0) = some (.slice dp ep gm) ∧
 dp.elim False fun k9 =>
 0 ≤ (n4 : Int) ∧ (n4 : Int) < (ep : Int) ∧
 ∃ (j7 : Int), a0.cell? (k9.add (Int.toNat n4 * 1)) = some (.int .u8 j7) ∧
 bif j7 == 0 then (
 Calls Try.prog 65 #[.pointer r1, .int .i64 4] a0 fun fv ft => fv = .returned (.tuple #[]) ∧
 R (.int .u64 0) ft) else (
 ∃ (I2 : Nat → List Value → World → Prop) (jm : Nat), I2 jm [.int .u64 0, .int .i64 n4] a0 ∧ ∀ (j6 : Nat) (ak : World) (am cv : Int), I2 j6 [.int .u64 am, .int .i64 cv] ak →
 bif decide (cv ≥ 0) then (
 r1.elim False fun ju =>
 ∃ (ek : Option Addr) (e0 fz : Nat), ak.cell? (ju.add 0) = some (.slice ek e0 fz) ∧
 ek.elim False fun js =>
 0 ≤ (cv : Int) ∧ (cv : Int) < (e0 : Int) ∧
 ∃ (j8 : Int), ak.cell? (js.add (Int.toNat cv * 1)) = some (.int .u8 j8) ∧
 128 ≠ (0 : Int) ∧ ∃ jf, jf < j6 ∧ I2 jf [.int .u64 (IntKind.u64.wrap ((IntKind.u64.wrap (am * 128)) + (IntKind.u64.wrap (Int.tmod j8 128)))), .int .i64 (IntKind.i64.wrap (cv - 1))] ak) else (
 r1.elim False fun jr =>
 ∃ (cu : Option Addr) (cq ck : Nat), ak.cell? (jr.add 0) = some (.slice cu cq ck) ∧
 (0 : Int) ≤ ((IntKind.i64.wrap (n4 + 1)) : Int) ∧ ((IntKind.i64.wrap (n4 + 1)) : Int) ≤ (cq : Int) ∧
 r1.elim False fun ji =>
 Q01 ak ((ji.add 0).add 0) ∧
 thenW (ak.setCell ((ji.add 0).add 0) (.slice (if ck = Int.toNat (IntKind.i64.wrap (n4 + 1)) then cu else Option.map (fun z : Addr => z.add ((Int.toNat (IntKind.i64.wrap (n4 + 1))) * 1)) cu) (cq - (Int.toNat (IntKind.i64.wrap (n4 + 1)))) (ck - (Int.toNat (IntKind.i64.wrap (n4 + 1)))))) fun i4 =>
 R (.int .u64 am) i4))) else (
 ∃ (I2 : Nat → List Value → World → Prop) (jw : Nat), I2 jw [.int .u64 0, .int .i64 n4] a0 ∧ ∀ (j4 : Nat) (aq : World) (an cx : Int), I2 j4 [.int .u64 an, .int .i64 cx] aq →
 bif decide (cx ≥ 0) then (
 r1.elim False fun jt =>
 ∃ (db : Option Addr) (e7 gx : Nat), aq.cell? (jt.add 0) = some (.slice db e7 gx) ∧
 db.elim False fun jy =>
 0 ≤ (cx : Int) ∧ (cx : Int) < (e7 : Int) ∧
 ∃ (iy : Int), aq.cell? (jy.add (Int.toNat cx * 1)) = some (.int .u8 iy) ∧
 128 ≠ (0 : Int) ∧ ∃ je, je < j4 ∧ I2 je [.int .u64 (IntKind.u64.wrap ((IntKind.u64.wrap (an * 128)) + (IntKind.u64.wrap (Int.tmod iy 128)))), .int .i64 (IntKind.i64.wrap (cx - 1))] aq) else (
 r1.elim False fun jl =>
 ∃ (cn : Option Addr) (co cm : Nat), aq.cell? (jl.add 0) = some (.slice cn co cm) ∧
 (0 : Int) ≤ ((IntKind.i64.wrap (n4 + 1)) : Int) ∧ ((IntKind.i64.wrap (n4 + 1)) : Int) ≤ (co : Int) ∧
 r1.elim False fun ix =>
 Q01 aq ((ix.add 0).add 0) ∧
 thenW (aq.setCell ((ix.add 0).add 0) (.slice (if cm = Int.toNat (IntKind.i64.wrap (n4 + 1)) then cn else Option.map (fun z : Addr => z.add ((Int.toNat (IntKind.i64.wrap (n4 + 1))) * 1)) cn) (co - (Int.toNat (IntKind.i64.wrap (n4 + 1)))) (cm - (Int.toNat (IntKind.i64.wrap (n4 + 1)))))) fun ia =>
 R (.int .u64 an) ia)))) else (
 bif decide (n4 > 0) then (
 r1.elim False fun jx =>
 ∃ (fc : Option Addr) (e6 ge : Nat), a0.cell? (jx.add 0) = some (.slice fc e6 ge) ∧
 fc.elim False fun k6 =>
 0 ≤ (n4 : Int) ∧ (n4 : Int) < (e6 : Int) ∧
 ∃ (jc : Int), a0.cell? (k6.add (Int.toNat n4 * 1)) = some (.int .u8 jc) ∧
 bif jc == 0 then (
 Calls Try.prog 65 #[.pointer r1, .int .i64 4] a0 fun gz gk => gz = .returned (.tuple #[]) ∧
 R (.int .u64 0) gk) else (
 ∃ (I2 : Nat → List Value → World → Prop) (k0 : Nat), I2 k0 [.int .u64 0, .int .i64 n4] a0 ∧ ∀ (jd : Nat) (aj : World) (ap cw : Int), I2 jd [.int .u64 ap, .int .i64 cw] aj →
 bif decide (cw ≥ 0) then (
 r1.elim False fun k5 =>
 ∃ (dh : Option Addr) (f4 iv : Nat), aj.cell? (k5.add 0) = some (.slice dh f4 iv) ∧
 dh.elim False fun jk =>
 0 ≤ (cw : Int) ∧ (cw : Int) < (f4 : Int) ∧
 ∃ (j5 : Int), aj.cell? (jk.add (Int.toNat cw * 1)) = some (.int .u8 j5) ∧
 128 ≠ (0 : Int) ∧ ∃ jb, jb < jd ∧ I2 jb [.int .u64 (IntKind.u64.wrap ((IntKind.u64.wrap (ap * 128)) + (IntKind.u64.wrap (Int.tmod j5 128)))), .int .i64 (IntKind.i64.wrap (cw - 1))] aj) else (
 r1.elim False fun k4 =>
 ∃ (ct : Option Addr) (cs cj : Nat), aj.cell? (k4.add 0) = some (.slice ct cs cj) ∧
 (0 : Int) ≤ ((IntKind.i64.wrap (n4 + 1)) : Int) ∧ ((IntKind.i64.wrap (n4 + 1)) : Int) ≤ (cs : Int) ∧
 r1.elim False fun ja =>
 Q01 aj ((ja.add 0).add 0) ∧
 thenW (aj.setCell ((ja.add 0).add 0) (.slice (if cj = Int.toNat (IntKind.i64.wrap (n4 + 1)) then ct else Option.map (fun z : Addr => z.add ((Int.toNat (IntKind.i64.wrap (n4 + 1))) * 1)) ct) (cs - (Int.toNat (IntKind.i64.wrap (n4 + 1)))) (cj - (Int.toNat (IntKind.i64.wrap (n4 + 1)))))) fun g2 =>
 R (.int .u64 ap) g2))) else (
 ∃ (I2 : Nat → List Value → World → Prop) (ka : Nat), I2 ka [.int .u64 0, .int .i64 n4] a0 ∧ ∀ (j0 : Nat) (al : World) (ao cy : Int), I2 j0 [.int .u64 ao, .int .i64 cy] al →
 bif decide (cy ≥ 0) then (
 r1.elim False fun jo =>
 ∃ (er : Option Addr) (dw gh : Nat), al.cell? (jo.add 0) = some (.slice er dw gh) ∧
 er.elim False fun jq =>
 0 ≤ (cy : Int) ∧ (cy : Int) < (dw : Int) ∧
 ∃ (j2 : Int), al.cell? (jq.add (Int.toNat cy * 1)) = some (.int .u8 j2) ∧
 128 ≠ (0 : Int) ∧ ∃ j1, j1 < j0 ∧ I2 j1 [.int .u64 (IntKind.u64.wrap ((IntKind.u64.wrap (ao * 128)) + (IntKind.u64.wrap (Int.tmod j2 128)))), .int .i64 (IntKind.i64.wrap (cy - 1))] al) else (
 r1.elim False fun k8 =>
 ∃ (cl : Option Addr) (cp cr : Nat), al.cell? (k8.add 0) = some (.slice cl cp cr) ∧
 (0 : Int) ≤ ((IntKind.i64.wrap (n4 + 1)) : Int) ∧ ((IntKind.i64.wrap (n4 + 1)) : Int) ≤ (cp : Int) ∧
 r1.elim False fun jj =>
 Q01 al ((jj.add 0).add 0) ∧
 thenW (al.setCell ((jj.add 0).add 0) (.slice (if cr = Int.toNat (IntKind.i64.wrap (n4 + 1)) then cl else Option.map (fun z : Addr => z.add ((Int.toNat (IntKind.i64.wrap (n4 + 1))) * 1)) cl) (cp - (Int.toNat (IntKind.i64.wrap (n4 + 1)))) (cr - (Int.toNat (IntKind.i64.wrap (n4 + 1)))))) fun ih =>
 R (.int .u64 ao) ih))))))) else (
 r1.elim False fun k1 =>
 ∃ (g0 : Option Addr) (dq ie : Nat), a0.cell? (k1.add 0) = some (.slice g0 dq ie) ∧
 bif decide (n4 ≥ (dq : Int)) then (
 Calls Try.prog 65 #[.pointer r1, .int .i64 4] a0 fun iq gt => iq = .returned (.tuple #[]) ∧
 R (.int .u64 0) gt) else (
 bif decide (n4 ≥ 10) then (
 Calls Try.prog 65 #[.pointer r1, .int .i64 4] a0 fun i2 es => i2 = .returned (.tuple #[]) ∧
 R (.int .u64 0) es) else (
 bif n4 == 9 then (
 r1.elim False fun gu =>
 ∃ (bs : Option Addr) (bu dd : Nat), a0.cell? (gu.add 0) = some (.slice bs bu dd) ∧
 bs.elim False fun gp =>
 0 ≤ (n4 : Int) ∧ (n4 : Int) < (bu : Int) ∧
 ∃ (fl : Int), a0.cell? (gp.add (Int.toNat n4 * 1)) = some (.int .u8 fl) ∧
 bif fl != 1 then (
 Calls Try.prog 65 #[.pointer r1, .int .i64 4] a0 fun dg fi => dg = .returned (.tuple #[]) ∧
 R (.int .u64 0) fi) else (
 bif decide (n4 > 0) then (
 r1.elim False fun ga =>
 ∃ (c3 : Option Addr) (ce de : Nat), a0.cell? (ga.add 0) = some (.slice c3 ce de) ∧
 c3.elim False fun fs =>
 0 ≤ (n4 : Int) ∧ (n4 : Int) < (ce : Int) ∧
 ∃ (fh : Int), a0.cell? (fs.add (Int.toNat n4 * 1)) = some (.int .u8 fh) ∧
 bif fh == 0 then (
 Calls Try.prog 65 #[.pointer r1, .int .i64 4] a0 fun dr el => dr = .returned (.tuple #[]) ∧
 R (.int .u64 0) el) else (
 ∃ (I2 : Nat → List Value → World → Prop) (g5 : Nat), I2 g5 [.int .u64 0, .int .i64 n4] a0 ∧ ∀ (e3 : Nat) (a6 : World) (ac ar : Int), I2 e3 [.int .u64 ac, .int .i64 ar] a6 →
 bif decide (ar ≥ 0) then (
 r1.elim False fun ig =>
 ∃ (bp : Option Addr) (bt dy : Nat), a6.cell? (ig.add 0) = some (.slice bp bt dy) ∧
 bp.elim False fun ii =>
 0 ≤ (ar : Int) ∧ (ar : Int) < (bt : Int) ∧
 ∃ (d9 : Int), a6.cell? (ii.add (Int.toNat ar * 1)) = some (.int .u8 d9) ∧
 128 ≠ (0 : Int) ∧ ∃ ez, ez < e3 ∧ I2 ez [.int .u64 (IntKind.u64.wrap ((IntKind.u64.wrap (ac * 128)) + (IntKind.u64.wrap (Int.tmod d9 128)))), .int .i64 (IntKind.i64.wrap (ar - 1))] a6) else (
 r1.elim False fun fx =>
 ∃ (b5 : Option Addr) (bg bn : Nat), a6.cell? (fx.add 0) = some (.slice b5 bg bn) ∧
 (0 : Int) ≤ ((IntKind.i64.wrap (n4 + 1)) : Int) ∧ ((IntKind.i64.wrap (n4 + 1)) : Int) ≤ (bg : Int) ∧
 r1.elim False fun ed =>
 Q01 a6 ((ed.add 0).add 0) ∧
 thenW (a6.setCell ((ed.add 0).add 0) (.slice (if bn = Int.toNat (IntKind.i64.wrap (n4 + 1)) then b5 else Option.map (fun z : Addr => z.add ((Int.toNat (IntKind.i64.wrap (n4 + 1))) * 1)) b5) (bg - (Int.toNat (IntKind.i64.wrap (n4 + 1)))) (bn - (Int.toNat (IntKind.i64.wrap (n4 + 1)))))) fun ej =>
 R (.int .u64 ac) ej))) else (
 ∃ (I2 : Nat → List Value → World → Prop) (gd : Nat), I2 gd [.int .u64 0, .int .i64 n4] a0 ∧ ∀ (d7 : Nat) (a9 : World) (ag aw : Int), I2 d7 [.int .u64 ag, .int .i64 aw] a9 →
 bif decide (aw ≥ 0) then (
 r1.elim False fun gw =>
 ∃ (c5 : Option Addr) (cd d3 : Nat), a9.cell? (gw.add 0) = some (.slice c5 cd d3) ∧
 c5.elim False fun g3 =>
 0 ≤ (aw : Int) ∧ (aw : Int) < (cd : Int) ∧
 ∃ (dz : Int), a9.cell? (g3.add (Int.toNat aw * 1)) = some (.int .u8 dz) ∧
 128 ≠ (0 : Int) ∧ ∃ f8, f8 < d7 ∧ I2 f8 [.int .u64 (IntKind.u64.wrap ((IntKind.u64.wrap (ag * 128)) + (IntKind.u64.wrap (Int.tmod dz 128)))), .int .i64 (IntKind.i64.wrap (aw - 1))] a9) else (
 r1.elim False fun g4 =>
 ∃ (bl : Option Addr) (bf bb : Nat), a9.cell? (g4.add 0) = some (.slice bl bf bb) ∧
 (0 : Int) ≤ ((IntKind.i64.wrap (n4 + 1)) : Int) ∧ ((IntKind.i64.wrap (n4 + 1)) : Int) ≤ (bf : Int) ∧
 r1.elim False fun e5 =>
 Q01 a9 ((e5.add 0).add 0) ∧
 thenW (a9.setCell ((e5.add 0).add 0) (.slice (if bb = Int.toNat (IntKind.i64.wrap (n4 + 1)) then bl else Option.map (fun z : Addr => z.add ((Int.toNat (IntKind.i64.wrap (n4 + 1))) * 1)) bl) (bf - (Int.toNat (IntKind.i64.wrap (n4 + 1)))) (bb - (Int.toNat (IntKind.i64.wrap (n4 + 1)))))) fun dl =>
 R (.int .u64 ag) dl)))) else (
 bif decide (n4 > 0) then (
 r1.elim False fun il =>
 ∃ (bv : Option Addr) (bw ff : Nat), a0.cell? (il.add 0) = some (.slice bv bw ff) ∧
 bv.elim False fun fu =>
 0 ≤ (n4 : Int) ∧ (n4 : Int) < (bw : Int) ∧
 ∃ (fm : Int), a0.cell? (fu.add (Int.toNat n4 * 1)) = some (.int .u8 fm) ∧
 bif fm == 0 then (
 Calls Try.prog 65 #[.pointer r1, .int .i64 4] a0 fun f5 df => f5 = .returned (.tuple #[]) ∧
 R (.int .u64 0) df) else (
 ∃ (I2 : Nat → List Value → World → Prop) (ic : Nat), I2 ic [.int .u64 0, .int .i64 n4] a0 ∧ ∀ (d2 : Nat) (aa : World) (ah au : Int), I2 d2 [.int .u64 ah, .int .i64 au] aa →
 bif decide (au ≥ 0) then (
 r1.elim False fun i0 =>
 ∃ (c9 : Option Addr) (ch d1 : Nat), aa.cell? (i0.add 0) = some (.slice c9 ch d1) ∧
 c9.elim False fun i5 =>
 0 ≤ (au : Int) ∧ (au : Int) < (ch : Int) ∧
 ∃ (en : Int), aa.cell? (i5.add (Int.toNat au * 1)) = some (.int .u8 en) ∧
 128 ≠ (0 : Int) ∧ ∃ d6, d6 < d2 ∧ I2 d6 [.int .u64 (IntKind.u64.wrap ((IntKind.u64.wrap (ah * 128)) + (IntKind.u64.wrap (Int.tmod en 128)))), .int .i64 (IntKind.i64.wrap (au - 1))] aa) else (
 r1.elim False fun g7 =>
 ∃ (bc : Option Addr) (bd bj : Nat), aa.cell? (g7.add 0) = some (.slice bc bd bj) ∧
 (0 : Int) ≤ ((IntKind.i64.wrap (n4 + 1)) : Int) ∧ ((IntKind.i64.wrap (n4 + 1)) : Int) ≤ (bd : Int) ∧
 r1.elim False fun dm =>
 Q01 aa ((dm.add 0).add 0) ∧
 thenW (aa.setCell ((dm.add 0).add 0) (.slice (if bj = Int.toNat (IntKind.i64.wrap (n4 + 1)) then bc else Option.map (fun z : Addr => z.add ((Int.toNat (IntKind.i64.wrap (n4 + 1))) * 1)) bc) (bd - (Int.toNat (IntKind.i64.wrap (n4 + 1)))) (bj - (Int.toNat (IntKind.i64.wrap (n4 + 1)))))) fun f6 =>
 R (.int .u64 ah) f6))) else (
 ∃ (I2 : Nat → List Value → World → Prop) (ij : Nat), I2 ij [.int .u64 0, .int .i64 n4] a0 ∧ ∀ (fj : Nat) (a1 : World) (af b0 : Int), I2 fj [.int .u64 af, .int .i64 b0] a1 →
 bif decide (b0 ≥ 0) then (
 r1.elim False fun g6 =>
 ∃ (c1 : Option Addr) (c0 eg : Nat), a1.cell? (g6.add 0) = some (.slice c1 c0 eg) ∧
 c1.elim False fun gn =>
 0 ≤ (b0 : Int) ∧ (b0 : Int) < (c0 : Int) ∧
 ∃ (dc : Int), a1.cell? (gn.add (Int.toNat b0 * 1)) = some (.int .u8 dc) ∧
 128 ≠ (0 : Int) ∧ ∃ d0, d0 < fj ∧ I2 d0 [.int .u64 (IntKind.u64.wrap ((IntKind.u64.wrap (af * 128)) + (IntKind.u64.wrap (Int.tmod dc 128)))), .int .i64 (IntKind.i64.wrap (b0 - 1))] a1) else (
 r1.elim False fun i7 =>
 ∃ (be : Option Addr) (b1 b7 : Nat), a1.cell? (i7.add 0) = some (.slice be b1 b7) ∧
 (0 : Int) ≤ ((IntKind.i64.wrap (n4 + 1)) : Int) ∧ ((IntKind.i64.wrap (n4 + 1)) : Int) ≤ (b1 : Int) ∧
 r1.elim False fun fk =>
 Q01 a1 ((fk.add 0).add 0) ∧
 thenW (a1.setCell ((fk.add 0).add 0) (.slice (if b7 = Int.toNat (IntKind.i64.wrap (n4 + 1)) then be else Option.map (fun z : Addr => z.add ((Int.toNat (IntKind.i64.wrap (n4 + 1))) * 1)) be) (b1 - (Int.toNat (IntKind.i64.wrap (n4 + 1)))) (b7 - (Int.toNat (IntKind.i64.wrap (n4 + 1)))))) fun f1 =>
 R (.int .u64 af) f1))))))) else (
 r1.elim False fun fq =>
 ∃ (eh : Option Addr) (c4 fo : Nat), a0.cell? (fq.add 0) = some (.slice eh c4 fo) ∧
 bif decide (n4 ≥ (c4 : Int)) then (
 Calls Try.prog 65 #[.pointer r1, .int .i64 4] a0 fun ee f0 => ee = .returned (.tuple #[]) ∧
 R (.int .u64 0) f0) else (
 bif decide (n4 ≥ 10) then (
 Calls Try.prog 65 #[.pointer r1, .int .i64 4] a0 fun dn di => dn = .returned (.tuple #[]) ∧
 R (.int .u64 0) di) else (
 bif n4 == 9 then (
 r1.elim False fun g9 =>
 ∃ (cf : Option Addr) (c7 d8 : Nat), a0.cell? (g9.add 0) = some (.slice cf c7 d8) ∧
 cf.elim False fun ip =>
 0 ≤ (n4 : Int) ∧ (n4 : Int) < (c7 : Int) ∧
 ∃ (d4 : Int), a0.cell? (ip.add (Int.toNat n4 * 1)) = some (.int .u8 d4) ∧
 bif d4 != 1 then (
 Calls Try.prog 65 #[.pointer r1, .int .i64 4] a0 fun fe fa => fe = .returned (.tuple #[]) ∧
 R (.int .u64 0) fa) else (
 bif decide (n4 > 0) then (
 r1.elim False fun gj =>
 ∃ (cb : Option Addr) (c6 eo : Nat), a0.cell? (gj.add 0) = some (.slice cb c6 eo) ∧
 cb.elim False fun i1 =>
 0 ≤ (n4 : Int) ∧ (n4 : Int) < (c6 : Int) ∧
 ∃ (e9 : Int), a0.cell? (i1.add (Int.toNat n4 * 1)) = some (.int .u8 e9) ∧
 bif e9 == 0 then (
 Calls Try.prog 65 #[.pointer r1, .int .i64 4] a0 fun em dv => em = .returned (.tuple #[]) ∧
 R (.int .u64 0) dv) else (
 ∃ (I2 : Nat → List Value → World → Prop) (ir : Nat), I2 ir [.int .u64 0, .int .i64 n4] a0 ∧ ∀ (du : Nat) (a7 : World) (ad av : Int), I2 du [.int .u64 ad, .int .i64 av] a7 →
 bif decide (av ≥ 0) then (
 r1.elim False fun gv =>
 ∃ (br : Option Addr) (bz fb : Nat), a7.cell? (gv.add 0) = some (.slice br bz fb) ∧
 br.elim False fun ik =>
 0 ≤ (av : Int) ∧ (av : Int) < (bz : Int) ∧
 ∃ (et : Int), a7.cell? (ik.add (Int.toNat av * 1)) = some (.int .u8 et) ∧
 128 ≠ (0 : Int) ∧ ∃ f3, f3 < du ∧ I2 f3 [.int .u64 (IntKind.u64.wrap ((IntKind.u64.wrap (ad * 128)) + (IntKind.u64.wrap (Int.tmod et 128)))), .int .i64 (IntKind.i64.wrap (av - 1))] a7) else (
 r1.elim False fun i8 =>
 ∃ (b2 : Option Addr) (b4 bm : Nat), a7.cell? (i8.add 0) = some (.slice b2 b4 bm) ∧
 (0 : Int) ≤ ((IntKind.i64.wrap (n4 + 1)) : Int) ∧ ((IntKind.i64.wrap (n4 + 1)) : Int) ≤ (b4 : Int) ∧
 r1.elim False fun ea =>
 Q01 a7 ((ea.add 0).add 0) ∧
 thenW (a7.setCell ((ea.add 0).add 0) (.slice (if bm = Int.toNat (IntKind.i64.wrap (n4 + 1)) then b2 else Option.map (fun z : Addr => z.add ((Int.toNat (IntKind.i64.wrap (n4 + 1))) * 1)) b2) (b4 - (Int.toNat (IntKind.i64.wrap (n4 + 1)))) (bm - (Int.toNat (IntKind.i64.wrap (n4 + 1)))))) fun ei =>
 R (.int .u64 ad) ei))) else (
 ∃ (I2 : Nat → List Value → World → Prop) (i6 : Nat), I2 i6 [.int .u64 0, .int .i64 n4] a0 ∧ ∀ (f7 : Nat) (a3 : World) (ae ay : Int), I2 f7 [.int .u64 ae, .int .i64 ay] a3 →
 bif decide (ay ≥ 0) then (
 r1.elim False fun gc =>
 ∃ (ci : Option Addr) (c8 d5 : Nat), a3.cell? (gc.add 0) = some (.slice ci c8 d5) ∧
 ci.elim False fun gi =>
 0 ≤ (ay : Int) ∧ (ay : Int) < (c8 : Int) ∧
 ∃ (fd : Int), a3.cell? (gi.add (Int.toNat ay * 1)) = some (.int .u8 fd) ∧
 128 ≠ (0 : Int) ∧ ∃ ec, ec < f7 ∧ I2 ec [.int .u64 (IntKind.u64.wrap ((IntKind.u64.wrap (ae * 128)) + (IntKind.u64.wrap (Int.tmod fd 128)))), .int .i64 (IntKind.i64.wrap (ay - 1))] a3) else (
 r1.elim False fun im =>
 ∃ (bh : Option Addr) (b8 b9 : Nat), a3.cell? (im.add 0) = some (.slice bh b8 b9) ∧
 (0 : Int) ≤ ((IntKind.i64.wrap (n4 + 1)) : Int) ∧ ((IntKind.i64.wrap (n4 + 1)) : Int) ≤ (b8 : Int) ∧
 r1.elim False fun ev =>
 Q01 a3 ((ev.add 0).add 0) ∧
 thenW (a3.setCell ((ev.add 0).add 0) (.slice (if b9 = Int.toNat (IntKind.i64.wrap (n4 + 1)) then bh else Option.map (fun z : Addr => z.add ((Int.toNat (IntKind.i64.wrap (n4 + 1))) * 1)) bh) (b8 - (Int.toNat (IntKind.i64.wrap (n4 + 1)))) (b9 - (Int.toNat (IntKind.i64.wrap (n4 + 1)))))) fun e1 =>
 R (.int .u64 ae) e1)))) else (
 bif decide (n4 > 0) then (
 r1.elim False fun gg =>
 ∃ (bq : Option Addr) (c2 e8 : Nat), a0.cell? (gg.add 0) = some (.slice bq c2 e8) ∧
 bq.elim False fun i3 =>
 0 ≤ (n4 : Int) ∧ (n4 : Int) < (c2 : Int) ∧
 ∃ (dk : Int), a0.cell? (i3.add (Int.toNat n4 * 1)) = some (.int .u8 dk) ∧
 bif dk == 0 then (
 Calls Try.prog 65 #[.pointer r1, .int .i64 4] a0 fun cz eu => cz = .returned (.tuple #[]) ∧
 R (.int .u64 0) eu) else (
 ∃ (I2 : Nat → List Value → World → Prop) (iu : Nat), I2 iu [.int .u64 0, .int .i64 n4] a0 ∧ ∀ (e2 : Nat) (a5 : World) (ab ax : Int), I2 e2 [.int .u64 ab, .int .i64 ax] a5 →
 bif decide (ax ≥ 0) then (
 r1.elim False fun gl =>
 ∃ (bx : Option Addr) (ca ef : Nat), a5.cell? (gl.add 0) = some (.slice bx ca ef) ∧
 bx.elim False fun gr =>
 0 ≤ (ax : Int) ∧ (ax : Int) < (ca : Int) ∧
 ∃ (f2 : Int), a5.cell? (gr.add (Int.toNat ax * 1)) = some (.int .u8 f2) ∧
 128 ≠ (0 : Int) ∧ ∃ dt, dt < e2 ∧ I2 dt [.int .u64 (IntKind.u64.wrap ((IntKind.u64.wrap (ab * 128)) + (IntKind.u64.wrap (Int.tmod f2 128)))), .int .i64 (IntKind.i64.wrap (ax - 1))] a5) else (
 r1.elim False fun gy =>
 ∃ (b6 : Option Addr) (bo b3 : Nat), a5.cell? (gy.add 0) = some (.slice b6 bo b3) ∧
 (0 : Int) ≤ ((IntKind.i64.wrap (n4 + 1)) : Int) ∧ ((IntKind.i64.wrap (n4 + 1)) : Int) ≤ (bo : Int) ∧
 r1.elim False fun eq =>
 Q01 a5 ((eq.add 0).add 0) ∧
 thenW (a5.setCell ((eq.add 0).add 0) (.slice (if b3 = Int.toNat (IntKind.i64.wrap (n4 + 1)) then b6 else Option.map (fun z : Addr => z.add ((Int.toNat (IntKind.i64.wrap (n4 + 1))) * 1)) b6) (bo - (Int.toNat (IntKind.i64.wrap (n4 + 1)))) (b3 - (Int.toNat (IntKind.i64.wrap (n4 + 1)))))) fun dj =>
 R (.int .u64 ab) dj))) else (
 ∃ (I2 : Nat → List Value → World → Prop) (gs : Nat), I2 gs [.int .u64 0, .int .i64 n4] a0 ∧ ∀ (ex : Nat) (a4 : World) (ai az : Int), I2 ex [.int .u64 ai, .int .i64 az] a4 →
 bif decide (az ≥ 0) then (
 r1.elim False fun it =>
 ∃ (cc : Option Addr) (cg ey : Nat), a4.cell? (it.add 0) = some (.slice cc cg ey) ∧
 cc.elim False fun fr =>
 0 ≤ (az : Int) ∧ (az : Int) < (cg : Int) ∧
 ∃ (f9 : Int), a4.cell? (fr.add (Int.toNat az * 1)) = some (.int .u8 f9) ∧
 128 ≠ (0 : Int) ∧ ∃ eb, eb < ex ∧ I2 eb [.int .u64 (IntKind.u64.wrap ((IntKind.u64.wrap (ai * 128)) + (IntKind.u64.wrap (Int.tmod f9 128)))), .int .i64 (IntKind.i64.wrap (az - 1))] a4) else (
 r1.elim False fun i9 =>
 ∃ (bi : Option Addr) (ba bk : Nat), a4.cell? (i9.add 0) = some (.slice bi ba bk) ∧
 (0 : Int) ≤ ((IntKind.i64.wrap (n4 + 1)) : Int) ∧ ((IntKind.i64.wrap (n4 + 1)) : Int) ≤ (ba : Int) ∧
 r1.elim False fun fp =>
 Q01 a4 ((fp.add 0).add 0) ∧
 thenW (a4.setCell ((fp.add 0).add 0) (.slice (if bk = Int.toNat (IntKind.i64.wrap (n4 + 1)) then bi else Option.map (fun z : Addr => z.add ((Int.toNat (IntKind.i64.wrap (n4 + 1))) * 1)) bi) (ba - (Int.toNat (IntKind.i64.wrap (n4 + 1)))) (bk - (Int.toNat (IntKind.i64.wrap (n4 + 1)))))) fun dx =>
 R (.int .u64 ai) dx)))))))

theorem rRNum.ok (r1 : Option Addr) {R : RW} {w : World} (h : rRNum.M r1 R w) : Calls Try.prog 45 #[.pointer r1] w fun e w' => ∃ v, e = .returned v ∧ R v w' :=
  Q09 follows (H := [(0, [0], [(3, (.one (.int .i64)))]), (2, [0, 3], [(4, (.one (.int .u64))), (5, (.one (.int .i64)))])]) (args := [.pointer r1]) (cast (by kernel_rfl) h)

def rRCount.M (r1 : Option Addr) (a1 : Int) (R : RW) (w : World) : Prop :=
 Calls Try.prog 45 #[.pointer r1] w fun a7 a2 => ∃ (a0 : Int), a7 = .returned (.int .u64 a0) ∧
 r1.elim False fun a6 =>
 ∃ (a5 : Int), a2.cell? (a6.add 1) = some (.int .i64 a5) ∧
 bif a5 == 0 then (
 bif decide (a1 < 0) then (
 Calls Try.prog 65 #[.pointer r1, .int .i64 3] a2 fun a8 a9 => a8 = .returned (.tuple #[]) ∧
 R (.int .i64 0) a9) else (
 bif decide (a0 > (IntKind.u64.wrap a1)) then (
 Calls Try.prog 65 #[.pointer r1, .int .i64 3] a2 fun a4 a3 => a4 = .returned (.tuple #[]) ∧
 R (.int .i64 0) a3) else (
 R (.int .i64 (IntKind.i64.wrap a0)) a2))) else (
 R (.int .i64 (IntKind.i64.wrap a0)) a2)

theorem rRCount.ok (r1 : Option Addr) (a0 : Int) {R : RW} {w : World} (h : rRCount.M r1 a0 R w) : Calls Try.prog 43 #[.pointer r1, .int .i64 a0] w fun e w' => ∃ v, e = .returned v ∧ R v w' :=
  Q09 follows (H := []) (args := [.pointer r1, .int .i64 a0]) (cast (by kernel_rfl) h)

def rRDone.M (r1 : Option Addr) (R : RW) (w : World) : Prop :=
 r1.elim False fun a2 =>
 ∃ (a3 : Int), w.cell? (a2.add 1) = some (.int .i64 a3) ∧
 bif a3 == 0 then (
 r1.elim False fun a4 =>
 ∃ (a9 : Option Addr) (a5 a7 : Nat), w.cell? (a4.add 0) = some (.slice a9 a5 a7) ∧
 bif decide ((a5 : Int) > 0) then (
 R (.int .i64 4) w) else (
 r1.elim False fun a6 =>
 ∃ (a0 : Int), w.cell? (a6.add 1) = some (.int .i64 a0) ∧
 R (.int .i64 a0) w)) else (
 r1.elim False fun a8 =>
 ∃ (a1 : Int), w.cell? (a8.add 1) = some (.int .i64 a1) ∧
 R (.int .i64 a1) w)

theorem rRDone.ok (r1 : Option Addr) {R : RW} {w : World} (h : rRDone.M r1 R w) : Calls Try.prog 46 #[.pointer r1] w fun e w' => ∃ v, e = .returned v ∧ R v w' :=
  Q09 follows (H := []) (args := [.pointer r1]) (cast (by kernel_rfl) h)

def rRFail.M (r1 : Option Addr) (k2 : Int) (R : RW) (w : World) : Prop :=
 r1.elim False fun a3 =>
 Q01 w ((a3.add 1).add 0) ∧
 thenW (w.setCell ((a3.add 1).add 0) (.int .i64 k2)) fun a0 =>
 r1.elim False fun a5 =>
 Q01 a0 ((a5.add 0).add 0) ∧
 thenW (a0.setCell ((a5.add 0).add 0) (.slice none 0 0)) fun a1 =>
 R (.tuple #[]) a1

theorem rRFail.ok (r1 : Option Addr) (k2 : Int) {R : RW} {w : World} (h : rRFail.M r1 k2 R w) : Calls Try.prog 65 #[.pointer r1, .int .i64 k2] w fun e w' => ∃ v, e = .returned v ∧ R v w' :=
  Q09 follows (H := []) (args := [.pointer r1, .int .i64 k2]) (cast (by kernel_rfl) h)

theorem numL_le (n : Nat) : (numL n).length ≤ 10 := numF_le 10 n
theorem Q1i : ∀ (k m : Nat), m < 128 ^ k → 0 < k → numF (k + 1) m = numF k m
  | k + 1, m, h, _ => by
    by_cases h1 : m < 128
    · rw [numF, if_pos h1, numF, if_pos h1]
    · rw [numF, if_neg h1]
      conv => rhs; rw [numF, if_neg h1]
      have hk : 0 < k := Nat.pos_of_ne_zero fun e => by subst e; simp at h; omega
      rw [Q1i k (m / 128) (by rw [Nat.pow_succ] at h; omega) hk]
theorem Q1Z {n : Nat} (h : n < 18446744073709551616) (h1 : ¬ n < 128) : numL n = UInt8.ofNat (n % 128 + 128) :: numL (n / 128) := by
  unfold numL
  rw [numF, if_neg h1, Q1i 9 (n / 128) (by omega) (by decide)]
theorem Q1V (m : Int) (s : List UInt8 × Int) (hm : 0 ≤ m) : ((countR m s).1 : Int) ≤ m := by
  unfold countR
  split
  · split
    · exact hm
    · rename_i h; exact Decidable.byContradiction fun e => h (.inr (by omega))
  · exact hm

section
variable {w w' : World} {a : Option Addr} {c : Nat}
theorem sameB_spec {a b : Option Addr} {c d : Nat} {x y : List UInt8} (ha : RowAt w a (bytesV x)) (hb : RowAt w b (bytesV y)) (hx : x.length < 1000000) :
    Calls Try.prog 11 #[.slice a x.length c, .slice b y.length d] w (GivesW (.bool (decide (x = y))) fun w' => Ext no w w') := by
  refine (wSame.ok _ _ _ _ _ _ (R := fun v w' => v = .bool (decide (x = y)) ∧ Ext no w w') ?_).mono fun e w' ⟨v, he, hv, hw⟩ => ⟨by rw [he, hv], hw⟩
  unfold wSame.M
  by_cases hl : x.length = y.length
  · have hl' : ((x.length : Int) != (y.length : Int)) = false := by simp [hl]
    rw [hl', cond_false]
    refine ⟨fun k vs w1 => ∃ i : Nat, vs = [.int .i64 i] ∧ k = x.length - i ∧ i ≤ x.length ∧ x.take i = y.take i ∧ Ext no w w1, x.length, ⟨0, rfl, rfl, Nat.zero_le _, rfl, Ext.refl _ _⟩, ?_⟩
    rintro k w1 i3 ⟨i, hi, rfl, hle, ht, hw⟩
    simp only [List.cons.injEq, Value.int.injEq, true_and, and_true] at hi
    subst hi
    by_cases hlt : i < x.length
    · have hd : decide ((i : Int) < (x.length : Int)) = true := by simp [hlt]
      rw [hd, cond_true]
      refine Q00 fun w7 h7 => ?_
      have hw7 : Ext no w w7 := hw.trans (by subst h7; exact (Ext.refl _ _).drew)
      have hi2 : i < y.length := hl ▸ hlt
      have hax := ha.ext hw7 (fun _ _ h => h)
      have hby := hb.ext hw7 (fun _ _ h => h)
      obtain ⟨ad, rfl⟩ := hax.addr (by intro e; rw [bytesV, List.map_eq_nil_iff] at e; subst e; simp at hlt)
      obtain ⟨bd, rfl⟩ := hby.addr (by intro e; rw [bytesV, List.map_eq_nil_iff] at e; subst e; simp at hi2)
      refine ⟨by omega, by omega, x[i].toNat, ?_, by omega, by omega, y[i].toNat, ?_, ?_⟩
      · rw [show Int.toNat (i : Int) * 1 = i by omega]; exact hax.at_ (Q0P hlt)
      · rw [show Int.toNat (i : Int) * 1 = i by omega]; exact hby.at_ (Q0P hi2)
      · by_cases he : x[i] = y[i]
        · have h1 : ((x[i].toNat : Int) != (y[i].toNat : Int)) = false := by simp [he]
          rw [h1, cond_false]
          refine ⟨x.length - (i + 1), by omega, i + 1, by rw [w64 (by omega) (by omega)]; rfl, rfl, by omega, ?_, hw7⟩
          rw [List.take_add_one, List.take_add_one, ht]; simp [hlt, hi2, he]
        · have h1 : ((x[i].toNat : Int) != (y[i].toNat : Int)) = true := by
            simp only [bne_iff_ne, ne_eq, Int.natCast_inj, UInt8.toNat_inj]; exact he
          rw [h1, cond_true]
          exact ⟨by rw [decide_eq_false]; rintro rfl; exact he rfl, hw7⟩
    · have hd : decide ((i : Int) < (x.length : Int)) = false := by simp; omega
      rw [hd, cond_false]
      obtain rfl : i = x.length := by omega
      refine ⟨?_, hw⟩
      have : x = y := by
        rw [List.take_length] at ht
        rw [hl, List.take_length] at ht
        exact ht
      simp [this]
  · have hl' : ((x.length : Int) != (y.length : Int)) = true := by simp; omega
    rw [hl', cond_true]
    exact ⟨by rw [decide_eq_false]; rintro rfl; exact hl rfl, Ext.refl _ _⟩
theorem rNum_spec : ∀ (n : Nat) (w : World), n < 18446744073709551616 → Calls Try.prog 39 #[.int .u64 n] w (fun e w' => ∃ a' c', e = .returned (.slice a' (numL n).length c') ∧ OwnB w.heap.size w' a' c' (numL n) ∧ Ext no w w') := by
  intro n
  induction n using Nat.strongRecOn with
  | _ n ih =>
    intro w hn
    refine (rNum.ok _ (R := fun v w' => ∃ a' c', v = (.slice a' (numL n).length c') ∧ OwnB w.heap.size w' a' c' (numL n) ∧ Ext no w w') ?_).mono fun e w' ⟨v, he, a', c', hv, hw⟩ => ⟨a', c', by rw [he, hv], hw⟩
    unfold rNum.M
    have one : ∀ (w2 : World) (x : UInt8), w2 = w.alloc (.cells #[.int .u8 (x.toNat : Int)] 5) → OwnB w.heap.size w2 (some (blk w.heap.size)) 1 [x] ∧ Ext no w w2 := fun w2 x h2 => by
      have hb : Blk w2 w.heap.size 5 (bytesV [x]) := by subst h2; exact Blk.new _ _ _
      exact ⟨⟨Q1f hb rfl (by simp [maxLen]), fun ad ha => by cases ha; exact ⟨Nat.le_refl _, hb.lt⟩⟩, by subst h2; exact (Ext.refl _ _).alloc _⟩
    by_cases h1 : n < 128
    · rw [show decide ((n : Int) < 128) = true by simp; omega, cond_true]
      have hv : IntKind.u8.wrap (n : Int) = ((UInt8.ofNat n).toNat : Int) := by rw [wu8 (by omega) (by omega), Q0R (by omega)]
      have hL : numL n = [UInt8.ofNat n] := by unfold numL; rw [numF, if_pos h1]
      rw [hv, hL]
      refine Q00 fun w2 h2 => ?_
      obtain ⟨q1, q2⟩ := one w2 _ h2
      exact ⟨_, 1, rfl, q1, q2⟩
    · rw [show decide ((n : Int) < 128) = false by simp; omega, cond_false]
      have hm : Int.tmod (n : Int) 128 = ((n % 128 : Nat) : Int) := by rw [Int.tmod_eq_emod_of_nonneg (by omega)]; omega
      have hd : Int.tdiv (n : Int) 128 = ((n / 128 : Nat) : Int) := by rw [Int.tdiv_eq_ediv_of_nonneg (by omega)]; omega
      have hv : IntKind.u8.wrap ((IntKind.u8.wrap (Int.tmod (n : Int) 128)) + 128) = ((UInt8.ofNat (n % 128 + 128)).toNat : Int) := by
        rw [hm, wu8 (n := ((n % 128 : Nat) : Int)) (by omega) (by omega), wu8 (by omega) (by omega), Q0R (by omega)]; omega
      rw [hv, hd, wu64 (by omega) (by omega), Q1Z hn h1]
      refine ⟨by decide, Q00 fun w3 h3 => ⟨by decide, ?_⟩⟩
      obtain ⟨q1, q2⟩ := one w3 _ h3
      refine (ih (n / 128) (by omega) w3 (by omega)).mono fun e w6 ⟨a6, c6, he, ho6, x6⟩ => ⟨a6, _, c6, he, ?_⟩
      obtain ⟨a', c', w8, hr, ho8, x8⟩ := (W.OwnB.no q1 x6).append (t := 25) (ty := 25) Try.underlying25 (Nat.le_trans q2.size x6.size) (xc := c6) (W.OwnB.row ho6) (by have := numL_le (n / 128); simp; omega)
      exact ⟨a', _, c', w8, hr, a', c', rfl, ho8, (q2.trans x6).then x8 fun b hb => .inr hb⟩

end
theorem numR_write {n : Nat} (h : n < 18446744073709551616) (r : List UInt8) : numR (numL n ++ r, 0) = (n, (r, 0)) := by
  unfold numR; rw [if_pos rfl, rd_num h]
theorem countR_write {n : Nat} {m : Int} (h : n < 18446744073709551616) (hm : (n : Int) ≤ m) (r : List UInt8) : countR m (numL n ++ r, 0) = (n, (r, 0)) := by
  unfold countR
  rw [numR_write h, if_pos rfl, if_neg (by show ¬ (m < 0 ∨ (n : Int) > m); omega)]
theorem Q2I {s : List UInt8 × Int} (h : s.2 ≠ 0) : (numR s).2.2 ≠ 0 := by
  unfold numR; rw [if_neg h]; exact h
theorem Q1G {s : List UInt8 × Int} (h : (numR s).2.2 = 0) : s.2 = 0 ∧ s.1 = numL (numR s).1 ++ (numR s).2.1 := by
  have h0 : s.2 = 0 := Decidable.byContradiction fun e => Q2I e h
  refine ⟨h0, ?_⟩
  unfold numR at h ⊢
  rw [if_pos h0] at h ⊢
  cases hr : rdNum s.1 with
  | none => rw [hr] at h; exact absurd h (by decide)
  | some q => obtain ⟨n, r⟩ := q; exact (rd_back hr).1
theorem Q1e {m : Int} {s : List UInt8 × Int} (h : (countR m s).2.2 = 0) : s.2 = 0 ∧ s.1 = numL (countR m s).1 ++ (countR m s).2.1 := by
  unfold countR at h ⊢
  by_cases h1 : (numR s).2.2 = 0
  · rw [if_pos h1] at h ⊢
    by_cases h2 : m < 0 ∨ ((numR s).1 : Int) > m
    · rw [if_pos h2] at h; exact absurd h (by decide)
    · rw [if_neg h2]; exact Q1G h1
  · rw [if_neg h1] at h; exact absurd h h1
def RdR (w : World) (p N : Nat) (bs : List UInt8) (k : Int) : Prop :=
  N ≤ p ∧ ∃ a c, Blk w p 83 [.slice a bs.length c, .int .i64 k] ∧ bs.length ≤ c ∧ RowAt w a (bytesV bs) ∧ (bytesV bs ≠ [] → ∀ ad, a = some ad → ad.block < N)
section
variable {w w' : World} {a : Option Addr} {c : Nat} {bs : List UInt8} {p N : Nat} {k : Int}
theorem RdR.no (h : RdR w p N bs k) (e : Ext no w w') : RdR w' p N bs k := by
  obtain ⟨hNp, a, c, h1, h2, h3, h4⟩ := h
  exact ⟨hNp, a, c, h1.ext e id, h2, h3.no e, h4⟩
theorem RdR.up {m : Nat → Prop} (h : RdR w p N bs k) (e : Ext m w w') (hm : ∀ b, m b → p < b) : RdR w' p N bs k := by
  obtain ⟨hNp, a, c, h1, h2, h3, h4⟩ := h
  exact ⟨hNp, a, c, h1.ext e (fun h => by have := hm _ h; omega), h2, h3.ext' e (fun h0 ad ha hb => by have := hm _ hb; have := h4 h0 ad ha; omega), h4⟩
theorem RdR.lt (h : RdR w p N bs k) : p < w.heap.size := by obtain ⟨hNp, a, c, h1, _⟩ := h; exact h1.lt
theorem rFail_spec (h : RdR w p N bs k) (j : Int) : Calls Try.prog 65 #[.pointer (some (blk p)), .int .i64 j] w (GivesW (.tuple #[]) fun w' => RdR w' p N [] j ∧ Ext (fun b => b = p) w w') := by
  refine (rRFail.ok _ _ (R := fun v w' => v = .tuple #[] ∧ RdR w' p N [] j ∧ Ext (fun b => b = p) w w') ?_).mono fun e w' ⟨v, he, hv, hw⟩ => ⟨by rw [he, hv], hw⟩
  unfold rRFail.M
  obtain ⟨hNp, a, c, h1, _⟩ := h
  refine ⟨h1.cana (i := 1) rfl, Q00 fun w4 h4 => ?_⟩
  have hb4 := h1.seta 1 (.int .i64 j)
  rw [add_zero] at h4
  rw [← h4] at hb4
  have e4 : Ext (fun b => b = p) w w4 := by subst h4; exact (Ext.refl (fun b => b = p) w).setCell (a := (blk p).add 1) (.inl (by rw [add_blk])) _
  refine ⟨hb4.cana (i := 0) rfl, Q00 fun w6 h6 => ?_⟩
  rw [add_zero] at h6
  have hb6 := hb4.seta 0 (.slice none 0 0)
  rw [← h6] at hb6
  have e6 : Ext (fun b => b = p) w4 w6 := by subst h6; exact (Ext.refl (fun b => b = p) w4).setCell (a := (blk p).add 0) (.inl rfl) _
  exact ⟨rfl, ⟨hNp, none, 0, hb6, Nat.le_refl _, RowAt.nil _ _, fun h0 => absurd rfl h0⟩, e4.trans e6⟩
theorem rDone_spec (h : RdR w p N bs k) : Calls Try.prog 46 #[.pointer (some (blk p))] w (GivesW (.int .i64 (doneR (bs, k))) fun w' => w' = w) := by
  refine (rRDone.ok _ (R := fun v w' => v = .int .i64 (doneR (bs, k)) ∧ w' = w) ?_).mono fun e w' ⟨v, he, hv, hw⟩ => ⟨by rw [he, hv], hw⟩
  unfold rRDone.M
  obtain ⟨hNp, a, c, h1, h2, h3, h4⟩ := h
  unfold doneR
  refine ⟨_, h1.cella (i := 1) rfl, ?_⟩
  by_cases hk : k = 0
  · subst hk
    rw [show ((0 : Int) == 0) = true from rfl, cond_true, if_pos rfl]
    refine ⟨_, _, _, h1.cella (i := 0) rfl, ?_⟩
    by_cases hb : bs.length > 0
    · rw [decide_eq_true (by omega : (bs.length : Int) > 0), cond_true, if_pos hb]; exact ⟨rfl, rfl⟩
    · rw [decide_eq_false (by omega : ¬ (bs.length : Int) > 0), cond_false, if_neg hb]
      exact ⟨_, h1.cella (i := 1) rfl, rfl, rfl⟩
  · rw [beq_eq_false_iff_ne.2 hk, cond_false, if_neg hk]
    exact ⟨_, h1.cella (i := 1) rfl, rfl, rfl⟩

/-! ### where the number ends -/
theorem Q1o : ∀ (n i : Nat) (bs : List UInt8), i + n ≤ 9 → n ≤ bs.length → (∀ c ∈ bs.take n, 128 ≤ c.toNat) → widthF i bs = widthF (i + n) (bs.drop n)
  | 0, i, bs, _, _, _ => rfl
  | n + 1, i, [], _, h, _ => by simp at h
  | n + 1, i, c :: r, h9, hl, hc => by
    have h1 := hc c (by simp)
    simp only [widthF, List.drop_succ_cons]
    rw [if_neg (by omega), if_neg (by omega), Q1o n (i + 1) r (by omega) (by simpa using hl) fun d hd => hc d (by simp [hd])]
    congr 1; omega
theorem Q2w {bs : List UInt8} (hl : 10 ≤ bs.length) (hc : ∀ c ∈ bs.take 10, 128 ≤ c.toNat) : widthF 0 bs = 0 := by
  rw [Q1o 9 0 bs (by omega) (by omega) fun c h => hc c (List.mem_of_mem_take (l := bs.take 10) (i := 9) (by rw [List.take_take]; exact h))]
  rw [List.drop_eq_getElem_cons (by omega : 9 < bs.length)]
  simp only [widthF]
  have := hc bs[9] (List.mem_take_iff_getElem.2 ⟨9, by omega, rfl⟩)
  rw [if_pos (by first | exact ⟨rfl, by omega⟩ | exact ⟨trivial, by omega⟩)]
theorem Q1R : ∀ (l : List UInt8) (j : Nat), valW (l.drop j) ≤ valW l
  | [], j => by simp
  | a :: r, 0 => Nat.le_refl _
  | a :: r, j + 1 => by
    have := Q1R r j
    simp only [List.drop_succ_cons, valW]; omega

def loop2P (RR : RW) (w : World) (p : Nat) (n4 : Int) : Prop :=
  ∃ (I2 : Nat → List Value → World → Prop) (m35 : Nat), I2 m35 [.int .u64 0, .int .i64 n4] w ∧ ∀ (m36 : Nat) (ww37 : World) (outv33 i34 : Int), I2 m36 [.int .u64 outv33, .int .i64 i34] ww37 →
  bif decide (i34 ≥ 0) then (
  (some (blk p)).elim False fun a38 =>
  ∃ (B39a : Option Addr) (B39n B39c : Nat), ww37.cell? (a38.add 0) = some (.slice B39a B39n B39c) ∧
  B39a.elim False fun a40 =>
  0 ≤ (i34 : Int) ∧ (i34 : Int) < (B39n : Int) ∧
  ∃ (x41 : Int), ww37.cell? (a40.add (Int.toNat i34 * 1)) = some (.int .u8 x41) ∧
  128 ≠ (0 : Int) ∧ ∃ m42, m42 < m36 ∧ I2 m42 [.int .u64 (IntKind.u64.wrap ((IntKind.u64.wrap (outv33 * 128)) + (IntKind.u64.wrap (Int.tmod x41 128)))), .int .i64 (IntKind.i64.wrap (i34 - 1))] ww37) else (
  (some (blk p)).elim False fun a43 =>
  ∃ (B44a : Option Addr) (B44n B44c : Nat), ww37.cell? (a43.add 0) = some (.slice B44a B44n B44c) ∧
  (0 : Int) ≤ ((IntKind.i64.wrap (n4 + 1)) : Int) ∧ ((IntKind.i64.wrap (n4 + 1)) : Int) ≤ (B44n : Int) ∧
  (some (blk p)).elim False fun a45 =>
  Q01 ww37 ((a45.add 0).add 0) ∧
  thenW (ww37.setCell ((a45.add 0).add 0) (.slice (if B44c = Int.toNat (IntKind.i64.wrap (n4 + 1)) then B44a else Option.map (fun z : Addr => z.add ((Int.toNat (IntKind.i64.wrap (n4 + 1))) * 1)) B44a) (B44n - (Int.toNat (IntKind.i64.wrap (n4 + 1)))) (B44c - (Int.toNat (IntKind.i64.wrap (n4 + 1)))))) fun ww46 =>
  RR (.int .u64 outv33) ww46)
theorem Q2F (h : RdR w p N bs 0) (hl : bs.length < 1000000) {n : Nat} (hn : n < bs.length) (hw : widthF 0 bs = n + 1) :
    loop2P (fun v w' => v = .int .u64 (numR (bs, 0)).1 ∧ RdR w' p N (numR (bs, 0)).2.1 (numR (bs, 0)).2.2 ∧ Ext (fun b => b = p) w w') w p n := by
  have hz : widthF 0 bs ≠ 0 := by omega
  obtain ⟨q1, q2, q3, q4, _⟩ := Q1n bs 0 (by omega) hz
  simp only [Nat.sub_zero] at q2 q3 q4
  rw [hw] at q2 q3 q4
  have hnum : numR (bs, 0) = (valW (bs.take (n + 1)), (bs.drop (n + 1), 0)) := by unfold numR rdNum; simp [hw]
  rw [hnum]
  obtain ⟨hNp, a, c, h1, h2, h3, h4⟩ := h
  generalize hL : bs.take (n + 1) = L at *
  have hLl : L.length = n + 1 := by rw [← hL, List.length_take]; omega
  unfold loop2P
  refine ⟨fun j vs w1 => ∃ t : Nat, vs = [.int .u64 (valW (L.drop t)), .int .i64 ((t : Int) - 1)] ∧ j = t ∧ t ≤ n + 1 ∧ w1 = w, n + 1, ⟨n + 1, ?_, rfl, Nat.le_refl _, rfl⟩, ?_⟩
  · rw [List.drop_eq_nil_of_le (by omega)]
    have : (((n + 1 : Nat) : Int) - 1) = n := by omega
    rw [this]; rfl
  rintro t w1 o0 i ⟨t', hi, rfl, htn, rfl⟩
  simp only [List.cons.injEq, Value.int.injEq, true_and, and_true] at hi
  obtain ⟨rfl, rfl⟩ := hi
  cases t with
  | zero =>
    rw [show decide (((0 : Nat) : Int) - 1 ≥ 0) = false from rfl, cond_false]
    have hw1 : IntKind.i64.wrap ((n : Int) + 1) = ((n + 1 : Nat) : Int) := by rw [w64 (by omega) (by omega)]; rfl
    rw [hw1, Int.toNat_natCast, Nat.mul_one]
    refine ⟨a, bs.length, c, h1.cella (i := 0) rfl, by omega, by omega, h1.cana (i := 0) rfl, Q00 fun w23 h23 => ?_⟩
    rw [add_zero] at h23
    have hb := h1.seta 0 (.slice (if c = n + 1 then a else Option.map (fun z : Addr => z.add (n + 1)) a) (bs.length - (n + 1)) (c - (n + 1)))
    rw [← h23] at hb
    have hx : Ext (fun b => b = p) w1 w23 := by subst h23; exact (Ext.refl (fun b => b = p) w1).setCell (a := (blk p).add 0) (.inl rfl) _
    have hdl : (bs.drop (n + 1)).length = bs.length - (n + 1) := List.length_drop
    have hrow := h3.drop (n + 1) c (fun e => by rw [Q0M]; omega)
    have hne : bytesV (bs.drop (n + 1)) ≠ [] → bytesV bs ≠ [] := fun h0 e => h0 (by rw [bytesV, List.map_drop, show List.map u8V bs = [] from e]; simp)
    refine ⟨by rw [List.drop_zero], ⟨hNp, _, c - (n + 1), by rw [hdl]; exact hb, by rw [hdl]; omega, ?_, fun h0 ad ha => ?_⟩, hx⟩
    · rw [show bytesV (bs.drop (n + 1)) = (bytesV bs).drop (n + 1) by simp [bytesV]]
      refine hrow.ext' hx fun h0 ad ha hq => ?_
      have hne2 : bytesV bs ≠ [] := fun e => h0 (by rw [e]; simp)
      split at ha
      · have := h4 hne2 ad ha; omega
      · obtain ⟨b0, hb0, rfl⟩ := Option.map_eq_some_iff.1 ha
        rw [Q11] at hq
        have := h4 hne2 b0 hb0; omega
    · split at ha
      · exact h4 (hne h0) ad ha
      · obtain ⟨b0, hb0, rfl⟩ := Option.map_eq_some_iff.1 ha
        rw [Q11]; exact h4 (hne h0) b0 hb0
  | succ t =>
    have e1 : (((t + 1 : Nat) : Int) - 1) = (t : Int) := by omega
    rw [e1, show decide ((t : Int) ≥ 0) = true by simp, cond_true]
    have htl : t < bs.length := by omega
    have htL : t < L.length := by omega
    obtain ⟨ad, rfl⟩ := h3.addr (by intro e; rw [bytesV, List.map_eq_nil_iff] at e; subst e; simp at htl)
    have hx := u8_lt bs[t]
    have hLt : L[t] = bs[t] := by simp only [← hL]; rw [List.getElem_take]
    have hdr : L.drop t = bs[t] :: L.drop (t + 1) := by rw [List.drop_eq_getElem_cons htL, hLt]
    have hv : valW (L.drop t) = bs[t].toNat % 128 + 128 * valW (L.drop (t + 1)) := by rw [hdr]; rfl
    have hle := Q1R L t
    have q4' : valW L < 18446744073709551616 := q4
    have hm : Int.tmod (bs[t].toNat : Int) 128 = ((bs[t].toNat % 128 : Nat) : Int) := by rw [Int.tmod_eq_emod_of_nonneg (by omega)]; omega
    refine ⟨_, _, _, h1.cella (i := 0) rfl, by omega, by omega, _, by rw [Int.toNat_natCast, Nat.mul_one]; exact h3.at_ (Q0P htl), by decide, t, by omega, t, ?_, rfl, by omega, rfl⟩
    rw [hm, wu64 (n := ((valW (L.drop (t + 1)) : Nat) : Int) * 128) (by omega) (by omega), wu64 (n := ((bs[t].toNat % 128 : Nat) : Int)) (by omega) (by omega), wu64 (by omega) (by omega), w64 (by omega) (by omega), hv]
    congr 2
    congr 1
    omega

def exitP (RR : RW) (ww7 : World) (p : Nat) (n4 : Int) : Prop :=
  (some (blk p)).elim False fun a15 =>
  ∃ (B16a : Option Addr) (B16n B16c : Nat), ww7.cell? (a15.add 0) = some (.slice B16a B16n B16c) ∧
  bif decide (n4 ≥ (B16n : Int)) then (
  Calls Try.prog 65 #[.pointer (some (blk p)), .int .i64 4] ww7 fun ee17 ww18 => ee17 = .returned (.tuple #[]) ∧
  RR (.int .u64 0) ww18) else (
  bif decide (n4 ≥ 10) then (
  Calls Try.prog 65 #[.pointer (some (blk p)), .int .i64 4] ww7 fun ee19 ww20 => ee19 = .returned (.tuple #[]) ∧
  RR (.int .u64 0) ww20) else (
  bif n4 == 9 then (
  (some (blk p)).elim False fun a21 =>
  ∃ (B22a : Option Addr) (B22n B22c : Nat), ww7.cell? (a21.add 0) = some (.slice B22a B22n B22c) ∧
  B22a.elim False fun a23 =>
  0 ≤ (n4 : Int) ∧ (n4 : Int) < (B22n : Int) ∧
  ∃ (x24 : Int), ww7.cell? (a23.add (Int.toNat n4 * 1)) = some (.int .u8 x24) ∧
  bif x24 != 1 then (
  Calls Try.prog 65 #[.pointer (some (blk p)), .int .i64 4] ww7 fun ee25 ww26 => ee25 = .returned (.tuple #[]) ∧
  RR (.int .u64 0) ww26) else (
  bif decide (n4 > 0) then (
  (some (blk p)).elim False fun a27 =>
  ∃ (B28a : Option Addr) (B28n B28c : Nat), ww7.cell? (a27.add 0) = some (.slice B28a B28n B28c) ∧
  B28a.elim False fun a29 =>
  0 ≤ (n4 : Int) ∧ (n4 : Int) < (B28n : Int) ∧
  ∃ (x30 : Int), ww7.cell? (a29.add (Int.toNat n4 * 1)) = some (.int .u8 x30) ∧
  bif x30 == 0 then (
  Calls Try.prog 65 #[.pointer (some (blk p)), .int .i64 4] ww7 fun ee31 ww32 => ee31 = .returned (.tuple #[]) ∧
  RR (.int .u64 0) ww32) else (
  loop2P RR ww7 p n4)) else (
  loop2P RR ww7 p n4))) else (
  bif decide (n4 > 0) then (
  (some (blk p)).elim False fun a61 =>
  ∃ (B62a : Option Addr) (B62n B62c : Nat), ww7.cell? (a61.add 0) = some (.slice B62a B62n B62c) ∧
  B62a.elim False fun a63 =>
  0 ≤ (n4 : Int) ∧ (n4 : Int) < (B62n : Int) ∧
  ∃ (x64 : Int), ww7.cell? (a63.add (Int.toNat n4 * 1)) = some (.int .u8 x64) ∧
  bif x64 == 0 then (
  Calls Try.prog 65 #[.pointer (some (blk p)), .int .i64 4] ww7 fun ee65 ww66 => ee65 = .returned (.tuple #[]) ∧
  RR (.int .u64 0) ww66) else (
  loop2P RR ww7 p n4)) else (
  loop2P RR ww7 p n4))))
theorem exit_ok (h : RdR w p N bs 0) (hl : bs.length < 1000000) {n : Nat} (hn : n ≤ bs.length) (h10 : n ≤ 10) (hc : ∀ c ∈ bs.take n, 128 ≤ c.toNat) (hs : n = bs.length ∨ n = 10 ∨ ∃ hn : n < bs.length, bs[n].toNat < 128) :
    exitP (fun v w' => v = .int .u64 (numR (bs, 0)).1 ∧ RdR w' p N (numR (bs, 0)).2.1 (numR (bs, 0)).2.2 ∧ Ext (fun b => b = p) w w') w p n := by
  obtain ⟨hNp, a, c, h1, h2, h3, h4⟩ := id h
  -- where there is no number
  have bad : widthF 0 bs = 0 → Calls Try.prog 65 #[.pointer (some (blk p)), .int .i64 4] w fun ee ww => ee = .returned (.tuple #[]) ∧ (fun v w' => v = Value.int .u64 (numR (bs, 0)).1 ∧ RdR w' p N (numR (bs, 0)).2.1 (numR (bs, 0)).2.2 ∧ Ext (fun b => b = p) w w') (.int .u64 0) ww := fun hz => by
    have hnum : numR (bs, 0) = (0, ([], 4)) := by unfold numR rdNum; simp [hz]
    rw [hnum]
    exact (rFail_spec h 4).mono fun e w9 ⟨he, hr, hx⟩ => ⟨he, rfl, hr, hx⟩
  unfold exitP
  refine ⟨a, bs.length, c, h1.cella (i := 0) rfl, ?_⟩
  by_cases c1 : n = bs.length
  · rw [decide_eq_true (by omega : (n : Int) ≥ (bs.length : Int)), cond_true]
    refine bad ?_
    by_cases c2 : n ≤ 9
    · rw [Q1o n 0 bs (by omega) (by omega) hc, List.drop_eq_nil_of_le (by omega)]; rfl
    · exact Q2w (by omega) (by rw [show (10 : Nat) = n by omega]; exact hc)
  rw [decide_eq_false (by omega : ¬ (n : Int) ≥ (bs.length : Int)), cond_false]
  have hnl : n < bs.length := by omega
  by_cases c2 : n = 10
  · rw [decide_eq_true (by omega : (n : Int) ≥ 10), cond_true]
    exact bad (Q2w (by omega) (by rw [show (10 : Nat) = n by omega]; exact hc))
  rw [decide_eq_false (by omega : ¬ (n : Int) ≥ 10), cond_false]
  have hlt : bs[n].toNat < 128 := by
    rcases hs with hs | hs | ⟨_, hs⟩
    · exact absurd hs c1
    · exact absurd hs c2
    · exact hs
  have hskip := Q1o n 0 bs (by omega) (by omega) hc
  rw [List.drop_eq_getElem_cons hnl, Nat.zero_add] at hskip
  simp only [widthF] at hskip
  obtain ⟨ad, rfl⟩ := h3.addr (by intro e; rw [bytesV, List.map_eq_nil_iff] at e; subst e; simp at hnl)
  have hcell : w.cell? (ad.add (Int.toNat (n : Int) * 1)) = some (.int .u8 (bs[n].toNat : Int)) := by rw [Int.toNat_natCast, Nat.mul_one]; exact h3.at_ (Q0P hnl)
  -- behind the test for the last byte of all
  have rest : ¬ (n = 9 ∧ bs[n].toNat ≠ 1) → (n > 0 → bs[n].toNat = 0 → widthF 0 bs = 0) ∧ ((n > 0 → bs[n].toNat ≠ 0) → widthF 0 bs = n + 1) := fun hq => by
    rw [if_neg hq, if_pos hlt] at hskip
    exact ⟨fun q1 q2 => by rw [hskip, if_pos ⟨q2, q1⟩], fun q => by rw [hskip, if_neg fun ⟨e1, e2⟩ => q e2 e1]⟩
  by_cases c9 : n = 9
  · rw [beq_iff_eq.2 (by omega : (n : Int) = 9), cond_true]
    refine ⟨_, _, _, h1.cella (i := 0) rfl, by omega, by omega, _, hcell, ?_⟩
    by_cases c8 : bs[n].toNat = 1
    · rw [show ((bs[n].toNat : Int) != 1) = false by simp; omega, cond_false, decide_eq_true (by omega : (n : Int) > 0), cond_true]
      refine ⟨_, _, _, h1.cella (i := 0) rfl, by omega, by omega, _, hcell, ?_⟩
      rw [beq_eq_false_iff_ne.2 (by omega : (bs[n].toNat : Int) ≠ 0), cond_false]
      exact Q2F h hl hnl ((rest fun q => q.2 c8).2 fun _ => by omega)
    · rw [show ((bs[n].toNat : Int) != 1) = true by simp; omega, cond_true]
      refine bad ?_
      rw [hskip, if_pos ⟨c9, c8⟩]
  · rw [beq_eq_false_iff_ne.2 (by omega : (n : Int) ≠ 9), cond_false]
    have hrest := rest fun q => c9 q.1
    by_cases c0 : n > 0
    · rw [decide_eq_true (by omega : (n : Int) > 0), cond_true]
      refine ⟨_, _, _, h1.cella (i := 0) rfl, by omega, by omega, _, hcell, ?_⟩
      by_cases cz : bs[n].toNat = 0
      · rw [beq_iff_eq.2 (by omega : (bs[n].toNat : Int) = 0), cond_true]
        exact bad (hrest.1 c0 cz)
      · rw [beq_eq_false_iff_ne.2 (by omega : (bs[n].toNat : Int) ≠ 0), cond_false]
        exact Q2F h hl hnl (hrest.2 fun _ => cz)
    · rw [decide_eq_false (by omega : ¬ (n : Int) > 0), cond_false]
      exact Q2F h hl hnl (hrest.2 fun q => absurd q c0)
theorem Q3C (h : RdR w p N bs k) (hl : bs.length < 1000000) :
    Calls Try.prog 45 #[.pointer (some (blk p))] w (GivesW (.int .u64 (numR (bs, k)).1) fun w' => RdR w' p N (numR (bs, k)).2.1 (numR (bs, k)).2.2 ∧ Ext (fun b => b = p) w w') := by
  refine (rRNum.ok _ (R := fun v w' => v = .int .u64 (numR (bs, k)).1 ∧ RdR w' p N (numR (bs, k)).2.1 (numR (bs, k)).2.2 ∧ Ext (fun b => b = p) w w') ?_).mono fun e w' ⟨v, he, hv, hw⟩ => ⟨by rw [he, hv], hw⟩
  unfold rRNum.M
  obtain ⟨hNp, a, c, h1, h2, h3, h4⟩ := id h
  refine ⟨_, h1.cella (i := 1) rfl, ?_⟩
  by_cases hk : k = 0
  · subst hk
    rw [show ((0 : Int) != 0) = false from rfl, cond_false]
    refine ⟨fun j vs w1 => ∃ n : Nat, vs = [.int .i64 n] ∧ j + n = 10 ∧ n ≤ bs.length ∧ (∀ c ∈ bs.take n, 128 ≤ c.toNat) ∧ w1 = w, 10, ⟨0, rfl, rfl, Nat.zero_le _, by simp, rfl⟩, ?_⟩
    rintro j w1 i ⟨n, hi, hj, hn, hc, rfl⟩
    simp only [List.cons.injEq, Value.int.injEq, true_and, and_true] at hi
    subst hi
    refine ⟨_, _, _, h1.cella (i := 0) rfl, ?_⟩
    by_cases c1 : n < bs.length
    · rw [decide_eq_true (by omega : (n : Int) < (bs.length : Int)), cond_true]
      by_cases c2 : n < 10
      · rw [decide_eq_true (by omega : (n : Int) < 10), cond_true]
        obtain ⟨ad, rfl⟩ := h3.addr (by intro e; rw [bytesV, List.map_eq_nil_iff] at e; subst e; simp at c1)
        refine ⟨_, _, _, h1.cella (i := 0) rfl, by omega, by omega, _, by rw [Int.toNat_natCast, Nat.mul_one]; exact h3.at_ (Q0P c1), ?_⟩
        by_cases c3 : 128 ≤ bs[n].toNat
        · rw [decide_eq_true (by omega : (bs[n].toNat : Int) ≥ 128), cond_true]
          refine ⟨j - 1, by omega, n + 1, by rw [w64 (by omega) (by omega)]; rfl, by omega, by omega, fun d hd => ?_, rfl⟩
          rw [List.take_add_one, show bs[n]?.toList = [bs[n]] by simp [c1]] at hd
          rcases List.mem_append.1 hd with hd | hd
          · exact hc d hd
          · rw [List.mem_singleton] at hd; rw [hd]; exact c3
        · rw [decide_eq_false (by omega : ¬ (bs[n].toNat : Int) ≥ 128), cond_false]
          exact exit_ok h hl (by omega) (by omega) hc (.inr (.inr ⟨c1, by omega⟩))
      · rw [decide_eq_false (by omega : ¬ (n : Int) < 10), cond_false]
        exact exit_ok h hl (by omega) (by omega) hc (.inr (.inl (by omega)))
    · rw [decide_eq_false (by omega : ¬ (n : Int) < (bs.length : Int)), cond_false]
      exact exit_ok h hl (by omega) (by omega) hc (.inl (by omega))
  · rw [show (k != 0) = true by simpa using hk, cond_true]
    have hn : numR (bs, k) = (0, (bs, k)) := by unfold numR; rw [if_neg hk]
    rw [hn]
    exact ⟨rfl, h, Ext.refl _ _⟩
theorem rCount_spec (h : RdR w p N bs k) (hl : bs.length < 1000000) {m : Int} (hm0 : 0 ≤ m) (hm : m < 4611686018427387904) :
    Calls Try.prog 43 #[.pointer (some (blk p)), .int .i64 m] w (GivesW (.int .i64 (countR m (bs, k)).1) fun w' => RdR w' p N (countR m (bs, k)).2.1 (countR m (bs, k)).2.2 ∧ Ext (fun b => b = p) w w') := by
  refine (rRCount.ok _ _ (R := fun v w' => v = .int .i64 (countR m (bs, k)).1 ∧ RdR w' p N (countR m (bs, k)).2.1 (countR m (bs, k)).2.2 ∧ Ext (fun b => b = p) w w') ?_).mono fun e w' ⟨v, he, hv, hw⟩ => ⟨by rw [he, hv], hw⟩
  unfold rRCount.M
  have hlt := W.numR_lt (bs, k)
  have hbad : (numR (bs, k)).2.2 ≠ 0 → (numR (bs, k)).1 = 0 := fun hb => by
    unfold numR at hb ⊢
    by_cases h0 : k = 0
    · rw [if_pos h0] at hb ⊢
      cases hr : rdNum bs with
      | none => rfl
      | some q => rw [hr] at hb; exact absurd rfl hb
    · rw [if_neg h0]
  refine (Q3C h hl).mono fun e w5 ⟨he, hr5, hx5⟩ => ⟨_, he, ?_⟩
  unfold countR
  generalize numR (bs, k) = s at *
  obtain ⟨n, bs', k'⟩ := s
  simp only at *
  obtain ⟨hNp, a, c, h1, _⟩ := id hr5
  refine ⟨_, h1.cella (i := 1) rfl, ?_⟩
  by_cases hk : k' = 0
  · subst hk
    rw [if_pos rfl, show ((0 : Int) == 0) = true from rfl, cond_true, decide_eq_false (by omega : ¬ m < 0), cond_false, wu64 (n := m) (by omega) (by omega)]
    by_cases c2 : (n : Int) > m
    · rw [decide_eq_true c2, cond_true, if_pos (.inr c2)]
      exact (rFail_spec hr5 3).mono fun e w9 ⟨he, hr, hx⟩ => ⟨he, rfl, hr, hx5.trans hx⟩
    · rw [decide_eq_false c2, cond_false, if_neg (fun h => h.elim (by omega) c2), w64 (by omega) (by omega)]
      exact ⟨rfl, hr5, hx5⟩
  · rw [if_neg hk, beq_eq_false_iff_ne.2 hk, cond_false, hbad hk]
    exact ⟨rfl, hr5, hx5⟩
end
end Go.Proofs.Ytoempemllkebkaa.W
namespace Go.Mx
def Ret (v : Value) (Q : World → Prop) (e : Ending) (w' : World) : Prop := e = .returned v ∧ Q w'
def Priv (w w' : World) (L : List Nat) : Prop := ∀ p ∈ L, w.heap.size ≤ p ∧ p < w'.heap.size
theorem Priv.nil {w w' : World} : Priv w w' [] := fun p hp => by simp at hp
theorem Priv.cons {w w' : World} {p : Nat} {L : List Nat} (h1 : w.heap.size ≤ p) (h2 : p < w'.heap.size) (h : Priv w w' L) : Priv w w' (p :: L) := fun q hq => by
  rcases List.mem_cons.1 hq with rfl | hq
  · exact ⟨h1, h2⟩
  · exact h q hq
theorem Priv.one {w w' : World} {p : Nat} (h : Priv w w' [p]) : w.heap.size ≤ p ∧ p < w'.heap.size := h p (by simp)
def Privq (w : World) (q : Nat) (L : List Nat) : Prop := ∀ p ∈ L, w.heap.size ≤ p ∧ p < q
theorem Privq.nil {w : World} {q : Nat} : Privq w q [] := fun p hp => by simp at hp
theorem Privq.cons {w : World} {q p : Nat} {L : List Nat} (h1 : w.heap.size ≤ p) (h2 : p < q) (h : Privq w q L) : Privq w q (p :: L) := fun r hr => by
  rcases List.mem_cons.1 hr with rfl | hr
  · exact ⟨h1, h2⟩
  · exact h r hr
theorem Privq.one {w : World} {q p : Nat} (h : Privq w q [p]) : w.heap.size ≤ p ∧ p < q := h p (by simp)
def Keep (L : List Nat) (w w' : World) : Prop := ∀ p ∈ L, p < w.heap.size → w'.heap[p]? = w.heap[p]?
section
variable {m : Nat → Prop} {w w0 w' : World} {L : List Nat} {p q i : Nat} {t : TypeId} {cs : List Value} {a : Addr} {v : Value}
theorem Ext.keep (h : Ext m w w') (hm : ∀ p ∈ L, p < w.heap.size → ¬ m p) : Keep L w w' := fun p hp hl => h.block p hl (hm p hp hl)
theorem Ext.kept (h : Ext no w w') : Keep L w w' := h.keep fun _ _ _ hb => hb
theorem Keep.refl (L : List Nat) (w : World) : Keep L w w := fun _ _ _ => rfl
theorem Keep.blk (h : Keep L w w') (hb : Blk w p t cs) (hp : p ∈ L) : Blk w' p t cs := by
  unfold Blk at hb ⊢
  rw [h p hp (Array.getElem?_eq_some_iff.1 hb).1]; exact hb
theorem Blk.celli (h : Blk w p t cs) (i : Nat) (ha : a = ⟨p, i, Option.none⟩) (hv : cs[i]? = some v) : w.cell? a = some v := by subst ha; exact h.cell hv
theorem Blk.cani (h : Blk w p t cs) (i : Nat) (ha : a = ⟨p, i, Option.none⟩) (hv : cs[i]? = some v) : Q01 w a := by subst ha; exact h.can hv
theorem Blk.seti (h : Blk w p t cs) (i : Nat) (ha : a = ⟨p, i, Option.none⟩) (e : w' = w.setCell a v) : Blk w' p t (cs.set i v) := by subst ha; subst e; exact h.set i v
theorem Blk.oth (h : Blk w p t cs) (ha : a = ⟨q, i, Option.none⟩) (hne : p ≠ q) (e : w' = w.setCell a v) : Blk w' p t cs := by subst ha; subst e; exact h.set_other hne v
theorem Blk.of_new (e : w' = w.alloc (.cells cs.toArray t)) : Blk w' w.heap.size t cs := by subst e; exact Blk.new _ _ _
theorem Blk.x_drew (h : Blk w p t cs) (e : w' = w.drew) : Blk w' p t cs := by subst e; exact h
theorem Blk.x_alloc (h : Blk w p t cs) {o : Obj} (e : w' = w.alloc o) : Blk w' p t cs := by subst e; exact h.alloc o
theorem Ext.x_drew (h : Ext m w0 w) (e : w' = w.drew) : Ext m w0 w' := by subst e; exact h.drew
theorem Ext.x_alloc (h : Ext m w0 w) {o : Obj} (e : w' = w.alloc o) : Ext m w0 w' := by subst e; exact h.alloc o
theorem Ext.x_set (h : Ext m w0 w) (ha : a = ⟨q, i, Option.none⟩) (hq : m q ∨ w0.heap.size ≤ q) (e : w' = w.setCell a v) : Ext m w0 w' := by subst ha; subst e; exact h.setCell hq v
theorem Q0s {o : Obj} (e : w' = w.alloc o) : w.heap.size < w'.heap.size := by subst e; simp
end
theorem Q0X {w w' : World} {K : World → Prop} (h : thenW w K) (e : w' = w) : K w' := by subst e; exact h
theorem bif_of {c : Bool} {A B : Prop} (h1 : c = true → A) (h2 : c = false → B) : bif c then A else B := by cases c; exact h2 rfl; exact h1 rfl
theorem bif_fo {c : Bool} {A B : Prop} (h2 : c = false → B) (h1 : c = true → A) : bif c then A else B := by cases c; exact h2 rfl; exact h1 rfl
theorem bif_tt {c : Bool} {A B : Prop} (h : c = true) (h1 : A) : bif c then A else B := by subst h; exact h1
theorem bif_ff {c : Bool} {A B : Prop} (h : c = false) (h1 : B) : bif c then A else B := by subst h; exact h1
theorem Q0p {α : Type} {o : Option α} {a : α} {K : α → Prop} (h : o = some a) (k : K a) : o.elim False K := by subst h; exact k
theorem cong1 (f : Int → Bool) {a b : Int} {r : Bool} (h : a = b) (hd : f b = r) : f a = r := by subst h; exact hd
theorem not_t {b : Bool} (h : (!b) = true) : b = false := by simpa using h
theorem not_f {b : Bool} (h : (!b) = false) : b = true := by simpa using h
theorem bne_t {a b : Int} (h : (a != b) = true) : a ≠ b := by simpa using h
theorem bne_f {a b : Int} (h : (a != b) = false) : a = b := by simpa using h
theorem beq_t {a b : Int} (h : (a == b) = true) : a = b := by simpa using h
theorem beq_f {a b : Int} (h : (a == b) = false) : a ≠ b := by simpa using h
abbrev cutA (a : Option Addr) (c l sz : Nat) : Option Addr := if c = l then a else Option.map (fun z : Addr => z.add (l * sz)) a
theorem Q3p (a : Option Addr) (c k : Nat) : (if c = 0 then a else Option.map (fun z : Addr => z.add (0 * k)) a) = a := by
  split
  · rfl
  · rw [Nat.zero_mul]; cases a <;> rfl
theorem RowAt.cut {w : World} {a : Option Addr} {cs : List Value} (h : RowAt w a cs) (k c : Nat) (hc : cs.length ≤ c) : RowAt w (cutA a c k 1) (cs.drop k) := by
  have := h.drop k c (fun e => by omega)
  unfold cutA
  rw [Nat.mul_one]; exact this
theorem Q1p {a : Option Addr} {c l sz : Nat} {ad : Addr} (h : cutA a c l sz = some ad) : ∃ b, a = some b ∧ b.block = ad.block := by
  unfold cutA at h
  split at h
  · exact ⟨ad, h, rfl⟩
  · obtain ⟨b, hb, rfl⟩ := Option.map_eq_some_iff.1 h
    exact ⟨b, hb, (Q11 _ _).symm⟩
end Go.Mx
set_option linter.unusedSectionVars false
namespace Go.Mx
abbrev Own := Nat → Option Nat
def Tags (w : World) (o : Own) : Prop := ∀ b j, b < w.heap.size → o b = some j → j < w.heap.size
structure Step (K : Nat → Prop) (w : World) (o : Own) (w' : World) (o' : Own) : Prop where
  ext : Ext (fun b => ∃ k, o b = some k ∧ K k) w w'
  same : ∀ b, b < w.heap.size → o' b = o b
  ok0 : Tags w o
  ok : Tags w' o'
def grow (w : World) (o : Own) : Own := fun b => if b < w.heap.size then o b else none
def tag (o : Own) (p j : Nat) : Own := fun b => if b = p then some j else o b
section
variable {K K1 : Nat → Prop} {w w1 w' : World} {o o1 o' : Own} {p q j : Nat}
theorem Step.refl (K : Nat → Prop) (h : Tags w o) : Step K w o w o := ⟨Ext.refl _ _, fun _ _ => rfl, h, h⟩
theorem Step.size (h : Step K w o w' o') : w.heap.size ≤ w'.heap.size := h.ext.size
theorem Step.mono (h : Step K w o w' o') (hk : ∀ j, K j → j < w.heap.size → K1 j) : Step K1 w o w' o' :=
  ⟨h.ext.mono fun b ⟨k, h1, h2⟩ hb => ⟨k, h1, hk k h2 (h.ok0 b k hb h1)⟩, h.same, h.ok0, h.ok⟩
theorem Step.trans' (h : Step K w o w1 o1) (k : Step K1 w1 o1 w' o') (hk : ∀ j, K1 j → K j ∨ w.heap.size ≤ j) : Step K w o w' o' := by
  refine ⟨h.ext.then k.ext fun b ⟨j, h1, h2⟩ => ?_, fun b hb => (k.same b (Nat.lt_of_lt_of_le hb h.size)).trans (h.same b hb), h.ok0, k.ok⟩
  by_cases hb : b < w.heap.size
  · rw [h.same b hb] at h1
    rcases hk j h2 with h3 | h3
    · exact .inl ⟨j, h1, h3⟩
    · have := h.ok0 b j hb h1; omega
  · exact .inr (by omega)
theorem Step.trans (h : Step K w o w1 o1) (k : Step K w1 o1 w' o') : Step K w o w' o' := h.trans' k fun _ h => .inl h
theorem Step.none (h : Step no w o w' o') : Step K w o w' o' := h.mono fun _ h _ => h.elim
theorem grow_lt {b : Nat} (h : b < w.heap.size) : grow w o b = o b := if_pos h
theorem grow_ge {b : Nat} (h : w.heap.size ≤ b) : grow w o b = none := if_neg (by omega)
theorem Tags.grow (h : Tags w o) (hs : w.heap.size ≤ w'.heap.size) : Tags w' (grow w o) := fun b j hb hj => by
  by_cases hl : b < w.heap.size
  · rw [grow_lt hl] at hj; exact Nat.lt_of_lt_of_le (h b j hl hj) hs
  · rw [grow_ge (by omega)] at hj; cases hj
theorem Q0V : tag o p j p = some j := if_pos rfl
theorem tag_ne {b : Nat} (h : b ≠ p) : tag o p j b = o b := if_neg h
theorem Tags.tag (h : Tags w o) (hj : j < w.heap.size) : Tags w (tag o p j) := fun b i hb hi => by
  by_cases hp : b = p
  · subst hp; rw [Q0V] at hi; cases hi; exact hj
  · rw [tag_ne hp] at hi; exact h b i hb hi
theorem Step.of_no (h : Ext no w w') (ok : Tags w o) : Step no w o w' (grow w o) := ⟨h.mono fun _ h _ => h.elim, fun _ hb => grow_lt hb, ok, ok.grow h.size⟩
theorem Step.tag (h : Step K w o w' o') (hp : w.heap.size ≤ p) (hj : j < w'.heap.size) : Step K w o w' (tag o' p j) :=
  ⟨h.ext, fun b hb => by rw [tag_ne (by omega)]; exact h.same b hb, h.ok0, h.ok.tag hj⟩
theorem Step.of_ext {m : Nat → Prop} (h : Ext m w w') (ok : Tags w o) (hm : ∀ b, m b → b < w.heap.size → o b = some p) : Step (fun j => j = p) w o w' (grow w o) :=
  ⟨h.mono fun b hb hl => ⟨p, hm b hb hl, rfl⟩, fun _ hb => grow_lt hb, ok, ok.grow h.size⟩
theorem Step.at (h : Step K w o w' o') {b : Nat} (hb : b < w.heap.size) (hk : ∀ k, o b = some k → ¬ K k) : w'.heap[b]? = w.heap[b]? :=
  h.ext.block b hb fun ⟨k, h1, h2⟩ => hk k h1 h2
theorem Step.blk (h : Step K w o w' o') {t : TypeId} {cs : List Value} (hb : Blk w p t cs) (hp : o p = some j) (hj : ¬ K j) : Blk w' p t cs := by
  have := h.at hb.lt fun k hk => by rw [hp] at hk; cases hk; exact hj
  unfold Blk at hb ⊢
  rw [this]; exact hb
theorem Step.own (h : Step K w o w' o') (hp : p < w.heap.size) : o' p = o p := h.same p hp
def Row (w : World) (o : Own) (a : Option Addr) (cs : List Value) : Prop := RowAt w a cs ∧ (cs ≠ [] → ∀ ad, a = some ad → o ad.block = none)
theorem Row.nil (w : World) (o : Own) (a : Option Addr) : Row w o a [] := ⟨RowAt.nil _ _, fun h => absurd rfl h⟩
theorem Row.step {a : Option Addr} {cs : List Value} (h : Row w o a cs) (k : Step K w o w' o') : Row w' o' a cs :=
  ⟨h.1.ext' k.ext fun h0 ad ha ⟨j, h1, _⟩ => (by rw [h.2 h0 ad ha] at h1; cases h1), fun h0 ad ha => by rw [k.same _ (h.1.lt h0 ha)]; exact h.2 h0 ad ha⟩
theorem Row.fresh {a : Option Addr} {cs : List Value} (h : RowAt w' a cs) (hf : ∀ ad, a = some ad → w.heap.size ≤ ad.block) : Row w' (grow w o) a cs := ⟨h, fun _ ad ha => grow_ge (hf ad ha)⟩
end
/-! ### rows that grow, of an owner -/
section
variable {K K1 : Nat → Prop} {w w1 w' : World} {o o1 o' : Own} {p q j k : Nat}
structure Grows (e size : Nat) (w : World) (o : Own) (k : Nat) (a : Option Addr) (n c : Nat) (cs : List Value) : Prop where
  own : w.ownsRow 0 e size (.slice a n c) n cs
  tg : ∀ ad, a = some ad → o ad.block = some k ∧ ad.block < w.heap.size
theorem Grows.row {e size : Nat} {a : Option Addr} {n c : Nat} {cs : List Value} (h : Grows e size w o k a n c cs) : RowAt w a cs := by
  obtain ⟨_, _, hv, hr⟩ := RowAt.of_owns h.own
  cases hv; exact hr
theorem owns_ext' {m : Nat → Prop} {e size n : Nat} {v : Value} {xs : List Value} (h : w.ownsRow 0 e size v n xs) (x : Ext m w w') (hn : ∀ b, v.ownBlock = some b → ¬ m b) : w'.ownsRow 0 e size v n xs := by
  refine ⟨h.1, ?_⟩
  rcases h.2 with h2 | ⟨g, cap, cur, hv, hb, hg, hr⟩
  · exact .inl h2
  · exact .inr ⟨g, cap, cur, hv, hb, x.get hg (hn g (by rw [hv]; rfl)), hr⟩
theorem Grows.step {e size : Nat} {a : Option Addr} {n c : Nat} {cs : List Value} (h : Grows e size w o k a n c cs) (s : Step K w o w' o') (hk : ¬ K k) : Grows e size w' o' k a n c cs := by
  refine ⟨owns_ext' h.own s.ext fun b hb ⟨i, h1, h2⟩ => ?_, fun ad ha => ?_⟩
  · cases a with
    | none => simp [Value.ownBlock] at hb
    | some ad =>
      simp only [Value.ownBlock, Option.some.injEq] at hb
      subst hb
      rw [(h.tg ad rfl).1] at h1; cases h1; exact hk h2
  · have := h.tg ad ha
    exact ⟨by rw [s.own this.2]; exact this.1, Nat.lt_of_lt_of_le this.2 s.size⟩
theorem Grows.keep {e size : Nat} {a : Option Addr} {n c : Nat} {cs : List Value} (h : Grows e size w o k a n c cs) {m : Nat → Prop} (x : Ext m w w') (hm : ∀ ad, a = some ad → ¬ m ad.block) (ho : ∀ b, b < w.heap.size → o' b = o b) : Grows e size w' o' k a n c cs := by
  refine ⟨owns_ext' h.own x fun b hb => ?_, fun ad ha => ?_⟩
  · cases a with
    | none => simp [Value.ownBlock] at hb
    | some ad => simp only [Value.ownBlock, Option.some.injEq] at hb; subst hb; exact hm ad rfl
  · have := h.tg ad ha
    exact ⟨by rw [ho _ this.2]; exact this.1, Nat.lt_of_lt_of_le this.2 x.size⟩
theorem Grows.nil (e size : Nat) (w : World) (o : Own) (k : Nat) : Grows e size w o k none 0 0 [] := ⟨⟨by simp, .inl ⟨rfl, rfl⟩⟩, fun ad ha => by cases ha⟩
theorem Grows.push {P : Program} {t ty e : TypeId} {i : TypeInfo} {z : Value} {size bytes : Nat} (ht : P.underlying t = some (.slice e)) (hi : P.info? e = some i) (hz : i.zero = some z)
    (hsize : i.size = size) (hby : i.bytes = bytes) (hzs : z.cells.size = size) (hsz : 0 < size) {a : Option Addr} {n c : Nat} {cs : List Value} (h : Grows e size w o k a n c cs) (ok : Tags w o) (hk : k < w.heap.size)
    {xa : Option Addr} {m xc : Nat} {news : List Value} (hl : news.length = m * size) (hnews : RowAt w xa news) (h1 : ∀ u ∈ news, u.oneCell' = true) (hb : (n + m) * bytes ≤ 140737488355328) (h63 : n + m ≤ 9223372036854775807) :
    ∃ a' c' w' o', (Builtin.append_ #[t, t] ty #[.slice a n c, .slice xa m xc]).run P w = .ok (.slice a' (n + m) c') w' ∧ Step (fun j => j = k) w o w' o' ∧ Grows e size w' o' k a' (n + m) c' (cs ++ news) ∧
      (∀ b, b < w.heap.size → (∀ ad, a = some ad → b ≠ ad.block) → w'.heap[b]? = w.heap[b]?) ∧ (∀ ad, a' = some ad → (∃ b, a = some b ∧ ad.block = b.block) ∨ ad.block = w.heap.size) := by
  obtain ⟨a', c', w', hr, ho, hg, hbk⟩ := Q0Z (ty := ty) ht hi hz hsize hby hzs hsz h.own (xa := xa) (m := m) (c := xc) hl hnews h1 hb h63
  have hrow : ∀ q, (Value.slice a n c).ownBlock = some q → o q = some k ∧ q < w.heap.size ∧ ∃ ad, a = some ad ∧ q = ad.block := fun q hq => by
    cases a with
    | none => simp [Value.ownBlock] at hq
    | some ad => simp only [Value.ownBlock, Option.some.injEq] at hq; subst hq; exact ⟨(h.tg ad rfl).1, (h.tg ad rfl).2, ad, rfl, rfl⟩
  have X : Ext (fun b => (Value.slice a n c).ownBlock = some b) w w' := Ext.of_grown hg fun q hq => .inl hq
  have s : Step (fun j => j = k) w o w' (grow w o) := Step.of_ext X ok fun b hb _ => (hrow b hb).1
  refine ⟨a', c', w', tag (grow w o) w.heap.size k, hr, s.tag (Nat.le_refl _) (Nat.lt_of_lt_of_le hk s.size), ⟨ho, fun ad ha => ?_⟩, fun b hb hne => X.block b hb fun hq => ?_, fun ad ha => ?_⟩
  · have hlt := (Q0Q ho).2 ad ha
    subst ha
    refine ⟨?_, hlt⟩
    rcases hbk with hq | hq
    · obtain ⟨q1, q2, _⟩ := hrow _ hq.symm
      rw [tag_ne (by omega), grow_lt q2]; exact q1
    · simp only [Value.ownBlock, Option.some.injEq] at hq
      rw [hq]; exact Q0V
  · obtain ⟨_, _, ad, ha, rfl⟩ := hrow b hq
    exact hne ad ha rfl
  · subst ha
    rcases hbk with hq | hq
    · obtain ⟨_, _, b, hb1, hb2⟩ := hrow _ hq.symm
      exact .inl ⟨b, hb1, hb2⟩
    · simp only [Value.ownBlock, Option.some.injEq] at hq; exact .inr hq
end
end Go.Mx
namespace Go.Proofs.Ytoempemllkebkaa
open Go Go.Mx Go.Proofs
theorem follows : Try.prog.follows .mixedOrders = true := by kernel_rfl
end Go.Proofs.Ytoempemllkebkaa
namespace Go.Proofs.Ytoempemllkebkaa
open Go Go.Mx Go.Proofs
theorem W.eqf_step {P : Program} {w : World} {d : Nat} {xs ys : Array Value} {f : Field} {fs : List Field} {a b : Value} {r : Bool} (n : f.name ≠ "_") (qa : (part f.type xs f.offset).run P w = .ok a w) (qb : (part f.type ys f.offset).run P w = .ok b w) (he : (Op.equalIn d f.type a b).run P w = .ok r w) :
    (Op.eqFields d xs ys (f :: fs)).run P w = if r then (Op.eqFields d xs ys fs).run P w else .ok false w := by
  simp only [Op.eqFields, n, ne_eq, not_false_eq_true, if_true, Sem.run_bind, qa, qb, he, Result.andThen_ok]
  cases r <;> simp
theorem eqT24 (x0 x1 y0 y1 : Int) (w : World) : (Op.equalIn 10000 24 (.agg #[.int .i64 x0, .int .i64 x1]) (.agg #[.int .i64 y0, .int .i64 y1])).run Try.prog w = .ok (decide (x0 = y0 ∧ x1 = y1)) w := by
  obtain ⟨f0, f1, ht, n0, o0, p0, u0, n1, o1, p1, u1, hp⟩ : ∃ f0 f1, Try.prog.underlying 24 = some (.struct #[f0, f1]) ∧ f0.name ≠ "_" ∧ f0.offset = 0 ∧ Try.prog.plainKey f0.type = true ∧ Try.prog.underlying f0.type = some (.int .i64) ∧ f1.name ≠ "_" ∧ f1.offset = 1 ∧ Try.prog.plainKey f1.type = true ∧ Try.prog.underlying f1.type = some (.int .i64) ∧ Try.prog.stoodInHeld 24 = false :=
    ⟨_, _, Try.underlying24, by decide, rfl, by kernel_rfl, by kernel_rfl, by decide, rfl, by kernel_rfl, by kernel_rfl, by kernel_rfl⟩
  have hf : Try.prog.fieldsOf 24 = #[f0, f1] := by simp [Program.fieldsOf, ht]
  rw [show (10000 : Nat) = 9998 + 1 + 1 from rfl, run_equalIn_struct w (9998 + 1) _ _ _ (by rw [hf]; exact ht) hp, hf]
  show (Op.eqFields (9998 + 1) _ _ [f0, f1]).run Try.prog w = _
  rw [W.eqf_step n0 (run_part_plain w p0 (by rw [o0]; rfl)) (run_part_plain w p0 (by rw [o0]; rfl)) (run_equalIn_int w _ _ _ _ _ _ u0), W.eqf_step n1 (run_part_plain w p1 (by rw [o1]; rfl)) (run_part_plain w p1 (by rw [o1]; rfl)) (run_equalIn_int w _ _ _ _ _ _ u1)]
  by_cases e0 : x0 = y0 <;> by_cases e1 : x1 = y1 <;> simp [e0, e1, Op.eqFields]
theorem Q4z (x0 x1 y0 y1 : Int) (w : World) : (binOp .eql 24 (.agg #[.int .i64 x0, .int .i64 x1]) (.agg #[.int .i64 y0, .int .i64 y1])).run Try.prog w = .ok (.bool (decide (x0 = y0 ∧ x1 = y1))) w := by rw [run_eql_struct, eqT24]; rfl
end Go.Proofs.Ytoempemllkebkaa
namespace Go.Proofs.Ytoempemllkebkaa
open Go Go.Mx Go.Proofs
open W (OwnB Rd RdR GivesW numR countR doneR zig unzig intR)
abbrev Q0d.J1 (ad : Option Addr) (a4 : Int) (R : RW) (aa : World) : Prop :=
 ad.elim False fun ah =>
 ∃ (a9 : Option Addr) (ac a3 : Nat), aa.cell? (ah.add 0) = some (.slice a9 ac a3) ∧
 (0 : Int) ≤ (a4 : Int) ∧ (a4 : Int) ≤ (a3 : Int) ∧
 Calls Try.prog 57 #[.slice (if a3 = 0 then a9 else Option.map (fun z : Addr => z.add (0 * 1)) a9) ((Int.toNat a4) - 0) (a3 - 0)] aa fun ab a7 => ∃ (a2 : Option Addr) (a0 a1 : Nat), ab = .returned (.slice a2 a0 a1) ∧
 ad.elim False fun ag =>
 ∃ (a6 : Option Addr) (a5 a8 : Nat), a7.cell? (ag.add 0) = some (.slice a6 a5 a8) ∧
 (0 : Int) ≤ (a4 : Int) ∧ (a4 : Int) ≤ (a5 : Int) ∧
 ad.elim False fun af =>
 Q01 a7 ((af.add 0).add 0) ∧
 thenW (a7.setCell ((af.add 0).add 0) (.slice (if a8 = Int.toNat a4 then a6 else Option.map (fun z : Addr => z.add ((Int.toNat a4) * 1)) a6) (a5 - (Int.toNat a4)) (a8 - (Int.toNat a4)))) fun ae =>
 R (.slice a2 a0 a1) ae

abbrev Q0d.J2 (a4 : Option Addr) (a7 : Int) (R : RW) (a0 : World) : Prop :=
 a4.elim False fun a8 =>
 ∃ (a6 : Option Addr) (a1 a3 : Nat), a0.cell? (a8.add 0) = some (.slice a6 a1 a3) ∧
 bif decide (a7 > (a1 : Int)) then (
 Calls Try.prog 74 #[.pointer a4, .int .i64 4] a0 fun a5 a2 => a5 = .returned (.tuple #[]) ∧
 R (.slice none 0 0) a2) else (
 Q0d.J1 a4 a7 R a0)

def Q0d.M (r1 : Option Addr) (n2 : Int) (R : RW) (w : World) : Prop :=
 Calls Try.prog 72 #[.pointer r1] w fun a2 a1 => ∃ (a0 : Bool), a2 = .returned (.bool a0) ∧
 bif !a0 then (
 R (.slice none 0 0) a1) else (
 Q0d.J2 r1 n2 R a1)

theorem Q0d.ok (r1 : Option Addr) (n2 : Int) {R : RW} {w : World} (h : Q0d.M r1 n2 R w) : Calls Try.prog 75 #[.pointer r1, .int .i64 n2] w fun e w' => ∃ v, e = .returned v ∧ R v w' :=
  Q09 follows (H := []) (args := [.pointer r1, .int .i64 n2]) (cast (by kernel_rfl) h)

def Q0d.N (r1 : Option Addr) (n2 : Int) (R : RW) (w : World) : Prop :=
 Calls Try.prog 72 #[.pointer r1] w fun ak a9 => ∃ (ag : Bool), ak = .returned (.bool ag) ∧
 (ag = false →
 R (.slice none 0 0) a9) ∧
 (ag = true →
 ∃ a7 : Addr, r1 = some a7 ∧
 ∃ (aj : Option Addr) (af ai : Nat), a9.cell? (a7.add 0) = some (.slice aj af ai) ∧
 (n2 > (af : Int) →
 Calls Try.prog 74 #[.pointer r1, .int .i64 4] a9 fun ac ad => ac = .returned (.tuple #[]) ∧
 R (.slice none 0 0) ad) ∧
 (n2 ≤ (af : Int) →
 ∃ (a8 : Option Addr) (ab a4 : Nat), a9.cell? (a7.add 0) = some (.slice a8 ab a4) ∧
 (0 : Int) ≤ (n2 : Int) ∧ (n2 : Int) ≤ (a4 : Int) ∧ 
 Calls Try.prog 57 #[.slice a8 (Int.toNat n2) a4] a9 fun ah a5 => ∃ (a1 : Option Addr) (a2 a0 : Nat), ah = .returned (.slice a1 a2 a0) ∧
 ∃ (aa : Option Addr) (a3 a6 : Nat), a5.cell? (a7.add 0) = some (.slice aa a3 a6) ∧
 (0 : Int) ≤ (n2 : Int) ∧ (n2 : Int) ≤ (a3 : Int) ∧ 
 Q01 a5 ((a7.add 0).add 0) ∧
 thenW (a5.setCell ((a7.add 0).add 0) (.slice (cutA aa a6 (Int.toNat n2) 1) (a3 - (Int.toNat n2)) (a6 - (Int.toNat n2)))) fun ae =>
 R (.slice a1 a2 a0) ae))

theorem Q0d.up (r1 : Option Addr) (n2 : Int) {R : RW} {w : World} (h : Q0d.N r1 n2 R w) : Q0d.M r1 n2 R w := by
  unfold Q0d.M
  unfold Q0d.N at h
  refine h.mono fun au ar h => ?_
  obtain ⟨am, he, h⟩ := h
  refine ⟨am, he, ?_⟩
  refine bif_of (fun c6 => ?_) (fun c6 => ?_)
  ·have h := h.1 (not_t c6)
   exact h
  have h := h.2 (not_f c6)
  unfold Q0d.J2
  obtain ⟨a7, a3, h⟩ := h
  refine Q0p a3 ?_
  obtain ⟨ao, al, an, ag, h⟩ := h
  refine ⟨ao, al, an, ag, ?_⟩
  refine bif_of (fun a5 => ?_) (fun a5 => ?_)
  ·have h := h.1 (of_decide_eq_true a5)
   refine h.mono fun ah ai h => ?_
   obtain ⟨he, h⟩ := h
   refine ⟨he, ?_⟩
   exact h
  have h := h.2 (Int.not_lt.1 (of_decide_eq_false a5))
  unfold Q0d.J1
  refine Q0p a3 ?_
  obtain ⟨a8, a6, aa, af, h⟩ := h
  refine ⟨a8, a6, aa, af, ?_⟩
  obtain ⟨ae, a9, h⟩ := h
  refine ⟨ae, a9, ?_⟩
  try rw [Q3p]
  refine h.mono fun ap aj h => ?_
  obtain ⟨a1, a2, a0, he, h⟩ := h
  refine ⟨a1, a2, a0, he, ?_⟩
  refine Q0p a3 ?_
  obtain ⟨ac, a4, ab, ad, h⟩ := h
  refine ⟨ac, a4, ab, ad, ?_⟩
  obtain ⟨ae, a9, h⟩ := h
  refine ⟨ae, a9, ?_⟩
  refine Q0p a3 ?_
  obtain ⟨hcs, h⟩ := h
  refine ⟨hcs, Q00 fun ak aq => ?_⟩
  replace h := Q0X h aq
  exact h

theorem Q0d.go (r1 : Option Addr) (n2 : Int) {R : RW} {w : World} (h : Q0d.N r1 n2 R w) : Calls Try.prog 75 #[.pointer r1, .int .i64 n2] w fun e w' => ∃ v, e = .returned v ∧ R v w' := Q0d.ok r1 n2 (Q0d.up r1 n2 h)
def Q0n.M (r1 : Option Addr) (a4 : Int) (R : RW) (w : World) : Prop :=
 Calls Try.prog 54 #[.pointer r1, .int .i64 a4] w fun a5 a8 => ∃ (a3 : Int), a5 = .returned (.int .i64 a3) ∧
 Calls Try.prog 75 #[.pointer r1, .int .i64 a3] a8 fun a6 a7 => ∃ (a2 : Option Addr) (a0 a1 : Nat), a6 = .returned (.slice a2 a0 a1) ∧
 R (.slice a2 a0 a1) a7

theorem Q0n.ok (r1 : Option Addr) (a0 : Int) {R : RW} {w : World} (h : Q0n.M r1 a0 R w) : Calls Try.prog 55 #[.pointer r1, .int .i64 a0] w fun e w' => ∃ v, e = .returned v ∧ R v w' :=
  Q09 follows (H := []) (args := [.pointer r1, .int .i64 a0]) (cast (by kernel_rfl) h)

def Q0n.N (r1 : Option Addr) (a4 : Int) (R : RW) (w : World) : Prop :=
 Calls Try.prog 54 #[.pointer r1, .int .i64 a4] w fun a5 a8 => ∃ (a3 : Int), a5 = .returned (.int .i64 a3) ∧
 Calls Try.prog 75 #[.pointer r1, .int .i64 a3] a8 fun a6 a7 => ∃ (a2 : Option Addr) (a0 a1 : Nat), a6 = .returned (.slice a2 a0 a1) ∧
 R (.slice a2 a0 a1) a7

theorem Q0n.up (r1 : Option Addr) (a0 : Int) {R : RW} {w : World} (h : Q0n.N r1 a0 R w) : Q0n.M r1 a0 R w := by
  unfold Q0n.M
  unfold Q0n.N at h
  refine h.mono fun a5 a8 h => ?_
  obtain ⟨a4, he, h⟩ := h
  refine ⟨a4, he, ?_⟩
  refine h.mono fun a6 a7 h => ?_
  obtain ⟨a3, a1, a2, he, h⟩ := h
  refine ⟨a3, a1, a2, he, ?_⟩
  exact h

theorem Q0n.go (r1 : Option Addr) (a0 : Int) {R : RW} {w : World} (h : Q0n.N r1 a0 R w) : Calls Try.prog 55 #[.pointer r1, .int .i64 a0] w fun e w' => ∃ v, e = .returned v ∧ R v w' := Q0n.ok r1 a0 (Q0n.up r1 a0 h)
def Q0j.M (a9 : Option Addr) (a6 a8 : Nat) (R : RW) (w : World) : Prop :=
 Calls Try.prog 39 #[.int .u64 (IntKind.u64.wrap (a6 : Int))] w fun ab aa => ∃ (a2 : Option Addr) (a0 a1 : Nat), ab = .returned (.slice a2 a0 a1) ∧
 ∃ (a3 : Option Addr) (a5 a7 : Nat) (a4 : World), (Builtin.append_ #[25, 25] 25 #[.slice a2 a0 a1, .slice a9 a6 a8]).run Try.prog aa = .ok (.slice a3 a5 a7) a4 ∧
 R (.slice a3 a5 a7) a4

theorem Q0j.ok (a2 : Option Addr) (a1 a0 : Nat) {R : RW} {w : World} (h : Q0j.M a2 a1 a0 R w) : Calls Try.prog 42 #[.slice a2 a1 a0] w fun e w' => ∃ v, e = .returned v ∧ R v w' :=
  Q09 follows (H := []) (args := [.slice a2 a1 a0]) (cast (by kernel_rfl) h)

def Q0j.N (a9 : Option Addr) (a6 a8 : Nat) (R : RW) (w : World) : Prop :=
 Calls Try.prog 39 #[.int .u64 (IntKind.u64.wrap (a6 : Int))] w fun ab aa => ∃ (a2 : Option Addr) (a0 a1 : Nat), ab = .returned (.slice a2 a0 a1) ∧
 ∃ (a3 : Option Addr) (a5 a7 : Nat) (a4 : World), (Builtin.append_ #[25, 25] 25 #[.slice a2 a0 a1, .slice a9 a6 a8]).run Try.prog aa = .ok (.slice a3 a5 a7) a4 ∧
 R (.slice a3 a5 a7) a4

theorem Q0j.up (a5 : Option Addr) (a4 a3 : Nat) {R : RW} {w : World} (h : Q0j.N a5 a4 a3 R w) : Q0j.M a5 a4 a3 R w := by
  unfold Q0j.M
  unfold Q0j.N at h
  refine h.mono fun ab aa h => ?_
  obtain ⟨a2, a0, a1, he, h⟩ := h
  refine ⟨a2, a0, a1, he, ?_⟩
  obtain ⟨a6, a8, a9, a7, hr, h⟩ := h
  refine ⟨a6, a8, a9, a7, hr, ?_⟩
  exact h

theorem Q0j.go (a2 : Option Addr) (a1 a0 : Nat) {R : RW} {w : World} (h : Q0j.N a2 a1 a0 R w) : Calls Try.prog 42 #[.slice a2 a1 a0] w fun e w' => ∃ v, e = .returned v ∧ R v w' := Q0j.ok a2 a1 a0 (Q0j.up a2 a1 a0 h)
abbrev Q04.J1 (a1 : Int) (a7 : Option Addr) (R : RW) (a0 : World) : Prop :=
 a7.elim False fun ai =>
 ∃ (ad : Option Addr) (a8 a9 : Nat), a0.cell? (ai.add 0) = some (.slice ad a8 a9) ∧
 bif decide (a1 > (a8 : Int)) then (
 Calls Try.prog 65 #[.pointer a7, .int .i64 4] a0 fun ae aa => ae = .returned (.tuple #[]) ∧
 R (.slice none 0 0) aa) else (
 a7.elim False fun ag =>
 ∃ (a4 : Option Addr) (ac a2 : Nat), a0.cell? (ag.add 0) = some (.slice a4 ac a2) ∧
 (0 : Int) ≤ (a1 : Int) ∧ (a1 : Int) ≤ (a2 : Int) ∧
 a7.elim False fun ah =>
 ∃ (a6 : Option Addr) (a3 a5 : Nat), a0.cell? (ah.add 0) = some (.slice a6 a3 a5) ∧
 (0 : Int) ≤ (a1 : Int) ∧ (a1 : Int) ≤ (a3 : Int) ∧
 a7.elim False fun af =>
 Q01 a0 ((af.add 0).add 0) ∧
 thenW (a0.setCell ((af.add 0).add 0) (.slice (if a5 = Int.toNat a1 then a6 else Option.map (fun z : Addr => z.add ((Int.toNat a1) * 1)) a6) (a3 - (Int.toNat a1)) (a5 - (Int.toNat a1)))) fun ab =>
 R (.slice (if a2 = 0 then a4 else Option.map (fun z : Addr => z.add (0 * 1)) a4) ((Int.toNat a1) - 0) (a2 - 0)) ab)

def Q04.M (r1 : Option Addr) (a1 : Int) (R : RW) (w : World) : Prop :=
 Calls Try.prog 43 #[.pointer r1, .int .i64 a1] w fun a4 a2 => ∃ (a0 : Int), a4 = .returned (.int .i64 a0) ∧
 r1.elim False fun a6 =>
 ∃ (a3 : Int), a2.cell? (a6.add 1) = some (.int .i64 a3) ∧
 bif a3 != 0 then (
 R (.slice none 0 0) a2) else (
 Q04.J1 a0 r1 R a2)

theorem Q04.ok (r1 : Option Addr) (a0 : Int) {R : RW} {w : World} (h : Q04.M r1 a0 R w) : Calls Try.prog 44 #[.pointer r1, .int .i64 a0] w fun e w' => ∃ v, e = .returned v ∧ R v w' :=
  Q09 follows (H := []) (args := [.pointer r1, .int .i64 a0]) (cast (by kernel_rfl) h)

def Q04.N (r1 : Option Addr) (a8 : Int) (R : RW) (w : World) : Prop :=
 Calls Try.prog 43 #[.pointer r1, .int .i64 a8] w fun ah a1 => ∃ (a0 : Int), ah = .returned (.int .i64 a0) ∧
 ∃ a6 : Addr, r1 = some a6 ∧
 ∃ (af : Int), a1.cell? (a6.add 1) = some (.int .i64 af) ∧
 (af ≠ 0 →
 R (.slice none 0 0) a1) ∧
 (af = 0 →
 ∃ (aa : Option Addr) (a3 ab : Nat), a1.cell? (a6.add 0) = some (.slice aa a3 ab) ∧
 (a0 > (a3 : Int) →
 Calls Try.prog 65 #[.pointer r1, .int .i64 4] a1 fun ag ae => ag = .returned (.tuple #[]) ∧
 R (.slice none 0 0) ae) ∧
 (a0 ≤ (a3 : Int) →
 ∃ (a9 : Option Addr) (ac a2 : Nat), a1.cell? (a6.add 0) = some (.slice a9 ac a2) ∧
 (0 : Int) ≤ (a0 : Int) ∧ (a0 : Int) ≤ (a2 : Int) ∧ 
 ∃ (a7 : Option Addr) (a5 a4 : Nat), a1.cell? (a6.add 0) = some (.slice a7 a5 a4) ∧
 (0 : Int) ≤ (a0 : Int) ∧ (a0 : Int) ≤ (a5 : Int) ∧ 
 Q01 a1 ((a6.add 0).add 0) ∧
 thenW (a1.setCell ((a6.add 0).add 0) (.slice (cutA a7 a4 (Int.toNat a0) 1) (a5 - (Int.toNat a0)) (a4 - (Int.toNat a0)))) fun ad =>
 R (.slice a9 (Int.toNat a0) a2) ad))

theorem Q04.up (r1 : Option Addr) (a0 : Int) {R : RW} {w : World} (h : Q04.N r1 a0 R w) : Q04.M r1 a0 R w := by
  unfold Q04.M
  unfold Q04.N at h
  refine h.mono fun aq ap h => ?_
  obtain ⟨a1, he, h⟩ := h
  refine ⟨a1, he, ?_⟩
  obtain ⟨a6, a2, h⟩ := h
  refine Q0p a2 ?_
  obtain ⟨ao, am, h⟩ := h
  refine ⟨ao, am, ?_⟩
  refine bif_of (fun c9 => ?_) (fun c9 => ?_)
  ·have h := h.1 (bne_t c9)
   exact h
  have h := h.2 (bne_f c9)
  unfold Q04.J1
  refine Q0p a2 ?_
  obtain ⟨a7, ad, ag, ab, h⟩ := h
  refine ⟨a7, ad, ag, ab, ?_⟩
  refine bif_of (fun a4 => ?_) (fun a4 => ?_)
  ·have h := h.1 (of_decide_eq_true a4)
   refine h.mono fun al aj h => ?_
   obtain ⟨he, h⟩ := h
   refine ⟨he, ?_⟩
   exact h
  have h := h.2 (Int.not_lt.1 (of_decide_eq_false a4))
  refine Q0p a2 ?_
  obtain ⟨aa, ac, ae, a8, h⟩ := h
  refine ⟨aa, ac, ae, a8, ?_⟩
  obtain ⟨ah, a9, h⟩ := h
  refine ⟨ah, a9, ?_⟩
  try rw [Q3p]
  refine Q0p a2 ?_
  obtain ⟨af, a5, ai, a3, h⟩ := h
  refine ⟨af, a5, ai, a3, ?_⟩
  obtain ⟨ah, a9, h⟩ := h
  refine ⟨ah, a9, ?_⟩
  refine Q0p a2 ?_
  obtain ⟨hcs, h⟩ := h
  refine ⟨hcs, Q00 fun an ak => ?_⟩
  replace h := Q0X h ak
  exact h

theorem Q04.go (r1 : Option Addr) (a0 : Int) {R : RW} {w : World} (h : Q04.N r1 a0 R w) : Calls Try.prog 44 #[.pointer r1, .int .i64 a0] w fun e w' => ∃ v, e = .returned v ∧ R v w' := Q04.ok r1 a0 (Q04.up r1 a0 h)
abbrev RS := List UInt8 × Int
def takeR (n : Nat) (s : RS) : List UInt8 × RS := if s.2 = 0 then (if s.1.length < n then ([], ([], 4)) else (s.1.take n, (s.1.drop n, 0))) else ([], s)
def bytesR (m : Int) (s : RS) : List UInt8 × RS := takeR (countR m s).1 (countR m s).2
theorem Q43 (n : Nat) (s : RS) : (takeR n s).2.1.length ≤ s.1.length ∧ (takeR n s).1.length ≤ s.1.length := by
  unfold takeR
  split
  · split
    · simp
    · simp; omega
  · simp
theorem Q19 (m : Int) (s : RS) : (bytesR m s).2.1.length ≤ s.1.length ∧ (bytesR m s).1.length ≤ s.1.length := by
  have h1 := W.countR_len m s
  have h2 := Q43 (countR m s).1 (countR m s).2
  unfold bytesR
  omega
section
variable {w w' : World} {a : Option Addr} {c N p : Nat} {bs : List UInt8} {k : Int}
theorem Rd_drop (h : Rd w p bs k) {a : Option Addr} {c : Nat} (hb : Blk w p 100 [.slice a bs.length c, .int .i64 k]) {n : Nat} (hn : n ≤ bs.length) (hc : bs.length ≤ c) (hr : RowAt w a (bytesV bs)) (h4 : bytesV bs ≠ [] → ∀ ad, a = some ad → ad.block < p)
    (e : w' = w.setCell ((blk p).add 0) (.slice (cutA a c n 1) (bs.length - n) (c - n))) : Rd w' p (bs.drop n) k ∧ Ext (fun b => b = p) w w' := by
  have hx : Ext (fun b => b = p) w w' := (Ext.refl (fun b => b = p) w).x_set (q := p) (i := 0) rfl (.inl rfl) e
  have hb' := hb.seti 0 rfl e
  have hne : bytesV (bs.drop n) ≠ [] → bytesV bs ≠ [] := fun h0 e => h0 (by rw [bytesV, List.map_drop, show List.map u8V bs = [] from e]; simp)
  refine ⟨⟨cutA a c n 1, c - n, by rw [List.length_drop]; exact hb', by rw [List.length_drop]; omega, ?_, fun h0 ad ha => ?_⟩, hx⟩
  · have := hr.cut n c (by rw [Q0M]; exact hc)
    rw [show bytesV (bs.drop n) = (bytesV bs).drop n by simp [bytesV]]
    refine this.ext' hx fun h0 ad ha hq => ?_
    obtain ⟨b, hb, hbb⟩ := Q1p ha
    have := h4 (fun e => h0 (by rw [e]; simp)) b hb
    omega
  · obtain ⟨b, hb, hbb⟩ := Q1p ha
    have := h4 (hne h0) b hb
    omega
theorem Q4f (h : Rd w p bs k) (hl : bs.length < 1000000) (n : Nat) :
    Calls Try.prog 75 #[.pointer (some (blk p)), .int .i64 n] w (fun e w' => ∃ a c, e = .returned (.slice a (takeR n (bs, k)).1.length c) ∧ OwnB w.heap.size w' a c (takeR n (bs, k)).1 ∧ Rd w' p (takeR n (bs, k)).2.1 (takeR n (bs, k)).2.2 ∧ Ext (fun b => b = p) w w') := by
  refine (Q0d.go _ _ (R := fun v w' => ∃ a c, v = (.slice a (takeR n (bs, k)).1.length c) ∧ OwnB w.heap.size w' a c (takeR n (bs, k)).1 ∧ Rd w' p (takeR n (bs, k)).2.1 (takeR n (bs, k)).2.2 ∧ Ext (fun b => b = p) w w') ?_).mono fun e w' ⟨v, he, a, c, hv, hw⟩ => ⟨a, c, by rw [he, hv], hw⟩
  unfold Q0d.N
  refine (W.ok_spec h).mono fun e w5 ⟨he, hw⟩ => ⟨_, he, fun hk => ?_, fun hk => ?_⟩ <;> subst hw <;> simp only [beq_iff_eq, beq_eq_false_iff_ne] at hk
  · unfold takeR
    rw [if_neg hk]
    exact ⟨none, 0, rfl, OwnB.nil _ _, h, Ext.refl _ _⟩
  · subst hk
    obtain ⟨a, c, h1, h2, h3, h4⟩ := id h
    refine ⟨_, rfl, a, bs.length, c, h1.cella (i := 0) rfl, fun hn => ?_, fun hn => ?_⟩
    · unfold takeR
      rw [if_pos rfl, if_pos (by show bs.length < n; omega)]
      refine (W.fail_spec h 4).mono fun e w12 ⟨he, hr, hx⟩ => ⟨he, none, 0, rfl, OwnB.nil _ _, hr, hx⟩
    · unfold takeR
      rw [if_pos rfl, if_neg (by show ¬ bs.length < n; omega)]
      refine ⟨a, bs.length, c, h1.cella (i := 0) rfl, by omega, by omega, ?_⟩
      rw [Int.toNat_natCast]
      have ht : bytesV (bs.take n) = (bytesV bs).take n := by simp [bytesV]
      have hlt : (bs.take n).length = n := by rw [List.length_take]; omega
      have hc := W.clone_spec (c := c) (bs := bs.take n) (a := a) (w := w5) (by rw [ht]; exact h3.take n) (by omega)
      rw [hlt] at hc
      refine hc.mono fun e w18 ⟨ra, rc, he, hO, hx⟩ => ⟨ra, n, rc, he, ?_⟩
      have h' := h.no hx
      refine ⟨a, bs.length, c, (h1.ext hx id).cella (i := 0) rfl, by omega, by omega, (h1.ext hx id).cana (i := 0) rfl, Q00 fun w23 e23 => ?_⟩
      obtain ⟨q1, q2⟩ := Rd_drop h' (h1.ext hx id) (n := n) (by omega) h2 (h3.no hx) h4 e23
      refine ⟨ra, rc, by rw [hlt], hO.ext q2 fun ad ha hb => ?_, q1, hx.none.trans q2⟩
      have := (hO.fr ad ha).1
      have := h1.lt
      omega
theorem Q1z (h : Rd w p bs k) (hl : bs.length < 1000000) {m : Int} (hm : m < 4611686018427387904) :
    Calls Try.prog 55 #[.pointer (some (blk p)), .int .i64 m] w (fun e w' => ∃ a c, e = .returned (.slice a (bytesR m (bs, k)).1.length c) ∧ OwnB w.heap.size w' a c (bytesR m (bs, k)).1 ∧ Rd w' p (bytesR m (bs, k)).2.1 (bytesR m (bs, k)).2.2 ∧ Ext (fun b => b = p) w w') := by
  refine (Q0n.go _ _ (R := fun v w' => ∃ a c, v = (.slice a (bytesR m (bs, k)).1.length c) ∧ OwnB w.heap.size w' a c (bytesR m (bs, k)).1 ∧ Rd w' p (bytesR m (bs, k)).2.1 (bytesR m (bs, k)).2.2 ∧ Ext (fun b => b = p) w w') ?_).mono fun e w' ⟨v, he, a, c, hv, hw⟩ => ⟨a, c, by rw [he, hv], hw⟩
  unfold Q0n.N
  refine (W.Count_spec h hl hm).mono fun e w5 ⟨he, hr, hx⟩ => ⟨_, he, ?_⟩
  have hlen := W.countR_len m (bs, k)
  refine (Q4f hr (by simp only at hlen; omega) _).mono fun e w8 ⟨a, c, he, hO, hr2, hx2⟩ => ⟨a, _, c, he, a, c, rfl, ⟨hO.own, fun ad ha => ⟨Nat.le_trans hx.size (hO.fr ad ha).1, (hO.fr ad ha).2⟩⟩, hr2, hx.trans hx2⟩

/-! ### the reference's -/
theorem Q31 {xs : List UInt8} {xa : Option Addr} {xc : Nat} (hx : RowAt w xa (bytesV xs)) (hl : xs.length ≤ 1000000) :
    Calls Try.prog 42 #[.slice xa xs.length xc] w (fun e w' => ∃ a' c', e = .returned (.slice a' (numL xs.length ++ xs).length c') ∧ OwnB w.heap.size w' a' c' (numL xs.length ++ xs) ∧ Ext no w w') := by
  refine (Q0j.go _ _ _ (R := fun v w' => ∃ a' c', v = (.slice a' (numL xs.length ++ xs).length c') ∧ OwnB w.heap.size w' a' c' (numL xs.length ++ xs) ∧ Ext no w w') ?_).mono fun e w' ⟨v, he, a, c, hv, hw⟩ => ⟨a, c, by rw [he, hv], hw⟩
  unfold Q0j.N
  rw [wu64 (n := (xs.length : Int)) (by omega) (by omega)]
  refine (W.rNum_spec xs.length w (by omega)).mono fun e w4 ⟨a4, c4, he, hO, hx4⟩ => ⟨a4, _, c4, he, ?_⟩
  have hnl : (numL xs.length).length ≤ 10 := numF_le 10 _
  obtain ⟨a', c', w7, hr, hO7, hx7⟩ := hO.append (t := 25) (ty := 25) Try.underlying25 hx4.size (xc := xc) (hx.no hx4) (by omega)
  exact ⟨a', _, c', w7, hr, a', c', rfl, hO7, hx4.then hx7 fun b hb => .inr hb⟩
theorem Q4s (h : RdR w p N bs k) {a : Option Addr} {c : Nat} (hb : Blk w p 83 [.slice a bs.length c, .int .i64 k]) {n : Nat} (hn : n ≤ bs.length) (hc : bs.length ≤ c) (hr : RowAt w a (bytesV bs)) (h4 : bytesV bs ≠ [] → ∀ ad, a = some ad → ad.block < N)
    (e : w' = w.setCell ((blk p).add 0) (.slice (cutA a c n 1) (bs.length - n) (c - n))) : RdR w' p N (bs.drop n) k ∧ Ext (fun b => b = p) w w' := by
  have hx : Ext (fun b => b = p) w w' := (Ext.refl (fun b => b = p) w).x_set (q := p) (i := 0) rfl (.inl rfl) e
  have hb' := hb.seti 0 rfl e
  have hne : bytesV (bs.drop n) ≠ [] → bytesV bs ≠ [] := fun h0 e => h0 (by rw [bytesV, List.map_drop, show List.map u8V bs = [] from e]; simp)
  have hNp := h.1
  refine ⟨⟨hNp, cutA a c n 1, c - n, by rw [List.length_drop]; exact hb', by rw [List.length_drop]; omega, ?_, fun h0 ad ha => ?_⟩, hx⟩
  · have := hr.cut n c (by rw [Q0M]; exact hc)
    rw [show bytesV (bs.drop n) = (bytesV bs).drop n by simp [bytesV]]
    refine this.ext' hx fun h0 ad ha hq => ?_
    obtain ⟨b, hb, hbb⟩ := Q1p ha
    have := h4 (fun e => h0 (by rw [e]; simp)) b hb
    omega
  · obtain ⟨b, hb, hbb⟩ := Q1p ha
    have := h4 (hne h0) b hb
    omega
theorem Q2T (h : RdR w p N bs k) (hl : bs.length < 1000000) {m : Int} (hm0 : 0 ≤ m) (hm : m < 4611686018427387904) :
    Calls Try.prog 44 #[.pointer (some (blk p)), .int .i64 m] w (fun e w' => ∃ a c, e = .returned (.slice a (bytesR m (bs, k)).1.length c) ∧ (bytesR m (bs, k)).1.length ≤ c ∧ RowAt w' a (bytesV (bytesR m (bs, k)).1) ∧ (bytesV (bytesR m (bs, k)).1 ≠ [] → ∀ ad, a = some ad → ad.block < N) ∧
      RdR w' p N (bytesR m (bs, k)).2.1 (bytesR m (bs, k)).2.2 ∧ Ext (fun b => b = p) w w') := by
  refine (Q04.go _ _ (R := fun v w' => ∃ a c, v = (.slice a (bytesR m (bs, k)).1.length c) ∧ (bytesR m (bs, k)).1.length ≤ c ∧ RowAt w' a (bytesV (bytesR m (bs, k)).1) ∧ (bytesV (bytesR m (bs, k)).1 ≠ [] → ∀ ad, a = some ad → ad.block < N) ∧
      RdR w' p N (bytesR m (bs, k)).2.1 (bytesR m (bs, k)).2.2 ∧ Ext (fun b => b = p) w w') ?_).mono fun e w' ⟨v, he, a, c, hv, hw⟩ => ⟨a, c, by rw [he, hv], hw⟩
  unfold Q04.N
  refine (W.rCount_spec h hl hm0 hm).mono fun e w5 ⟨he, hr, hx⟩ => ⟨_, he, ?_⟩
  have hlen := W.countR_len m (bs, k)
  unfold bytesR
  generalize countR m (bs, k) = s at *
  obtain ⟨n, l, k2⟩ := s
  simp only at *
  obtain ⟨hNp, a, c, h1, h2, h3, h4⟩ := id hr
  refine ⟨_, rfl, _, h1.cella (i := 1) rfl, fun hk => ?_, fun hk => ?_⟩
  · unfold takeR
    rw [if_neg hk]
    exact ⟨none, 0, rfl, Nat.le_refl _, RowAt.nil _ _, fun h0 => absurd rfl h0, hr, hx⟩
  · subst hk
    refine ⟨a, l.length, c, h1.cella (i := 0) rfl, fun hn => ?_, fun hn => ?_⟩
    · unfold takeR
      rw [if_pos rfl, if_pos (by show l.length < n; omega)]
      exact (W.rFail_spec hr 4).mono fun e w12 ⟨he, hr, hx2⟩ => ⟨he, none, 0, rfl, Nat.le_refl _, RowAt.nil _ _, fun h0 => absurd rfl h0, hr, hx.trans hx2⟩
    · unfold takeR
      rw [if_pos rfl, if_neg (by show ¬ l.length < n; omega)]
      refine ⟨a, l.length, c, h1.cella (i := 0) rfl, by omega, by omega, a, l.length, c, h1.cella (i := 0) rfl, by omega, by omega, h1.cana (i := 0) rfl, Q00 fun w23 e23 => ?_⟩
      rw [Int.toNat_natCast] at e23 ⊢
      have ht : bytesV (l.take n) = (bytesV l).take n := by simp [bytesV]
      have hlt : (l.take n).length = n := by rw [List.length_take]; omega
      obtain ⟨q1, q2⟩ := Q4s hr h1 (n := n) (by omega) h2 h3 h4 e23
      have hne : bytesV (l.take n) ≠ [] → bytesV l ≠ [] := fun h0 e => h0 (by rw [ht, e]; simp)
      refine ⟨a, c, by rw [hlt], by rw [hlt]; omega, ?_, fun h0 => h4 (hne h0), q1, hx.trans q2⟩
      rw [ht]
      refine (h3.take n).ext' q2 fun h0 ad ha hb => ?_
      have := h4 (fun e => h0 (by rw [e]; simp)) ad ha
      omega
end
end Go.Proofs.Ytoempemllkebkaa
namespace Go.Proofs.Ytoempemllkebkaa
open Go Go.Mx Go.Proofs
open W (OwnB Rd RdR GivesW numR countR doneR zig unzig intR)
def Q06.M (n1 a1 a0 : Int) (R : RW) (w : World) : Prop :=
 bif decide (n1 ≥ a1) then (
 R (.bool (decide (n1 < a0))) w) else (
 R (.bool false) w)

theorem Q06.ok (n1 a1 a0 : Int) {R : RW} {w : World} (h : Q06.M n1 a1 a0 R w) : Calls Try.prog 82 #[.int .i64 n1, .int .i64 a1, .int .i64 a0] w fun e w' => ∃ v, e = .returned v ∧ R v w' :=
  Q09 follows (H := []) (args := [.int .i64 n1, .int .i64 a1, .int .i64 a0]) (cast (by kernel_rfl) h)

def Q06.N (n1 a0 a1 : Int) (R : RW) (w : World) : Prop :=
 (n1 ≥ a0 →
 R (.bool (decide (n1 < a1))) w) ∧
 (n1 < a0 →
 R (.bool false) w)

theorem Q06.up (n1 a1 a0 : Int) {R : RW} {w : World} (h : Q06.N n1 a1 a0 R w) : Q06.M n1 a1 a0 R w := by
  unfold Q06.M
  unfold Q06.N at h
  refine bif_of (fun c4 => ?_) (fun c4 => ?_)
  ·have h := h.1 (of_decide_eq_true c4)
   exact h
  have h := h.2 (Int.not_le.1 (of_decide_eq_false c4))
  exact h

theorem Q06.go (n1 a1 a0 : Int) {R : RW} {w : World} (h : Q06.N n1 a1 a0 R w) : Calls Try.prog 82 #[.int .i64 n1, .int .i64 a1, .int .i64 a0] w fun e w' => ∃ v, e = .returned v ∧ R v w' := Q06.ok n1 a1 a0 (Q06.up n1 a1 a0 h)
theorem Q06.run (n1 a1 a0 : Int) {V : Value} {Q : World → Prop} {w : World} (h : Q06.N n1 a1 a0 (fun v w' => v = V ∧ Q w') w) : Calls Try.prog 82 #[.int .i64 n1, .int .i64 a1, .int .i64 a0] w (Ret V Q) := (Q06.go n1 a1 a0 h).mono fun e w' ⟨v, he, hv, hq⟩ => ⟨by rw [he, hv], hq⟩

def Q06.F (n1 a1 a0 : Int) : Bool :=
  if n1 ≥ a1 then
    (decide (n1 < a0))
  else
    false
theorem Q06.pure (n1 a0 a1 : Int) {w : World} : Calls Try.prog 82 #[.int .i64 n1, .int .i64 a0, .int .i64 a1] w (Ret (.bool (Q06.F n1 a0 a1)) fun w' => Ext no w w') := by
  refine Q06.run n1 a0 a1 ?_
  unfold Q06.N
  refine ⟨fun c0 => ?_, fun c0 => ?_⟩
  ·exact ⟨by unfold Q06.F; rw [if_pos c0], Ext.refl _ _⟩
  ·exact ⟨by unfold Q06.F; rw [if_neg (show ¬ (n1 ≥ a0) from by omega)], Ext.refl _ _⟩

def Q0f.M (a0 : Int) (R : RW) (w : World) : Prop :=
 bif decide (a0 ≥ 0) then (
 R (.bool (decide (a0 < 8))) w) else (
 R (.bool false) w)

theorem Q0f.ok (a0 : Int) {R : RW} {w : World} (h : Q0f.M a0 R w) : Calls Try.prog 94 #[.int .i64 a0] w fun e w' => ∃ v, e = .returned v ∧ R v w' :=
  Q09 follows (H := []) (args := [.int .i64 a0]) (cast (by kernel_rfl) h)

def Q0f.N (a0 : Int) (R : RW) (w : World) : Prop :=
 (a0 ≥ 0 →
 R (.bool (decide (a0 < 8))) w) ∧
 (a0 < 0 →
 R (.bool false) w)

theorem Q0f.up (a0 : Int) {R : RW} {w : World} (h : Q0f.N a0 R w) : Q0f.M a0 R w := by
  unfold Q0f.M
  unfold Q0f.N at h
  refine bif_of (fun c2 => ?_) (fun c2 => ?_)
  ·have h := h.1 (of_decide_eq_true c2)
   exact h
  have h := h.2 (Int.not_le.1 (of_decide_eq_false c2))
  exact h

theorem Q0f.go (a0 : Int) {R : RW} {w : World} (h : Q0f.N a0 R w) : Calls Try.prog 94 #[.int .i64 a0] w fun e w' => ∃ v, e = .returned v ∧ R v w' := Q0f.ok a0 (Q0f.up a0 h)
theorem Q0f.run (a0 : Int) {V : Value} {Q : World → Prop} {w : World} (h : Q0f.N a0 (fun v w' => v = V ∧ Q w') w) : Calls Try.prog 94 #[.int .i64 a0] w (Ret V Q) := (Q0f.go a0 h).mono fun e w' ⟨v, he, hv, hq⟩ => ⟨by rw [he, hv], hq⟩

def Q0f.F (a0 : Int) : Bool :=
  if a0 ≥ 0 then
    (decide (a0 < 8))
  else
    false
theorem Q0f.pure (a0 : Int) {w : World} : Calls Try.prog 94 #[.int .i64 a0] w (Ret (.bool (Q0f.F a0)) fun w' => Ext no w w') := by
  refine Q0f.run a0 ?_
  unfold Q0f.N
  refine ⟨fun c0 => ?_, fun c0 => ?_⟩
  ·exact ⟨by unfold Q0f.F; rw [if_pos c0], Ext.refl _ _⟩
  ·exact ⟨by unfold Q0f.F; rw [if_neg (show ¬ (a0 ≥ 0) from by omega)], Ext.refl _ _⟩

def Q0h.M (a5 a4 : Int) (R : RW) (w : World) : Prop :=
 thenW (w.alloc (.cells #[.int .i64 a5, .int .i64 a4] 24)) fun a1 =>
 ∃ (T4 : Int), a1.cell? ((blk w.heap.size).add 0) = some (.int .i64 T4) ∧
 bif decide (T4 > 0) then (
 ∃ (T5 : Int), a1.cell? ((blk w.heap.size).add 0) = some (.int .i64 T5) ∧
 bif decide (T5 ≤ 1099511627776) then (
 ∃ (W6 : Int), a1.cell? ((blk w.heap.size).add 1) = some (.int .i64 W6) ∧
 Calls Try.prog 94 #[.int .i64 W6] a1 fun a2 a3 => ∃ (a0 : Bool), a2 = .returned (.bool a0) ∧
 R (.bool a0) a3) else (
 R (.bool false) a1)) else (
 R (.bool false) a1)

theorem Q0h.ok (a0 a1 : Int) {R : RW} {w : World} (h : Q0h.M a0 a1 R w) : Calls Try.prog 83 #[.agg #[.int .i64 a0, .int .i64 a1]] w fun e w' => ∃ v, e = .returned v ∧ R v w' :=
  Q09 follows (H := []) (args := [.agg #[.int .i64 a0, .int .i64 a1]]) (cast (by kernel_rfl) h)

def Q0h.N (a1 a3 : Int) (R : RW) (w : World) : Prop :=
 (a1 > 0 →
 (a1 ≤ 1099511627776 →
 ∀ (a2 : World), Ext no w a2 →
 R (.bool (Q0f.F a3)) a2) ∧
 ((1099511627776 : Int) < a1 →
 ∀ (a0 : World), Ext no w a0 →
 R (.bool false) a0)) ∧
 (a1 ≤ 0 →
 ∀ (a0 : World), Ext no w a0 →
 R (.bool false) a0)

theorem Q0h.up (a1 a0 : Int) {R : RW} {w : World} (h : Q0h.N a1 a0 R w) : Q0h.M a1 a0 R w := by
  unfold Q0h.M
  unfold Q0h.N at h
  refine Q00 fun a4 e3 => ?_
  have a2 := Blk.of_new e3
  have a6 := ((Ext.refl no w)).size
  have a3 := (Ext.refl no w).x_alloc e3
  refine ⟨a1, a2.celli 0 rfl rfl, ?_⟩
  refine bif_fo (fun c4 => ?_) (fun c4 => ?_)
  ·have h := h.2 (Int.not_lt.1 (of_decide_eq_false c4))
   have h := h a4 a3
   exact h
  have h := h.1 (of_decide_eq_true c4)
  refine ⟨a1, a2.celli 0 rfl rfl, ?_⟩
  refine bif_fo (fun c5 => ?_) (fun c5 => ?_)
  ·have h := h.2 (Int.not_le.1 (of_decide_eq_false c5))
   have h := h a4 a3
   exact h
  have h := h.1 (of_decide_eq_true c5)
  refine ⟨a0, a2.celli 1 rfl rfl, ?_⟩
  refine (Q0f.pure a0).mono fun ee ww6 ⟨he, hxx⟩ => ⟨(Q0f.F a0), he, ?_⟩
  have a5 := a3.trans hxx
  have h := h ww6 a5
  exact h

theorem Q0h.go (a0 a1 : Int) {R : RW} {w : World} (h : Q0h.N a0 a1 R w) : Calls Try.prog 83 #[.agg #[.int .i64 a0, .int .i64 a1]] w fun e w' => ∃ v, e = .returned v ∧ R v w' := Q0h.ok a0 a1 (Q0h.up a0 a1 h)
theorem Q0h.run (a0 a1 : Int) {V : Value} {Q : World → Prop} {w : World} (h : Q0h.N a0 a1 (fun v w' => v = V ∧ Q w') w) : Calls Try.prog 83 #[.agg #[.int .i64 a0, .int .i64 a1]] w (Ret V Q) := (Q0h.go a0 a1 h).mono fun e w' ⟨v, he, hv, hq⟩ => ⟨by rw [he, hv], hq⟩

def Q0h.F (a0 a1 : Int) : Bool :=
  if a0 > 0 then
    if a0 ≤ 1099511627776 then
      (Q0f.F a1)
    else
      false
  else
    false
theorem Q0h.pure (a0 a1 : Int) {w : World} : Calls Try.prog 83 #[.agg #[.int .i64 a0, .int .i64 a1]] w (Ret (.bool (Q0h.F a0 a1)) fun w' => Ext no w w') := by
  refine Q0h.run a0 a1 ?_
  unfold Q0h.N
  refine ⟨fun c0 => ?_, fun c0 => ?_⟩
  ·refine ⟨fun c1 => ?_, fun c1 => ?_⟩
   ·intro w' hx; exact ⟨by unfold Q0h.F; rw [if_pos c0, if_pos c1], hx⟩
   ·intro w' hx; exact ⟨by unfold Q0h.F; rw [if_pos c0, if_neg (show ¬ (a0 ≤ 1099511627776) from by omega)], hx⟩
  ·intro w' hx; exact ⟨by unfold Q0h.F; rw [if_neg (show ¬ (a0 > 0) from by omega)], hx⟩

def Q08.M (aw bf bn bp bo b8 : Int) (b9 : Option Addr) (be b6 : Nat) (bq : Int) (R : RW) (w : World) : Prop :=
 thenW (w.alloc (.cells #[.int .i64 aw, .int .i64 bf, .int .u64 bn, .int .i64 bp, .int .i64 bo, .int .i64 b8, .slice b9 be b6, .int .u64 bq] 27)) fun c1 =>
 ∃ (ac : Int), c1.cell? ((blk w.heap.size).add 0) = some (.int .i64 ac) ∧
 Calls Try.prog 82 #[.int .i64 ac, .int .i64 0, .int .i64 8] c1 fun c0 au => ∃ (a6 : Bool), c0 = .returned (.bool a6) ∧
 bif !a6 then (
 bif !a6 then (
 R (.bool false) au) else (
 ∃ (bk bj : Int), cellsAt au ((blk w.heap.size).add 3) [.int .i64 bk, .int .i64 bj] 0 ∧
 Calls Try.prog 83 #[.agg #[.int .i64 bk, .int .i64 bj]] au fun bs a2 => ∃ (a9 : Bool), bs = .returned (.bool a9) ∧
 bif !a9 then (
 bif !a9 then (
 R (.bool false) a2) else (
 ∃ (ay : Int), a2.cell? ((blk w.heap.size).add 2) = some (.int .u64 ay) ∧
 ∃ (ao : Int), a2.cell? ((blk w.heap.size).add 1) = some (.int .i64 ao) ∧
 R (.bool ((ay == 0) == (ao == 0))) a2)) else (
 ∃ (bx : Int), a2.cell? (((blk w.heap.size).add 3).add 1) = some (.int .i64 bx) ∧
 ∃ (a4 : Int), a2.cell? ((blk w.heap.size).add 0) = some (.int .i64 a4) ∧
 bif bx != a4 then (
 bif bx != a4 then (
 R (.bool false) a2) else (
 ∃ (b3 : Int), a2.cell? ((blk w.heap.size).add 2) = some (.int .u64 b3) ∧
 ∃ (ak : Int), a2.cell? ((blk w.heap.size).add 1) = some (.int .i64 ak) ∧
 R (.bool ((b3 == 0) == (ak == 0))) a2)) else (
 ∃ (b5 : Option Addr) (ah b7 : Nat), a2.cell? ((blk w.heap.size).add 6) = some (.slice b5 ah b7) ∧
 bif decide ((ah : Int) > 1100) then (
 R (.bool false) a2) else (
 ∃ (b2 : Int), a2.cell? ((blk w.heap.size).add 2) = some (.int .u64 b2) ∧
 ∃ (ai : Int), a2.cell? ((blk w.heap.size).add 1) = some (.int .i64 ai) ∧
 R (.bool ((b2 == 0) == (ai == 0))) a2))))) else (
 ∃ (ae : Int), au.cell? ((blk w.heap.size).add 1) = some (.int .i64 ae) ∧
 Calls Try.prog 82 #[.int .i64 ae, .int .i64 0, .int .i64 200] au fun bt az => ∃ (a5 : Bool), bt = .returned (.bool a5) ∧
 bif !a5 then (
 bif !a5 then (
 R (.bool false) az) else (
 ∃ (bh bi : Int), cellsAt az ((blk w.heap.size).add 3) [.int .i64 bh, .int .i64 bi] 0 ∧
 Calls Try.prog 83 #[.agg #[.int .i64 bh, .int .i64 bi]] az fun bv a1 => ∃ (aa : Bool), bv = .returned (.bool aa) ∧
 bif !aa then (
 bif !aa then (
 R (.bool false) a1) else (
 ∃ (av : Int), a1.cell? ((blk w.heap.size).add 2) = some (.int .u64 av) ∧
 ∃ (ag : Int), a1.cell? ((blk w.heap.size).add 1) = some (.int .i64 ag) ∧
 R (.bool ((av == 0) == (ag == 0))) a1)) else (
 ∃ (bw : Int), a1.cell? (((blk w.heap.size).add 3).add 1) = some (.int .i64 bw) ∧
 ∃ (a3 : Int), a1.cell? ((blk w.heap.size).add 0) = some (.int .i64 a3) ∧
 bif bw != a3 then (
 bif bw != a3 then (
 R (.bool false) a1) else (
 ∃ (ax : Int), a1.cell? ((blk w.heap.size).add 2) = some (.int .u64 ax) ∧
 ∃ (aj : Int), a1.cell? ((blk w.heap.size).add 1) = some (.int .i64 aj) ∧
 R (.bool ((ax == 0) == (aj == 0))) a1)) else (
 ∃ (bd : Option Addr) (af ba : Nat), a1.cell? ((blk w.heap.size).add 6) = some (.slice bd af ba) ∧
 bif decide ((af : Int) > 1100) then (
 R (.bool false) a1) else (
 ∃ (b4 : Int), a1.cell? ((blk w.heap.size).add 2) = some (.int .u64 b4) ∧
 ∃ (am : Int), a1.cell? ((blk w.heap.size).add 1) = some (.int .i64 am) ∧
 R (.bool ((b4 == 0) == (am == 0))) a1))))) else (
 ∃ (al : Int), az.cell? ((blk w.heap.size).add 5) = some (.int .i64 al) ∧
 Calls Try.prog 82 #[.int .i64 al, .int .i64 (-1), .int .i64 20] az fun br bm => ∃ (ab : Bool), br = .returned (.bool ab) ∧
 bif !ab then (
 R (.bool false) bm) else (
 ∃ (bg bl : Int), cellsAt bm ((blk w.heap.size).add 3) [.int .i64 bg, .int .i64 bl] 0 ∧
 Calls Try.prog 83 #[.agg #[.int .i64 bg, .int .i64 bl]] bm fun bu a0 => ∃ (a8 : Bool), bu = .returned (.bool a8) ∧
 bif !a8 then (
 bif !a8 then (
 R (.bool false) a0) else (
 ∃ (b0 : Int), a0.cell? ((blk w.heap.size).add 2) = some (.int .u64 b0) ∧
 ∃ (ad : Int), a0.cell? ((blk w.heap.size).add 1) = some (.int .i64 ad) ∧
 R (.bool ((b0 == 0) == (ad == 0))) a0)) else (
 ∃ (bz : Int), a0.cell? (((blk w.heap.size).add 3).add 1) = some (.int .i64 bz) ∧
 ∃ (a7 : Int), a0.cell? ((blk w.heap.size).add 0) = some (.int .i64 a7) ∧
 bif bz != a7 then (
 bif bz != a7 then (
 R (.bool false) a0) else (
 ∃ (b1 : Int), a0.cell? ((blk w.heap.size).add 2) = some (.int .u64 b1) ∧
 ∃ (ap : Int), a0.cell? ((blk w.heap.size).add 1) = some (.int .i64 ap) ∧
 R (.bool ((b1 == 0) == (ap == 0))) a0)) else (
 ∃ (bb : Option Addr) (an bc : Nat), a0.cell? ((blk w.heap.size).add 6) = some (.slice bb an bc) ∧
 bif decide ((an : Int) > 1100) then (
 R (.bool false) a0) else (
 ∃ (ar : Int), a0.cell? ((blk w.heap.size).add 2) = some (.int .u64 ar) ∧
 ∃ (aq : Int), a0.cell? ((blk w.heap.size).add 1) = some (.int .i64 aq) ∧
 R (.bool ((ar == 0) == (aq == 0))) a0))))))

theorem Q08.ok (a0 a5 a6 a7 a8 a1 : Int) (a2 : Option Addr) (a4 a3 : Nat) (a9 : Int) {R : RW} {w : World} (h : Q08.M a0 a5 a6 a7 a8 a1 a2 a4 a3 a9 R w) : Calls Try.prog 62 #[.agg #[.int .i64 a0, .int .i64 a5, .int .u64 a6, .int .i64 a7, .int .i64 a8, .int .i64 a1, .slice a2 a4 a3, .int .u64 a9]] w fun e w' => ∃ v, e = .returned v ∧ R v w' :=
  Q09 follows (H := []) (args := [.agg #[.int .i64 a0, .int .i64 a5, .int .u64 a6, .int .i64 a7, .int .i64 a8, .int .i64 a1, .slice a2 a4 a3, .int .u64 a9]]) (cast (by kernel_rfl) h)

def Q08.N (a0 a2 a7 a6 a4 a3 : Int) (ab : Option Addr) (a5 ac : Nat) (ad : Int) (R : RW) (w : World) : Prop :=
 ((Q06.F a0 0 8) = false →
 ∀ (a9 : World), Ext no w a9 →
 R (.bool false) a9) ∧
 ((Q06.F a0 0 8) = true →
 ((Q06.F a2 0 200) = false →
 ∀ (a8 : World), Ext no w a8 →
 R (.bool false) a8) ∧
 ((Q06.F a2 0 200) = true →
 ((Q06.F a3 (-1) 20) = false →
 ∀ (aa : World), Ext no w aa →
 R (.bool false) aa) ∧
 ((Q06.F a3 (-1) 20) = true →
 ((Q0h.F a6 a4) = false →
 ∀ (a1 : World), Ext no w a1 →
 R (.bool false) a1) ∧
 ((Q0h.F a6 a4) = true →
 (a4 ≠ a0 →
 ∀ (a1 : World), Ext no w a1 →
 R (.bool false) a1) ∧
 (a4 = a0 →
 ((a5 : Int) > 1100 →
 ∀ (a1 : World), Ext no w a1 →
 R (.bool false) a1) ∧
 ((a5 : Int) ≤ 1100 →
 ∀ (a1 : World), Ext no w a1 →
 R (.bool ((a7 == 0) == (a2 == 0))) a1))))))

theorem Q08.up (a0 a1 a9 a8 a3 a2 : Int) (a5 : Option Addr) (a6 a4 : Nat) (ab : Int) {R : RW} {w : World} (h : Q08.N a0 a1 a9 a8 a3 a2 a5 a6 a4 ab R w) : Q08.M a0 a1 a9 a8 a3 a2 a5 a6 a4 ab R w := by
  unfold Q08.M
  unfold Q08.N at h
  refine Q00 fun am e9 => ?_
  have a7 := Blk.of_new e9
  have an := ((Ext.refl no w)).size
  have al := (Ext.refl no w).x_alloc e9
  refine ⟨a0, a7.celli 0 rfl rfl, ?_⟩
  refine (Q06.pure a0 0 8).mono fun ee ww10 ⟨he, hxx⟩ => ⟨(Q06.F a0 0 8), he, ?_⟩
  have ad := al.trans hxx
  have a7 := a7.ext hxx id
  refine bif_of (fun ai => ?_) (fun ai => ?_)
  ·have h := h.1 (not_t ai)
   refine bif_tt ai ?_
   have h := h ww10 ad
   exact h
  have h := h.2 (not_f ai)
  refine ⟨a1, a7.celli 1 rfl rfl, ?_⟩
  refine (Q06.pure a1 0 200).mono fun ee ww13 ⟨he, hxx⟩ => ⟨(Q06.F a1 0 200), he, ?_⟩
  have ae := ad.trans hxx
  have a7 := a7.ext hxx id
  refine bif_of (fun ag => ?_) (fun ag => ?_)
  ·have h := h.1 (not_t ag)
   refine bif_tt ag ?_
   have h := h ww13 ae
   exact h
  have h := h.2 (not_f ag)
  refine ⟨a2, a7.celli 5 rfl rfl, ?_⟩
  refine (Q06.pure a2 (-1) 20).mono fun ee ww16 ⟨he, hxx⟩ => ⟨(Q06.F a2 (-1) 20), he, ?_⟩
  have ac := ae.trans hxx
  have a7 := a7.ext hxx id
  refine bif_of (fun aj => ?_) (fun aj => ?_)
  ·have h := h.1 (not_t aj)
   have h := h ww16 ac
   exact h
  have h := h.2 (not_f aj)
  refine ⟨a8, a3, ⟨a7.celli 3 rfl rfl, a7.celli 4 rfl rfl, trivial⟩, ?_⟩
  refine (Q0h.pure a8 a3).mono fun ee ww19 ⟨he, hxx⟩ => ⟨(Q0h.F a8 a3), he, ?_⟩
  have aa := ac.trans hxx
  have a7 := a7.ext hxx id
  refine bif_of (fun af => ?_) (fun af => ?_)
  ·have h := h.1 (not_t af)
   refine bif_tt af ?_
   have h := h ww19 aa
   exact h
  have h := h.2 (not_f af)
  refine ⟨a3, a7.celli 4 rfl rfl, ?_⟩
  refine ⟨a0, a7.celli 0 rfl rfl, ?_⟩
  refine bif_of (fun ah => ?_) (fun ah => ?_)
  ·have h := h.1 (bne_t ah)
   refine bif_tt ah ?_
   have h := h ww19 aa
   exact h
  have h := h.2 (bne_f ah)
  refine ⟨a5, a6, a4, a7.celli 6 rfl rfl, ?_⟩
  refine bif_of (fun ak => ?_) (fun ak => ?_)
  ·have h := h.1 (of_decide_eq_true ak)
   have h := h ww19 aa
   exact h
  have h := h.2 (Int.not_lt.1 (of_decide_eq_false ak))
  refine ⟨a9, a7.celli 2 rfl rfl, ?_⟩
  refine ⟨a1, a7.celli 1 rfl rfl, ?_⟩
  have h := h ww19 aa
  exact h

theorem Q08.go (a0 a5 a6 a7 a8 a1 : Int) (a2 : Option Addr) (a4 a3 : Nat) (a9 : Int) {R : RW} {w : World} (h : Q08.N a0 a5 a6 a7 a8 a1 a2 a4 a3 a9 R w) : Calls Try.prog 62 #[.agg #[.int .i64 a0, .int .i64 a5, .int .u64 a6, .int .i64 a7, .int .i64 a8, .int .i64 a1, .slice a2 a4 a3, .int .u64 a9]] w fun e w' => ∃ v, e = .returned v ∧ R v w' := Q08.ok a0 a5 a6 a7 a8 a1 a2 a4 a3 a9 (Q08.up a0 a5 a6 a7 a8 a1 a2 a4 a3 a9 h)
theorem Q08.run (a0 a5 a6 a7 a8 a1 : Int) (a2 : Option Addr) (a4 a3 : Nat) (a9 : Int) {V : Value} {Q : World → Prop} {w : World} (h : Q08.N a0 a5 a6 a7 a8 a1 a2 a4 a3 a9 (fun v w' => v = V ∧ Q w') w) : Calls Try.prog 62 #[.agg #[.int .i64 a0, .int .i64 a5, .int .u64 a6, .int .i64 a7, .int .i64 a8, .int .i64 a1, .slice a2 a4 a3, .int .u64 a9]] w (Ret V Q) := (Q08.go a0 a5 a6 a7 a8 a1 a2 a4 a3 a9 h).mono fun e w' ⟨v, he, hv, hq⟩ => ⟨by rw [he, hv], hq⟩

def Q08.F (a0 a1 a5 a6 a4 a2 : Int) (a7 : Option Addr) (a3 a8 : Nat) (a9 : Int) : Bool :=
  if (Q06.F a0 0 8) = false then
    false
  else
    if (Q06.F a1 0 200) = false then
      false
    else
      if (Q06.F a2 (-1) 20) = false then
        false
      else
        if (Q0h.F a6 a4) = false then
          false
        else
          if a4 ≠ a0 then
            false
          else
            if (a3 : Int) > 1100 then
              false
            else
              ((a5 == 0) == (a1 == 0))
theorem Q08.pure (a1 a5 a6 a7 a8 a2 : Int) (a3 : Option Addr) (a0 a4 : Nat) (a9 : Int) {w : World} : Calls Try.prog 62 #[.agg #[.int .i64 a1, .int .i64 a5, .int .u64 a6, .int .i64 a7, .int .i64 a8, .int .i64 a2, .slice a3 a0 a4, .int .u64 a9]] w (Ret (.bool (Q08.F a1 a5 a6 a7 a8 a2 a3 a0 a4 a9)) fun w' => Ext no w w') := by
  refine Q08.run a1 a5 a6 a7 a8 a2 a3 a0 a4 a9 ?_
  unfold Q08.N
  refine ⟨fun c0 => ?_, fun c0 => ?_⟩
  ·intro w' hx; exact ⟨by unfold Q08.F; rw [if_pos c0], hx⟩
  ·refine ⟨fun c1 => ?_, fun c1 => ?_⟩
   ·intro w' hx; exact ⟨by unfold Q08.F; rw [if_neg (by rw [c0]; decide), if_pos c1], hx⟩
   ·refine ⟨fun c2 => ?_, fun c2 => ?_⟩
    ·intro w' hx; exact ⟨by unfold Q08.F; rw [if_neg (by rw [c0]; decide), if_neg (by rw [c1]; decide), if_pos c2], hx⟩
    ·refine ⟨fun c3 => ?_, fun c3 => ?_⟩
     ·intro w' hx; exact ⟨by unfold Q08.F; rw [if_neg (by rw [c0]; decide), if_neg (by rw [c1]; decide), if_neg (by rw [c2]; decide), if_pos c3], hx⟩
     ·refine ⟨fun c4 => ?_, fun c4 => ?_⟩
      ·intro w' hx; exact ⟨by unfold Q08.F; rw [if_neg (by rw [c0]; decide), if_neg (by rw [c1]; decide), if_neg (by rw [c2]; decide), if_neg (by rw [c3]; decide), if_pos c4], hx⟩
      ·refine ⟨fun c5 => ?_, fun c5 => ?_⟩
       ·intro w' hx; exact ⟨by unfold Q08.F; rw [if_neg (by rw [c0]; decide), if_neg (by rw [c1]; decide), if_neg (by rw [c2]; decide), if_neg (by rw [c3]; decide), if_neg (not_not_intro c4), if_pos c5], hx⟩
       ·intro w' hx; exact ⟨by unfold Q08.F; rw [if_neg (by rw [c0]; decide), if_neg (by rw [c1]; decide), if_neg (by rw [c2]; decide), if_neg (by rw [c3]; decide), if_neg (not_not_intro c4), if_neg (show ¬ ((a0 : Int) > 1100) from by omega)], hx⟩

structure Ent where
  w : Int
  i : Int
  pv : Int
  t : Int
  tw : Int
  ep : Int
  body : List UInt8
  sg : Int
deriving DecidableEq
def Ent.zero : Ent := ⟨0, 0, 0, 0, 0, 0, [], 0⟩
def entC (e : Ent) (a : Option Addr) (c : Nat) : List Value := [.int .i64 e.w, .int .i64 e.i, .int .u64 e.pv, .int .i64 e.t, .int .i64 e.tw, .int .i64 e.ep, .slice a e.body.length c, .int .u64 e.sg]
def entV (e : Ent) (a : Option Addr) (c : Nat) : Value := .agg #[.int .i64 e.w, .int .i64 e.i, .int .u64 e.pv, .int .i64 e.t, .int .i64 e.tw, .int .i64 e.ep, .slice a e.body.length c, .int .u64 e.sg]
structure Ent.fit (e : Ent) : Prop where
  pv0 : 0 ≤ e.pv
  pv1 : e.pv < 18446744073709551616
  sg0 : 0 ≤ e.sg
  sg1 : e.sg < 18446744073709551616
def Q0z (e : Ent) : Bool := decide (0 ≤ e.w ∧ e.w < 8 ∧ 0 ≤ e.i ∧ e.i < 200 ∧ -1 ≤ e.ep ∧ e.ep < 20 ∧ 0 < e.t ∧ e.t ≤ 1099511627776 ∧ e.tw = e.w ∧ e.body.length ≤ 1100 ∧ (e.pv = 0 ↔ e.i = 0))
theorem beq_dec (x y : Int) : ((x == 0) == (y == 0)) = decide (x = 0 ↔ y = 0) := by
  rw [Bool.eq_iff_iff, decide_eq_true_eq, beq_iff_eq, Bool.eq_iff_iff, beq_iff_eq, beq_iff_eq]
theorem Q4q (n a b : Int) : Q06.F n a b = decide (a ≤ n ∧ n < b) := by
  unfold Q06.F
  by_cases h : n ≥ a
  · rw [if_pos h, decide_eq_decide]; omega
  · rw [if_neg h, eq_comm, decide_eq_false_iff_not]; omega
theorem Q30 (t w : Int) : Q0h.F t w = decide (0 < t ∧ t ≤ 1099511627776 ∧ 0 ≤ w ∧ w < 8) := by
  unfold Q0h.F Q0f.F
  by_cases h : t > 0
  · rw [if_pos h]
    by_cases h1 : t ≤ 1099511627776
    · rw [if_pos h1]
      by_cases h2 : w ≥ 0
      · rw [if_pos h2, decide_eq_decide]; omega
      · rw [if_neg h2, eq_comm, decide_eq_false_iff_not]; omega
    · rw [if_neg h1, eq_comm, decide_eq_false_iff_not]; omega
  · rw [if_neg h, eq_comm, decide_eq_false_iff_not]; omega
theorem Q1N (e : Ent) (a : Option Addr) (c : Nat) : Q08.F e.w e.i e.pv e.t e.tw e.ep a e.body.length c e.sg = Q0z e := by
  unfold Q08.F Q0z
  rw [beq_dec]
  simp only [Q4q, Q30, decide_eq_false_iff_not]
  rw [Bool.eq_iff_iff, decide_eq_true_eq]
  (repeat' split) <;> simp only [Bool.false_eq_true, decide_eq_true_eq, false_iff] <;> omega
def stampL (t w : Int) : List UInt8 := numL (zig t) ++ numL w.toNat
def textL (e : Ent) : List UInt8 := numL e.w.toNat ++ numL e.i.toNat ++ numL e.pv.toNat ++ stampL e.t e.tw ++ numL (zig e.ep) ++ (numL e.body.length ++ e.body)
def bytesL (e : Ent) : List UInt8 := textL e ++ numL e.sg.toNat
theorem Q2R (t w : Int) : (stampL t w).length ≤ 20 := by
  have h1 := W.numL_le (zig t); have h2 := W.numL_le w.toNat
  unfold stampL; rw [List.length_append]; omega
theorem Q3k (e : Ent) : (textL e).length ≤ 70 + e.body.length := by
  have h1 := W.numL_le e.w.toNat; have h2 := W.numL_le e.i.toNat; have h3 := W.numL_le e.pv.toNat; have h4 := Q2R e.t e.tw; have h5 := W.numL_le (zig e.ep); have h6 := W.numL_le e.body.length
  unfold textL; simp only [List.length_append]; omega
theorem Q4j (e : Ent) : (bytesL e).length ≤ 80 + e.body.length := by
  have h1 := Q3k e; have h2 := W.numL_le e.sg.toNat
  unfold bytesL; rw [List.length_append]; omega
def stampR (s : RS) : (Int × Nat) × RS := (((intR s).1, (countR 7 (intR s).2).1), (countR 7 (intR s).2).2)
def entR1 (s : RS) : RS := (countR 7 s).2
def entR2 (s : RS) : RS := (countR 199 (entR1 s)).2
def entR3 (s : RS) : RS := (numR (entR2 s)).2
def entR4 (s : RS) : RS := (stampR (entR3 s)).2
def entR5 (s : RS) : RS := (intR (entR4 s)).2
def entR6 (s : RS) : RS := (bytesR 1100 (entR5 s)).2
def entR7 (s : RS) : RS := (numR (entR6 s)).2
def entR (s : RS) : Ent := ⟨(countR 7 s).1, (countR 199 (entR1 s)).1, (numR (entR2 s)).1, (stampR (entR3 s)).1.1, (stampR (entR3 s)).1.2, (intR (entR4 s)).1, (bytesR 1100 (entR5 s)).1, (numR (entR6 s)).1⟩
def readE (b : List UInt8) : Ent × Int :=
  if doneR (entR7 (b, 0)) ≠ 0 then (Ent.zero, doneR (entR7 (b, 0))) else if Q0z (entR (b, 0)) = true then (entR (b, 0), 0) else (Ent.zero, 4)
theorem Q2E (s : RS) : (intR s).2.1.length ≤ s.1.length := W.numR_len s
theorem Q3H (s : RS) : (stampR s).2.1.length ≤ s.1.length := Nat.le_trans (W.countR_len 7 _) (Q2E s)
theorem Q4r (s : RS) : (entR1 s).1.length ≤ s.1.length ∧ (entR2 s).1.length ≤ s.1.length ∧ (entR3 s).1.length ≤ s.1.length ∧ (entR4 s).1.length ≤ s.1.length ∧ (entR5 s).1.length ≤ s.1.length ∧ (entR6 s).1.length ≤ s.1.length ∧ (entR7 s).1.length ≤ s.1.length := by
  have h1 : (entR1 s).1.length ≤ s.1.length := W.countR_len 7 s
  have h2 : (entR2 s).1.length ≤ (entR1 s).1.length := W.countR_len 199 _
  have h3 : (entR3 s).1.length ≤ (entR2 s).1.length := W.numR_len _
  have h4 : (entR4 s).1.length ≤ (entR3 s).1.length := Q3H _
  have h5 : (entR5 s).1.length ≤ (entR4 s).1.length := Q2E _
  have h6 : (entR6 s).1.length ≤ (entR5 s).1.length := (Q19 1100 _).1
  have h7 : (entR7 s).1.length ≤ (entR6 s).1.length := W.numR_len _
  omega
/-! ### the plain law -/
theorem Q2Q {t : Int} (h0 : -9223372036854775808 ≤ t) (h1 : t < 9223372036854775808) (r : List UInt8) : intR (numL (zig t) ++ r, 0) = (t, (r, 0)) := by
  unfold intR
  rw [W.numR_write (W.zig_lt h0 h1), W.unzig_zig]
theorem Q34 (x r : List UInt8) : takeR x.length (x ++ r, 0) = (x, (r, 0)) := by
  unfold takeR
  rw [if_pos rfl, if_neg (by simp), List.take_left' rfl, List.drop_left' rfl]
theorem Q0O {m : Int} {x : List UInt8} (hm : (x.length : Int) ≤ m) (hx : x.length < 18446744073709551616) (r : List UInt8) : bytesR m (numL x.length ++ (x ++ r), 0) = (x, (r, 0)) := by
  unfold bytesR
  rw [W.countR_write hx hm, Q34]
theorem Q13 (e : Ent) : Q0z e = true ↔ (0 ≤ e.w ∧ e.w < 8 ∧ 0 ≤ e.i ∧ e.i < 200 ∧ -1 ≤ e.ep ∧ e.ep < 20 ∧ 0 < e.t ∧ e.t ≤ 1099511627776 ∧ e.tw = e.w ∧ e.body.length ≤ 1100 ∧ (e.pv = 0 ↔ e.i = 0)) := decide_eq_true_iff
theorem Q3B {e : Ent} (h : Q0z e = true) (hf : e.fit) (r : List UInt8) : entR (bytesL e ++ r, 0) = e ∧ entR7 (bytesL e ++ r, 0) = (r, 0) := by
  obtain ⟨h1, h2, h3, h4, h5, h6, h7, h8, h9, h10, h11⟩ := (Q13 e).1 h
  obtain ⟨l2, l3, l4, l5, l6, l7, l8, e1, rfl, rfl, rfl, rfl, rfl, rfl, rfl⟩ : ∃ l2 l3 l4 l5 l6 l7 l8, bytesL e ++ r = numL e.w.toNat ++ l2 ∧ l2 = numL e.i.toNat ++ l3 ∧ l3 = numL e.pv.toNat ++ l4 ∧ l4 = numL (zig e.t) ++ l5 ∧ l5 = numL e.tw.toNat ++ l6 ∧ l6 = numL (zig e.ep) ++ l7 ∧
      l7 = numL e.body.length ++ (e.body ++ l8) ∧ l8 = numL e.sg.toNat ++ r := ⟨_, _, _, _, _, _, _, by unfold bytesL textL stampL; simp only [List.append_assoc], rfl, rfl, rfl, rfl, rfl, rfl, rfl⟩
  have f1 := hf.pv0; have f2 := hf.pv1; have f3 := hf.sg0; have f4 := hf.sg1
  have q1 := W.countR_write (n := e.w.toNat) (m := 7) (by omega) (by omega) (numL e.i.toNat ++ (numL e.pv.toNat ++ (numL (zig e.t) ++ (numL e.tw.toNat ++ (numL (zig e.ep) ++ (numL e.body.length ++ (e.body ++ (numL e.sg.toNat ++ r))))))))
  rw [← e1] at q1
  have q2 := W.countR_write (n := e.i.toNat) (m := 199) (by omega) (by omega) (numL e.pv.toNat ++ (numL (zig e.t) ++ (numL e.tw.toNat ++ (numL (zig e.ep) ++ (numL e.body.length ++ (e.body ++ (numL e.sg.toNat ++ r)))))))
  have p1 : entR1 (bytesL e ++ r, 0) = (numL e.i.toNat ++ (numL e.pv.toNat ++ (numL (zig e.t) ++ (numL e.tw.toNat ++ (numL (zig e.ep) ++ (numL e.body.length ++ (e.body ++ (numL e.sg.toNat ++ r))))))), 0) := congrArg Prod.snd q1
  rw [← p1] at q2
  have q3 := W.numR_write (n := e.pv.toNat) (by omega) (numL (zig e.t) ++ (numL e.tw.toNat ++ (numL (zig e.ep) ++ (numL e.body.length ++ (e.body ++ (numL e.sg.toNat ++ r))))))
  have p2 : entR2 (bytesL e ++ r, 0) = (numL e.pv.toNat ++ (numL (zig e.t) ++ (numL e.tw.toNat ++ (numL (zig e.ep) ++ (numL e.body.length ++ (e.body ++ (numL e.sg.toNat ++ r)))))), 0) := congrArg Prod.snd q2
  rw [← p2] at q3
  have q4 := Q2Q (t := e.t) (by omega) (by omega) (numL e.tw.toNat ++ (numL (zig e.ep) ++ (numL e.body.length ++ (e.body ++ (numL e.sg.toNat ++ r)))))
  have p3 : entR3 (bytesL e ++ r, 0) = (numL (zig e.t) ++ (numL e.tw.toNat ++ (numL (zig e.ep) ++ (numL e.body.length ++ (e.body ++ (numL e.sg.toNat ++ r))))), 0) := congrArg Prod.snd q3
  rw [← p3] at q4
  have q5 := W.countR_write (n := e.tw.toNat) (m := 7) (by omega) (by omega) (numL (zig e.ep) ++ (numL e.body.length ++ (e.body ++ (numL e.sg.toNat ++ r))))
  have p5 : (intR (entR3 (bytesL e ++ r, 0))).2 = (numL e.tw.toNat ++ (numL (zig e.ep) ++ (numL e.body.length ++ (e.body ++ (numL e.sg.toNat ++ r)))), 0) := congrArg Prod.snd q4
  rw [← p5] at q5
  have q6 := Q2Q (t := e.ep) (by omega) (by omega) (numL e.body.length ++ (e.body ++ (numL e.sg.toNat ++ r)))
  have p6 : entR4 (bytesL e ++ r, 0) = (numL (zig e.ep) ++ (numL e.body.length ++ (e.body ++ (numL e.sg.toNat ++ r))), 0) := congrArg Prod.snd q5
  rw [← p6] at q6
  have q7 := Q0O (x := e.body) (m := 1100) (by omega) (by omega) (numL e.sg.toNat ++ r)
  have p7 : entR5 (bytesL e ++ r, 0) = (numL e.body.length ++ (e.body ++ (numL e.sg.toNat ++ r)), 0) := congrArg Prod.snd q6
  rw [← p7] at q7
  have q8 := W.numR_write (n := e.sg.toNat) (by omega) r
  have p8 : entR6 (bytesL e ++ r, 0) = (numL e.sg.toNat ++ r, 0) := congrArg Prod.snd q7
  rw [← p8] at q8
  refine ⟨?_, congrArg Prod.snd q8⟩
  unfold entR stampR
  rw [q1, q2, q3, q5, q4, q6, q7, q8]
  simp only
  obtain ⟨w, i, pv, t, tw, ep, body, sg⟩ := e
  simp only at *
  rw [Int.toNat_of_nonneg h1, Int.toNat_of_nonneg h3, Int.toNat_of_nonneg f1, Int.toNat_of_nonneg (by omega : 0 ≤ tw), Int.toNat_of_nonneg f3]
theorem Q1B {e : Ent} (h : Q0z e = true) (hf : e.fit) : readE (bytesL e) = (e, 0) := by
  obtain ⟨h1, h2⟩ := Q3B h hf []
  rw [List.append_nil] at h1 h2
  unfold readE
  rw [h2, h1, if_neg (by simp [doneR]), if_pos h]
end Go.Proofs.Ytoempemllkebkaa
namespace Go.Proofs.Ytoempemllkebkaa
open Go Go.Mx Go.Proofs
open W (OwnB Rd RdR GivesW numR countR doneR zig unzig intR)
def Q0w.M (a1 : Option Addr) (a4 a0 : Nat) (a3 : Option Addr) (a5 a2 : Nat) (R : RW) (w : World) : Prop :=
 ∃ (s3 : ByteArray), (convert 25 9 (.slice a1 a4 a0)).run Try.prog w = .ok (.string s3) w ∧
 ∃ (s4 : ByteArray), (convert 25 9 (.slice a3 a5 a2)).run Try.prog w = .ok (.string s4) w ∧
 R (.bool (s3.toList == s4.toList)) w

theorem Q0w.ok (a1 : Option Addr) (a4 a0 : Nat) (a3 : Option Addr) (a5 a2 : Nat) {R : RW} {w : World} (h : Q0w.M a1 a4 a0 a3 a5 a2 R w) : Calls Try.prog 59 #[.slice a1 a4 a0, .slice a3 a5 a2] w fun e w' => ∃ v, e = .returned v ∧ R v w' :=
  Q09 follows (H := []) (args := [.slice a1 a4 a0, .slice a3 a5 a2]) (cast (by kernel_rfl) h)

def Q0w.N (a1 : Option Addr) (a4 a0 : Nat) (a3 : Option Addr) (a5 a2 : Nat) (R : RW) (w : World) : Prop :=
 ∃ (s3 : ByteArray), (convert 25 9 (.slice a1 a4 a0)).run Try.prog w = .ok (.string s3) w ∧
 ∃ (s5 : ByteArray), (convert 25 9 (.slice a3 a5 a2)).run Try.prog w = .ok (.string s5) w ∧
 R (.bool (s3.toList == s5.toList)) w

theorem Q0w.up (a1 : Option Addr) (a4 a0 : Nat) (a3 : Option Addr) (a5 a2 : Nat) {R : RW} {w : World} (h : Q0w.N a1 a4 a0 a3 a5 a2 R w) : Q0w.M a1 a4 a0 a3 a5 a2 R w := by
  unfold Q0w.M
  unfold Q0w.N at h
  obtain ⟨s3, a6, h⟩ := h
  refine ⟨s3, a6, ?_⟩
  obtain ⟨s5, a7, h⟩ := h
  refine ⟨s5, a7, ?_⟩
  exact h

theorem Q0w.go (a1 : Option Addr) (a4 a0 : Nat) (a3 : Option Addr) (a5 a2 : Nat) {R : RW} {w : World} (h : Q0w.N a1 a4 a0 a3 a5 a2 R w) : Calls Try.prog 59 #[.slice a1 a4 a0, .slice a3 a5 a2] w fun e w' => ∃ v, e = .returned v ∧ R v w' := Q0w.ok a1 a4 a0 a3 a5 a2 (Q0w.up a1 a4 a0 a3 a5 a2 h)
theorem Q0w.run (a1 : Option Addr) (a4 a0 : Nat) (a3 : Option Addr) (a5 a2 : Nat) {V : Value} {Q : World → Prop} {w : World} (h : Q0w.N a1 a4 a0 a3 a5 a2 (fun v w' => v = V ∧ Q w') w) : Calls Try.prog 59 #[.slice a1 a4 a0, .slice a3 a5 a2] w (Ret V Q) := (Q0w.go a1 a4 a0 a3 a5 a2 h).mono fun e w' ⟨v, he, hv, hq⟩ => ⟨by rw [he, hv], hq⟩

def Q0J.M (aa : Option Addr) (ab ag : Nat) (ad ac : Int) (R : RW) (w : World) : Prop :=
 thenW (w.alloc (.cells #[.int .i64 ad, .int .i64 ac] 24)) fun ae =>
 thenW (ae.drew) fun a9 =>
 ∃ (T6 : Int), a9.cell? ((blk w.heap.size).add 0) = some (.int .i64 T6) ∧
 ∃ (W7 : Int), a9.cell? ((blk w.heap.size).add 1) = some (.int .i64 W7) ∧
 Calls Try.prog 89 #[.slice aa ab ag, .int .i64 T6] a9 fun af a6 => ∃ (a4 : Option Addr) (a5 a3 : Nat), af = .returned (.slice a4 a5 a3) ∧
 a6.cell? ((blk w.heap.size).add 1) = some (.int .i64 W7) ∧
 Calls Try.prog 26 #[.slice a4 a5 a3, .int .u64 (IntKind.u64.wrap (if (0 : Int) > W7 then 0 else W7))] a6 fun a8 a7 => ∃ (a0 : Option Addr) (a1 a2 : Nat), a8 = .returned (.slice a0 a1 a2) ∧
 R (.slice a0 a1 a2) a7

theorem Q0J.ok (a0 : Option Addr) (a1 a4 : Nat) (a3 a2 : Int) {R : RW} {w : World} (h : Q0J.M a0 a1 a4 a3 a2 R w) : Calls Try.prog 90 #[.slice a0 a1 a4, .agg #[.int .i64 a3, .int .i64 a2]] w fun e w' => ∃ v, e = .returned v ∧ R v w' :=
  Q09 follows (H := []) (args := [.slice a0 a1 a4, .agg #[.int .i64 a3, .int .i64 a2]]) (cast (by kernel_rfl) h)

def Q0J.N (ab : Option Addr) (ac af : Nat) (ae a9 : Int) (R : RW) (w : World) : Prop :=
 ∀ (a6 : World) (p6 : Nat), Ext no w a6 → Priv w a6 [p6] →
 Calls Try.prog 89 #[.slice ab ac af, .int .i64 ae] a6 fun ad aa => ∃ (a5 : Option Addr) (a4 a3 : Nat), ad = .returned (.slice a5 a4 a3) ∧
 Keep [p6] a6 aa ∧
 Calls Try.prog 26 #[.slice a5 a4 a3, .int .u64 (IntKind.u64.wrap (if (0 : Int) > a9 then 0 else a9))] aa fun a7 a8 => ∃ (a1 : Option Addr) (a0 a2 : Nat), a7 = .returned (.slice a1 a0 a2) ∧
 R (.slice a1 a0 a2) a8

theorem Q0J.up (aa : Option Addr) (ab a9 : Nat) (a7 a8 : Int) {R : RW} {w : World} (h : Q0J.N aa ab a9 a7 a8 R w) : Q0J.M aa ab a9 a7 a8 R w := by
  unfold Q0J.M
  unfold Q0J.N at h
  refine Q00 fun ai e4 => ?_
  have a0 := Blk.of_new e4
  have af := ((Ext.refl no w)).size
  have ah := (Ext.refl no w).x_alloc e4
  refine Q00 fun ag e5 => ?_
  have ad := ah.x_drew e5
  have a0 := a0.x_drew e5
  refine ⟨a7, a0.celli 0 rfl rfl, ?_⟩
  refine ⟨a8, a0.celli 1 rfl rfl, ?_⟩
  have h := h ag (w.heap.size) ad (Priv.cons af a0.lt Priv.nil)
  refine h.mono fun ak aj h => ?_
  obtain ⟨a5, a6, a4, he, hk, h⟩ := h
  refine ⟨a5, a6, a4, he, ?_⟩
  have a0 := hk.blk a0 (by simp)
  refine ⟨a0.celli 1 rfl rfl, ?_⟩
  refine h.mono fun ac ae h => ?_
  obtain ⟨a3, a1, a2, he, h⟩ := h
  refine ⟨a3, a1, a2, he, ?_⟩
  exact h

theorem Q0J.go (a0 : Option Addr) (a1 a4 : Nat) (a3 a2 : Int) {R : RW} {w : World} (h : Q0J.N a0 a1 a4 a3 a2 R w) : Calls Try.prog 90 #[.slice a0 a1 a4, .agg #[.int .i64 a3, .int .i64 a2]] w fun e w' => ∃ v, e = .returned v ∧ R v w' := Q0J.ok a0 a1 a4 a3 a2 (Q0J.up a0 a1 a4 a3 a2 h)
def Q0H.M (r1 : Option Addr) (R : RW) (w : World) : Prop :=
 thenW (w.alloc (.cells #[.int .i64 0, .int .i64 0] 24)) fun ae =>
 Calls Try.prog 100 #[.pointer r1] ae fun ac aa => ∃ (a7 : Int), ac = .returned (.int .i64 a7) ∧
 Q01 aa (((blk w.heap.size).add 0).add 0) ∧
 thenW (aa.setCell (((blk w.heap.size).add 0).add 0) (.int .i64 a7)) fun ab =>
 Calls Try.prog 54 #[.pointer r1, .int .i64 7] ab fun ad a9 => ∃ (a0 : Int), ad = .returned (.int .i64 a0) ∧
 Q01 a9 (((blk w.heap.size).add 1).add 0) ∧
 thenW (a9.setCell (((blk w.heap.size).add 1).add 0) (.int .i64 a0)) fun a3 =>
 ∃ (a6 a5 : Int), cellsAt a3 (blk w.heap.size) [.int .i64 a6, .int .i64 a5] 0 ∧
 Q01 a3 ((blk w.heap.size).add 0) ∧
 thenW (a3.setCell ((blk w.heap.size).add 0) (.int .i64 a6)) fun a4 =>
 Q01 a4 ((blk w.heap.size).add 1) ∧
 thenW (a4.setCell ((blk w.heap.size).add 1) (.int .i64 a5)) fun a8 =>
 ∃ (a2 a1 : Int), cellsAt a8 (blk w.heap.size) [.int .i64 a2, .int .i64 a1] 0 ∧
 R (.agg #[.int .i64 a2, .int .i64 a1]) a8

theorem Q0H.ok (r1 : Option Addr) {R : RW} {w : World} (h : Q0H.M r1 R w) : Calls Try.prog 99 #[.pointer r1] w fun e w' => ∃ v, e = .returned v ∧ R v w' :=
  Q09 follows (H := []) (args := [.pointer r1]) (cast (by kernel_rfl) h)

def Q0H.N (r1 : Option Addr) (R : RW) (w : World) : Prop :=
 ∀ (a4 : World) (p3 : Nat), Ext no w a4 → Priv w a4 [p3] →
 Calls Try.prog 100 #[.pointer r1] a4 fun a7 a6 => ∃ (a3 : Int), a7 = .returned (.int .i64 a3) ∧
 Keep [p3] a4 a6 ∧
 ∀ (a5 : World), Ext (fun b => b = p3) a6 a5 →
 Calls Try.prog 54 #[.pointer r1, .int .i64 7] a5 fun a8 a2 => ∃ (a0 : Int), a8 = .returned (.int .i64 a0) ∧
 Keep [p3] a5 a2 ∧
 ∀ (a1 : World), Ext (fun b => b = p3) a2 a1 →
 R (.agg #[.int .i64 a3, .int .i64 a0]) a1

theorem Q0H.up (r1 : Option Addr) {R : RW} {w : World} (h : Q0H.N r1 R w) : Q0H.M r1 R w := by
  unfold Q0H.M
  unfold Q0H.N at h
  refine Q00 fun ad e2 => ?_
  have a0 := Blk.of_new e2
  have aj := ((Ext.refl no w)).size
  have ah := (Ext.refl no w).x_alloc e2
  have h := h ad (w.heap.size) ah (Priv.cons aj a0.lt Priv.nil)
  refine h.mono fun am a4 h => ?_
  obtain ⟨a3, he, hk, h⟩ := h
  refine ⟨a3, he, ?_⟩
  have a0 := hk.blk a0 (by simp)
  have ae : Ext (fun b => b = w.heap.size) a4 a4 := ((Ext.refl no a4)).none
  refine ⟨a0.cani 0 rfl rfl, Q00 fun ai e7 => ?_⟩
  have ak := ae.x_set (q := w.heap.size) (i := 0) rfl (.inl rfl) e7
  have a0 := a0.seti 0 rfl e7
  have h := h ai ak
  refine h.mono fun al a2 h => ?_
  obtain ⟨a1, he, hk, h⟩ := h
  refine ⟨a1, he, ?_⟩
  have a0 := hk.blk a0 (by simp)
  have a8 : Ext (fun b => b = w.heap.size) a2 a2 := ((Ext.refl no a2)).none
  refine ⟨a0.cani 1 rfl rfl, Q00 fun af ac => ?_⟩
  have a9 := a8.x_set (q := w.heap.size) (i := 1) rfl (.inl rfl) ac
  have a0 := a0.seti 1 rfl ac
  refine ⟨a3, a1, ⟨a0.celli 0 rfl rfl, a0.celli 1 rfl rfl, trivial⟩, ?_⟩
  refine ⟨a0.cani 0 rfl rfl, Q00 fun ag ab => ?_⟩
  have a6 := a9.x_set (q := w.heap.size) (i := 0) rfl (.inl rfl) ab
  have a0 := a0.seti 0 rfl ab
  refine ⟨a0.cani 1 rfl rfl, Q00 fun a5 aa => ?_⟩
  have a7 := a6.x_set (q := w.heap.size) (i := 1) rfl (.inl rfl) aa
  have a0 := a0.seti 1 rfl aa
  refine ⟨a3, a1, ⟨a0.celli 0 rfl rfl, a0.celli 1 rfl rfl, trivial⟩, ?_⟩
  have h := h a5 a7
  exact h

theorem Q0H.go (r1 : Option Addr) {R : RW} {w : World} (h : Q0H.N r1 R w) : Calls Try.prog 99 #[.pointer r1] w fun e w' => ∃ v, e = .returned v ∧ R v w' := Q0H.ok r1 (Q0H.up r1 h)
theorem Q0H.run (r1 : Option Addr) {V : Value} {Q : World → Prop} {w : World} (h : Q0H.N r1 (fun v w' => v = V ∧ Q w') w) : Calls Try.prog 99 #[.pointer r1] w (Ret V Q) := (Q0H.go r1 h).mono fun e w' ⟨v, he, hv, hq⟩ => ⟨by rw [he, hv], hq⟩

abbrev Q0g.J1 (j8 : Int) (I0 : Nat → List Value → World → Prop) (ae : Option Addr) (ah m5 : Nat) (ad : Option Addr) (R : RW) (a9 : World) : Prop :=
 ae.elim False fun af =>
 0 ≤ (j8 : Int) ∧ (j8 : Int) < (ah : Int) ∧
 ∃ (ac : Int), a9.cell? (af.add (Int.toNat j8 * 1)) = some (.int .u64 ac) ∧
 ad.elim False fun ag =>
 ∃ (a4 : Option Addr) (a6 a3 : Nat), a9.cell? ag = some (.slice a4 a6 a3) ∧
 Calls Try.prog 26 #[.slice a4 a6 a3, .int .u64 ac] a9 fun a7 a5 => ∃ (a1 : Option Addr) (a0 a2 : Nat), a7 = .returned (.slice a1 a0 a2) ∧
 ad.elim False fun aa =>
 Q01 a5 (aa.add 0) ∧
 thenW (a5.setCell (aa.add 0) (.slice a1 a0 a2)) fun a8 =>
 ∃ ab, ab < m5 ∧ I0 ab [.int .i64 (IntKind.i64.wrap (j8 + 1))] a8

def Q0g.M (a3 a2 : Option Addr) (a1 a4 : Nat) (R : RW) (w : World) : Prop :=
 ∃ (I0 : Nat → List Value → World → Prop) (m4 : Nat), I0 m4 [.int .i64 0] w ∧ ∀ (m5 : Nat) (a0 : World) (t3 : Int), I0 m5 [.int .i64 t3] a0 →
 bif decide (t3 < (a1 : Int)) then (
 Q0g.J1 t3 I0 a2 a1 m5 a3 R a0) else (
 R (.tuple #[]) a0)

theorem Q0g.ok (a3 a2 : Option Addr) (a1 a0 : Nat) {R : RW} {w : World} (h : Q0g.M a3 a2 a1 a0 R w) : Calls Try.prog 88 #[.pointer a3, .slice a2 a1 a0] w fun e w' => ∃ v, e = .returned v ∧ R v w' :=
  Q09 follows (H := [(0, [0, 6, 7], [(8, (.one (.int .i64)))])]) (args := [.pointer a3, .slice a2 a1 a0]) (cast (by kernel_rfl) h)

def Q0g.N (ag af : Option Addr) (ac ah : Nat) (R : RW) (w : World) : Prop :=
 ∃ (I0 : Nat → List Value → World → Prop) (m4 : Nat), I0 m4 [.int .i64 0] w ∧ ∀ (m5 : Nat) (a3 : World) (t3 : Int), I0 m5 [.int .i64 t3] a3 →
 (t3 < (ac : Int) →
 ∃ a8 : Addr, af = some a8 ∧
 0 ≤ (t3 : Int) ∧ (t3 : Int) < (ac : Int) ∧
 ∃ (ae : Int), a3.cell? (a8.add (Int.toNat t3 * 1)) = some (.int .u64 ae) ∧
 ∃ a9 : Addr, ag = some a9 ∧
 ∃ (a5 : Option Addr) (a7 a4 : Nat), a3.cell? a9 = some (.slice a5 a7 a4) ∧
 Calls Try.prog 26 #[.slice a5 a7 a4, .int .u64 ae] a3 fun ab a6 => ∃ (a1 : Option Addr) (a0 a2 : Nat), ab = .returned (.slice a1 a0 a2) ∧
 Q01 a6 (a9.add 0) ∧
 thenW (a6.setCell (a9.add 0) (.slice a1 a0 a2)) fun aa =>
 (-9223372036854775808 : Int) ≤ (t3 + 1) ∧ (t3 + 1) < 9223372036854775808 ∧
 ∃ ad, ad < m5 ∧ I0 ad [.int .i64 (t3 + 1)] aa) ∧
 ((ac : Int) ≤ t3 →
 R (.tuple #[]) a3)

theorem Q0g.up (ac ab : Option Addr) (a9 aa : Nat) {R : RW} {w : World} (h : Q0g.N ac ab a9 aa R w) : Q0g.M ac ab a9 aa R w := by
  unfold Q0g.M
  unfold Q0g.N at h
  obtain ⟨I0, m4, h0, h⟩ := h
  refine ⟨I0, m4, h0, fun m5 ad t3 hI => ?_⟩
  have h := h m5 ad t3 hI
  refine bif_fo (fun c7 => ?_) (fun c7 => ?_)
  ·have h := h.2 (Int.not_lt.1 (of_decide_eq_false c7))
   exact h
  have h := h.1 (of_decide_eq_true c7)
  unfold Q0g.J1
  obtain ⟨a8, am, h⟩ := h
  refine Q0p am ?_
  obtain ⟨ag, ai, h⟩ := h
  refine ⟨ag, ai, ?_⟩
  obtain ⟨ap, ao, h⟩ := h
  refine ⟨ap, ao, ?_⟩
  obtain ⟨aq, a3, h⟩ := h
  refine Q0p a3 ?_
  obtain ⟨a6, a5, a4, a7, h⟩ := h
  refine ⟨a6, a5, a4, a7, ?_⟩
  refine h.mono fun al af h => ?_
  obtain ⟨a1, a0, a2, he, h⟩ := h
  refine ⟨a1, a0, a2, he, ?_⟩
  refine Q0p a3 ?_
  obtain ⟨hcs, h⟩ := h
  refine ⟨hcs, Q00 fun aj ak => ?_⟩
  replace h := Q0X h ak
  obtain ⟨an, ah, h⟩ := h
  try rw [w64 an ah]
  obtain ⟨ae, hk, h⟩ := h
  exact ⟨ae, hk, h⟩

theorem Q0g.go (a3 a2 : Option Addr) (a1 a0 : Nat) {R : RW} {w : World} (h : Q0g.N a3 a2 a1 a0 R w) : Calls Try.prog 88 #[.pointer a3, .slice a2 a1 a0] w fun e w' => ∃ v, e = .returned v ∧ R v w' := Q0g.ok a3 a2 a1 a0 (Q0g.up a3 a2 a1 a0 h)
def Q0I.M (ac an aq ax ar aj : Int) (ak : Option Addr) (am ai : Nat) (ay : Int) (R : RW) (w : World) : Prop :=
 thenW (w.alloc (.cells #[.int .i64 ac, .int .i64 an, .int .u64 aq, .int .i64 ax, .int .i64 ar, .int .i64 aj, .slice ak am ai, .int .u64 ay] 27)) fun b2 =>
 thenW (b2.alloc (.cells #[.slice none 0 0] 113)) fun ad =>
 ∃ (a4 : Int), ad.cell? ((blk w.heap.size).add 0) = some (.int .i64 a4) ∧
 ∃ (a6 : Int), ad.cell? ((blk w.heap.size).add 1) = some (.int .i64 a6) ∧
 ∃ (ah : Int), ad.cell? ((blk w.heap.size).add 2) = some (.int .u64 ah) ∧
 thenW (ad.alloc (.cells #[.int .u64 (IntKind.u64.wrap a4), .int .u64 (IntKind.u64.wrap a6), .int .u64 ah] 22)) fun b1 =>
 Calls Try.prog 88 #[.pointer (some (blk b2.heap.size)), .slice (some (blk ad.heap.size)) 3 3] b1 fun b6 b8 => b6 = .returned (.tuple #[]) ∧
 thenW (b8.drew) fun al =>
 ∃ (av : Option Addr) (aw au : Nat), al.cell? (blk b2.heap.size) = some (.slice av aw au) ∧
 ∃ (ao ap : Int), cellsAt al ((blk w.heap.size).add 3) [.int .i64 ao, .int .i64 ap] 0 ∧
 ∃ (a0 : Int), al.cell? ((blk w.heap.size).add 5) = some (.int .i64 a0) ∧
 Calls Try.prog 90 #[.slice av aw au, .agg #[.int .i64 ao, .int .i64 ap]] al fun b7 az => ∃ (aa : Option Addr) (a9 ab : Nat), b7 = .returned (.slice aa a9 ab) ∧
 az.cell? ((blk w.heap.size).add 5) = some (.int .i64 a0) ∧
 Calls Try.prog 89 #[.slice aa a9 ab, .int .i64 a0] az fun b5 b0 => ∃ (ag : Option Addr) (ae af : Nat), b5 = .returned (.slice ag ae af) ∧
 ∃ (a7 : Option Addr) (a8 a5 : Nat), b0.cell? ((blk w.heap.size).add 6) = some (.slice a7 a8 a5) ∧
 Calls Try.prog 29 #[.slice ag ae af, .slice a7 a8 a5] b0 fun b4 b3 => ∃ (a1 : Option Addr) (a3 a2 : Nat), b4 = .returned (.slice a1 a3 a2) ∧
 R (.slice a1 a3 a2) b3

theorem Q0I.ok (a0 a5 a6 a7 a8 a1 : Int) (a2 : Option Addr) (a4 a3 : Nat) (a9 : Int) {R : RW} {w : World} (h : Q0I.M a0 a5 a6 a7 a8 a1 a2 a4 a3 a9 R w) : Calls Try.prog 76 #[.agg #[.int .i64 a0, .int .i64 a5, .int .u64 a6, .int .i64 a7, .int .i64 a8, .int .i64 a1, .slice a2 a4 a3, .int .u64 a9]] w fun e w' => ∃ v, e = .returned v ∧ R v w' :=
  Q09 follows (H := []) (args := [.agg #[.int .i64 a0, .int .i64 a5, .int .u64 a6, .int .i64 a7, .int .i64 a8, .int .i64 a1, .slice a2 a4 a3, .int .u64 a9]]) (cast (by kernel_rfl) h)

def Q0I.N (a5 ag aj aq am ad : Int) (ae : Option Addr) (af ac : Nat) (b1 : Int) (R : RW) (w : World) : Prop :=
 ∀ (a6 : World) (al au : Nat), Ext no w a6 → Blk a6 al 113 [.slice none 0 0] → w.heap.size ≤ al → al < a6.heap.size → Privq w al [au] →
 ∀ (a4 : World) (av : Nat), Ext no a6 a4 → Blk a4 av 22 [.int .u64 (IntKind.u64.wrap a5), .int .u64 (IntKind.u64.wrap ag), .int .u64 aj] → a6.heap.size ≤ av → av < a4.heap.size →
 Calls Try.prog 88 #[.pointer (some (blk al)), .slice (some (blk av)) 3 3] a4 fun ay ak => ay = .returned (.tuple #[]) ∧
 Keep [au] a4 ak ∧
 ∃ (ap : Option Addr) (ao ar : Nat), ak.cell? (blk al) = some (.slice ap ao ar) ∧
 ∀ (ai : World), Ext no ak ai →
 Calls Try.prog 90 #[.slice ap ao ar, .agg #[.int .i64 aq, .int .i64 am]] ai fun az ah => ∃ (ab : Option Addr) (aa a7 : Nat), az = .returned (.slice ab aa a7) ∧
 Keep [au] ai ah ∧
 Calls Try.prog 89 #[.slice ab aa a7, .int .i64 ad] ah fun b0 an => ∃ (a9 : Option Addr) (a3 a8 : Nat), b0 = .returned (.slice a9 a3 a8) ∧
 Keep [au] ah an ∧
 Calls Try.prog 29 #[.slice a9 a3 a8, .slice ae af ac] an fun ax aw => ∃ (a2 : Option Addr) (a0 a1 : Nat), ax = .returned (.slice a2 a0 a1) ∧
 R (.slice a2 a0 a1) aw

theorem Q0I.up (a0 a6 a7 ab a8 a3 : Int) (a4 : Option Addr) (a5 a2 : Nat) (ae : Int) {R : RW} {w : World} (h : Q0I.N a0 a6 a7 ab a8 a3 a4 a5 a2 ae R w) : Q0I.M a0 a6 a7 ab a8 a3 a4 a5 a2 ae R w := by
  unfold Q0I.M
  unfold Q0I.N at h
  refine Q00 fun b3 e9 => ?_
  have a1 := Blk.of_new e9
  have b4 := ((Ext.refl no w)).size
  have ax := (Ext.refl no w).x_alloc e9
  refine Q00 fun ad an => ?_
  have az := a1.lt
  have a1 := a1.x_alloc an
  have h := h ad b3.heap.size (w.heap.size) (ax.x_alloc an) (Blk.of_new an) (ax).size (Q0s an) (Privq.cons b4 az Privq.nil)
  refine ⟨a0, a1.celli 0 rfl rfl, ?_⟩
  refine ⟨a6, a1.celli 1 rfl rfl, ?_⟩
  refine ⟨a7, a1.celli 2 rfl rfl, ?_⟩
  refine Q00 fun ao am => ?_
  have a1 := a1.x_alloc am
  have h := h ao ad.heap.size ((Ext.refl no ad).x_alloc am) (Blk.of_new am) ((Ext.refl no ad)).size (Q0s am)
  refine h.mono fun b6 aw h => ?_
  obtain ⟨he, hk, h⟩ := h
  refine ⟨he, ?_⟩
  have a1 := hk.blk a1 (by simp)
  refine Q00 fun ar ay => ?_
  have al := (Ext.refl no aw).x_drew ay
  have a1 := a1.x_drew ay
  obtain ⟨aq, ap, av, au, h⟩ := h
  refine ⟨aq, ap, av, (al).cell au id, ?_⟩
  refine ⟨ab, a8, ⟨a1.celli 3 rfl rfl, a1.celli 4 rfl rfl, trivial⟩, ?_⟩
  refine ⟨a3, a1.celli 5 rfl rfl, ?_⟩
  have h := h ar al
  refine h.mono fun b7 b0 h => ?_
  obtain ⟨ak, aj, ag, he, hk, h⟩ := h
  refine ⟨ak, aj, ag, he, ?_⟩
  have a1 := hk.blk a1 (by simp)
  refine ⟨a1.celli 5 rfl rfl, ?_⟩
  refine h.mono fun b8 b1 h => ?_
  obtain ⟨ai, af, ah, he, hk, h⟩ := h
  refine ⟨ai, af, ah, he, ?_⟩
  have a1 := hk.blk a1 (by simp)
  refine ⟨a4, a5, a2, a1.celli 6 rfl rfl, ?_⟩
  refine h.mono fun b5 b2 h => ?_
  obtain ⟨ac, a9, aa, he, h⟩ := h
  refine ⟨ac, a9, aa, he, ?_⟩
  exact h

theorem Q0I.go (a0 a5 a6 a7 a8 a1 : Int) (a2 : Option Addr) (a4 a3 : Nat) (a9 : Int) {R : RW} {w : World} (h : Q0I.N a0 a5 a6 a7 a8 a1 a2 a4 a3 a9 R w) : Calls Try.prog 76 #[.agg #[.int .i64 a0, .int .i64 a5, .int .u64 a6, .int .i64 a7, .int .i64 a8, .int .i64 a1, .slice a2 a4 a3, .int .u64 a9]] w fun e w' => ∃ v, e = .returned v ∧ R v w' := Q0I.ok a0 a5 a6 a7 a8 a1 a2 a4 a3 a9 (Q0I.up a0 a5 a6 a7 a8 a1 a2 a4 a3 a9 h)
abbrev Q0x.J1 (al : Addr) (R : RW) (an : World) : Prop :=
 thenW (an.drew) fun ah =>
 ∃ (a0 a1 a6 ab aa a3 : Int) (a4 : Option Addr) (a5 a2 : Nat) (ac : Int), cellsAt ah al [.int .i64 a0, .int .i64 a1, .int .u64 a6, .int .i64 ab, .int .i64 aa, .int .i64 a3, .slice a4 a5 a2, .int .u64 ac] 0 ∧
 ∃ (ag : Int), ah.cell? (al.add 7) = some (.int .u64 ag) ∧
 Calls Try.prog 76 #[.agg #[.int .i64 a0, .int .i64 a1, .int .u64 a6, .int .i64 ab, .int .i64 aa, .int .i64 a3, .slice a4 a5 a2, .int .u64 ac]] ah fun aj ai => ∃ (a7 : Option Addr) (a9 a8 : Nat), aj = .returned (.slice a7 a9 a8) ∧
 ai.cell? (al.add 7) = some (.int .u64 ag) ∧
 Calls Try.prog 26 #[.slice a7 a9 a8, .int .u64 ag] ai fun am ak => ∃ (ae : Option Addr) (af ad : Nat), am = .returned (.slice ae af ad) ∧
 R (.tuple #[.slice ae af ad, .int .i64 0]) ak

def Q0x.M (a9 ag ah ak ai ad : Int) (ae : Option Addr) (af ac : Nat) (al : Int) (R : RW) (w : World) : Prop :=
 thenW (w.alloc (.cells #[.int .i64 a9, .int .i64 ag, .int .u64 ah, .int .i64 ak, .int .i64 ai, .int .i64 ad, .slice ae af ac, .int .u64 al] 27)) fun an =>
 ∃ (a0 a3 a6 aa a8 a1 : Int) (a4 : Option Addr) (a2 a5 : Nat) (ab : Int), cellsAt an (blk w.heap.size) [.int .i64 a0, .int .i64 a3, .int .u64 a6, .int .i64 aa, .int .i64 a8, .int .i64 a1, .slice a4 a2 a5, .int .u64 ab] 0 ∧
 Calls Try.prog 62 #[.agg #[.int .i64 a0, .int .i64 a3, .int .u64 a6, .int .i64 aa, .int .i64 a8, .int .i64 a1, .slice a4 a2 a5, .int .u64 ab]] an fun am aj => ∃ (a7 : Bool), am = .returned (.bool a7) ∧
 bif !a7 then (
 R (.tuple #[.slice none 0 0, .int .i64 1]) aj) else (
 Q0x.J1 (blk w.heap.size) R aj)

theorem Q0x.ok (a0 a5 a6 a7 a8 a1 : Int) (a2 : Option Addr) (a4 a3 : Nat) (a9 : Int) {R : RW} {w : World} (h : Q0x.M a0 a5 a6 a7 a8 a1 a2 a4 a3 a9 R w) : Calls Try.prog 58 #[.agg #[.int .i64 a0, .int .i64 a5, .int .u64 a6, .int .i64 a7, .int .i64 a8, .int .i64 a1, .slice a2 a4 a3, .int .u64 a9]] w fun e w' => ∃ v, e = .returned v ∧ R v w' :=
  Q09 follows (H := []) (args := [.agg #[.int .i64 a0, .int .i64 a5, .int .u64 a6, .int .i64 a7, .int .i64 a8, .int .i64 a1, .slice a2 a4 a3, .int .u64 a9]]) (cast (by kernel_rfl) h)

def Q0x.N (a0 a5 a6 ad ab a2 : Int) (a3 : Option Addr) (a4 a1 : Nat) (a9 : Int) (R : RW) (w : World) : Prop :=
 ((Q08.F a0 a5 a6 ad ab a2 a3 a4 a1 a9) = false →
 ∀ (ah : World), Ext no w ah →
 R (.tuple #[.slice none 0 0, .int .i64 1]) ah) ∧
 ((Q08.F a0 a5 a6 ad ab a2 a3 a4 a1 a9) = true →
 ∀ (ag : World) (am : Nat), Ext no w ag → Priv w ag [am] →
 Calls Try.prog 76 #[.agg #[.int .i64 a0, .int .i64 a5, .int .u64 a6, .int .i64 ad, .int .i64 ab, .int .i64 a2, .slice a3 a4 a1, .int .u64 a9]] ag fun al ai => ∃ (a8 : Option Addr) (a7 aa : Nat), al = .returned (.slice a8 a7 aa) ∧
 Keep [am] ag ai ∧
 Calls Try.prog 26 #[.slice a8 a7 aa, .int .u64 a9] ai fun aj ak => ∃ (af : Option Addr) (ac ae : Nat), aj = .returned (.slice af ac ae) ∧
 R (.tuple #[.slice af ac ae, .int .i64 0]) ak)

theorem Q0x.up (a0 a5 a6 aa a9 a2 : Int) (a3 : Option Addr) (a4 a1 : Nat) (a8 : Int) {R : RW} {w : World} (h : Q0x.N a0 a5 a6 aa a9 a2 a3 a4 a1 a8 R w) : Q0x.M a0 a5 a6 aa a9 a2 a3 a4 a1 a8 R w := by
  unfold Q0x.M
  unfold Q0x.N at h
  refine Q00 fun au e9 => ?_
  have a7 := Blk.of_new e9
  have aq := ((Ext.refl no w)).size
  have am := (Ext.refl no w).x_alloc e9
  refine ⟨a0, a5, a6, aa, a9, a2, a3, a4, a1, a8, ⟨a7.celli 0 rfl rfl, a7.celli 1 rfl rfl, a7.celli 2 rfl rfl, a7.celli 3 rfl rfl, a7.celli 4 rfl rfl, a7.celli 5 rfl rfl, a7.celli 6 rfl rfl, a7.celli 7 rfl rfl, trivial⟩, ?_⟩
  refine (Q08.pure a0 a5 a6 aa a9 a2 a3 a4 a1 a8).mono fun ee ww10 ⟨he, hxx⟩ => ⟨(Q08.F a0 a5 a6 aa a9 a2 a3 a4 a1 a8), he, ?_⟩
  have ah := am.trans hxx
  have a7 := a7.ext hxx id
  refine bif_of (fun aj => ?_) (fun aj => ?_)
  ·have h := h.1 (not_t aj)
   have h := h ww10 ah
   exact h
  have h := h.2 (not_f aj)
  unfold Q0x.J1
  refine Q00 fun ai al => ?_
  have ak := ah.x_drew al
  have a7 := a7.x_drew al
  refine ⟨a0, a5, a6, aa, a9, a2, a3, a4, a1, a8, ⟨a7.celli 0 rfl rfl, a7.celli 1 rfl rfl, a7.celli 2 rfl rfl, a7.celli 3 rfl rfl, a7.celli 4 rfl rfl, a7.celli 5 rfl rfl, a7.celli 6 rfl rfl, a7.celli 7 rfl rfl, trivial⟩, ?_⟩
  refine ⟨a8, a7.celli 7 rfl rfl, ?_⟩
  have h := h ai (w.heap.size) ak (Priv.cons aq a7.lt Priv.nil)
  refine h.mono fun ar ao h => ?_
  obtain ⟨ac, ab, ad, he, hk, h⟩ := h
  refine ⟨ac, ab, ad, he, ?_⟩
  have a7 := hk.blk a7 (by simp)
  refine ⟨a7.celli 7 rfl rfl, ?_⟩
  refine h.mono fun an ap h => ?_
  obtain ⟨ag, ae, af, he, h⟩ := h
  refine ⟨ag, ae, af, he, ?_⟩
  exact h

theorem Q0x.go (a0 a5 a6 a7 a8 a1 : Int) (a2 : Option Addr) (a4 a3 : Nat) (a9 : Int) {R : RW} {w : World} (h : Q0x.N a0 a5 a6 a7 a8 a1 a2 a4 a3 a9 R w) : Calls Try.prog 58 #[.agg #[.int .i64 a0, .int .i64 a5, .int .u64 a6, .int .i64 a7, .int .i64 a8, .int .i64 a1, .slice a2 a4 a3, .int .u64 a9]] w fun e w' => ∃ v, e = .returned v ∧ R v w' := Q0x.ok a0 a5 a6 a7 a8 a1 a2 a4 a3 a9 (Q0x.up a0 a5 a6 a7 a8 a1 a2 a4 a3 a9 h)
abbrev Q0D.J1 (cd : Int) (ca a0 : Addr) (R : RW) (cb : World) : Prop :=
 Q01 cb ((ca.add 5).add 0) ∧
 thenW (cb.setCell ((ca.add 5).add 0) (.int .i64 cd)) fun bk =>
 ∃ (bj : Int), bk.cell? (ca.add 5) = some (.int .i64 bj) ∧
 bif bj != cd then (
 Q01 bk (a0.add 0) ∧
 thenW (bk.setCell (a0.add 0) (.int .i64 0)) fun c9 =>
 Q01 c9 (a0.add 1) ∧
 thenW (c9.setCell (a0.add 1) (.int .i64 0)) fun c8 =>
 Q01 c8 (a0.add 2) ∧
 thenW (c8.setCell (a0.add 2) (.int .u64 0)) fun bp =>
 Q01 bp (a0.add 3) ∧
 thenW (bp.setCell (a0.add 3) (.int .i64 0)) fun bn =>
 Q01 bn (a0.add 4) ∧
 thenW (bn.setCell (a0.add 4) (.int .i64 0)) fun bo =>
 Q01 bo (a0.add 5) ∧
 thenW (bo.setCell (a0.add 5) (.int .i64 0)) fun bt =>
 Q01 bt (a0.add 6) ∧
 thenW (bt.setCell (a0.add 6) (.slice none 0 0)) fun bs =>
 Q01 bs (a0.add 7) ∧
 thenW (bs.setCell (a0.add 7) (.int .u64 0)) fun bw =>
 ∃ (a2 ad ak b0 b5 a4 : Int) (a6 : Option Addr) (af ah : Nat) (b8 : Int), cellsAt bw a0 [.int .i64 a2, .int .i64 ad, .int .u64 ak, .int .i64 b0, .int .i64 b5, .int .i64 a4, .slice a6 af ah, .int .u64 b8] 0 ∧
 R (.tuple #[.agg #[.int .i64 a2, .int .i64 ad, .int .u64 ak, .int .i64 b0, .int .i64 b5, .int .i64 a4, .slice a6 af ah, .int .u64 b8], .int .i64 4]) bw) else (
 ∃ (am ax ba be bf aw : Int) (aq : Option Addr) (b6 az : Nat) (bi : Int), cellsAt bk ca [.int .i64 am, .int .i64 ax, .int .u64 ba, .int .i64 be, .int .i64 bf, .int .i64 aw, .slice aq b6 az, .int .u64 bi] 0 ∧
 Calls Try.prog 62 #[.agg #[.int .i64 am, .int .i64 ax, .int .u64 ba, .int .i64 be, .int .i64 bf, .int .i64 aw, .slice aq b6 az, .int .u64 bi]] bk fun cc b9 => ∃ (bc : Bool), cc = .returned (.bool bc) ∧
 bif !bc then (
 Q01 b9 (a0.add 0) ∧
 thenW (b9.setCell (a0.add 0) (.int .i64 0)) fun br =>
 Q01 br (a0.add 1) ∧
 thenW (br.setCell (a0.add 1) (.int .i64 0)) fun bl =>
 Q01 bl (a0.add 2) ∧
 thenW (bl.setCell (a0.add 2) (.int .u64 0)) fun bu =>
 Q01 bu (a0.add 3) ∧
 thenW (bu.setCell (a0.add 3) (.int .i64 0)) fun bm =>
 Q01 bm (a0.add 4) ∧
 thenW (bm.setCell (a0.add 4) (.int .i64 0)) fun c3 =>
 Q01 c3 (a0.add 5) ∧
 thenW (c3.setCell (a0.add 5) (.int .i64 0)) fun c5 =>
 Q01 c5 (a0.add 6) ∧
 thenW (c5.setCell (a0.add 6) (.slice none 0 0)) fun c2 =>
 Q01 c2 (a0.add 7) ∧
 thenW (c2.setCell (a0.add 7) (.int .u64 0)) fun c6 =>
 ∃ (a3 ag al b3 b4 aa : Int) (a7 : Option Addr) (ab a9 : Nat) (av : Int), cellsAt c6 a0 [.int .i64 a3, .int .i64 ag, .int .u64 al, .int .i64 b3, .int .i64 b4, .int .i64 aa, .slice a7 ab a9, .int .u64 av] 0 ∧
 R (.tuple #[.agg #[.int .i64 a3, .int .i64 ag, .int .u64 al, .int .i64 b3, .int .i64 b4, .int .i64 aa, .slice a7 ab a9, .int .u64 av], .int .i64 4]) c6) else (
 ∃ (aj au bb bh bg ao : Int) (ap : Option Addr) (b1 b2 : Nat) (bd : Int), cellsAt b9 ca [.int .i64 aj, .int .i64 au, .int .u64 bb, .int .i64 bh, .int .i64 bg, .int .i64 ao, .slice ap b1 b2, .int .u64 bd] 0 ∧
 Q01 b9 (a0.add 0) ∧
 thenW (b9.setCell (a0.add 0) (.int .i64 aj)) fun bv =>
 Q01 bv (a0.add 1) ∧
 thenW (bv.setCell (a0.add 1) (.int .i64 au)) fun bz =>
 Q01 bz (a0.add 2) ∧
 thenW (bz.setCell (a0.add 2) (.int .u64 bb)) fun c7 =>
 Q01 c7 (a0.add 3) ∧
 thenW (c7.setCell (a0.add 3) (.int .i64 bh)) fun c4 =>
 Q01 c4 (a0.add 4) ∧
 thenW (c4.setCell (a0.add 4) (.int .i64 bg)) fun c1 =>
 Q01 c1 (a0.add 5) ∧
 thenW (c1.setCell (a0.add 5) (.int .i64 ao)) fun bq =>
 Q01 bq (a0.add 6) ∧
 thenW (bq.setCell (a0.add 6) (.slice ap b1 b2)) fun c0 =>
 Q01 c0 (a0.add 7) ∧
 thenW (c0.setCell (a0.add 7) (.int .u64 bd)) fun bx =>
 ∃ (a1 a5 an b7 ay ae : Int) (a8 : Option Addr) (ai ac : Nat) (ar : Int), cellsAt bx a0 [.int .i64 a1, .int .i64 a5, .int .u64 an, .int .i64 b7, .int .i64 ay, .int .i64 ae, .slice a8 ai ac, .int .u64 ar] 0 ∧
 R (.tuple #[.agg #[.int .i64 a1, .int .i64 a5, .int .u64 an, .int .i64 b7, .int .i64 ay, .int .i64 ae, .slice a8 ai ac, .int .u64 ar], .int .i64 0]) bx))

def Q0D.M (bm : Option Addr) (bo bl : Nat) (R : RW) (w : World) : Prop :=
 thenW (w.alloc (.cells #[.int .i64 0, .int .i64 0, .int .u64 0, .int .i64 0, .int .i64 0, .int .i64 0, .slice none 0 0, .int .u64 0] 27)) fun bk =>
 Calls Try.prog 33 #[.slice bm bo bl] bk fun bp ae => ∃ (a0 : Option Addr), bp = .returned (.pointer a0) ∧
 thenW (ae.alloc (.cells #[.int .i64 0, .int .i64 0, .int .u64 0, .int .i64 0, .int .i64 0, .int .i64 0, .slice none 0 0, .int .u64 0] 27)) fun bj =>
 Calls Try.prog 54 #[.pointer a0, .int .i64 7] bj fun bn bg => ∃ (ah : Int), bn = .returned (.int .i64 ah) ∧
 Q01 bg (((blk ae.heap.size).add 0).add 0) ∧
 thenW (bg.setCell (((blk ae.heap.size).add 0).add 0) (.int .i64 ah)) fun b5 =>
 Calls Try.prog 54 #[.pointer a0, .int .i64 199] b5 fun be ao => ∃ (ag : Int), be = .returned (.int .i64 ag) ∧
 Q01 ao (((blk ae.heap.size).add 1).add 0) ∧
 thenW (ao.setCell (((blk ae.heap.size).add 1).add 0) (.int .i64 ag)) fun b4 =>
 Calls Try.prog 71 #[.pointer a0] b4 fun bd au => ∃ (ak : Int), bd = .returned (.int .u64 ak) ∧
 Q01 au (((blk ae.heap.size).add 2).add 0) ∧
 thenW (au.setCell (((blk ae.heap.size).add 2).add 0) (.int .u64 ak)) fun bf =>
 Calls Try.prog 99 #[.pointer a0] bf fun b9 an => ∃ (bh bi : Int), b9 = .returned (.agg #[.int .i64 bh, .int .i64 bi]) ∧
 Q01 an (((blk ae.heap.size).add 3).add 0) ∧
 thenW (an.setCell (((blk ae.heap.size).add 3).add 0) (.int .i64 bh)) fun aq =>
 Q01 aq (((blk ae.heap.size).add 3).add 1) ∧
 thenW (aq.setCell (((blk ae.heap.size).add 3).add 1) (.int .i64 bi)) fun bb =>
 Calls Try.prog 100 #[.pointer a0] bb fun b8 bc => ∃ (aj : Int), b8 = .returned (.int .i64 aj) ∧
 Calls Try.prog 55 #[.pointer a0, .int .i64 1100] bc fun b7 b1 => ∃ (aa : Option Addr) (ad a8 : Nat), b7 = .returned (.slice aa ad a8) ∧
 Q01 b1 (((blk ae.heap.size).add 6).add 0) ∧
 thenW (b1.setCell (((blk ae.heap.size).add 6).add 0) (.slice aa ad a8)) fun b6 =>
 Calls Try.prog 71 #[.pointer a0] b6 fun b3 ax => ∃ (ai : Int), b3 = .returned (.int .u64 ai) ∧
 Q01 ax (((blk ae.heap.size).add 7).add 0) ∧
 thenW (ax.setCell (((blk ae.heap.size).add 7).add 0) (.int .u64 ai)) fun b2 =>
 Calls Try.prog 56 #[.pointer a0] b2 fun ba al => ∃ (af : Int), ba = .returned (.int .i64 af) ∧
 bif af != 0 then (
 Q01 al ((blk w.heap.size).add 0) ∧
 thenW (al.setCell ((blk w.heap.size).add 0) (.int .i64 0)) fun am =>
 Q01 am ((blk w.heap.size).add 1) ∧
 thenW (am.setCell ((blk w.heap.size).add 1) (.int .i64 0)) fun az =>
 Q01 az ((blk w.heap.size).add 2) ∧
 thenW (az.setCell ((blk w.heap.size).add 2) (.int .u64 0)) fun aw =>
 Q01 aw ((blk w.heap.size).add 3) ∧
 thenW (aw.setCell ((blk w.heap.size).add 3) (.int .i64 0)) fun ap =>
 Q01 ap ((blk w.heap.size).add 4) ∧
 thenW (ap.setCell ((blk w.heap.size).add 4) (.int .i64 0)) fun ar =>
 Q01 ar ((blk w.heap.size).add 5) ∧
 thenW (ar.setCell ((blk w.heap.size).add 5) (.int .i64 0)) fun av =>
 Q01 av ((blk w.heap.size).add 6) ∧
 thenW (av.setCell ((blk w.heap.size).add 6) (.slice none 0 0)) fun b0 =>
 Q01 b0 ((blk w.heap.size).add 7) ∧
 thenW (b0.setCell ((blk w.heap.size).add 7) (.int .u64 0)) fun ay =>
 ∃ (a1 a5 a7 ac a9 a6 : Int) (a4 : Option Addr) (a3 a2 : Nat) (ab : Int), cellsAt ay (blk w.heap.size) [.int .i64 a1, .int .i64 a5, .int .u64 a7, .int .i64 ac, .int .i64 a9, .int .i64 a6, .slice a4 a3 a2, .int .u64 ab] 0 ∧
 R (.tuple #[.agg #[.int .i64 a1, .int .i64 a5, .int .u64 a7, .int .i64 ac, .int .i64 a9, .int .i64 a6, .slice a4 a3 a2, .int .u64 ab], .int .i64 af]) ay) else (
 Q0D.J1 aj (blk ae.heap.size) (blk w.heap.size) R al)

theorem Q0D.ok (a0 : Option Addr) (a1 a2 : Nat) {R : RW} {w : World} (h : Q0D.M a0 a1 a2 R w) : Calls Try.prog 98 #[.slice a0 a1 a2] w fun e w' => ∃ v, e = .returned v ∧ R v w' :=
  Q09 follows (H := []) (args := [.slice a0 a1 a2]) (cast (by kernel_rfl) h)

def Q0D.N (b8 : Option Addr) (ba b7 : Nat) (R : RW) (w : World) : Prop :=
 ∀ (au : World) (p3 : Nat), Ext no w au → Priv w au [p3] →
 Calls Try.prog 33 #[.slice b8 ba b7] au fun b9 ay => ∃ (a0 : Option Addr), b9 = .returned (.pointer a0) ∧
 Keep [p3] au ay ∧
 ∀ (aw : World) (p8 : Nat), Ext no ay aw → Priv ay aw [p8] →
 Calls Try.prog 54 #[.pointer a0, .int .i64 7] aw fun b6 ai => ∃ (a7 : Int), b6 = .returned (.int .i64 a7) ∧
 Keep [p3, p8] aw ai ∧
 ∀ (af : World), Ext (fun b => b = p8) ai af →
 Calls Try.prog 54 #[.pointer a0, .int .i64 199] af fun b3 an => ∃ (a5 : Int), b3 = .returned (.int .i64 a5) ∧
 Keep [p3, p8] af an ∧
 ∀ (ah : World), Ext (fun b => b = p8) an ah →
 Calls Try.prog 71 #[.pointer a0] ah fun az ap => ∃ (a9 : Int), az = .returned (.int .u64 a9) ∧
 Keep [p3, p8] ah ap ∧
 ∀ (ag : World), Ext (fun b => b = p8) ap ag →
 Calls Try.prog 99 #[.pointer a0] ag fun b4 ao => ∃ (av ax : Int), b4 = .returned (.agg #[.int .i64 av, .int .i64 ax]) ∧
 Keep [p3, p8] ag ao ∧
 ∀ (ae : World), Ext (fun b => b = p8) ao ae →
 Calls Try.prog 100 #[.pointer a0] ae fun b1 ad => ∃ (a4 : Int), b1 = .returned (.int .i64 a4) ∧
 Keep [p3, p8] ae ad ∧
 Calls Try.prog 55 #[.pointer a0, .int .i64 1100] ad fun b0 ar => ∃ (a2 : Option Addr) (a3 a1 : Nat), b0 = .returned (.slice a2 a3 a1) ∧
 Keep [p3, p8] ad ar ∧
 ∀ (ab : World), Ext (fun b => b = p8) ar ab →
 Calls Try.prog 71 #[.pointer a0] ab fun b5 am => ∃ (a8 : Int), b5 = .returned (.int .u64 a8) ∧
 Keep [p3, p8] ab am ∧
 ∀ (ac : World), Ext (fun b => b = p8) am ac →
 Calls Try.prog 56 #[.pointer a0] ac fun b2 aa => ∃ (a6 : Int), b2 = .returned (.int .i64 a6) ∧
 Keep [p3, p8] ac aa ∧
 (a6 ≠ 0 →
 ∀ (aj : World), Ext (fun b => b = p3) aa aj →
 R (.tuple #[.agg #[.int .i64 0, .int .i64 0, .int .u64 0, .int .i64 0, .int .i64 0, .int .i64 0, .slice none 0 0, .int .u64 0], .int .i64 a6]) aj) ∧
 (a6 = 0 →
 (a4 ≠ a4 →
 ∀ (aq : World), Ext (fun b => b = p3 ∨ b = p8) aa aq →
 R (.tuple #[.agg #[.int .i64 0, .int .i64 0, .int .u64 0, .int .i64 0, .int .i64 0, .int .i64 0, .slice none 0 0, .int .u64 0], .int .i64 4]) aq) ∧
 (a4 = a4 →
 ((Q08.F a7 a5 a9 av ax a4 a2 a3 a1 a8) = false →
 ∀ (al : World), Ext (fun b => b = p3 ∨ b = p8) aa al →
 R (.tuple #[.agg #[.int .i64 0, .int .i64 0, .int .u64 0, .int .i64 0, .int .i64 0, .int .i64 0, .slice none 0 0, .int .u64 0], .int .i64 4]) al) ∧
 ((Q08.F a7 a5 a9 av ax a4 a2 a3 a1 a8) = true →
 ∀ (ak : World), Ext (fun b => b = p3 ∨ b = p8) aa ak →
 R (.tuple #[.agg #[.int .i64 a7, .int .i64 a5, .int .u64 a9, .int .i64 av, .int .i64 ax, .int .i64 a4, .slice a2 a3 a1, .int .u64 a8], .int .i64 0]) ak)))

theorem Q0D.up (ea : Option Addr) (ed dn : Nat) {R : RW} {w : World} (h : Q0D.N ea ed dn R w) : Q0D.M ea ed dn R w := by
  unfold Q0D.M
  unfold Q0D.N at h
  refine Q00 fun eo e2 => ?_
  have a0 := Blk.of_new e2
  have f1 := ((Ext.refl no w)).size
  have eu := (Ext.refl no w).x_alloc e2
  have h := h eo (w.heap.size) eu (Priv.cons f1 a0.lt Priv.nil)
  refine h.mono fun f3 a8 h => ?_
  obtain ⟨av, he, hk, h⟩ := h
  refine ⟨av, he, ?_⟩
  have a0 := hk.blk a0 (by simp)
  refine Q00 fun ev e7 => ?_
  have a6 := Blk.of_new e7
  have ey := ((Ext.refl no a8)).size
  have ab := Nat.ne_of_lt a0.lt
  have a0 := a0.x_alloc e7
  have ew := (Ext.refl no a8).x_alloc e7
  have h := h ev (a8.heap.size) ew (Priv.cons ey a6.lt Priv.nil)
  refine h.mono fun ex ah h => ?_
  obtain ⟨a2, he, hk, h⟩ := h
  refine ⟨a2, he, ?_⟩
  have a0 := hk.blk a0 (by simp)
  have a6 := hk.blk a6 (by simp)
  have bm : Ext (fun b => b = a8.heap.size) ah ah := ((Ext.refl no ah)).none
  refine ⟨a6.cani 0 rfl rfl, Q00 fun b0 ce => ?_⟩
  have b5 := bm.x_set (q := a8.heap.size) (i := 0) rfl (.inl rfl) ce
  have a0 := a0.oth (q := a8.heap.size) (i := 0) rfl ab ce
  have a6 : Blk b0 a8.heap.size 27 [.int .i64 a2, .int .i64 0, .int .u64 0, .int .i64 0, .int .i64 0, .int .i64 0, .slice none 0 0, .int .u64 0] := a6.seti 0 rfl ce
  have h := h b0 b5
  refine h.mono fun ep ak h => ?_
  obtain ⟨a1, he, hk, h⟩ := h
  refine ⟨a1, he, ?_⟩
  have a0 := hk.blk a0 (by simp)
  have a6 := hk.blk a6 (by simp)
  have bc : Ext (fun b => b = a8.heap.size) ak ak := ((Ext.refl no ak)).none
  refine ⟨a6.cani 1 rfl rfl, Q00 fun ao dd => ?_⟩
  have c9 := bc.x_set (q := a8.heap.size) (i := 1) rfl (.inl rfl) dd
  have a0 := a0.oth (q := a8.heap.size) (i := 1) rfl ab dd
  have a6 : Blk ao a8.heap.size 27 [.int .i64 a2, .int .i64 a1, .int .u64 0, .int .i64 0, .int .i64 0, .int .i64 0, .slice none 0 0, .int .u64 0] := a6.seti 1 rfl dd
  have h := h ao c9
  refine h.mono fun er ai h => ?_
  obtain ⟨a7, he, hk, h⟩ := h
  refine ⟨a7, he, ?_⟩
  have a0 := hk.blk a0 (by simp)
  have a6 := hk.blk a6 (by simp)
  have bu : Ext (fun b => b = a8.heap.size) ai ai := ((Ext.refl no ai)).none
  refine ⟨a6.cani 2 rfl rfl, Q00 fun ar c6 => ?_⟩
  have c3 := bu.x_set (q := a8.heap.size) (i := 2) rfl (.inl rfl) c6
  have a0 := a0.oth (q := a8.heap.size) (i := 2) rfl ab c6
  have a6 : Blk ar a8.heap.size 27 [.int .i64 a2, .int .i64 a1, .int .u64 a7, .int .i64 0, .int .i64 0, .int .i64 0, .slice none 0 0, .int .u64 0] := a6.seti 2 rfl c6
  have h := h ar c3
  refine h.mono fun f2 al h => ?_
  obtain ⟨ad, ae, he, hk, h⟩ := h
  refine ⟨ad, ae, he, ?_⟩
  have a0 := hk.blk a0 (by simp)
  have a6 := hk.blk a6 (by simp)
  have b3 : Ext (fun b => b = a8.heap.size) al al := ((Ext.refl no al)).none
  refine ⟨a6.cani 3 rfl rfl, Q00 fun d2 bz => ?_⟩
  have bx := b3.x_set (q := a8.heap.size) (i := 3) rfl (.inl rfl) bz
  have a0 := a0.oth (q := a8.heap.size) (i := 3) rfl ab bz
  have a6 : Blk d2 a8.heap.size 27 [.int .i64 a2, .int .i64 a1, .int .u64 a7, .int .i64 ad, .int .i64 0, .int .i64 0, .slice none 0 0, .int .u64 0] := a6.seti 3 rfl bz
  refine ⟨a6.cani 4 rfl rfl, Q00 fun am cp => ?_⟩
  have bs := bx.x_set (q := a8.heap.size) (i := 4) rfl (.inl rfl) cp
  have a0 := a0.oth (q := a8.heap.size) (i := 4) rfl ab cp
  have a6 : Blk am a8.heap.size 27 [.int .i64 a2, .int .i64 a1, .int .u64 a7, .int .i64 ad, .int .i64 ae, .int .i64 0, .slice none 0 0, .int .u64 0] := a6.seti 4 rfl cp
  have h := h am bs
  refine h.mono fun ez f0 h => ?_
  obtain ⟨a9, he, hk, h⟩ := h
  refine ⟨a9, he, ?_⟩
  have a0 := hk.blk a0 (by simp)
  have a6 := hk.blk a6 (by simp)
  refine h.mono fun es ag h => ?_
  obtain ⟨a3, a4, a5, he, hk, h⟩ := h
  refine ⟨a3, a4, a5, he, ?_⟩
  have a0 := hk.blk a0 (by simp)
  have a6 := hk.blk a6 (by simp)
  have b6 : Ext (fun b => b = a8.heap.size) ag ag := ((Ext.refl no ag)).none
  refine ⟨a6.cani 6 rfl rfl, Q00 fun ap bq => ?_⟩
  have bh := b6.x_set (q := a8.heap.size) (i := 6) rfl (.inl rfl) bq
  have a0 := a0.oth (q := a8.heap.size) (i := 6) rfl ab bq
  have a6 : Blk ap a8.heap.size 27 [.int .i64 a2, .int .i64 a1, .int .u64 a7, .int .i64 ad, .int .i64 ae, .int .i64 0, .slice a3 a4 a5, .int .u64 0] := a6.seti 6 rfl bq
  have h := h ap bh
  refine h.mono fun eq af h => ?_
  obtain ⟨aa, he, hk, h⟩ := h
  refine ⟨aa, he, ?_⟩
  have a0 := hk.blk a0 (by simp)
  have a6 := hk.blk a6 (by simp)
  have d5 : Ext (fun b => b = a8.heap.size) af af := ((Ext.refl no af)).none
  refine ⟨a6.cani 7 rfl rfl, Q00 fun ax cu => ?_⟩
  have de := d5.x_set (q := a8.heap.size) (i := 7) rfl (.inl rfl) cu
  have a0 := a0.oth (q := a8.heap.size) (i := 7) rfl ab cu
  have a6 : Blk ax a8.heap.size 27 [.int .i64 a2, .int .i64 a1, .int .u64 a7, .int .i64 ad, .int .i64 ae, .int .i64 0, .slice a3 a4 a5, .int .u64 aa] := a6.seti 7 rfl cu
  have h := h ax de
  refine h.mono fun et ac h => ?_
  obtain ⟨aj, he, hk, h⟩ := h
  refine ⟨aj, he, ?_⟩
  have a0 := hk.blk a0 (by simp)
  have a6 := hk.blk a6 (by simp)
  refine bif_of (fun bl => ?_) (fun bl => ?_)
  ·have h := h.1 (bne_t bl)
   have bf : Ext (fun b => b = w.heap.size) ac ac := ((Ext.refl no ac)).none
   refine ⟨a0.cani 0 rfl rfl, Q00 fun cf e1 => ?_⟩
   have b8 := bf.x_set (q := w.heap.size) (i := 0) rfl (.inl rfl) e1
   have a0 : Blk cf w.heap.size 27 [.int .i64 0, .int .i64 0, .int .u64 0, .int .i64 0, .int .i64 0, .int .i64 0, .slice none 0 0, .int .u64 0] := a0.seti 0 rfl e1
   refine ⟨a0.cani 1 rfl rfl, Q00 fun b9 dr => ?_⟩
   have bj := b8.x_set (q := w.heap.size) (i := 1) rfl (.inl rfl) dr
   have a0 : Blk b9 w.heap.size 27 [.int .i64 0, .int .i64 0, .int .u64 0, .int .i64 0, .int .i64 0, .int .i64 0, .slice none 0 0, .int .u64 0] := a0.seti 1 rfl dr
   refine ⟨a0.cani 2 rfl rfl, Q00 fun da dx => ?_⟩
   have db := bj.x_set (q := w.heap.size) (i := 2) rfl (.inl rfl) dx
   have a0 : Blk da w.heap.size 27 [.int .i64 0, .int .i64 0, .int .u64 0, .int .i64 0, .int .i64 0, .int .i64 0, .slice none 0 0, .int .u64 0] := a0.seti 2 rfl dx
   refine ⟨a0.cani 3 rfl rfl, Q00 fun c1 eg => ?_⟩
   have b7 := db.x_set (q := w.heap.size) (i := 3) rfl (.inl rfl) eg
   have a0 : Blk c1 w.heap.size 27 [.int .i64 0, .int .i64 0, .int .u64 0, .int .i64 0, .int .i64 0, .int .i64 0, .slice none 0 0, .int .u64 0] := a0.seti 3 rfl eg
   refine ⟨a0.cani 4 rfl rfl, Q00 fun cn du => ?_⟩
   have cm := b7.x_set (q := w.heap.size) (i := 4) rfl (.inl rfl) du
   have a0 : Blk cn w.heap.size 27 [.int .i64 0, .int .i64 0, .int .u64 0, .int .i64 0, .int .i64 0, .int .i64 0, .slice none 0 0, .int .u64 0] := a0.seti 4 rfl du
   refine ⟨a0.cani 5 rfl rfl, Q00 fun c7 dp => ?_⟩
   have dk := cm.x_set (q := w.heap.size) (i := 5) rfl (.inl rfl) dp
   have a0 : Blk c7 w.heap.size 27 [.int .i64 0, .int .i64 0, .int .u64 0, .int .i64 0, .int .i64 0, .int .i64 0, .slice none 0 0, .int .u64 0] := a0.seti 5 rfl dp
   refine ⟨a0.cani 6 rfl rfl, Q00 fun cw ec => ?_⟩
   have d1 := dk.x_set (q := w.heap.size) (i := 6) rfl (.inl rfl) ec
   have a0 : Blk cw w.heap.size 27 [.int .i64 0, .int .i64 0, .int .u64 0, .int .i64 0, .int .i64 0, .int .i64 0, .slice none 0 0, .int .u64 0] := a0.seti 6 rfl ec
   refine ⟨a0.cani 7 rfl rfl, Q00 fun az eb => ?_⟩
   have bi := d1.x_set (q := w.heap.size) (i := 7) rfl (.inl rfl) eb
   have a0 : Blk az w.heap.size 27 [.int .i64 0, .int .i64 0, .int .u64 0, .int .i64 0, .int .i64 0, .int .i64 0, .slice none 0 0, .int .u64 0] := a0.seti 7 rfl eb
   refine ⟨0, 0, 0, 0, 0, 0, none, 0, 0, 0, ⟨a0.celli 0 rfl rfl, a0.celli 1 rfl rfl, a0.celli 2 rfl rfl, a0.celli 3 rfl rfl, a0.celli 4 rfl rfl, a0.celli 5 rfl rfl, a0.celli 6 rfl rfl, a0.celli 7 rfl rfl, trivial⟩, ?_⟩
   have h := h az bi
   exact h
  have h := h.2 (bne_f bl)
  unfold Q0D.J1
  have c0 : Ext (fun b => b = a8.heap.size) ac ac := ((Ext.refl no ac)).none
  refine ⟨a6.cani 5 rfl rfl, Q00 fun ay ba => ?_⟩
  have au := c0.x_set (q := a8.heap.size) (i := 5) rfl (.inl rfl) ba
  have a0 := a0.oth (q := a8.heap.size) (i := 5) rfl ab ba
  have a6 : Blk ay a8.heap.size 27 [.int .i64 a2, .int .i64 a1, .int .u64 a7, .int .i64 ad, .int .i64 ae, .int .i64 a9, .slice a3 a4 a5, .int .u64 aa] := a6.seti 5 rfl ba
  refine ⟨a9, a6.celli 5 rfl rfl, ?_⟩
  refine bif_of (fun d8 => ?_) (fun d8 => ?_)
  ·have h := h.1 (bne_t d8)
   have ch : Ext (fun b => b = w.heap.size ∨ b = a8.heap.size) ac ay := (au).mono fun _ h _ => .inr h
   refine ⟨a0.cani 0 rfl rfl, Q00 fun dh dw => ?_⟩
   have b2 := ch.x_set (q := w.heap.size) (i := 0) rfl (.inl (.inl rfl)) dw
   have a0 : Blk dh w.heap.size 27 [.int .i64 0, .int .i64 0, .int .u64 0, .int .i64 0, .int .i64 0, .int .i64 0, .slice none 0 0, .int .u64 0] := a0.seti 0 rfl dw
   refine ⟨a0.cani 1 rfl rfl, Q00 fun bt e3 => ?_⟩
   have bv := b2.x_set (q := w.heap.size) (i := 1) rfl (.inl (.inl rfl)) e3
   have a0 : Blk bt w.heap.size 27 [.int .i64 0, .int .i64 0, .int .u64 0, .int .i64 0, .int .i64 0, .int .i64 0, .slice none 0 0, .int .u64 0] := a0.seti 1 rfl e3
   refine ⟨a0.cani 2 rfl rfl, Q00 fun cc dz => ?_⟩
   have bp := bv.x_set (q := w.heap.size) (i := 2) rfl (.inl (.inl rfl)) dz
   have a0 : Blk cc w.heap.size 27 [.int .i64 0, .int .i64 0, .int .u64 0, .int .i64 0, .int .i64 0, .int .i64 0, .slice none 0 0, .int .u64 0] := a0.seti 2 rfl dz
   refine ⟨a0.cani 3 rfl rfl, Q00 fun c4 ei => ?_⟩
   have bw := bp.x_set (q := w.heap.size) (i := 3) rfl (.inl (.inl rfl)) ei
   have a0 : Blk c4 w.heap.size 27 [.int .i64 0, .int .i64 0, .int .u64 0, .int .i64 0, .int .i64 0, .int .i64 0, .slice none 0 0, .int .u64 0] := a0.seti 3 rfl ei
   refine ⟨a0.cani 4 rfl rfl, Q00 fun c2 ds => ?_⟩
   have bn := bw.x_set (q := w.heap.size) (i := 4) rfl (.inl (.inl rfl)) ds
   have a0 : Blk c2 w.heap.size 27 [.int .i64 0, .int .i64 0, .int .u64 0, .int .i64 0, .int .i64 0, .int .i64 0, .slice none 0 0, .int .u64 0] := a0.seti 4 rfl ds
   refine ⟨a0.cani 5 rfl rfl, Q00 fun bg ef => ?_⟩
   have di := bn.x_set (q := w.heap.size) (i := 5) rfl (.inl (.inl rfl)) ef
   have a0 : Blk bg w.heap.size 27 [.int .i64 0, .int .i64 0, .int .u64 0, .int .i64 0, .int .i64 0, .int .i64 0, .slice none 0 0, .int .u64 0] := a0.seti 5 rfl ef
   refine ⟨a0.cani 6 rfl rfl, Q00 fun c8 e4 => ?_⟩
   have dj := di.x_set (q := w.heap.size) (i := 6) rfl (.inl (.inl rfl)) e4
   have a0 : Blk c8 w.heap.size 27 [.int .i64 0, .int .i64 0, .int .u64 0, .int .i64 0, .int .i64 0, .int .i64 0, .slice none 0 0, .int .u64 0] := a0.seti 6 rfl e4
   refine ⟨a0.cani 7 rfl rfl, Q00 fun b1 dy => ?_⟩
   have cv := dj.x_set (q := w.heap.size) (i := 7) rfl (.inl (.inl rfl)) dy
   have a0 : Blk b1 w.heap.size 27 [.int .i64 0, .int .i64 0, .int .u64 0, .int .i64 0, .int .i64 0, .int .i64 0, .slice none 0 0, .int .u64 0] := a0.seti 7 rfl dy
   refine ⟨0, 0, 0, 0, 0, 0, none, 0, 0, 0, ⟨a0.celli 0 rfl rfl, a0.celli 1 rfl rfl, a0.celli 2 rfl rfl, a0.celli 3 rfl rfl, a0.celli 4 rfl rfl, a0.celli 5 rfl rfl, a0.celli 6 rfl rfl, a0.celli 7 rfl rfl, trivial⟩, ?_⟩
   have h := h b1 cv
   exact h
  have h := h.2 (bne_f d8)
  refine ⟨a2, a1, a7, ad, ae, a9, a3, a4, a5, aa, ⟨a6.celli 0 rfl rfl, a6.celli 1 rfl rfl, a6.celli 2 rfl rfl, a6.celli 3 rfl rfl, a6.celli 4 rfl rfl, a6.celli 5 rfl rfl, a6.celli 6 rfl rfl, a6.celli 7 rfl rfl, trivial⟩, ?_⟩
  refine (Q08.pure a2 a1 a7 ad ae a9 a3 a4 a5 aa).mono fun ee ww60 ⟨he, hxx⟩ => ⟨(Q08.F a2 a1 a7 ad ae a9 a3 a4 a5 aa), he, ?_⟩
  have aw := au.trans hxx.none
  have a0 := a0.ext hxx id
  have a6 := a6.ext hxx id
  refine bif_of (fun bo => ?_) (fun bo => ?_)
  ·have h := h.1 (not_t bo)
   have cg : Ext (fun b => b = w.heap.size ∨ b = a8.heap.size) ac ww60 := (aw).mono fun _ h _ => .inr h
   refine ⟨a0.cani 0 rfl rfl, Q00 fun c5 dq => ?_⟩
   have d0 := cg.x_set (q := w.heap.size) (i := 0) rfl (.inl (.inl rfl)) dq
   have a0 : Blk c5 w.heap.size 27 [.int .i64 0, .int .i64 0, .int .u64 0, .int .i64 0, .int .i64 0, .int .i64 0, .slice none 0 0, .int .u64 0] := a0.seti 0 rfl dq
   refine ⟨a0.cani 1 rfl rfl, Q00 fun d7 eh => ?_⟩
   have cb := d0.x_set (q := w.heap.size) (i := 1) rfl (.inl (.inl rfl)) eh
   have a0 : Blk d7 w.heap.size 27 [.int .i64 0, .int .i64 0, .int .u64 0, .int .i64 0, .int .i64 0, .int .i64 0, .slice none 0 0, .int .u64 0] := a0.seti 1 rfl eh
   refine ⟨a0.cani 2 rfl rfl, Q00 fun d4 e9 => ?_⟩
   have br := cb.x_set (q := w.heap.size) (i := 2) rfl (.inl (.inl rfl)) e9
   have a0 : Blk d4 w.heap.size 27 [.int .i64 0, .int .i64 0, .int .u64 0, .int .i64 0, .int .i64 0, .int .i64 0, .slice none 0 0, .int .u64 0] := a0.seti 2 rfl e9
   refine ⟨a0.cani 3 rfl rfl, Q00 fun b4 ek => ?_⟩
   have d3 := br.x_set (q := w.heap.size) (i := 3) rfl (.inl (.inl rfl)) ek
   have a0 : Blk b4 w.heap.size 27 [.int .i64 0, .int .i64 0, .int .u64 0, .int .i64 0, .int .i64 0, .int .i64 0, .slice none 0 0, .int .u64 0] := a0.seti 3 rfl ek
   refine ⟨a0.cani 4 rfl rfl, Q00 fun ci ej => ?_⟩
   have cd := d3.x_set (q := w.heap.size) (i := 4) rfl (.inl (.inl rfl)) ej
   have a0 : Blk ci w.heap.size 27 [.int .i64 0, .int .i64 0, .int .u64 0, .int .i64 0, .int .i64 0, .int .i64 0, .slice none 0 0, .int .u64 0] := a0.seti 4 rfl ej
   refine ⟨a0.cani 5 rfl rfl, Q00 fun dg e8 => ?_⟩
   have bk := cd.x_set (q := w.heap.size) (i := 5) rfl (.inl (.inl rfl)) e8
   have a0 : Blk dg w.heap.size 27 [.int .i64 0, .int .i64 0, .int .u64 0, .int .i64 0, .int .i64 0, .int .i64 0, .slice none 0 0, .int .u64 0] := a0.seti 5 rfl e8
   refine ⟨a0.cani 6 rfl rfl, Q00 fun cl en => ?_⟩
   have cs := bk.x_set (q := w.heap.size) (i := 6) rfl (.inl (.inl rfl)) en
   have a0 : Blk cl w.heap.size 27 [.int .i64 0, .int .i64 0, .int .u64 0, .int .i64 0, .int .i64 0, .int .i64 0, .slice none 0 0, .int .u64 0] := a0.seti 6 rfl en
   refine ⟨a0.cani 7 rfl rfl, Q00 fun an e6 => ?_⟩
   have cr := cs.x_set (q := w.heap.size) (i := 7) rfl (.inl (.inl rfl)) e6
   have a0 : Blk an w.heap.size 27 [.int .i64 0, .int .i64 0, .int .u64 0, .int .i64 0, .int .i64 0, .int .i64 0, .slice none 0 0, .int .u64 0] := a0.seti 7 rfl e6
   refine ⟨0, 0, 0, 0, 0, 0, none, 0, 0, 0, ⟨a0.celli 0 rfl rfl, a0.celli 1 rfl rfl, a0.celli 2 rfl rfl, a0.celli 3 rfl rfl, a0.celli 4 rfl rfl, a0.celli 5 rfl rfl, a0.celli 6 rfl rfl, a0.celli 7 rfl rfl, trivial⟩, ?_⟩
   have h := h an cr
   exact h
  have h := h.2 (not_f bo)
  refine ⟨a2, a1, a7, ad, ae, a9, a3, a4, a5, aa, ⟨a6.celli 0 rfl rfl, a6.celli 1 rfl rfl, a6.celli 2 rfl rfl, a6.celli 3 rfl rfl, a6.celli 4 rfl rfl, a6.celli 5 rfl rfl, a6.celli 6 rfl rfl, a6.celli 7 rfl rfl, trivial⟩, ?_⟩
  have be : Ext (fun b => b = w.heap.size ∨ b = a8.heap.size) ac ww60 := (aw).mono fun _ h _ => .inr h
  refine ⟨a0.cani 0 rfl rfl, Q00 fun ct el => ?_⟩
  have cx := be.x_set (q := w.heap.size) (i := 0) rfl (.inl (.inl rfl)) el
  have a0 : Blk ct w.heap.size 27 [.int .i64 a2, .int .i64 0, .int .u64 0, .int .i64 0, .int .i64 0, .int .i64 0, .slice none 0 0, .int .u64 0] := a0.seti 0 rfl el
  refine ⟨a0.cani 1 rfl rfl, Q00 fun ca e5 => ?_⟩
  have cy := cx.x_set (q := w.heap.size) (i := 1) rfl (.inl (.inl rfl)) e5
  have a0 : Blk ca w.heap.size 27 [.int .i64 a2, .int .i64 a1, .int .u64 0, .int .i64 0, .int .i64 0, .int .i64 0, .slice none 0 0, .int .u64 0] := a0.seti 1 rfl e5
  refine ⟨a0.cani 2 rfl rfl, Q00 fun d9 dv => ?_⟩
  have cj := cy.x_set (q := w.heap.size) (i := 2) rfl (.inl (.inl rfl)) dv
  have a0 : Blk d9 w.heap.size 27 [.int .i64 a2, .int .i64 a1, .int .u64 a7, .int .i64 0, .int .i64 0, .int .i64 0, .slice none 0 0, .int .u64 0] := a0.seti 2 rfl dv
  refine ⟨a0.cani 3 rfl rfl, Q00 fun cz dl => ?_⟩
  have ck := cj.x_set (q := w.heap.size) (i := 3) rfl (.inl (.inl rfl)) dl
  have a0 : Blk cz w.heap.size 27 [.int .i64 a2, .int .i64 a1, .int .u64 a7, .int .i64 ad, .int .i64 0, .int .i64 0, .slice none 0 0, .int .u64 0] := a0.seti 3 rfl dl
  refine ⟨a0.cani 4 rfl rfl, Q00 fun cq dm => ?_⟩
  have df := ck.x_set (q := w.heap.size) (i := 4) rfl (.inl (.inl rfl)) dm
  have a0 : Blk cq w.heap.size 27 [.int .i64 a2, .int .i64 a1, .int .u64 a7, .int .i64 ad, .int .i64 ae, .int .i64 0, .slice none 0 0, .int .u64 0] := a0.seti 4 rfl dm
  refine ⟨a0.cani 5 rfl rfl, Q00 fun bb e0 => ?_⟩
  have co := df.x_set (q := w.heap.size) (i := 5) rfl (.inl (.inl rfl)) e0
  have a0 : Blk bb w.heap.size 27 [.int .i64 a2, .int .i64 a1, .int .u64 a7, .int .i64 ad, .int .i64 ae, .int .i64 a9, .slice none 0 0, .int .u64 0] := a0.seti 5 rfl e0
  refine ⟨a0.cani 6 rfl rfl, Q00 fun d6 dt => ?_⟩
  have dc := co.x_set (q := w.heap.size) (i := 6) rfl (.inl (.inl rfl)) dt
  have a0 : Blk d6 w.heap.size 27 [.int .i64 a2, .int .i64 a1, .int .u64 a7, .int .i64 ad, .int .i64 ae, .int .i64 a9, .slice a3 a4 a5, .int .u64 0] := a0.seti 6 rfl dt
  refine ⟨a0.cani 7 rfl rfl, Q00 fun aq em => ?_⟩
  have bd := dc.x_set (q := w.heap.size) (i := 7) rfl (.inl (.inl rfl)) em
  have a0 : Blk aq w.heap.size 27 [.int .i64 a2, .int .i64 a1, .int .u64 a7, .int .i64 ad, .int .i64 ae, .int .i64 a9, .slice a3 a4 a5, .int .u64 aa] := a0.seti 7 rfl em
  refine ⟨a2, a1, a7, ad, ae, a9, a3, a4, a5, aa, ⟨a0.celli 0 rfl rfl, a0.celli 1 rfl rfl, a0.celli 2 rfl rfl, a0.celli 3 rfl rfl, a0.celli 4 rfl rfl, a0.celli 5 rfl rfl, a0.celli 6 rfl rfl, a0.celli 7 rfl rfl, trivial⟩, ?_⟩
  have h := h aq bd
  exact h

theorem Q0D.go (a0 : Option Addr) (a1 a2 : Nat) {R : RW} {w : World} (h : Q0D.N a0 a1 a2 R w) : Calls Try.prog 98 #[.slice a0 a1 a2] w fun e w' => ∃ v, e = .returned v ∧ R v w' := Q0D.ok a0 a1 a2 (Q0D.up a0 a1 a2 h)
def Q0A.M (am ap b3 b7 b8 aq : Int) (au : Option Addr) (av ar : Nat) (b9 an ah ao b6 b4 aj : Int) (ag : Option Addr) (al ai : Nat) (b2 : Int) (R : RW) (w : World) : Prop :=
 thenW (w.alloc (.cells #[.int .i64 am, .int .i64 ap, .int .u64 b3, .int .i64 b7, .int .i64 b8, .int .i64 aq, .slice au av ar, .int .u64 b9] 27)) fun a2 =>
 thenW (a2.alloc (.cells #[.int .i64 an, .int .i64 ah, .int .u64 ao, .int .i64 b6, .int .i64 b4, .int .i64 aj, .slice ag al ai, .int .u64 b2] 27)) fun bb =>
 thenW (bb.drew) fun b5 =>
 ∃ (ad : Option Addr) (aa ab : Nat), b5.cell? ((blk w.heap.size).add 6) = some (.slice ad aa ab) ∧
 ∃ (a7 : Option Addr) (a5 a6 : Nat), b5.cell? ((blk a2.heap.size).add 6) = some (.slice a7 a5 a6) ∧
 Calls Try.prog 59 #[.slice ad aa ab, .slice a7 a5 a6] b5 fun ba a0 => ∃ (a9 : Bool), ba = .returned (.bool a9) ∧
 bif a9 then (
 ∃ (a3 : Int), a0.cell? ((blk w.heap.size).add 0) = some (.int .i64 a3) ∧
 ∃ (a1 : Int), a0.cell? ((blk a2.heap.size).add 0) = some (.int .i64 a1) ∧
 bif a3 == a1 then (
 ∃ (a8 : Int), a0.cell? ((blk w.heap.size).add 1) = some (.int .i64 a8) ∧
 ∃ (a4 : Int), a0.cell? ((blk a2.heap.size).add 1) = some (.int .i64 a4) ∧
 bif a8 == a4 then (
 ∃ (ak : Int), a0.cell? ((blk w.heap.size).add 2) = some (.int .u64 ak) ∧
 ∃ (af : Int), a0.cell? ((blk a2.heap.size).add 2) = some (.int .u64 af) ∧
 bif ak == af then (
 ∃ (ay b0 : Int), cellsAt a0 ((blk w.heap.size).add 3) [.int .i64 ay, .int .i64 b0] 0 ∧
 ∃ (az ax : Int), cellsAt a0 ((blk a2.heap.size).add 3) [.int .i64 az, .int .i64 ax] 0 ∧
 ∃ (bc : Bool), (binOp .eql 24 (.agg #[.int .i64 ay, .int .i64 b0]) (.agg #[.int .i64 az, .int .i64 ax])).run Try.prog a0 = .ok (.bool bc) a0 ∧
 bif bc then (
 ∃ (ac : Int), a0.cell? ((blk w.heap.size).add 5) = some (.int .i64 ac) ∧
 ∃ (ae : Int), a0.cell? ((blk a2.heap.size).add 5) = some (.int .i64 ae) ∧
 bif ac == ae then (
 ∃ (b1 : Int), a0.cell? ((blk w.heap.size).add 7) = some (.int .u64 b1) ∧
 ∃ (aw : Int), a0.cell? ((blk a2.heap.size).add 7) = some (.int .u64 aw) ∧
 R (.bool (b1 == aw)) a0) else (
 R (.bool false) a0)) else (
 R (.bool false) a0)) else (
 R (.bool false) a0)) else (
 R (.bool false) a0)) else (
 R (.bool false) a0)) else (
 R (.bool false) a0)

theorem Q0A.ok (a5 a8 ae ah ai a9 : Int) (ab : Option Addr) (ac aa : Nat) (aj a6 a1 a7 ag af a3 : Int) (a0 : Option Addr) (a4 a2 : Nat) (ad : Int) {R : RW} {w : World} (h : Q0A.M a5 a8 ae ah ai a9 ab ac aa aj a6 a1 a7 ag af a3 a0 a4 a2 ad R w) : Calls Try.prog 30 #[.agg #[.int .i64 a5, .int .i64 a8, .int .u64 ae, .int .i64 ah, .int .i64 ai, .int .i64 a9, .slice ab ac aa, .int .u64 aj], .agg #[.int .i64 a6, .int .i64 a1, .int .u64 a7, .int .i64 ag, .int .i64 af, .int .i64 a3, .slice a0 a4 a2, .int .u64 ad]] w fun e w' => ∃ v, e = .returned v ∧ R v w' :=
  Q09 follows (H := []) (args := [.agg #[.int .i64 a5, .int .i64 a8, .int .u64 ae, .int .i64 ah, .int .i64 ai, .int .i64 a9, .slice ab ac aa, .int .u64 aj], .agg #[.int .i64 a6, .int .i64 a1, .int .u64 a7, .int .i64 ag, .int .i64 af, .int .i64 a3, .slice a0 a4 a2, .int .u64 ad]]) (cast (by kernel_rfl) h)

def Q0A.N (a4 a7 aa aj ak a8 : Int) (ag : Option Addr) (ah af : Nat) (am a5 a1 a6 ae ac a2 : Int) (a9 : Option Addr) (ad ab : Nat) (al : Int) (R : RW) (w : World) : Prop :=
 ∀ (ai : World) (ap ao : Nat), Ext no w ai → Priv w ai [ap, ao] →
 Calls Try.prog 59 #[.slice ag ah af, .slice a9 ad ab] ai fun an a3 => ∃ (a0 : Bool), an = .returned (.bool a0) ∧
 Keep [ap, ao] ai a3 ∧
 (a0 = true →
 (a4 = a5 →
 (a7 = a1 →
 (aa = a6 →
 (aj = ae ∧ ak = ac →
 (a8 = a2 →
 R (.bool (am == al)) a3) ∧
 (a8 ≠ a2 →
 R (.bool false) a3)) ∧
 (¬ (aj = ae ∧ ak = ac) →
 R (.bool false) a3)) ∧
 (aa ≠ a6 →
 R (.bool false) a3)) ∧
 (a7 ≠ a1 →
 R (.bool false) a3)) ∧
 (a4 ≠ a5 →
 R (.bool false) a3)) ∧
 (a0 = false →
 R (.bool false) a3)

theorem Q0A.up (a6 a8 ah ai aj a9 : Int) (ac : Option Addr) (ad aa : Nat) (al a4 a1 a7 ae ab a3 : Int) (a0 : Option Addr) (a5 a2 : Nat) (ag : Int) {R : RW} {w : World} (h : Q0A.N a6 a8 ah ai aj a9 ac ad aa al a4 a1 a7 ae ab a3 a0 a5 a2 ag R w) : Q0A.M a6 a8 ah ai aj a9 ac ad aa al a4 a1 a7 ae ab a3 a0 a5 a2 ag R w := by
  unfold Q0A.M
  unfold Q0A.N at h
  refine Q00 fun au b3 => ?_
  have af := Blk.of_new b3
  have b5 := ((Ext.refl no w)).size
  have an := (Ext.refl no w).x_alloc b3
  refine Q00 fun b8 aq => ?_
  have ak := Blk.of_new aq
  have b4 := (an).size
  have b2 := Nat.ne_of_lt af.lt
  have af := af.x_alloc aq
  have ao := an.x_alloc aq
  refine Q00 fun ay ar => ?_
  have az := ao.x_drew ar
  have af := af.x_drew ar
  have ak := ak.x_drew ar
  refine ⟨ac, ad, aa, af.celli 6 rfl rfl, ?_⟩
  refine ⟨a0, a5, a2, ak.celli 6 rfl rfl, ?_⟩
  have h := h ay (w.heap.size) (au.heap.size) az (Priv.cons b5 af.lt (Priv.cons b4 ak.lt Priv.nil))
  refine h.mono fun b6 b7 h => ?_
  obtain ⟨am, he, hk, h⟩ := h
  refine ⟨am, he, ?_⟩
  have af := hk.blk af (by simp)
  have ak := hk.blk ak (by simp)
  refine bif_fo (fun aw => ?_) (fun aw => ?_)
  ·have h := h.2 aw
   exact h
  have h := h.1 aw
  refine ⟨a6, af.celli 0 rfl rfl, ?_⟩
  refine ⟨a4, ak.celli 0 rfl rfl, ?_⟩
  refine bif_fo (fun b0 => ?_) (fun b0 => ?_)
  ·have h := h.2 (beq_f b0)
   exact h
  have h := h.1 (beq_t b0)
  refine ⟨a8, af.celli 1 rfl rfl, ?_⟩
  refine ⟨a1, ak.celli 1 rfl rfl, ?_⟩
  refine bif_fo (fun b1 => ?_) (fun b1 => ?_)
  ·have h := h.2 (beq_f b1)
   exact h
  have h := h.1 (beq_t b1)
  refine ⟨ah, af.celli 2 rfl rfl, ?_⟩
  refine ⟨a7, ak.celli 2 rfl rfl, ?_⟩
  refine bif_fo (fun ax => ?_) (fun ax => ?_)
  ·have h := h.2 (beq_f ax)
   exact h
  have h := h.1 (beq_t ax)
  refine ⟨ai, aj, ⟨af.celli 3 rfl rfl, af.celli 4 rfl rfl, trivial⟩, ?_⟩
  refine ⟨ae, ab, ⟨ak.celli 3 rfl rfl, ak.celli 4 rfl rfl, trivial⟩, ?_⟩
  refine ⟨_, Q4z ai aj ae ab _, ?_⟩
  refine bif_fo (fun av => ?_) (fun av => ?_)
  ·have h := h.2 (of_decide_eq_false av)
   exact h
  have h := h.1 (of_decide_eq_true av)
  refine ⟨a9, af.celli 5 rfl rfl, ?_⟩
  refine ⟨a3, ak.celli 5 rfl rfl, ?_⟩
  refine bif_fo (fun ap => ?_) (fun ap => ?_)
  ·have h := h.2 (beq_f ap)
   exact h
  have h := h.1 (beq_t ap)
  refine ⟨al, af.celli 7 rfl rfl, ?_⟩
  refine ⟨ag, ak.celli 7 rfl rfl, ?_⟩
  exact h

theorem Q0A.go (a5 a8 ae ah ai a9 : Int) (ab : Option Addr) (ac aa : Nat) (aj a6 a1 a7 ag af a3 : Int) (a0 : Option Addr) (a4 a2 : Nat) (ad : Int) {R : RW} {w : World} (h : Q0A.N a5 a8 ae ah ai a9 ab ac aa aj a6 a1 a7 ag af a3 a0 a4 a2 ad R w) : Calls Try.prog 30 #[.agg #[.int .i64 a5, .int .i64 a8, .int .u64 ae, .int .i64 ah, .int .i64 ai, .int .i64 a9, .slice ab ac aa, .int .u64 aj], .agg #[.int .i64 a6, .int .i64 a1, .int .u64 a7, .int .i64 ag, .int .i64 af, .int .i64 a3, .slice a0 a4 a2, .int .u64 ad]] w fun e w' => ∃ v, e = .returned v ∧ R v w' := Q0A.ok a5 a8 ae ah ai a9 ab ac aa aj a6 a1 a7 ag af a3 a0 a4 a2 ad (Q0A.up a5 a8 ae ah ai a9 ab ac aa aj a6 a1 a7 ag af a3 a0 a4 a2 ad h)
theorem Q0A.run (a5 a8 ae ah ai a9 : Int) (ab : Option Addr) (ac aa : Nat) (aj a6 a1 a7 ag af a3 : Int) (a0 : Option Addr) (a4 a2 : Nat) (ad : Int) {V : Value} {Q : World → Prop} {w : World} (h : Q0A.N a5 a8 ae ah ai a9 ab ac aa aj a6 a1 a7 ag af a3 a0 a4 a2 ad (fun v w' => v = V ∧ Q w') w) : Calls Try.prog 30 #[.agg #[.int .i64 a5, .int .i64 a8, .int .u64 ae, .int .i64 ah, .int .i64 ai, .int .i64 a9, .slice ab ac aa, .int .u64 aj], .agg #[.int .i64 a6, .int .i64 a1, .int .u64 a7, .int .i64 ag, .int .i64 af, .int .i64 a3, .slice a0 a4 a2, .int .u64 ad]] w (Ret V Q) := (Q0A.go a5 a8 ae ah ai a9 ab ac aa aj a6 a1 a7 ag af a3 a0 a4 a2 ad h).mono fun e w' ⟨v, he, hv, hq⟩ => ⟨by rw [he, hv], hq⟩

theorem keep1 {w w' : World} {m : Nat → Prop} {p : Nat} (h : Ext m w w') (hp : ¬ m p) : Keep [p] w w' := h.keep fun q hq _ => by simp at hq; subst hq; exact hp
theorem keep2 {w w' : World} {m : Nat → Prop} {p q : Nat} (h : Ext m w w') (hp : ¬ m p) (hq : ¬ m q) : Keep [p, q] w w' := h.keep fun r hr _ => by
  simp at hr
  rcases hr with rfl | rfl
  · exact hp
  · exact hq
theorem OwnB.up {N M : Nat} {w : World} {a : Option Addr} {c : Nat} {bs : List UInt8} (h : OwnB N w a c bs) (hM : M ≤ N) : OwnB M w a c bs := ⟨h.own, fun ad ha => ⟨Nat.le_trans hM (h.fr ad ha).1, (h.fr ad ha).2⟩⟩
theorem app {w0 wi w1 : World} {N : Nat} {a xa : Option Addr} {c xc : Nat} {l x : List UInt8} (hB : OwnB N wi a c l) (X : Ext no w0 wi) (h0 : w0.heap.size ≤ N) (hN : N ≤ wi.heap.size) (hx : Ext no wi w1) (hO : RowAt w1 xa (bytesV x)) (hl : l.length + x.length ≤ 100000000) :
    ∃ a' c' w', (Builtin.append_ #[25, 25] 25 #[.slice a l.length c, .slice xa x.length xc]).run Try.prog w1 = .ok (.slice a' (l ++ x).length c') w' ∧ OwnB N w' a' c' (l ++ x) ∧ Ext no w0 w' ∧ Ext (fun b => N ≤ b) w1 w' ∧ N ≤ w'.heap.size := by
  obtain ⟨a', c', w', hr, hO2, hx2⟩ := (hB.no hx).append (t := 25) (ty := 25) Try.underlying25 (Nat.le_trans hN hx.size) (xc := xc) hO hl
  exact ⟨a', c', w', hr, hO2, (X.trans hx).then hx2 fun b hb => .inr (Nat.le_trans h0 hb), hx2, Nat.le_trans hN (Nat.le_trans hx.size hx2.size)⟩
section
variable {w w' : World} {a : Option Addr} {c N p : Nat} {bs : List UInt8} {k : Int}
theorem Q4o (h : RowAt w a (bytesV bs)) (hl : bs.length ≤ 900000) {t s : Int} (h0 : -9223372036854775808 ≤ t) (h1 : t < 9223372036854775808) (hs : s < 9223372036854775808) :
    Calls Try.prog 90 #[.slice a bs.length c, .agg #[.int .i64 t, .int .i64 s]] w (fun e w' => ∃ a' c', e = .returned (.slice a' (bs ++ stampL t s).length c') ∧ OwnB w.heap.size w' a' c' (bs ++ stampL t s) ∧ Ext no w w') := by
  refine (Q0J.go _ _ _ _ _ (R := fun v w' => ∃ a' c', v = (.slice a' (bs ++ stampL t s).length c') ∧ OwnB w.heap.size w' a' c' (bs ++ stampL t s) ∧ Ext no w w') ?_).mono fun e w' ⟨v, he, a, c, hv, hw⟩ => ⟨a, c, by rw [he, hv], hw⟩
  unfold Q0J.N
  intro w5 p6 hx5 hp
  refine (W.Int_spec (h.no hx5) (by omega) h0 h1).mono fun e w9 ⟨a9, c9, he, hO, hx9⟩ => ⟨a9, _, c9, he, hx9.kept, ?_⟩
  have e1 : IntKind.u64.wrap (if (0 : Int) > s then 0 else s) = ((s.toNat : Nat) : Int) := by split <;> rw [wu64 (by omega) (by omega)] <;> omega
  rw [e1]
  have hz := W.numL_le (zig t)
  refine (W.Num_spec hO.row (by rw [List.length_append]; omega) (n := s.toNat) (by omega)).mono fun e w12 ⟨a12, c12, he, hO2, hx12⟩ => ⟨a12, _, c12, he, a12, c12, ?_, ?_, (hx5.trans hx9).trans hx12⟩
  · unfold stampL; rw [List.append_assoc]
  · unfold stampL; rw [← List.append_assoc]; exact OwnB.up hO2 (Nat.le_trans hx5.size hx9.size)
theorem Q3V {q : Nat} (hq : Blk w q 113 [.slice a bs.length c]) (h : RowAt w a (bytesV bs)) (ho : ∀ ad, a = some ad → ad.block ≠ q) {la : Option Addr} {lc : Nat} {xs : List Nat} (hx : RowAt w la (xs.map fun (n : Nat) => Value.int .u64 (n : Int))) (hla : ∀ ad, la = some ad → ad.block ≠ q)
    (hxs : ∀ n ∈ xs, n < 18446744073709551616) (hl : bs.length + xs.length * 10 ≤ 900000) :
    Calls Try.prog 88 #[.pointer (some (blk q)), .slice la xs.length lc] w (fun e w' => e = .returned (.tuple #[]) ∧ ∃ a' c', Blk w' q 113 [.slice a' (bs ++ xs.flatMap numL).length c'] ∧ RowAt w' a' (bytesV (bs ++ xs.flatMap numL)) ∧ (∀ ad, a' = some ad → ad.block ≠ q ∧ (a' = a ∨ w.heap.size ≤ ad.block)) ∧ Ext (fun b => b = q) w w') := by
  refine (Q0g.go _ _ _ _ (R := fun v w' => v = .tuple #[] ∧ ∃ a' c', Blk w' q 113 [.slice a' (bs ++ xs.flatMap numL).length c'] ∧ RowAt w' a' (bytesV (bs ++ xs.flatMap numL)) ∧ (∀ ad, a' = some ad → ad.block ≠ q ∧ (a' = a ∨ w.heap.size ≤ ad.block)) ∧ Ext (fun b => b = q) w w') ?_).mono fun e w' ⟨v, he, hv, hw⟩ => ⟨by rw [he, hv], hw⟩
  unfold Q0g.N
  refine ⟨fun k vs w1 => ∃ (t : Nat) (a1 : Option Addr) (c1 : Nat) (l1 : List UInt8), vs = [.int .i64 t] ∧ k + t = xs.length ∧ l1 = bs ++ (xs.take t).flatMap numL ∧ l1.length ≤ bs.length + t * 10 ∧ Blk w1 q 113 [.slice a1 l1.length c1] ∧ RowAt w1 a1 (bytesV l1) ∧ (∀ ad, a1 = some ad → ad.block ≠ q ∧ (a1 = a ∨ w.heap.size ≤ ad.block)) ∧ Ext (fun b => b = q) w w1, xs.length,
    ⟨0, a, c, bs, rfl, rfl, by simp, by omega, hq, h, fun ad ha => ⟨ho ad ha, .inl rfl⟩, Ext.refl _ _⟩, ?_⟩
  rintro k w1 i ⟨t, a1, c1, l1, hi, hk, hl1, hlen, hb, hr, hf, X⟩
  simp only [List.cons.injEq, Value.int.injEq, true_and, and_true] at hi
  subst hi
  refine ⟨fun ht => ?_, fun ht => ?_⟩
  · have htl : t < xs.length := by omega
    have hx1 := hx.ext' X fun _ ad ha => hla ad ha
    obtain ⟨ad, rfl⟩ := hx1.addr (by intro e; rw [List.map_eq_nil_iff] at e; subst e; simp at htl)
    have hnb := hxs xs[t] (List.getElem_mem htl)
    refine ⟨ad, rfl, by omega, by omega, xs[t], by rw [Int.toNat_natCast, Nat.mul_one]; exact hx1.at_ (by simp [htl]), blk q, rfl, a1, _, c1, hb.cella (i := 0) rfl, ?_⟩
    refine (W.Num_spec hr (by omega) hnb).mono fun e w16 ⟨a2, c2, he, hO, hx16⟩ => ⟨a2, _, c2, he, (hb.ext hx16 id).cana (i := 0) rfl, Q00 fun w18 e18 => ?_⟩
    have hb18 := (hb.ext hx16 id).seti 0 rfl e18
    have x18 : Ext (fun b => b = q) w16 w18 := (Ext.refl (fun b => b = q) w16).x_set (q := q) (i := 0) rfl (.inl rfl) e18
    have hne : ∀ ad, a2 = some ad → ad.block ≠ q := fun ad ha e => by have := (hO.fr ad ha).1; have := hb.lt; omega
    have htk : xs.take (t + 1) = xs.take t ++ [xs[t]] := by rw [List.take_add_one]; simp [htl]
    have hnl := W.numL_le xs[t]
    refine ⟨by omega, by omega, k - 1, by omega, t + 1, a2, c2, l1 ++ numL xs[t], rfl, by omega, ?_, by rw [List.length_append]; omega, hb18, hO.row.ext' x18 fun _ ad ha => hne ad ha, fun ad ha => ⟨hne ad ha, .inr (Nat.le_trans X.size (hO.fr ad ha).1)⟩, (X.trans hx16.none).trans x18⟩
    rw [hl1, htk, List.flatMap_append, List.append_assoc]; simp
  · obtain rfl : t = xs.length := by omega
    rw [List.take_length] at hl1
    subst hl1
    exact ⟨rfl, a1, c1, hb, hr, hf, X⟩
theorem Q44 {e : Ent} (hr : Q0z e = true) (hf : e.fit) {ba : Option Addr} {bc : Nat} (hb : RowAt w ba (bytesV e.body)) :
    Calls Try.prog 76 #[entV e ba bc] w (fun x w' => ∃ a' c', x = .returned (.slice a' (textL e).length c') ∧ OwnB w.heap.size w' a' c' (textL e) ∧ Ext no w w') := by
  obtain ⟨h1, h2, h3, h4, h5, h6, h7, h8, h9, h10, h11⟩ := (Q13 e).1 hr
  have f1 := hf.pv0; have f2 := hf.pv1
  refine (Q0I.go e.w e.i e.pv e.t e.tw e.ep ba e.body.length bc e.sg (R := fun v w' => ∃ a' c', v = (.slice a' (textL e).length c') ∧ OwnB w.heap.size w' a' c' (textL e) ∧ Ext no w w') ?_).mono fun x w' ⟨v, he, a, c, hv, hw⟩ => ⟨a, c, by rw [he, hv], hw⟩
  unfold Q0I.N
  intro w10 q p X10 hq hq1 hq2 hp w13 q2 X13 hq3 hq4 hq5
  rw [wu64 (n := e.w) h1 (by omega), wu64 (n := e.i) h3 (by omega)] at hq3
  have hrow : RowAt w13 (some (blk q2)) (([e.w.toNat, e.i.toNat, e.pv.toNat] : List Nat).map fun (n : Nat) => Value.int .u64 (n : Int)) := by
    have := RowAt.of_blk hq3
    simp only [List.map_cons, List.map_nil, Int.toNat_of_nonneg h1, Int.toNat_of_nonneg h3, Int.toNat_of_nonneg f1]
    exact this
  have hp1 := hp.one
  refine (Q3V (bs := []) (q := q) (hq.ext X13 id) (RowAt.nil _ _) (fun ad ha => by cases ha) hrow (fun ad ha => by cases ha; simp only [blk]; omega) (by simp; omega) (by simp)).mono fun x w16 ⟨he, a1, c1, hb1, hr1, hf1, X16⟩ => ?_
  have hw16 : Ext no w w16 := (X10.trans X13).then X16 fun b hb => .inr (by omega)
  have hpq : p ≠ q := by omega
  have e1 : ([] ++ [e.w.toNat, e.i.toNat, e.pv.toNat].flatMap numL) = numL e.w.toNat ++ numL e.i.toNat ++ numL e.pv.toNat := by simp
  rw [e1] at hr1 hb1
  refine ⟨he, keep1 X16 hpq, a1, _, c1, hb1.cell (i := 0) rfl, fun w17 X17 => ?_⟩
  have g1 := W.numL_le e.w.toNat; have g2 := W.numL_le e.i.toNat; have g3 := W.numL_le e.pv.toNat; have g4 := Q2R e.t e.tw; have g5 := W.numL_le (zig e.ep)
  have h17 := hw16.trans X17
  refine (Q4o (hr1.no X17) (by simp only [List.length_append]; omega) (by omega) (by omega) (by omega)).mono fun x w22 ⟨a2, c2, he, hO2, X22⟩ => ⟨a2, _, c2, he, X22.kept, ?_⟩
  refine (W.Int_spec hO2.row (by simp only [List.length_append]; omega) (by omega) (by omega)).mono fun x w25 ⟨a3, c3, he, hO3, X25⟩ => ⟨a3, _, c3, he, X25.kept, ?_⟩
  have h25 := (h17.trans X22).trans X25
  refine (W.Bytes_spec hO3.row (by simp only [List.length_append]; omega) (hb.no h25) (by omega)).mono fun x w28 ⟨a4, c4, he, hO4, X28⟩ => ⟨a4, _, c4, he, a4, c4, ?_, ?_, h25.trans X28⟩
  · unfold textL; simp only [List.append_assoc]
  · unfold textL; rw [← List.append_assoc]; exact OwnB.up hO4 h25.size
theorem Q3a {e : Ent} (hf : Q0z e = true → e.fit) {ba : Option Addr} {bc : Nat} (hb : RowAt w ba (bytesV e.body)) :
    Calls Try.prog 58 #[entV e ba bc] w (fun x w' => Ext no w w' ∧ ((Q0z e = false ∧ x = .returned (.tuple #[.slice none 0 0, .int .i64 1])) ∨ (Q0z e = true ∧ ∃ a' c', x = .returned (.tuple #[.slice a' (bytesL e).length c', .int .i64 0]) ∧ OwnB w.heap.size w' a' c' (bytesL e)))) := by
  refine (Q0x.go e.w e.i e.pv e.t e.tw e.ep ba e.body.length bc e.sg (R := fun v w' => Ext no w w' ∧ ((Q0z e = false ∧ v = (.tuple #[.slice none 0 0, .int .i64 1])) ∨ (Q0z e = true ∧ ∃ a' c', v = (.tuple #[.slice a' (bytesL e).length c', .int .i64 0]) ∧ OwnB w.heap.size w' a' c' (bytesL e)))) ?_).mono fun x w' ⟨v, he, hx, hv⟩ => ⟨hx, hv.imp (fun ⟨h1, h2⟩ => ⟨h1, by rw [he, h2]⟩) fun ⟨h1, a, c, h2, h3⟩ => ⟨h1, a, c, by rw [he, h2], h3⟩⟩
  unfold Q0x.N
  rw [Q1N]
  refine ⟨fun h w10 X => ⟨X, .inl ⟨h, rfl⟩⟩, fun h w13 p X hp => ?_⟩
  have hf := hf h
  have f3 := hf.sg0; have f4 := hf.sg1
  have hbl := ((Q13 e).1 h).2.2.2.2.2.2.2.2.2.1
  have htl := Q3k e
  refine (Q44 h hf (hb.no X)).mono fun x w17 ⟨a1, c1, he, hO, X17⟩ => ⟨a1, _, c1, he, X17.kept, ?_⟩
  rw [← Int.toNat_of_nonneg f3]
  refine (W.Num_spec hO.row (by omega) (n := e.sg.toNat) (by omega)).mono fun x w20 ⟨a2, c2, he, hO2, X20⟩ => ⟨a2, _, c2, he, (X.trans X17).trans X20, .inr ⟨h, a2, c2, rfl, OwnB.up hO2 (X.trans X17).size⟩⟩
/-! ### reading -/
theorem Q4D (h : Rd w p bs k) (hl : bs.length < 1000000) :
    Calls Try.prog 99 #[.pointer (some (blk p))] w (GivesW (.agg #[.int .i64 (stampR (bs, k)).1.1, .int .i64 (stampR (bs, k)).1.2]) fun w' => Rd w' p (stampR (bs, k)).2.1 (stampR (bs, k)).2.2 ∧ Ext (fun b => b = p) w w') := by
  refine (Q0H.run _ (Q := fun w' => Rd w' p (stampR (bs, k)).2.1 (stampR (bs, k)).2.2 ∧ Ext (fun b => b = p) w w') ?_)
  unfold Q0H.N
  intro w2 p3 X2 hp
  have hp := hp.one
  have hpp : p < p3 := by have := h.lt; omega
  refine (W.RInt_spec (h.no X2) hl).mono fun e w6 ⟨he, h6, X6⟩ => ⟨_, he, keep1 X6 (by omega), fun w7 X7 => ?_⟩
  have h7 := h6.up X7 fun b hb => by omega
  have hlen := Q2E (bs, k)
  have hc := W.Count_spec h7 (by simp only at hlen; omega) (m := 7) (by decide)
  refine hc.mono fun e w10 ⟨he, h10, X10⟩ => ⟨_, he, keep1 X10 (by omega), fun w13 X13 => ?_⟩
  have h13 := h10.up X13 fun b hb => by omega
  refine ⟨rfl, h13, ?_⟩
  have y1 : Ext (fun b => b = p) w w7 := (X2.none.trans X6).then X7 fun b hb => .inr (by omega)
  exact (y1.trans X10).then X13 fun b hb => .inr (by omega)
theorem Read_spec (h : RowAt w a (bytesV bs)) (hc : bs.length ≤ c) (hl : bs.length < 1000000) :
    Calls Try.prog 98 #[.slice a bs.length c] w (fun e w' => ∃ a' c', e = .returned (.tuple #[entV (readE bs).1 a' c', .int .i64 (readE bs).2]) ∧ RowAt w' a' (bytesV (readE bs).1.body) ∧ (∀ ad, a' = some ad → w.heap.size ≤ ad.block) ∧ Ext no w w') := by
  refine (Q0D.go _ _ _ (R := fun v w' => ∃ a' c', v = (.tuple #[entV (readE bs).1 a' c', .int .i64 (readE bs).2]) ∧ RowAt w' a' (bytesV (readE bs).1.body) ∧ (∀ ad, a' = some ad → w.heap.size ≤ ad.block) ∧ Ext no w w') ?_).mono fun e w' ⟨v, he, a, c, hv, hw⟩ => ⟨a, c, by rw [he, hv], hw⟩
  unfold Q0D.N
  intro w2 p3 X2 hp3
  have hp3 := hp3.one
  obtain ⟨L1, L2, L3, L4, L5, L6, L7⟩ := Q4r (bs, 0)
  simp only at L1 L2 L3 L4 L5 L6 L7
  refine (W.Read_spec (h.no X2) hc).mono fun e w6 ⟨q, he, hr6, hq6, X6⟩ => ⟨_, he, X6.kept, fun w7 p8 X7 hp8 => ?_⟩
  have hp8 := hp8.one
  have hq7 := hr6.lt
  have s6 := X6.size
  have Y7 : Ext no w w7 := (X2.trans X6).trans X7
  -- what is changed is new
  have new : ∀ {w1 w2 : World}, Ext no w w1 → Ext (fun b => b = q) w1 w2 → Ext no w w2 := fun h1 h2 => h1.then h2 fun b hb => .inr (by omega)
  have new8 : ∀ {w1 w2 : World}, Ext no w w1 → Ext (fun b => b = p8) w1 w2 → Ext no w w2 := fun h1 h2 => h1.then h2 fun b hb => .inr (by omega)
  have new3 : ∀ {w1 w2 : World}, Ext no w w1 → Ext (fun b => b = p3) w1 w2 → Ext no w w2 := fun h1 h2 => h1.then h2 fun b hb => .inr (by omega)
  have up8 : ∀ b, b = p8 → q < b := fun b hb => by omega
  have k8 : ¬ (p8 = q) := by omega
  have k3 : ¬ (p3 = q) := by omega
  refine (W.Count_spec (hr6.no X7) hl (m := 7) (by decide)).mono fun e w11 ⟨he, hr11, X11⟩ => ⟨_, he, keep2 X11 k3 k8, fun w12 X12 => ?_⟩
  refine (W.Count_spec (bs := (entR1 (bs, 0)).1) (k := (entR1 (bs, 0)).2) (hr11.up X12 up8) (by omega) (m := 199) (by decide)).mono fun e w15 ⟨he, hr15, X15⟩ => ⟨_, he, keep2 X15 k3 k8, fun w16 X16 => ?_⟩
  refine (W.RNum_spec (bs := (entR2 (bs, 0)).1) (k := (entR2 (bs, 0)).2) (hr15.up X16 up8) (by omega)).mono fun e w19 ⟨he, hr19, X19⟩ => ⟨_, he, keep2 X19 k3 k8, fun w20 X20 => ?_⟩
  refine (Q4D (bs := (entR3 (bs, 0)).1) (k := (entR3 (bs, 0)).2) (hr19.up X20 up8) (by omega)).mono fun e w24 ⟨he, hr24, X24⟩ => ⟨_, _, he, keep2 X24 k3 k8, fun w26 X26 => ?_⟩
  refine (W.RInt_spec (bs := (entR4 (bs, 0)).1) (k := (entR4 (bs, 0)).2) (hr24.up X26 up8) (by omega)).mono fun e w29 ⟨he, hr29, X29⟩ => ⟨_, he, keep2 X29 k3 k8, ?_⟩
  refine (Q1z (bs := (entR5 (bs, 0)).1) (k := (entR5 (bs, 0)).2) hr29 (by omega) (m := 1100) (by decide)).mono fun e w32 ⟨ba, bc, he, hO, hr32, X32⟩ => ⟨ba, _, bc, he, keep2 X32 k3 k8, fun w33 X33 => ?_⟩
  have Y29 := new (new8 (new (new8 (new (new8 (new (new8 (new Y7 X11) X12) X15) X16) X19) X20) X24) X26) X29
  have hO33 : OwnB w29.heap.size w33 ba bc (bytesR 1100 (entR5 (bs, 0))).1 := hO.ext X33 fun ad ha hb => by have := (hO.fr ad ha).1; have := X29.size; have := X26.size; have := X24.size; have := X20.size; have := X19.size; have := X16.size; have := X15.size; have := X12.size; have := X11.size; omega
  have s29 : w7.heap.size ≤ w29.heap.size := by have := X29.size; have := X26.size; have := X24.size; have := X20.size; have := X19.size; have := X16.size; have := X15.size; have := X12.size; have := X11.size; omega
  refine (W.RNum_spec (bs := (entR6 (bs, 0)).1) (k := (entR6 (bs, 0)).2) (hr32.up X33 up8) (by omega)).mono fun e w36 ⟨he, hr36, X36⟩ => ⟨_, he, keep2 X36 k3 k8, fun w37 X37 => ?_⟩
  have hO37 : OwnB w29.heap.size w37 ba bc (bytesR 1100 (entR5 (bs, 0))).1 := (hO33.ext X36 fun ad ha hb => by have := (hO.fr ad ha).1; have := X7.size; omega).ext X37 fun ad ha hb => by have := (hO.fr ad ha).1; omega
  refine (W.Done_spec (bs := (entR7 (bs, 0)).1) (k := (entR7 (bs, 0)).2) (hr36.up X37 up8)).mono fun e w40 ⟨he, hw⟩ => ⟨_, he, Keep.refl _ _ |> fun k => by subst hw; exact k, ?_⟩
  subst hw
  have Y40 := new8 (new (new8 (new Y29 X32) X33) X36) X37
  have hF := Q1N (entR (bs, 0)) ba bc
  have hF' : Q08.F ((countR 7 (bs, 0)).1 : Int) ((countR 199 (entR1 (bs, 0))).1 : Int) ((numR (entR2 (bs, 0))).1 : Int) (stampR (entR3 (bs, 0))).1.1 ((stampR (entR3 (bs, 0))).1.2 : Int) (intR (entR4 (bs, 0))).1 ba (bytesR 1100 (entR5 (bs, 0))).1.length bc ((numR (entR6 (bs, 0))).1 : Int) = Q0z (entR (bs, 0)) := hF
  have new38 : ∀ {w1 w2 : World}, Ext no w w1 → Ext (fun b => b = p3 ∨ b = p8) w1 w2 → Ext no w w2 := fun h1 h2 => h1.then h2 fun b hb => .inr (by omega)
  refine ⟨fun hd w49 X49 => ?_, fun hd => ⟨fun hn => absurd rfl hn, fun _ => ⟨fun hr w69 X69 => ?_, fun hr w77 X77 => ?_⟩⟩⟩
  · have : readE bs = (Ent.zero, doneR (entR7 (bs, 0))) := by unfold readE; rw [if_pos hd]
    rw [this]
    exact ⟨none, 0, rfl, RowAt.nil _ _, fun ad ha => by (cases ha), new3 Y40 X49⟩
  · rw [hF'] at hr
    have : readE bs = (Ent.zero, 4) := by unfold readE; rw [if_neg (by rw [hd]; simp), if_neg (by rw [hr]; simp)]
    rw [this]
    exact ⟨none, 0, rfl, RowAt.nil _ _, fun ad ha => by (cases ha), new38 Y40 X69⟩
  · rw [hF'] at hr
    have : readE bs = (entR (bs, 0), 0) := by unfold readE; rw [if_neg (by rw [hd]; simp), if_pos hr]
    rw [this]
    refine ⟨ba, bc, rfl, ?_, fun ad ha => ?_, new38 Y40 X77⟩
    · refine (hO37.ext X77 fun ad ha hb => ?_).row
      have := (hO.fr ad ha).1; have := X7.size; omega
    · have := (hO.fr ad ha).1; have := Y7.size; omega
end
end Go.Proofs.Ytoempemllkebkaa
namespace Go.Proofs.Ytoempemllkebkaa
open Go Go.Mx Go.Proofs
open W (OwnB Rd RdR GivesW numR countR doneR zig unzig intR)
theorem litB {w w1 : World} {t e : TypeId} (hs : Try.prog.underlying t = some (.slice e)) (he : Try.prog.underlying e = some (.int .u8)) (bs : List UInt8) {q : Nat} (X : Ext no w w1) (hb : Blk w1 q e (bytesV bs)) (hq : w.heap.size ≤ q) :
    ∃ w2, (convert t t (.slice (some (blk q)) bs.length bs.length)).run Try.prog w1 = .ok (.slice (some (blk q)) bs.length bs.length) w2 ∧ RowAt w2 (some (blk q)) (bytesV bs) ∧ Ext no w w2 :=
  ⟨_, Q48 hs he hb, (RowAt.of_blk hb).freeze _ _, X.freeze (.inr hq) _⟩
section
variable {w w' : World} {a : Option Addr} {c N p : Nat} {bs : List UInt8} {k : Int}
theorem Q3G {b : Option Addr} {d : Nat} {x y : List UInt8} (ha : RowAt w a (bytesV x)) (hb : RowAt w b (bytesV y)) :
    Calls Try.prog 59 #[.slice a x.length c, .slice b y.length d] w (Ret (.bool (decide (x = y))) fun w' => w' = w) := by
  refine Q0w.run _ _ _ _ _ _ ?_
  unfold Q0w.N
  refine ⟨_, Q3l Try.underlying25 Try.underlying5 Try.underlying9 ha, _, Q3l Try.underlying25 Try.underlying5 Try.underlying9 hb, ?_, rfl⟩
  have key := Q3Z x y
  have e : ∀ s : List UInt8, (ByteArray.mk s.toArray).toList = s := fun s => by
    simp
  congr 1
  rw [e, e, Bool.eq_iff_iff]
  simp
theorem Q3D {e f : Ent} {b : Option Addr} {d : Nat} (ha : RowAt w a (bytesV e.body)) (hb : RowAt w b (bytesV f.body)) :
    Calls Try.prog 30 #[entV e a c, entV f b d] w (Ret (.bool (decide (e = f))) fun w' => Ext no w w') := by
  refine Q0A.run _ _ _ _ _ _ _ _ _ _ _ _ _ _ _ _ _ _ _ _ ?_
  unfold Q0A.N
  intro w19 p20 p21 X hp
  refine (Q3G (ha.no X) (hb.no X)).mono fun x w24 ⟨he, hw⟩ => ⟨_, he, by subst hw; exact Keep.refl _ _, ?_⟩
  subst hw
  obtain ⟨e1, e2, e3, e4, e5, e6, e7, e8⟩ := e
  obtain ⟨f1, f2, f3, f4, f5, f6, f7, f8⟩ := f
  simp only [Ent.mk.injEq]
  refine ⟨fun h => ?_, fun h => ?_⟩
  · have h := of_decide_eq_true h
    subst h
    refine ⟨fun c1 => ⟨fun c2 => ⟨fun c3 => ⟨fun c4 => ⟨fun c5 => ?_, fun c5 => ?_⟩, fun c4 => ?_⟩, fun c3 => ?_⟩, fun c2 => ?_⟩, fun c1 => ?_⟩ <;> refine ⟨?_, X⟩
    · congr 1; rw [Bool.eq_iff_iff, beq_iff_eq, decide_eq_true_eq]; exact ⟨fun h => ⟨c1, c2, c3, c4.1, c4.2, c5, rfl, h⟩, fun h => h.2.2.2.2.2.2.2⟩
    · rw [decide_eq_false fun h => c5 h.2.2.2.2.2.1]
    · rw [decide_eq_false fun h => c4 ⟨h.2.2.2.1, h.2.2.2.2.1⟩]
    · rw [decide_eq_false fun h => c3 h.2.2.1]
    · rw [decide_eq_false fun h => c2 h.2.1]
    · rw [decide_eq_false fun h => c1 h.1]
  · have h := of_decide_eq_false h
    exact ⟨by rw [decide_eq_false fun q => h q.2.2.2.2.2.2.1], X⟩
end
end Go.Proofs.Ytoempemllkebkaa
namespace Go.Proofs.Ytoempemllkebkaa
open Go Go.Mx Go.Proofs
open W (OwnB Rd RdR GivesW numR countR doneR zig unzig intR)
section
variable {w w' : World} {a : Option Addr} {c N p : Nat} {bs : List UInt8} {k : Int}
end
end Go.Proofs.Ytoempemllkebkaa
namespace Go.Proofs.Ytoempemllkebkaa
open Go Go.Mx Go.Proofs
def vRight.M (aj : Option Addr) (ag an : Nat) (R : RW) (w : World) : Prop :=
 ∃ (I0 : Nat → List Value → World → Prop) (m3 : Nat), I0 m3 [.int .i64 0] w ∧ ∀ (m4 : Nat) (a7 : World) (t2 : Int), I0 m4 [.int .i64 t2] a7 →
 bif decide (t2 < (ag : Int)) then (
 aj.elim False fun a6 =>
 0 ≤ (t2 : Int) ∧ (t2 : Int) < (ag : Int) ∧
 ∃ (a4 ab aa : Int), cellsAt a7 (a6.add (Int.toNat t2 * 3)) [.int .i64 a4, .int .i64 ab, .int .u64 aa] 0 ∧
 thenW (a7.alloc (.cells #[.int .i64 0, .int .i64 0, .int .u64 0] 66)) fun ae =>
 Q01 ae ((blk a7.heap.size).add 0) ∧
 thenW (ae.setCell ((blk a7.heap.size).add 0) (.int .i64 a4)) fun ad =>
 Q01 ad ((blk a7.heap.size).add 1) ∧
 thenW (ad.setCell ((blk a7.heap.size).add 1) (.int .i64 ab)) fun af =>
 Q01 af ((blk a7.heap.size).add 2) ∧
 thenW (af.setCell ((blk a7.heap.size).add 2) (.int .u64 aa)) fun ah =>
 thenW (ah.drew) fun ac =>
 ∃ (a1 a8 a9 : Int), cellsAt ac (blk a7.heap.size) [.int .i64 a1, .int .i64 a8, .int .u64 a9] 0 ∧
 Calls Try.prog 63 #[.agg #[.int .i64 a1, .int .i64 a8, .int .u64 a9]] ac fun ai a5 => ∃ (a0 : Bool), ai = .returned (.bool a0) ∧
 bif !a0 then (
 R (.bool false) a5) else (
 bif decide (t2 > 0) then (
 ∃ (a3 : Int), a5.cell? ((blk a7.heap.size).add 0) = some (.int .i64 a3) ∧
 aj.elim False fun am =>
 0 ≤ ((IntKind.i64.wrap (t2 - 1)) : Int) ∧ ((IntKind.i64.wrap (t2 - 1)) : Int) < (ag : Int) ∧
 ∃ (a2 : Int), a5.cell? ((am.add (Int.toNat (IntKind.i64.wrap (t2 - 1)) * 3)).add 0) = some (.int .i64 a2) ∧
 bif decide (a3 ≤ a2) then (
 R (.bool false) a5) else (
 ∃ al, al < m4 ∧ I0 al [.int .i64 (IntKind.i64.wrap (t2 + 1))] a5)) else (
 ∃ ak, ak < m4 ∧ I0 ak [.int .i64 (IntKind.i64.wrap (t2 + 1))] a5))) else (
 R (.bool true) a7)

theorem vRight.ok (a1 : Option Addr) (a0 a2 : Nat) {R : RW} {w : World} (h : vRight.M a1 a0 a2 R w) : Calls Try.prog 38 #[.slice a1 a0 a2] w fun e w' => ∃ v, e = .returned v ∧ R v w' :=
  Q09 follows (H := [(0, [0, 5, 6], [(7, (.one (.int .i64)))])]) (args := [.slice a1 a0 a2]) (cast (by kernel_rfl) h)

def vrh.M (a2 a6 a4 : Int) (R : RW) (w : World) : Prop :=
 thenW (w.alloc (.cells #[.int .i64 a2, .int .i64 a6, .int .u64 a4] 66)) fun a3 =>
 ∃ (a0 : Int), a3.cell? ((blk w.heap.size).add 0) = some (.int .i64 a0) ∧
 bif decide (a0 ≥ 0) then (
 ∃ (a1 : Int), a3.cell? ((blk w.heap.size).add 0) = some (.int .i64 a1) ∧
 bif decide (a1 < 8) then (
 ∃ (a5 : Int), a3.cell? ((blk w.heap.size).add 1) = some (.int .i64 a5) ∧
 bif decide (a5 > 0) then (
 ∃ (a7 : Int), a3.cell? ((blk w.heap.size).add 1) = some (.int .i64 a7) ∧
 bif decide (a7 ≤ 200) then (
 ∃ (a8 : Int), a3.cell? ((blk w.heap.size).add 2) = some (.int .u64 a8) ∧
 R (.bool (a8 != 0)) a3) else (
 R (.bool false) a3)) else (
 R (.bool false) a3)) else (
 R (.bool false) a3)) else (
 R (.bool false) a3)

theorem vrh.ok (a0 a1 a2 : Int) {R : RW} {w : World} (h : vrh.M a0 a1 a2 R w) : Calls Try.prog 63 #[.agg #[.int .i64 a0, .int .i64 a1, .int .u64 a2]] w fun e w' => ∃ v, e = .returned v ∧ R v w' :=
  Q09 follows (H := []) (args := [.agg #[.int .i64 a0, .int .i64 a1, .int .u64 a2]]) (cast (by kernel_rfl) h)

def GivesV (v : Value) (Q : World → Prop) (e : Ending) (w' : World) : Prop := e = .returned v ∧ Q w'
abbrev Hd := Int × Int × Int
def hdC (h : Hd) : List Value := [.int .i64 h.1, .int .i64 h.2.1, .int .u64 h.2.2]
def hdV (h : Hd) : Value := .agg #[.int .i64 h.1, .int .i64 h.2.1, .int .u64 h.2.2]
def hsC (hs : List Hd) : List Value := hs.flatMap hdC
theorem Q2k : ∀ hs : List Hd, (hsC hs).length = hs.length * 3
  | [] => rfl
  | h :: r => by
    have := Q2k r
    simp only [hsC, List.flatMap_cons, List.length_append, List.length_cons] at this ⊢
    rw [this]; simp [hdC]; omega
theorem hsC_get : ∀ {hs : List Hd} {i : Nat} {h : Hd}, hs[i]? = some h → ∀ j, j < 3 → (hsC hs)[i * 3 + j]? = (hdC h)[j]?
  | [], i, h, hi, j, hj => by simp at hi
  | a :: r, 0, h, hi, j, hj => by
    simp only [List.getElem?_cons_zero, Option.some.injEq] at hi
    subst hi
    simp only [hsC, List.flatMap_cons, Nat.zero_mul, Nat.zero_add]
    rw [List.getElem?_append_left (by simp [hdC]; omega)]
  | a :: r, i + 1, h, hi, j, hj => by
    simp only [List.getElem?_cons_succ] at hi
    have := hsC_get hi j hj
    simp only [hsC, List.flatMap_cons] at this ⊢
    rw [List.getElem?_append_right (by simp [hdC]; omega), show (i + 1) * 3 + j - (hdC a).length = i * 3 + j by simp [hdC]; omega]
    exact this
theorem hs_cell {w : World} {ad : Addr} {hs : List Hd} (hr : RowAt w (some ad) (hsC hs)) {i : Nat} {h : Hd} (hi : hs[i]? = some h) {j : Nat} {v : Value} (hv : (hdC h)[j]? = some v) : w.cell? ((ad.add (i * 3)).add j) = some v := by
  have hj : j < 3 := by have := (List.getElem?_eq_some_iff.1 hv).1; simpa [hdC] using this
  rw [add_add]
  exact hr.at_ ((hsC_get hi j hj).trans hv)
theorem hs_at {w : World} {ad : Addr} {hs : List Hd} (hr : RowAt w (some ad) (hsC hs)) {i : Nat} {h : Hd} (hi : hs[i]? = some h) : cellsAt w (ad.add (i * 3)) [.int .i64 h.1, .int .i64 h.2.1, .int .u64 h.2.2] 0 :=
  ⟨hs_cell hr hi (j := 0) rfl, hs_cell hr hi (j := 1) rfl, hs_cell hr hi (j := 2) rfl, trivial⟩
theorem hsC_ne {hs : List Hd} (h : hs ≠ []) : hsC hs ≠ [] := fun e => by
  have := Q2k hs
  rw [e] at this
  simp at this
  exact h (List.eq_nil_of_length_eq_zero (by omega))

def rhead (h : Hd) : Bool := decide (h.1 ≥ 0) && (decide (h.1 < 8) && (decide (h.2.1 > 0) && (decide (h.2.1 ≤ 200) && (h.2.2 != 0))))
def rightF : Option Int → List Hd → Bool
  | _, [] => true
  | p, h :: r => rhead h && (match p with | none => true | some q => decide (q < h.1)) && rightF (some h.1) r
def rightV (hs : List Hd) : Bool := rightF none hs
def prevOf (hs : List Hd) : Nat → Option Int
  | 0 => none
  | t + 1 => (hs[t]?).map (·.1)
theorem Q2Y : ∀ {hs : List Hd} {p : Option Int}, rightF p hs = true → (∀ q, p = some q → ∀ h ∈ hs, q < h.1) ∧ (hs.map (·.1)).Pairwise (· < ·)
  | [], p, _ => ⟨fun q _ h hh => by simp at hh, by simp⟩
  | a :: r, p, h => by
    simp only [rightF, Bool.and_eq_true] at h
    obtain ⟨⟨h1, h2⟩, h3⟩ := h
    obtain ⟨i1, i2⟩ := Q2Y h3
    refine ⟨fun q hq x hx => ?_, ?_⟩
    · subst hq
      simp only [decide_eq_true_eq] at h2
      rcases List.mem_cons.1 hx with rfl | hx
      · exact h2
      · have := i1 a.1 rfl x hx; omega
    · simp only [List.map_cons, List.pairwise_cons]
      refine ⟨fun b hb => ?_, i2⟩
      obtain ⟨x, hx, rfl⟩ := List.mem_map.1 hb
      exact i1 a.1 rfl x hx
section
variable {w w' : World} {a : Option Addr} {c : Nat} {hs : List Hd}
theorem Q2j (h : Hd) : Calls Try.prog 63 #[hdV h] w (GivesV (.bool (rhead h)) fun w' => Ext no w w') := by
  refine (vrh.ok _ _ _ (R := fun v w' => v = .bool (rhead h) ∧ Ext no w w') ?_).mono fun e w' ⟨v, he, hv, hw⟩ => ⟨by rw [he, hv], hw⟩
  unfold vrh.M
  refine Q00 fun w4 h4 => ?_
  have hb : Blk w4 w.heap.size 66 (hdC h) := by subst h4; exact Blk.new _ _ _
  have hx : Ext no w w4 := by subst h4; exact (Ext.refl _ _).alloc _
  refine ⟨_, hb.cella (i := 0) rfl, ?_⟩
  unfold rhead
  by_cases c1 : h.1 ≥ 0
  · rw [decide_eq_true c1, cond_true, Bool.true_and]
    refine ⟨_, hb.cella (i := 0) rfl, ?_⟩
    by_cases c2 : h.1 < 8
    · rw [decide_eq_true c2, cond_true, Bool.true_and]
      refine ⟨_, hb.cella (i := 1) rfl, ?_⟩
      by_cases c3 : h.2.1 > 0
      · rw [decide_eq_true c3, cond_true, Bool.true_and]
        refine ⟨_, hb.cella (i := 1) rfl, ?_⟩
        by_cases c4 : h.2.1 ≤ 200
        · rw [decide_eq_true c4, cond_true, Bool.true_and]
          exact ⟨_, hb.cella (i := 2) rfl, rfl, hx⟩
        · rw [decide_eq_false c4]; exact ⟨rfl, hx⟩
      · rw [decide_eq_false c3]; exact ⟨rfl, hx⟩
    · rw [decide_eq_false c2]; exact ⟨rfl, hx⟩
  · rw [decide_eq_false c1]; exact ⟨rfl, hx⟩

theorem Q1r (hr : RowAt w a (hsC hs)) (hl : hs.length < 1000000) : Calls Try.prog 38 #[.slice a hs.length c] w (GivesV (.bool (rightV hs)) fun w' => Ext no w w') := by
  refine (vRight.ok _ _ _ (R := fun v w' => v = .bool (rightV hs) ∧ Ext no w w') ?_).mono fun e w' ⟨v, he, hv, hw⟩ => ⟨by rw [he, hv], hw⟩
  unfold vRight.M
  refine ⟨fun k vs w1 => ∃ t : Nat, vs = [.int .i64 t] ∧ k + t = hs.length ∧ rightF (prevOf hs t) (hs.drop t) = rightV hs ∧ Ext no w w1, hs.length, ⟨0, rfl, rfl, rfl, Ext.refl _ _⟩, ?_⟩
  rintro k w1 i ⟨t, hi, hk, hf, hx⟩
  simp only [List.cons.injEq, Value.int.injEq, true_and, and_true] at hi
  subst hi
  cases k with
  | zero =>
    obtain rfl : t = hs.length := by omega
    rw [show decide ((hs.length : Int) < (hs.length : Int)) = false by simp, cond_false]
    rw [List.drop_length] at hf
    exact ⟨by rw [← hf]; cases prevOf hs hs.length <;> rfl, hx⟩
  | succ k =>
    have ht : t < hs.length := by omega
    rw [show decide ((t : Int) < (hs.length : Int)) = true by simp; omega, cond_true]
    have hr1 := hr.no hx
    obtain ⟨ad, rfl⟩ := hr1.addr (hsC_ne (by intro e; subst e; simp at ht))
    have hgi : hs[t]? = some hs[t] := List.getElem?_eq_getElem ht
    refine ⟨by omega, by omega, _, _, _, by rw [Int.toNat_natCast]; exact hs_at hr1 hgi, Q00 fun w10 h10 => ?_⟩
    have hb10 : Blk w10 w1.heap.size 66 [.int .i64 0, .int .i64 0, .int .u64 0] := by subst h10; exact Blk.new _ _ _
    have x10 : Ext no w1 w10 := by subst h10; exact (Ext.refl _ _).alloc _
    refine ⟨hb10.cana (i := 0) rfl, Q00 fun w11 h11 => ?_⟩
    have hb11 := hb10.seta 0 (.int .i64 hs[t].1)
    rw [← h11] at hb11
    have x11 : Ext no w1 w11 := by subst h11; exact x10.setCell (.inr (by rw [add_zero]; exact Nat.le_refl _)) _
    refine ⟨hb11.cana (i := 1) rfl, Q00 fun w12 h12 => ?_⟩
    have hb12 := hb11.seta 1 (.int .i64 hs[t].2.1)
    rw [← h12] at hb12
    have x12 : Ext no w1 w12 := by subst h12; exact x11.setCell (.inr (by rw [add_blk]; exact Nat.le_refl _)) _
    refine ⟨hb12.cana (i := 2) rfl, Q00 fun w13 h13 => Q00 fun w14 h14 => ?_⟩
    have hb13 := hb12.seta 2 (.int .u64 hs[t].2.2)
    rw [← h13] at hb13
    have x13 : Ext no w1 w13 := by subst h13; exact x12.setCell (.inr (by rw [add_blk]; exact Nat.le_refl _)) _
    have hb14 := hb13.drew
    rw [← h14] at hb14
    have x14 : Ext no w1 w14 := by subst h14; exact x13.drew
    refine ⟨_, _, _, ⟨hb14.cella (i := 0) rfl, hb14.cella (i := 1) rfl, hb14.cella (i := 2) rfl, trivial⟩, ?_⟩
    refine (Q2j hs[t]).mono fun e w20 ⟨he, x20'⟩ => ⟨_, he, ?_⟩
    have x20 := x14.trans x20'
    have hb20 := hb14.ext x20' id
    have hd : hs.drop t = hs[t] :: hs.drop (t + 1) := List.drop_eq_getElem_cons ht
    rw [hd] at hf
    simp only [rightF] at hf
    by_cases c1 : rhead hs[t] = true
    · rw [c1, Bool.not_true, cond_false]
      rw [c1, Bool.true_and] at hf
      have hw1 : IntKind.i64.wrap ((t : Int) + 1) = ((t + 1 : Nat) : Int) := by rw [w64 (by omega) (by omega)]; rfl
      cases t with
      | zero =>
        rw [show decide (((0 : Nat) : Int) > 0) = false from rfl, cond_false]
        exact ⟨k, by omega, 1, by rw [hw1], by omega, by rw [← hf]; simp [prevOf, ht], hx.trans x20⟩
      | succ t =>
        rw [show decide (((t + 1 : Nat) : Int) > 0) = true by simp <;> omega, cond_true]
        have htl : t < hs.length := by omega
        have hgp : hs[t]? = some hs[t] := List.getElem?_eq_getElem htl
        have hw2 : IntKind.i64.wrap (((t + 1 : Nat) : Int) - 1) = (t : Int) := by rw [w64 (by omega) (by omega)] <;> omega
        rw [hw2]
        refine ⟨_, hb20.cella (i := 0) rfl, by omega, by omega, _, by rw [Int.toNat_natCast]; exact hs_cell (hr1.no x20) hgp (j := 0) rfl, ?_⟩
        simp only [prevOf, hgp, Option.map_some] at hf
        by_cases c2 : hs[t + 1].1 ≤ hs[t].1
        · rw [decide_eq_true c2, cond_true]
          rw [decide_eq_false (by omega), Bool.false_and] at hf
          exact ⟨by rw [← hf], hx.trans x20⟩
        · rw [decide_eq_false c2, cond_false]
          rw [decide_eq_true (by omega), Bool.true_and] at hf
          exact ⟨k, by omega, t + 2, by rw [hw1], by omega, by rw [← hf]; simp [prevOf, ht], hx.trans x20⟩
    · have c1' : rhead hs[t] = false := by simpa using c1
      rw [c1', Bool.not_false, cond_true]
      rw [c1', Bool.false_and, Bool.false_and] at hf
      exact ⟨by rw [← hf], hx.trans x20⟩

theorem Q49 (hs : List Hd) (h : rightV hs = true) {i j : Nat} {p q : Hd} (hij : i < j) (hi : hs[i]? = some p) (hj : hs[j]? = some q) : p.1 < q.1 := by
  have := (Q2Y h).2
  obtain ⟨hi1, rfl⟩ := List.getElem?_eq_some_iff.1 hi
  obtain ⟨hj1, rfl⟩ := List.getElem?_eq_some_iff.1 hj
  have h2 := List.pairwise_iff_getElem.1 this i j (by simpa using hi1) (by simpa using hj1) hij
  simpa using h2
end
end Go.Proofs.Ytoempemllkebkaa
namespace Go.Proofs.Ytoempemllkebkaa
open Go Go.Mx Go.Proofs
theorem infHead : (Try.prog.info? 66).map (fun i => (i.zero, i.size, i.bytes)) = some (some (.agg #[.int .i64 0, .int .i64 0, .int .u64 0]), 3, 24) := by kernel_rfl

theorem Q3i {w w' : World} {m : Nat → Prop} {base e size n : Nat} {v : Value} {xs : List Value} (h : w.ownsRow base e size v n xs) (k : Ext m w w') (hm : ∀ q, v.ownBlock = some q → ¬ m q) : w'.ownsRow base e size v n xs := by
  refine ⟨h.1, ?_⟩
  rcases h.2 with h2 | ⟨g, cap, cur, hv, hb, hg, hr⟩
  · exact .inl h2
  · exact .inr ⟨g, cap, cur, hv, hb, k.get hg (hm g (by rw [hv]; rfl)), hr⟩
theorem Q4t (w : World) (e size : Nat) : w.ownsRow 0 e size (.slice none 0 0) 0 [] := ⟨by simp, .inl ⟨rfl, rfl⟩⟩

section
variable {w w' : World} {aa ba : Option Addr} {ac bc : Nat} {a b : List Hd}
/-! ### Compare -/
/-! ### a list of heads that grows -/
def Grows (N : Nat) (w : World) (A : Nat) (t : TypeId) (l : List Hd) : Prop :=
  ∃ ra rc, Blk w A t [.slice ra l.length rc] ∧ w.ownsRow 0 66 3 (.slice ra l.length rc) l.length (hsC l) ∧ (∀ ad, ra = some ad → N ≤ ad.block ∧ ad.block ≠ A) ∧ N ≤ A
/-! ### Missing -/
end
end Go.Proofs.Ytoempemllkebkaa
namespace Go.Proofs.Ytoempemllkebkaa
open Go Go.Mx Go.Proofs
section
variable {w w' : World} {aa ba : Option Addr} {ac bc : Nat} {a b : List Hd}
/-! ### Conflict -/
/-! ### Merge -/
/-! ### the chapter's example -/
end
end Go.Proofs.Ytoempemllkebkaa
namespace Go.Proofs.Ytoempemllkebkaa
open Go Go.Mx Go.Proofs
end Go.Proofs.Ytoempemllkebkaa
namespace Go.Proofs.Ytoempemllkebkaa
open Go Go.Mx Go.Proofs
open W (OwnB Rd GivesW numR countR doneR)
def vBytes.M (b9 : Option Addr) (av bg : Nat) (R : RW) (w : World) : Prop :=
 Calls Try.prog 38 #[.slice b9 av bg] w fun bd b7 => ∃ (ab : Bool), bd = .returned (.bool ab) ∧
 bif !ab then (
 R (.tuple #[.slice none 0 0, .int .i64 1]) b7) else (
 Calls Try.prog 26 #[.slice none 0 0, .int .u64 (IntKind.u64.wrap (av : Int))] b7 fun bj be => ∃ (an : Option Addr) (al am : Nat), bj = .returned (.slice an al am) ∧
 ∃ (I0 : Nat → List Value → World → Prop) (bh : Nat), I0 bh [.slice an al am, .int .i64 0] be ∧ ∀ (ba : Nat) (a0 : World) (b1 : Option Addr) (b2 ay : Nat) (t9 : Int), I0 ba [.slice b1 b2 ay, .int .i64 t9] a0 →
 bif decide (t9 < (av : Int)) then (
 b9.elim False fun bi =>
 0 ≤ (t9 : Int) ∧ (t9 : Int) < (av : Int) ∧
 ∃ (a1 a9 a6 : Int), cellsAt a0 (bi.add (Int.toNat t9 * 3)) [.int .i64 a1, .int .i64 a9, .int .u64 a6] 0 ∧
 thenW (a0.alloc (.cells #[.int .i64 0, .int .i64 0, .int .u64 0] 66)) fun aq =>
 Q01 aq ((blk a0.heap.size).add 0) ∧
 thenW (aq.setCell ((blk a0.heap.size).add 0) (.int .i64 a1)) fun au =>
 Q01 au ((blk a0.heap.size).add 1) ∧
 thenW (au.setCell ((blk a0.heap.size).add 1) (.int .i64 a9)) fun ar =>
 Q01 ar ((blk a0.heap.size).add 2) ∧
 thenW (ar.setCell ((blk a0.heap.size).add 2) (.int .u64 a6)) fun ak =>
 ∃ (a2 : Int), ak.cell? ((blk a0.heap.size).add 0) = some (.int .i64 a2) ∧
 ∃ (ap : Int), ak.cell? ((blk a0.heap.size).add 1) = some (.int .i64 ap) ∧
 ∃ (ao : Int), ak.cell? ((blk a0.heap.size).add 2) = some (.int .u64 ao) ∧
 ∃ (I2 : Nat → List Value → World → Prop) (bf : Nat), I2 bf [.slice b1 b2 ay, .int .i64 0] ak ∧ ∀ (aw : Nat) (a8 : World) (ae : Option Addr) (ai a3 : Nat) (aj : Int), I2 aw [.slice ae ai a3, .int .i64 aj] a8 →
 bif decide (aj < 3) then (
 0 ≤ (aj : Int) ∧ (aj : Int) < (3 : Int) ∧
 ((aj : Int) = 0 → 
 Calls Try.prog 26 #[.slice ae ai a3, .int .u64 (IntKind.u64.wrap a2)] a8 fun b5 b3 => ∃ (a7 : Option Addr) (ac af : Nat), b5 = .returned (.slice a7 ac af) ∧
 ∃ b6, b6 < aw ∧ I2 b6 [.slice a7 ac af, .int .i64 (IntKind.i64.wrap (aj + 1))] b3) ∧
 ((aj : Int) = 1 → 
 Calls Try.prog 26 #[.slice ae ai a3, .int .u64 (IntKind.u64.wrap ap)] a8 fun b0 ax => ∃ (a4 : Option Addr) (a5 ad : Nat), b0 = .returned (.slice a4 a5 ad) ∧
 ∃ bc, bc < aw ∧ I2 bc [.slice a4 a5 ad, .int .i64 (IntKind.i64.wrap (aj + 1))] ax) ∧
 ((aj : Int) = 2 → 
 Calls Try.prog 26 #[.slice ae ai a3, .int .u64 ao] a8 fun b4 az => ∃ (aa : Option Addr) (ag ah : Nat), b4 = .returned (.slice aa ag ah) ∧
 ∃ b8, b8 < aw ∧ I2 b8 [.slice aa ag ah, .int .i64 (IntKind.i64.wrap (aj + 1))] az) ∧ True) else (
 ∃ bb, bb < ba ∧ I0 bb [.slice ae ai a3, .int .i64 (IntKind.i64.wrap (t9 + 1))] a8)) else (
 R (.tuple #[.slice b1 b2 ay, .int .i64 0]) a0))

theorem vBytes.ok (a1 : Option Addr) (a0 a2 : Nat) {R : RW} {w : World} (h : vBytes.M a1 a0 a2 R w) : Calls Try.prog 28 #[.slice a1 a0 a2] w fun e w' => ∃ v, e = .returned v ∧ R v w' :=
  Q09 follows (H := [(0, [16, 17], [(4, (.one .slice)), (18, (.one (.int .i64)))]), (2, [16, 17, 18, 30], [(4, (.one .slice)), (31, (.one (.int .i64)))])]) (args := [.slice a1 a0 a2]) (cast (by kernel_rfl) h)

def vRead.M (b5 : Option Addr) (b7 b2 : Nat) (R : RW) (w : World) : Prop :=
 Calls Try.prog 33 #[.slice b5 b7 b2] w fun b3 b1 => ∃ (a1 : Option Addr), b3 = .returned (.pointer a1) ∧
 Calls Try.prog 54 #[.pointer a1, .int .i64 8] b1 fun b8 b4 => ∃ (a7 : Int), b8 = .returned (.int .i64 a7) ∧
 ∃ (I0 : Nat → List Value → World → Prop) (b6 : Nat), I0 b6 [.slice none 0 0, .int .i64 0] b4 ∧ ∀ (b0 : Nat) (a0 : World) (al : Option Addr) (an am : Nat) (t9 : Int), I0 b0 [.slice al an am, .int .i64 t9] a0 →
 bif decide (t9 < a7) then (
 thenW (a0.alloc (.cells #[.int .i64 0, .int .i64 0, .int .u64 0] 66)) fun ap =>
 Calls Try.prog 54 #[.pointer a1, .int .i64 7] ap fun aw ak => ∃ (a4 : Int), aw = .returned (.int .i64 a4) ∧
 Q01 ak (((blk a0.heap.size).add 0).add 0) ∧
 thenW (ak.setCell (((blk a0.heap.size).add 0).add 0) (.int .i64 a4)) fun av =>
 Calls Try.prog 54 #[.pointer a1, .int .i64 200] av fun ar ag => ∃ (a5 : Int), ar = .returned (.int .i64 a5) ∧
 Q01 ag (((blk a0.heap.size).add 1).add 0) ∧
 thenW (ag.setCell (((blk a0.heap.size).add 1).add 0) (.int .i64 a5)) fun ao =>
 Calls Try.prog 71 #[.pointer a1] ao fun ax aj => ∃ (aa : Int), ax = .returned (.int .u64 aa) ∧
 Q01 aj (((blk a0.heap.size).add 2).add 0) ∧
 thenW (aj.setCell (((blk a0.heap.size).add 2).add 0) (.int .u64 aa)) fun ab =>
 ∃ (a2 a9 a8 : Int), cellsAt ab (blk a0.heap.size) [.int .i64 a2, .int .i64 a9, .int .u64 a8] 0 ∧
 thenW (ab.alloc (.cells #[.int .i64 a2, .int .i64 a9, .int .u64 a8] 66)) fun aq =>
 ∃ (ai : Option Addr) (ae ah : Nat) (af : World), (Builtin.append_ #[36, 36] 36 #[.slice al an am, .slice (some (blk ab.heap.size)) 1 1]).run Try.prog aq = .ok (.slice ai ae ah) af ∧
 ∃ az, az < b0 ∧ I0 az [.slice ai ae ah, .int .i64 (IntKind.i64.wrap (t9 + 1))] af) else (
 Calls Try.prog 56 #[.pointer a1] a0 fun au ac => ∃ (a3 : Int), au = .returned (.int .i64 a3) ∧
 bif a3 != 0 then (
 R (.tuple #[.slice none 0 0, .int .i64 a3]) ac) else (
 Calls Try.prog 38 #[.slice al an am] ac fun ay ad => ∃ (a6 : Bool), ay = .returned (.bool a6) ∧
 bif !a6 then (
 R (.tuple #[.slice none 0 0, .int .i64 4]) ad) else (
 R (.tuple #[.slice al an am, .int .i64 0]) ad)))

theorem vRead.ok (a0 : Option Addr) (a1 a2 : Nat) {R : RW} {w : World} (h : vRead.M a0 a1 a2 R w) : Calls Try.prog 93 #[.slice a0 a1 a2] w fun e w' => ∃ v, e = .returned v ∧ R v w' :=
  Q09 follows (H := [(0, [4, 10], [(2, (.one .slice)), (11, (.one (.int .i64)))])]) (args := [.slice a0 a1 a2]) (cast (by kernel_rfl) h)

def wSame.M (a7 : Option Addr) (a2 aa : Nat) (a9 : Option Addr) (a5 ab : Nat) (R : RW) (w : World) : Prop :=
 bif (a2 : Int) != (a5 : Int) then (
 R (.bool false) w) else (
 ∃ (I0 : Nat → List Value → World → Prop) (m4 : Nat), I0 m4 [.int .i64 0] w ∧ ∀ (m5 : Nat) (a1 : World) (i3 : Int), I0 m5 [.int .i64 i3] a1 →
 bif decide (i3 < (a2 : Int)) then (
 thenW (a1.drew) fun a0 =>
 a7.elim False fun a8 =>
 0 ≤ (i3 : Int) ∧ (i3 : Int) < (a2 : Int) ∧
 ∃ (x9 : Int), a0.cell? (a8.add (Int.toNat i3 * 1)) = some (.int .u8 x9) ∧
 a9.elim False fun a6 =>
 0 ≤ (i3 : Int) ∧ (i3 : Int) < (a5 : Int) ∧
 ∃ (a4 : Int), a0.cell? (a6.add (Int.toNat i3 * 1)) = some (.int .u8 a4) ∧
 bif x9 != a4 then (
 R (.bool false) a0) else (
 ∃ a3, a3 < m5 ∧ I0 a3 [.int .i64 (IntKind.i64.wrap (i3 + 1))] a0)) else (
 R (.bool true) a1))

theorem wSame.eq (a1a : Option Addr) (a1n a1c : Nat) (b2a : Option Addr) (b2n b2c : Nat) (R : RW) (w : World) : mfunc Try.prog [(0, [0, 1], [(5, (.one (.int .i64)))])] 11 [.slice a1a a1n a1c, .slice b2a b2n b2c] R w = wSame.M a1a a1n a1c b2a b2n b2c R w := by kernel_rfl
theorem wSame.ok (a1 : Option Addr) (a4 a0 : Nat) (a3 : Option Addr) (a5 a2 : Nat) {R : RW} {w : World} (h : wSame.M a1 a4 a0 a3 a5 a2 R w) : Calls Try.prog 11 #[.slice a1 a4 a0, .slice a3 a5 a2] w fun e w' => ∃ v, e = .returned v ∧ R v w' :=
  Q09 follows (H := [(0, [0, 1], [(5, (.one (.int .i64)))])]) (args := [.slice a1 a4 a0, .slice a3 a5 a2]) (by rw [wSame.eq]; exact h)

def hdL (h : Hd) : List UInt8 := numL h.1.toNat ++ (numL h.2.1.toNat ++ numL h.2.2.toNat)
def vecL (hs : List Hd) : List UInt8 := numL hs.length ++ hs.flatMap hdL
theorem numL_le (n : Nat) : (numL n).length ≤ 10 := numF_le 10 n
theorem hdL_le (h : Hd) : (hdL h).length ≤ 30 := by
  have := numL_le h.1.toNat; have := numL_le h.2.1.toNat; have := numL_le h.2.2.toNat
  simp only [hdL, List.length_append]; omega
theorem hdsL_le : ∀ hs : List Hd, (hs.flatMap hdL).length ≤ 30 * hs.length
  | [] => Nat.le_refl _
  | h :: r => by
    have := hdsL_le r; have := hdL_le h
    simp only [List.flatMap_cons, List.length_append, List.length_cons]; omega
def natH (h : Hd) : Prop := 0 ≤ h.1 ∧ h.1 < 18446744073709551616 ∧ 0 ≤ h.2.1 ∧ h.2.1 < 18446744073709551616 ∧ 0 ≤ h.2.2 ∧ h.2.2 < 18446744073709551616
theorem Q4i {h : Hd} (hr : rhead h = true) (hf : 0 ≤ h.2.2 ∧ h.2.2 < 18446744073709551616) : natH h := by
  simp only [rhead, Bool.and_eq_true, decide_eq_true_eq] at hr
  obtain ⟨a, b, c, d, _⟩ := hr
  exact ⟨a, by omega, by omega, by omega, hf.1, hf.2⟩
theorem Q10 : ∀ {hs : List Hd} {p : Option Int}, rightF p hs = true → ∀ h ∈ hs, rhead h = true
  | [], _, _, h, hh => by simp at hh
  | a :: r, p, hr, h, hh => by
    simp only [rightF, Bool.and_eq_true] at hr
    rcases List.mem_cons.1 hh with rfl | hh
    · exact hr.1.1
    · exact Q10 hr.2 h hh
theorem OwnB.mono {N M : Nat} {w : World} {a : Option Addr} {c : Nat} {bs : List UInt8} (h : OwnB N w a c bs) (hM : M ≤ N) : OwnB M w a c bs := ⟨h.own, fun ad ha => ⟨Nat.le_trans hM (h.fr ad ha).1, (h.fr ad ha).2⟩⟩

section
variable {w w' : World} {a : Option Addr} {c : Nat} {hs : List Hd}
theorem Q3f (hr : RowAt w a (hsC hs)) (hl : hs.length ≤ 1000) (hn : rightV hs = true → ∀ h ∈ hs, natH h) :
    Calls Try.prog 28 #[.slice a hs.length c] w (fun e w' => Ext no w w' ∧ ((rightV hs = false ∧ e = .returned (.tuple #[.slice none 0 0, .int .i64 1])) ∨ (rightV hs = true ∧ ∃ a' c', e = .returned (.tuple #[.slice a' (vecL hs).length c', .int .i64 0]) ∧ OwnB w.heap.size w' a' c' (vecL hs)))) := by
  refine (vBytes.ok _ _ _ (R := fun v w' => Ext no w w' ∧ ((rightV hs = false ∧ v = .tuple #[.slice none 0 0, .int .i64 1]) ∨ (rightV hs = true ∧ ∃ a' c', v = .tuple #[.slice a' (vecL hs).length c', .int .i64 0] ∧ OwnB w.heap.size w' a' c' (vecL hs)))) ?_).mono fun e w' ⟨v, he, hx, hv⟩ => ⟨hx, hv.imp (fun ⟨h1, h2⟩ => ⟨h1, by rw [he, h2]⟩) (fun ⟨h1, a', c', h2, h3⟩ => ⟨h1, a', c', by rw [he, h2], h3⟩)⟩
  unfold vBytes.M
  refine (Q1r hr (by omega)).mono fun e w4 ⟨he, x4⟩ => ⟨_, he, ?_⟩
  by_cases hright : rightV hs = true
  · rw [hright, Bool.not_true, cond_false]
    have hnat := hn hright
    rw [wu64 (n := (hs.length : Int)) (by omega) (by omega)]
    refine (W.Num_spec (bs := []) (n := hs.length) (RowAt.nil _ none) (by decide) (by omega)).mono fun e w7 ⟨a7, c7, he, ho7, x7'⟩ => ⟨a7, _, c7, he, ?_⟩
    rw [List.nil_append] at ho7 ⊢
    have x7 := x4.trans x7'
    refine ⟨fun k vs w1 => ∃ (t : Nat) (a1 : Option Addr) (c1 : Nat), vs = [.slice a1 (numL hs.length ++ (hs.take t).flatMap hdL).length c1, .int .i64 t] ∧ k + t = hs.length ∧ OwnB w.heap.size w1 a1 c1 (numL hs.length ++ (hs.take t).flatMap hdL) ∧ Ext no w w1, hs.length,
      ⟨0, a7, c7, by simp, rfl, by simpa using OwnB.mono ho7 x4.size, x7⟩, ?_⟩
    rintro k w12 b0 n0 c0 i ⟨t, a1, c1, hvs, hk, ho, hx⟩
    simp only [List.cons.injEq, Value.int.injEq, Value.slice.injEq, true_and, and_true] at hvs
    obtain ⟨⟨rfl, rfl, rfl⟩, rfl⟩ := hvs
    cases k with
    | zero =>
      obtain rfl : t = hs.length := by omega
      rw [show decide ((hs.length : Int) < (hs.length : Int)) = false by simp, cond_false]
      rw [List.take_length] at ho ⊢
      exact ⟨hx, .inr ⟨rfl, _, _, rfl, ho⟩⟩
    | succ k =>
      have ht : t < hs.length := by omega
      rw [show decide ((t : Int) < (hs.length : Int)) = true by simp; omega, cond_true]
      have hr1 := hr.no hx
      obtain ⟨ad, rfl⟩ := hr1.addr (hsC_ne (by intro e; subst e; simp at ht))
      have hgi : hs[t]? = some hs[t] := List.getElem?_eq_getElem ht
      obtain ⟨m1, m2, m3, m4, m5, m6⟩ := hnat hs[t] (List.getElem_mem ht)
      refine ⟨by omega, by omega, _, _, _, by rw [Int.toNat_natCast]; exact hs_at hr1 hgi, Q00 fun w17 h17 => ?_⟩
      have hb17 : Blk w17 w12.heap.size 66 [.int .i64 0, .int .i64 0, .int .u64 0] := by subst h17; exact Blk.new _ _ _
      have x17 : Ext no w12 w17 := by subst h17; exact (Ext.refl _ _).alloc _
      refine ⟨hb17.cana (i := 0) rfl, Q00 fun w18 h18 => ?_⟩
      have hb18 := hb17.seta 0 (.int .i64 hs[t].1)
      rw [← h18] at hb18
      have x18 : Ext no w12 w18 := by subst h18; exact x17.setCell (.inr (by rw [add_zero]; exact Nat.le_refl _)) _
      refine ⟨hb18.cana (i := 1) rfl, Q00 fun w19 h19 => ?_⟩
      have hb19 := hb18.seta 1 (.int .i64 hs[t].2.1)
      rw [← h19] at hb19
      have x19 : Ext no w12 w19 := by subst h19; exact x18.setCell (.inr (by rw [add_blk]; exact Nat.le_refl _)) _
      refine ⟨hb19.cana (i := 2) rfl, Q00 fun w20 h20 => ?_⟩
      have hb20 := hb19.seta 2 (.int .u64 hs[t].2.2)
      rw [← h20] at hb20
      have x20 : Ext no w12 w20 := by subst h20; exact x19.setCell (.inr (by rw [add_blk]; exact Nat.le_refl _)) _
      refine ⟨_, hb20.cella (i := 0) rfl, _, hb20.cella (i := 1) rfl, _, hb20.cella (i := 2) rfl, ?_⟩
      -- the three numbers
      have hlen : (numL hs.length ++ (hs.take t).flatMap hdL).length ≤ 10 + 30 * 1000 := by
        have h1 := numL_le hs.length
        have h2 := hdsL_le (hs.take t)
        rw [List.length_take] at h2
        rw [List.length_append]; omega
      have n1 := numL_le hs[t].1.toNat; have n2 := numL_le hs[t].2.1.toNat; have n3 := numL_le hs[t].2.2.toNat
      rw [wu64 m1 m2, wu64 m3 m4]
      generalize hbase : numL hs.length ++ (hs.take t).flatMap hdL = base at *
      have part : ∀ j : Nat, j ≤ 3 → ((([numL hs[t].1.toNat, numL hs[t].2.1.toNat, numL hs[t].2.2.toNat] : List (List UInt8)).take j).flatten).length ≤ 30 := fun j hj => by
        match j, hj with
        | 0, _ => simp
        | 1, _ => simp; omega
        | 2, _ => simp; omega
        | 3, _ => simp; omega
      refine ⟨fun k2 vs w1 => ∃ (j : Nat) (a2 : Option Addr) (c2 : Nat), vs = [.slice a2 (base ++ (([numL hs[t].1.toNat, numL hs[t].2.1.toNat, numL hs[t].2.2.toNat] : List (List UInt8)).take j).flatten).length c2, .int .i64 j] ∧ k2 + j = 3 ∧ OwnB w.heap.size w1 a2 c2 (base ++ (([numL hs[t].1.toNat, numL hs[t].2.1.toNat, numL hs[t].2.2.toNat] : List (List UInt8)).take j).flatten) ∧ Ext no w w1, 3,
        ⟨0, b0, c0, by simp, rfl, by simpa using ho.no x20, hx.trans x20⟩, ?_⟩
      rintro k2 w28 b2 l2 c2 i2 ⟨j, a2', c2', hvs, hk2, ho2, hx2⟩
      simp only [List.cons.injEq, Value.int.injEq, Value.slice.injEq, true_and, and_true] at hvs
      obtain ⟨⟨rfl, rfl, rfl⟩, rfl⟩ := hvs
      cases k2 with
      | zero =>
        obtain rfl : j = 3 := by omega
        rw [show decide (((3 : Nat) : Int) < 3) = false from rfl, cond_false]
        have hnx : base ++ (([numL hs[t].1.toNat, numL hs[t].2.1.toNat, numL hs[t].2.2.toNat] : List (List UInt8)).take 3).flatten = numL hs.length ++ (hs.take (t + 1)).flatMap hdL := by
          rw [← hbase, List.take_add_one (l := hs) (i := t), hgi, Option.toList_some, List.flatMap_append]
          show (numL hs.length ++ (hs.take t).flatMap hdL) ++ (numL hs[t].1.toNat ++ (numL hs[t].2.1.toNat ++ (numL hs[t].2.2.toNat ++ []))) = numL hs.length ++ ((hs.take t).flatMap hdL ++ (hdL hs[t] ++ []))
          simp only [hdL, List.append_nil, List.append_assoc]
        rw [hnx] at ho2 ⊢
        exact ⟨k, by omega, t + 1, _, _, by rw [w64 (by omega) (by omega)]; rfl, by omega, ho2, hx2⟩
      | succ k2 =>
        have hj : j < 3 := by omega
        rw [show decide ((j : Int) < 3) = true by simp; omega, cond_true]
        refine ⟨by omega, by omega, ?_⟩
        have hp := part j (by omega)
        -- one number more
        have step : ∀ (n : Nat), n < 18446744073709551616 → (([numL hs[t].1.toNat, numL hs[t].2.1.toNat, numL hs[t].2.2.toNat] : List (List UInt8))[j]? = some (numL n)) → ∀ x : Int, x = (n : Int) →
            Calls Try.prog 26 #[.slice b2 (base ++ (([numL hs[t].1.toNat, numL hs[t].2.1.toNat, numL hs[t].2.2.toNat] : List (List UInt8)).take j).flatten).length c2, .int .u64 x] w28 (fun ee31 ww32 => ∃ (num30a : Option Addr) (num30n num30c : Nat), ee31 = .returned (.slice num30a num30n num30c) ∧
              ∃ m33, m33 < k2 + 1 ∧ ∃ (j' : Nat) (a2 : Option Addr) (c2 : Nat), [Value.slice num30a num30n num30c, .int .i64 (IntKind.i64.wrap ((j : Int) + 1))] = [.slice a2 (base ++ (([numL hs[t].1.toNat, numL hs[t].2.1.toNat, numL hs[t].2.2.toNat] : List (List UInt8)).take j').flatten).length c2, .int .i64 j'] ∧ m33 + j' = 3 ∧ OwnB w.heap.size ww32 a2 c2 (base ++ (([numL hs[t].1.toNat, numL hs[t].2.1.toNat, numL hs[t].2.2.toNat] : List (List UInt8)).take j').flatten) ∧ Ext no w ww32) := fun n hn64 hj2 x hx' => by
          subst hx'
          refine (W.Num_spec (c := c2) ho2.row (by rw [List.length_append]; omega) hn64).mono fun e w32 ⟨a3, c3, he, ho3, x3⟩ => ⟨a3, _, c3, he, k2, by omega, j + 1, a3, c3, ?_, by omega, ?_, hx2.trans x3⟩
          · rw [w64 (by omega) (by omega), List.take_add_one, hj2]
            simp [List.append_assoc]
          · rw [List.take_add_one, hj2]
            have := OwnB.mono ho3 hx2.size
            simpa [List.append_assoc] using this
        refine ⟨fun h => ?_, fun h => ?_, fun h => ?_, trivial⟩
        · obtain rfl : j = 0 := by omega
          exact step hs[t].1.toNat (by omega) rfl hs[t].1 (by omega)
        · obtain rfl : j = 1 := by omega
          exact step hs[t].2.1.toNat (by omega) rfl hs[t].2.1 (by omega)
        · obtain rfl : j = 2 := by omega
          exact step hs[t].2.2.toNat (by omega) rfl hs[t].2.2 (by omega)
  · rw [show rightV hs = false by simpa using hright, Bool.not_false, cond_true]
    exact ⟨x4, .inl ⟨rfl, rfl⟩⟩

/-! ### reading -/
def readF : Nat → List Hd → List UInt8 × Int → List Hd × (List UInt8 × Int)
  | 0, hs, s => (hs, s)
  | n + 1, hs, s =>
    readF n (hs ++ [(((countR 7 s).1 : Int), (((countR 200 (countR 7 s).2).1 : Int), ((numR (countR 200 (countR 7 s).2).2).1 : Int)))]) (numR (countR 200 (countR 7 s).2).2).2
def readAll (b : List UInt8) : List Hd × (List UInt8 × Int) := readF (countR 8 (b, 0)).1 [] (countR 8 (b, 0)).2
def readV (b : List UInt8) : List Hd × Int :=
  if doneR (readAll b).2 ≠ 0 then ([], doneR (readAll b).2) else if rightV (readAll b).1 then ((readAll b).1, 0) else ([], 4)

structure OwnH (N : Nat) (w : World) (a : Option Addr) (c : Nat) (hs : List Hd) : Prop where
  own : w.ownsRow 0 66 3 (.slice a hs.length c) hs.length (hsC hs)
  fr : ∀ ad, a = some ad → N ≤ ad.block ∧ ad.block < w.heap.size
theorem OwnH.row {N : Nat} (h : OwnH N w a c hs) : RowAt w a (hsC hs) := by
  obtain ⟨_, _, hv, hr⟩ := RowAt.of_owns h.own
  cases hv; exact hr
theorem OwnH.ext {N : Nat} {m : Nat → Prop} (h : OwnH N w a c hs) (k : Ext m w w') (hm : ∀ ad, a = some ad → ¬ m ad.block) : OwnH N w' a c hs :=
  ⟨Q3i h.own k fun q hq => by
    cases a with
    | none => simp [Value.ownBlock] at hq
    | some ad => simp only [Value.ownBlock, Option.some.injEq] at hq; subst hq; exact hm ad rfl, fun ad ha => ⟨(h.fr ad ha).1, Nat.lt_of_lt_of_le (h.fr ad ha).2 k.size⟩⟩
theorem OwnH.push {N : Nat} {ty : TypeId} (hty : Try.prog.underlying ty = some (.slice 66)) (h : OwnH N w a c hs) (hN : N ≤ w.heap.size) (hl : hs.length ≤ 1000000) {xa : Option Addr} {x : Hd} (hx : RowAt w xa (hdC x)) :
    ∃ a' c' w', (Builtin.append_ #[ty, ty] ty #[.slice a hs.length c, .slice xa 1 1]).run Try.prog w = .ok (.slice a' (hs.length + 1) c') w' ∧ OwnH N w' a' c' (hs ++ [x]) ∧ Ext (fun b => N ≤ b ∧ ∀ ad, a = some ad → b = ad.block ∨ w.heap.size ≤ b) w w' ∧ (∀ ad, a' = some ad → (∃ b, a = some b ∧ ad.block = b.block) ∨ w.heap.size ≤ ad.block) := by
  obtain ⟨i, hi, hz, hs', hby⟩ := info_of infHead
  obtain ⟨a', c', w2, hr, ho, hg, hb⟩ := Q0Z (ty := ty) hty hi hz hs' hby rfl (by decide) h.own (xa := xa) (m := 1) (c := 1) rfl hx (fun u hu => by
    simp only [hdC, List.mem_cons, List.not_mem_nil, or_false] at hu
    rcases hu with rfl | rfl | rfl <;> rfl) (by omega) (by omega)
  have hrow : ∀ q, (Value.slice a hs.length c).ownBlock = some q → N ≤ q ∧ ∀ ad, a = some ad → q = ad.block := fun q hq => by
    cases a with
    | none => simp [Value.ownBlock] at hq
    | some ad => simp only [Value.ownBlock, Option.some.injEq] at hq; subst hq; exact ⟨(h.fr ad rfl).1, fun ad' ha' => by cases ha'; rfl⟩
  refine ⟨a', c', w2, hr, ⟨?_, fun ad ha => ⟨?_, (Q0Q ho).2 ad ha⟩⟩, Ext.of_grown hg fun q hq => .inl ⟨(hrow q hq).1, fun ad ha => .inl ((hrow q hq).2 ad ha)⟩, fun ad ha => ?_⟩
  · rw [List.length_append, show hsC (hs ++ [x]) = hsC hs ++ hdC x by simp [hsC]]; exact ho
  · subst ha
    rcases hb with hq | hq
    · exact (hrow _ hq.symm).1
    · simp only [Value.ownBlock, Option.some.injEq] at hq; omega
  · subst ha
    rcases hb with hq | hq
    · cases a with
      | none => simp [Value.ownBlock] at hq
      | some b => exact .inl ⟨b, rfl, by simpa [Value.ownBlock] using hq⟩
    · simp only [Value.ownBlock, Option.some.injEq] at hq; exact .inr (by omega)
end
end Go.Proofs.Ytoempemllkebkaa