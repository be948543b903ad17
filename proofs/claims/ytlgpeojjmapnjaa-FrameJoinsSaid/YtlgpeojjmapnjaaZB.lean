/- The reference's numbers, bytes and reader; bytes held beside each other. -/
import Derived.Test.YtlgpeojjmapnjaaZA
import Derived.Test.YtlgpeojjmapnjaaProg
import Derived.KernelRfl
import Derived.Laws.StructEq
set_option linter.unusedVariables false
set_option linter.unusedSimpArgs false
set_option maxRecDepth 20000
namespace Go.Proofs.Ytlgpeojjmapnjaa.W
open Go Go.Mx Go.Proofs
def wSame.M (a6 : Option Addr) (a1 ab : Nat) (a7 : Option Addr) (a4 aa : Nat) (R : RW) (w : World) : Prop :=
 bif (a1 : Int) != (a4 : Int) then (
 R (.bool false) w) else (
 ∃ (I0 : Nat → List Value → World → Prop) (m4 : Nat), I0 m4 [.int .i64 0] w ∧ ∀ (m5 : Nat) (a2 : World) (i3 : Int), I0 m5 [.int .i64 i3] a2 →
 bif decide (i3 < (a1 : Int)) then (
 thenW (a2.drew) fun a0 =>
 a6.elim False fun a8 =>
 0 ≤ (i3 : Int) ∧ (i3 : Int) < (a1 : Int) ∧
 ∃ (x9 : Int), a0.cell? (a8.add (Int.toNat i3 * 1)) = some (.int .u8 x9) ∧
 a7.elim False fun a9 =>
 0 ≤ (i3 : Int) ∧ (i3 : Int) < (a4 : Int) ∧
 ∃ (a3 : Int), a0.cell? (a9.add (Int.toNat i3 * 1)) = some (.int .u8 a3) ∧
 bif x9 != a3 then (
 R (.bool false) a0) else (
 ∃ a5, a5 < m5 ∧ I0 a5 [.int .i64 (IntKind.i64.wrap (i3 + 1))] a0)) else (
 R (.bool true) a2))

theorem wSame.eq (a1a : Option Addr) (a1n a1c : Nat) (b2a : Option Addr) (b2n b2c : Nat) (R : RW) (w : World) : mfunc Try.prog [(0, [0, 1], [(5, (.one (.int .i64)))])] 14 [.slice a1a a1n a1c, .slice b2a b2n b2c] R w = wSame.M a1a a1n a1c b2a b2n b2c R w := by kernel_rfl
theorem wSame.ok (a0 : Option Addr) (a3 a5 : Nat) (a2 : Option Addr) (a1 a4 : Nat) {R : RW} {w : World} (h : wSame.M a0 a3 a5 a2 a1 a4 R w) : Calls Try.prog 14 #[.slice a0 a3 a5, .slice a2 a1 a4] w fun e w' => ∃ v, e = .returned v ∧ R v w' :=
  Q09 follows (H := [(0, [0, 1], [(5, (.one (.int .i64)))])]) (args := [.slice a0 a3 a5, .slice a2 a1 a4]) (by rw [wSame.eq]; exact h)

def rNum.M (n1 : Int) (R : RW) (w : World) : Prop :=
 bif decide (n1 < 128) then (
 thenW (w.alloc (.cells #[.int .u8 (IntKind.u8.wrap n1)] 5)) fun aa =>
 R (.slice (some (blk w.heap.size)) 1 1) aa) else (
 128 ≠ (0 : Int) ∧ thenW (w.alloc (.cells #[.int .u8 (IntKind.u8.wrap ((IntKind.u8.wrap (Int.tmod n1 128)) + 128))] 5)) fun a7 =>
 128 ≠ (0 : Int) ∧ Calls Try.prog 39 #[.int .u64 (IntKind.u64.wrap (Int.tdiv n1 128))] a7 fun a8 a9 => ∃ (a0 : Option Addr) (a1 a2 : Nat), a8 = .returned (.slice a0 a1 a2) ∧
 ∃ (a5 : Option Addr) (a4 a6 : Nat) (a3 : World), (Builtin.append_ #[25, 25] 25 #[.slice (some (blk w.heap.size)) 1 1, .slice a0 a1 a2]).run Try.prog a9 = .ok (.slice a5 a4 a6) a3 ∧
 R (.slice a5 a4 a6) a3)

theorem rNum.eq (n1 : Int) (R : RW) (w : World) : mfunc Try.prog [] 39 [.int .u64 n1] R w = rNum.M n1 R w := by kernel_rfl
theorem rNum.ok (n1 : Int) {R : RW} {w : World} (h : rNum.M n1 R w) : Calls Try.prog 39 #[.int .u64 n1] w fun e w' => ∃ v, e = .returned v ∧ R v w' :=
  Q09 follows (H := []) (args := [.int .u64 n1]) (by rw [rNum.eq]; exact h)

def rRNum.M (r1 : Option Addr) (R : RW) (w : World) : Prop :=
 r1.elim False fun a2 =>
 ∃ (j1 : Int), w.cell? (a2.add 1) = some (.int .i64 j1) ∧
 bif j1 != 0 then (
 R (.int .u64 0) w) else (
 ∃ (I0 : Nat → List Value → World → Prop) (m5 : Nat), I0 m5 [.int .i64 0] w ∧ ∀ (m6 : Nat) (a0 : World) (n4 : Int), I0 m6 [.int .i64 n4] a0 →
 r1.elim False fun a8 =>
 ∃ (jx : Option Addr) (jg k7 : Nat), a0.cell? (a8.add 0) = some (.slice jx jg k7) ∧
 bif decide (n4 < (jg : Int)) then (
 bif decide (n4 < 10) then (
 r1.elim False fun k2 =>
 ∃ (ee : Option Addr) (f1 g8 : Nat), a0.cell? (k2.add 0) = some (.slice ee f1 g8) ∧
 ee.elim False fun jr =>
 0 ≤ (n4 : Int) ∧ (n4 : Int) < (f1 : Int) ∧
 ∃ (ja : Int), a0.cell? (jr.add (Int.toNat n4 * 1)) = some (.int .u8 ja) ∧
 bif decide (ja ≥ 128) then (
 ∃ j2, j2 < m6 ∧ I0 j2 [.int .i64 (IntKind.i64.wrap (n4 + 1))] a0) else (
 r1.elim False fun k5 =>
 ∃ (g3 : Option Addr) (eo fr : Nat), a0.cell? (k5.add 0) = some (.slice g3 eo fr) ∧
 bif decide (n4 ≥ (eo : Int)) then (
 Calls Try.prog 69 #[.pointer r1, .int .i64 4] a0 fun i5 iq => i5 = .returned (.tuple #[]) ∧
 R (.int .u64 0) iq) else (
 bif decide (n4 ≥ 10) then (
 Calls Try.prog 69 #[.pointer r1, .int .i64 4] a0 fun ij gp => ij = .returned (.tuple #[]) ∧
 R (.int .u64 0) gp) else (
 bif n4 == 9 then (
 r1.elim False fun k8 =>
 ∃ (e5 : Option Addr) (dt il : Nat), a0.cell? (k8.add 0) = some (.slice e5 dt il) ∧
 e5.elim False fun k6 =>
 0 ≤ (n4 : Int) ∧ (n4 : Int) < (dt : Int) ∧
 ∃ (iz : Int), a0.cell? (k6.add (Int.toNat n4 * 1)) = some (.int .u8 iz) ∧
 bif iz != 1 then (
 Calls Try.prog 69 #[.pointer r1, .int .i64 4] a0 fun gd gk => gd = .returned (.tuple #[]) ∧
 R (.int .u64 0) gk) else (
 bif decide (n4 > 0) then (
 r1.elim False fun jw =>
 ∃ (e2 : Option Addr) (dg g4 : Nat), a0.cell? (jw.add 0) = some (.slice e2 dg g4) ∧
 e2.elim False fun k3 =>
 0 ≤ (n4 : Int) ∧ (n4 : Int) < (dg : Int) ∧
 ∃ (je : Int), a0.cell? (k3.add (Int.toNat n4 * 1)) = some (.int .u8 je) ∧
 bif je == 0 then (
 Calls Try.prog 69 #[.pointer r1, .int .i64 4] a0 fun ft fw => ft = .returned (.tuple #[]) ∧
 R (.int .u64 0) fw) else (
 ∃ (I2 : Nat → List Value → World → Prop) (ka : Nat), I2 ka [.int .u64 0, .int .i64 n4] a0 ∧ ∀ (ji : Nat) (ap : World) (an cv : Int), I2 ji [.int .u64 an, .int .i64 cv] ap →
 bif decide (cv ≥ 0) then (
 r1.elim False fun js =>
 ∃ (er : Option Addr) (eu ir : Nat), ap.cell? (js.add 0) = some (.slice er eu ir) ∧
 er.elim False fun jv =>
 0 ≤ (cv : Int) ∧ (cv : Int) < (eu : Int) ∧
 ∃ (jj : Int), ap.cell? (jv.add (Int.toNat cv * 1)) = some (.int .u8 jj) ∧
 128 ≠ (0 : Int) ∧ ∃ j3, j3 < ji ∧ I2 j3 [.int .u64 (IntKind.u64.wrap ((IntKind.u64.wrap (an * 128)) + (IntKind.u64.wrap (Int.tmod jj 128)))), .int .i64 (IntKind.i64.wrap (cv - 1))] ap) else (
 r1.elim False fun jy =>
 ∃ (cs : Option Addr) (cu co : Nat), ap.cell? (jy.add 0) = some (.slice cs cu co) ∧
 (0 : Int) ≤ ((IntKind.i64.wrap (n4 + 1)) : Int) ∧ ((IntKind.i64.wrap (n4 + 1)) : Int) ≤ (cu : Int) ∧
 r1.elim False fun j5 =>
 Q01 ap ((j5.add 0).add 0) ∧
 thenW (ap.setCell ((j5.add 0).add 0) (.slice (if co = Int.toNat (IntKind.i64.wrap (n4 + 1)) then cs else Option.map (fun z : Addr => z.add ((Int.toNat (IntKind.i64.wrap (n4 + 1))) * 1)) cs) (cu - (Int.toNat (IntKind.i64.wrap (n4 + 1)))) (co - (Int.toNat (IntKind.i64.wrap (n4 + 1)))))) fun ip =>
 R (.int .u64 an) ip))) else (
 ∃ (I2 : Nat → List Value → World → Prop) (jq : Nat), I2 jq [.int .u64 0, .int .i64 n4] a0 ∧ ∀ (j7 : Nat) (ao : World) (am cw : Int), I2 j7 [.int .u64 am, .int .i64 cw] ao →
 bif decide (cw ≥ 0) then (
 r1.elim False fun k1 =>
 ∃ (fo : Option Addr) (dm g5 : Nat), ao.cell? (k1.add 0) = some (.slice fo dm g5) ∧
 fo.elim False fun k9 =>
 0 ≤ (cw : Int) ∧ (cw : Int) < (dm : Int) ∧
 ∃ (j9 : Int), ao.cell? (k9.add (Int.toNat cw * 1)) = some (.int .u8 j9) ∧
 128 ≠ (0 : Int) ∧ ∃ jh, jh < j7 ∧ I2 jh [.int .u64 (IntKind.u64.wrap ((IntKind.u64.wrap (am * 128)) + (IntKind.u64.wrap (Int.tmod j9 128)))), .int .i64 (IntKind.i64.wrap (cw - 1))] ao) else (
 r1.elim False fun jo =>
 ∃ (cr : Option Addr) (cm cn : Nat), ao.cell? (jo.add 0) = some (.slice cr cm cn) ∧
 (0 : Int) ≤ ((IntKind.i64.wrap (n4 + 1)) : Int) ∧ ((IntKind.i64.wrap (n4 + 1)) : Int) ≤ (cm : Int) ∧
 r1.elim False fun jd =>
 Q01 ao ((jd.add 0).add 0) ∧
 thenW (ao.setCell ((jd.add 0).add 0) (.slice (if cn = Int.toNat (IntKind.i64.wrap (n4 + 1)) then cr else Option.map (fun z : Addr => z.add ((Int.toNat (IntKind.i64.wrap (n4 + 1))) * 1)) cr) (cm - (Int.toNat (IntKind.i64.wrap (n4 + 1)))) (cn - (Int.toNat (IntKind.i64.wrap (n4 + 1)))))) fun g2 =>
 R (.int .u64 am) g2)))) else (
 bif decide (n4 > 0) then (
 r1.elim False fun jm =>
 ∃ (f0 : Option Addr) (d5 gz : Nat), a0.cell? (jm.add 0) = some (.slice f0 d5 gz) ∧
 f0.elim False fun jt =>
 0 ≤ (n4 : Int) ∧ (n4 : Int) < (d5 : Int) ∧
 ∃ (j0 : Int), a0.cell? (jt.add (Int.toNat n4 * 1)) = some (.int .u8 j0) ∧
 bif j0 == 0 then (
 Calls Try.prog 69 #[.pointer r1, .int .i64 4] a0 fun gt gn => gt = .returned (.tuple #[]) ∧
 R (.int .u64 0) gn) else (
 ∃ (I2 : Nat → List Value → World → Prop) (kb : Nat), I2 kb [.int .u64 0, .int .i64 n4] a0 ∧ ∀ (j8 : Nat) (aq : World) (ak cx : Int), I2 j8 [.int .u64 ak, .int .i64 cx] aq →
 bif decide (cx ≥ 0) then (
 r1.elim False fun k4 =>
 ∃ (f9 : Option Addr) (dh io : Nat), aq.cell? (k4.add 0) = some (.slice f9 dh io) ∧
 f9.elim False fun ju =>
 0 ≤ (cx : Int) ∧ (cx : Int) < (dh : Int) ∧
 ∃ (ix : Int), aq.cell? (ju.add (Int.toNat cx * 1)) = some (.int .u8 ix) ∧
 128 ≠ (0 : Int) ∧ ∃ jb, jb < j8 ∧ I2 jb [.int .u64 (IntKind.u64.wrap ((IntKind.u64.wrap (ak * 128)) + (IntKind.u64.wrap (Int.tmod ix 128)))), .int .i64 (IntKind.i64.wrap (cx - 1))] aq) else (
 r1.elim False fun jl =>
 ∃ (ct : Option Addr) (ck cp : Nat), aq.cell? (jl.add 0) = some (.slice ct ck cp) ∧
 (0 : Int) ≤ ((IntKind.i64.wrap (n4 + 1)) : Int) ∧ ((IntKind.i64.wrap (n4 + 1)) : Int) ≤ (ck : Int) ∧
 r1.elim False fun j6 =>
 Q01 aq ((j6.add 0).add 0) ∧
 thenW (aq.setCell ((j6.add 0).add 0) (.slice (if cp = Int.toNat (IntKind.i64.wrap (n4 + 1)) then ct else Option.map (fun z : Addr => z.add ((Int.toNat (IntKind.i64.wrap (n4 + 1))) * 1)) ct) (ck - (Int.toNat (IntKind.i64.wrap (n4 + 1)))) (cp - (Int.toNat (IntKind.i64.wrap (n4 + 1)))))) fun i9 =>
 R (.int .u64 ak) i9))) else (
 ∃ (I2 : Nat → List Value → World → Prop) (jk : Nat), I2 jk [.int .u64 0, .int .i64 n4] a0 ∧ ∀ (j4 : Nat) (al : World) (aj cy : Int), I2 j4 [.int .u64 aj, .int .i64 cy] al →
 bif decide (cy ≥ 0) then (
 r1.elim False fun jz =>
 ∃ (dz : Option Addr) (e0 g9 : Nat), al.cell? (jz.add 0) = some (.slice dz e0 g9) ∧
 dz.elim False fun k0 =>
 0 ≤ (cy : Int) ∧ (cy : Int) < (e0 : Int) ∧
 ∃ (iy : Int), al.cell? (k0.add (Int.toNat cy * 1)) = some (.int .u8 iy) ∧
 128 ≠ (0 : Int) ∧ ∃ jc, jc < j4 ∧ I2 jc [.int .u64 (IntKind.u64.wrap ((IntKind.u64.wrap (aj * 128)) + (IntKind.u64.wrap (Int.tmod iy 128)))), .int .i64 (IntKind.i64.wrap (cy - 1))] al) else (
 r1.elim False fun jp =>
 ∃ (cl : Option Addr) (cq cj : Nat), al.cell? (jp.add 0) = some (.slice cl cq cj) ∧
 (0 : Int) ≤ ((IntKind.i64.wrap (n4 + 1)) : Int) ∧ ((IntKind.i64.wrap (n4 + 1)) : Int) ≤ (cq : Int) ∧
 r1.elim False fun jf =>
 Q01 al ((jf.add 0).add 0) ∧
 thenW (al.setCell ((jf.add 0).add 0) (.slice (if cj = Int.toNat (IntKind.i64.wrap (n4 + 1)) then cl else Option.map (fun z : Addr => z.add ((Int.toNat (IntKind.i64.wrap (n4 + 1))) * 1)) cl) (cq - (Int.toNat (IntKind.i64.wrap (n4 + 1)))) (cj - (Int.toNat (IntKind.i64.wrap (n4 + 1)))))) fun gc =>
 R (.int .u64 aj) gc))))))) else (
 r1.elim False fun jn =>
 ∃ (fx : Option Addr) (di gw : Nat), a0.cell? (jn.add 0) = some (.slice fx di gw) ∧
 bif decide (n4 ≥ (di : Int)) then (
 Calls Try.prog 69 #[.pointer r1, .int .i64 4] a0 fun gx fz => gx = .returned (.tuple #[]) ∧
 R (.int .u64 0) fz) else (
 bif decide (n4 ≥ 10) then (
 Calls Try.prog 69 #[.pointer r1, .int .i64 4] a0 fun i8 f4 => i8 = .returned (.tuple #[]) ∧
 R (.int .u64 0) f4) else (
 bif n4 == 9 then (
 r1.elim False fun fy =>
 ∃ (ce : Option Addr) (bz dp : Nat), a0.cell? (fy.add 0) = some (.slice ce bz dp) ∧
 ce.elim False fun gg =>
 0 ≤ (n4 : Int) ∧ (n4 : Int) < (bz : Int) ∧
 ∃ (f2 : Int), a0.cell? (gg.add (Int.toNat n4 * 1)) = some (.int .u8 f2) ∧
 bif f2 != 1 then (
 Calls Try.prog 69 #[.pointer r1, .int .i64 4] a0 fun ei e3 => ei = .returned (.tuple #[]) ∧
 R (.int .u64 0) e3) else (
 bif decide (n4 > 0) then (
 r1.elim False fun fq =>
 ∃ (ch : Option Addr) (c2 dn : Nat), a0.cell? (fq.add 0) = some (.slice ch c2 dn) ∧
 ch.elim False fun i1 =>
 0 ≤ (n4 : Int) ∧ (n4 : Int) < (c2 : Int) ∧
 ∃ (fp : Int), a0.cell? (i1.add (Int.toNat n4 * 1)) = some (.int .u8 fp) ∧
 bif fp == 0 then (
 Calls Try.prog 69 #[.pointer r1, .int .i64 4] a0 fun dl dq => dl = .returned (.tuple #[]) ∧
 R (.int .u64 0) dq) else (
 ∃ (I2 : Nat → List Value → World → Prop) (gh : Nat), I2 gh [.int .u64 0, .int .i64 n4] a0 ∧ ∀ (e9 : Nat) (a7 : World) (ad az : Int), I2 e9 [.int .u64 ad, .int .i64 az] a7 →
 bif decide (az ≥ 0) then (
 r1.elim False fun ik =>
 ∃ (bs : Option Addr) (bw dk : Nat), a7.cell? (ik.add 0) = some (.slice bs bw dk) ∧
 bs.elim False fun g1 =>
 0 ≤ (az : Int) ∧ (az : Int) < (bw : Int) ∧
 ∃ (dr : Int), a7.cell? (g1.add (Int.toNat az * 1)) = some (.int .u8 dr) ∧
 128 ≠ (0 : Int) ∧ ∃ ea, ea < e9 ∧ I2 ea [.int .u64 (IntKind.u64.wrap ((IntKind.u64.wrap (ad * 128)) + (IntKind.u64.wrap (Int.tmod dr 128)))), .int .i64 (IntKind.i64.wrap (az - 1))] a7) else (
 r1.elim False fun gf =>
 ∃ (bj : Option Addr) (b9 ba : Nat), a7.cell? (gf.add 0) = some (.slice bj b9 ba) ∧
 (0 : Int) ≤ ((IntKind.i64.wrap (n4 + 1)) : Int) ∧ ((IntKind.i64.wrap (n4 + 1)) : Int) ≤ (b9 : Int) ∧
 r1.elim False fun dc =>
 Q01 a7 ((dc.add 0).add 0) ∧
 thenW (a7.setCell ((dc.add 0).add 0) (.slice (if ba = Int.toNat (IntKind.i64.wrap (n4 + 1)) then bj else Option.map (fun z : Addr => z.add ((Int.toNat (IntKind.i64.wrap (n4 + 1))) * 1)) bj) (b9 - (Int.toNat (IntKind.i64.wrap (n4 + 1)))) (ba - (Int.toNat (IntKind.i64.wrap (n4 + 1)))))) fun d0 =>
 R (.int .u64 ad) d0))) else (
 ∃ (I2 : Nat → List Value → World → Prop) (g6 : Nat), I2 g6 [.int .u64 0, .int .i64 n4] a0 ∧ ∀ (df : Nat) (a6 : World) (ae aw : Int), I2 df [.int .u64 ae, .int .i64 aw] a6 →
 bif decide (aw ≥ 0) then (
 r1.elim False fun ig =>
 ∃ (c7 : Option Addr) (c4 fb : Nat), a6.cell? (ig.add 0) = some (.slice c7 c4 fb) ∧
 c7.elim False fun ic =>
 0 ≤ (aw : Int) ∧ (aw : Int) < (c4 : Int) ∧
 ∃ (ez : Int), a6.cell? (ic.add (Int.toNat aw * 1)) = some (.int .u8 ez) ∧
 128 ≠ (0 : Int) ∧ ∃ dy, dy < df ∧ I2 dy [.int .u64 (IntKind.u64.wrap ((IntKind.u64.wrap (ae * 128)) + (IntKind.u64.wrap (Int.tmod ez 128)))), .int .i64 (IntKind.i64.wrap (aw - 1))] a6) else (
 r1.elim False fun gl =>
 ∃ (bi : Option Addr) (bb bl : Nat), a6.cell? (gl.add 0) = some (.slice bi bb bl) ∧
 (0 : Int) ≤ ((IntKind.i64.wrap (n4 + 1)) : Int) ∧ ((IntKind.i64.wrap (n4 + 1)) : Int) ≤ (bb : Int) ∧
 r1.elim False fun eh =>
 Q01 a6 ((eh.add 0).add 0) ∧
 thenW (a6.setCell ((eh.add 0).add 0) (.slice (if bl = Int.toNat (IntKind.i64.wrap (n4 + 1)) then bi else Option.map (fun z : Addr => z.add ((Int.toNat (IntKind.i64.wrap (n4 + 1))) * 1)) bi) (bb - (Int.toNat (IntKind.i64.wrap (n4 + 1)))) (bl - (Int.toNat (IntKind.i64.wrap (n4 + 1)))))) fun d9 =>
 R (.int .u64 ae) d9)))) else (
 bif decide (n4 > 0) then (
 r1.elim False fun gi =>
 ∃ (bp : Option Addr) (bu ex : Nat), a0.cell? (gi.add 0) = some (.slice bp bu ex) ∧
 bp.elim False fun gs =>
 0 ≤ (n4 : Int) ∧ (n4 : Int) < (bu : Int) ∧
 ∃ (fi : Int), a0.cell? (gs.add (Int.toNat n4 * 1)) = some (.int .u8 fi) ∧
 bif fi == 0 then (
 Calls Try.prog 69 #[.pointer r1, .int .i64 4] a0 fun ec f3 => ec = .returned (.tuple #[]) ∧
 R (.int .u64 0) f3) else (
 ∃ (I2 : Nat → List Value → World → Prop) (fv : Nat), I2 fv [.int .u64 0, .int .i64 n4] a0 ∧ ∀ (d2 : Nat) (a9 : World) (ab ax : Int), I2 d2 [.int .u64 ab, .int .i64 ax] a9 →
 bif decide (ax ≥ 0) then (
 r1.elim False fun i0 =>
 ∃ (c9 : Option Addr) (br ek : Nat), a9.cell? (i0.add 0) = some (.slice c9 br ek) ∧
 c9.elim False fun i6 =>
 0 ≤ (ax : Int) ∧ (ax : Int) < (br : Int) ∧
 ∃ (da : Int), a9.cell? (i6.add (Int.toNat ax * 1)) = some (.int .u8 da) ∧
 128 ≠ (0 : Int) ∧ ∃ ff, ff < d2 ∧ I2 ff [.int .u64 (IntKind.u64.wrap ((IntKind.u64.wrap (ab * 128)) + (IntKind.u64.wrap (Int.tmod da 128)))), .int .i64 (IntKind.i64.wrap (ax - 1))] a9) else (
 r1.elim False fun g7 =>
 ∃ (b5 : Option Addr) (bm bg : Nat), a9.cell? (g7.add 0) = some (.slice b5 bm bg) ∧
 (0 : Int) ≤ ((IntKind.i64.wrap (n4 + 1)) : Int) ∧ ((IntKind.i64.wrap (n4 + 1)) : Int) ≤ (bm : Int) ∧
 r1.elim False fun e7 =>
 Q01 a9 ((e7.add 0).add 0) ∧
 thenW (a9.setCell ((e7.add 0).add 0) (.slice (if bg = Int.toNat (IntKind.i64.wrap (n4 + 1)) then b5 else Option.map (fun z : Addr => z.add ((Int.toNat (IntKind.i64.wrap (n4 + 1))) * 1)) b5) (bm - (Int.toNat (IntKind.i64.wrap (n4 + 1)))) (bg - (Int.toNat (IntKind.i64.wrap (n4 + 1)))))) fun et =>
 R (.int .u64 ab) et))) else (
 ∃ (I2 : Nat → List Value → World → Prop) (g0 : Nat), I2 g0 [.int .u64 0, .int .i64 n4] a0 ∧ ∀ (eq : Nat) (a1 : World) (af b0 : Int), I2 eq [.int .u64 af, .int .i64 b0] a1 →
 bif decide (b0 ≥ 0) then (
 r1.elim False fun fu =>
 ∃ (c0 : Option Addr) (c8 ev : Nat), a1.cell? (fu.add 0) = some (.slice c0 c8 ev) ∧
 c0.elim False fun gv =>
 0 ≤ (b0 : Int) ∧ (b0 : Int) < (c8 : Int) ∧
 ∃ (fd : Int), a1.cell? (gv.add (Int.toNat b0 * 1)) = some (.int .u8 fd) ∧
 128 ≠ (0 : Int) ∧ ∃ fh, fh < eq ∧ I2 fh [.int .u64 (IntKind.u64.wrap ((IntKind.u64.wrap (af * 128)) + (IntKind.u64.wrap (Int.tmod fd 128)))), .int .i64 (IntKind.i64.wrap (b0 - 1))] a1) else (
 r1.elim False fun gm =>
 ∃ (bn : Option Addr) (bk b3 : Nat), a1.cell? (gm.add 0) = some (.slice bn bk b3) ∧
 (0 : Int) ≤ ((IntKind.i64.wrap (n4 + 1)) : Int) ∧ ((IntKind.i64.wrap (n4 + 1)) : Int) ≤ (bk : Int) ∧
 r1.elim False fun ey =>
 Q01 a1 ((ey.add 0).add 0) ∧
 thenW (a1.setCell ((ey.add 0).add 0) (.slice (if b3 = Int.toNat (IntKind.i64.wrap (n4 + 1)) then bn else Option.map (fun z : Addr => z.add ((Int.toNat (IntKind.i64.wrap (n4 + 1))) * 1)) bn) (bk - (Int.toNat (IntKind.i64.wrap (n4 + 1)))) (b3 - (Int.toNat (IntKind.i64.wrap (n4 + 1)))))) fun dv =>
 R (.int .u64 af) dv))))))) else (
 r1.elim False fun gr =>
 ∃ (en : Option Addr) (ci ep : Nat), a0.cell? (gr.add 0) = some (.slice en ci ep) ∧
 bif decide (n4 ≥ (ci : Int)) then (
 Calls Try.prog 69 #[.pointer r1, .int .i64 4] a0 fun fj fg => fj = .returned (.tuple #[]) ∧
 R (.int .u64 0) fg) else (
 bif decide (n4 ≥ 10) then (
 Calls Try.prog 69 #[.pointer r1, .int .i64 4] a0 fun f6 d8 => f6 = .returned (.tuple #[]) ∧
 R (.int .u64 0) d8) else (
 bif n4 == 9 then (
 r1.elim False fun gq =>
 ∃ (c5 : Option Addr) (c6 f5 : Nat), a0.cell? (gq.add 0) = some (.slice c5 c6 f5) ∧
 c5.elim False fun ga =>
 0 ≤ (n4 : Int) ∧ (n4 : Int) < (c6 : Int) ∧
 ∃ (ej : Int), a0.cell? (ga.add (Int.toNat n4 * 1)) = some (.int .u8 ej) ∧
 bif ej != 1 then (
 Calls Try.prog 69 #[.pointer r1, .int .i64 4] a0 fun e4 dd => e4 = .returned (.tuple #[]) ∧
 R (.int .u64 0) dd) else (
 bif decide (n4 > 0) then (
 r1.elim False fun iv =>
 ∃ (cg : Option Addr) (bx fa : Nat), a0.cell? (iv.add 0) = some (.slice cg bx fa) ∧
 cg.elim False fun ih =>
 0 ≤ (n4 : Int) ∧ (n4 : Int) < (bx : Int) ∧
 ∃ (fl : Int), a0.cell? (ih.add (Int.toNat n4 * 1)) = some (.int .u8 fl) ∧
 bif fl == 0 then (
 Calls Try.prog 69 #[.pointer r1, .int .i64 4] a0 fun el cz => el = .returned (.tuple #[]) ∧
 R (.int .u64 0) cz) else (
 ∃ (I2 : Nat → List Value → World → Prop) (ib : Nat), I2 ib [.int .u64 0, .int .i64 n4] a0 ∧ ∀ (d6 : Nat) (a5 : World) (ac av : Int), I2 d6 [.int .u64 ac, .int .i64 av] a5 →
 bif decide (av ≥ 0) then (
 r1.elim False fun iu =>
 ∃ (bt : Option Addr) (c1 fe : Nat), a5.cell? (iu.add 0) = some (.slice bt c1 fe) ∧
 bt.elim False fun i3 =>
 0 ≤ (av : Int) ∧ (av : Int) < (c1 : Int) ∧
 ∃ (d7 : Int), a5.cell? (i3.add (Int.toNat av * 1)) = some (.int .u8 d7) ∧
 128 ≠ (0 : Int) ∧ ∃ dj, dj < d6 ∧ I2 dj [.int .u64 (IntKind.u64.wrap ((IntKind.u64.wrap (ac * 128)) + (IntKind.u64.wrap (Int.tmod d7 128)))), .int .i64 (IntKind.i64.wrap (av - 1))] a5) else (
 r1.elim False fun ia =>
 ∃ (b4 : Option Addr) (b7 bd : Nat), a5.cell? (ia.add 0) = some (.slice b4 b7 bd) ∧
 (0 : Int) ≤ ((IntKind.i64.wrap (n4 + 1)) : Int) ∧ ((IntKind.i64.wrap (n4 + 1)) : Int) ≤ (b7 : Int) ∧
 r1.elim False fun e8 =>
 Q01 a5 ((e8.add 0).add 0) ∧
 thenW (a5.setCell ((e8.add 0).add 0) (.slice (if bd = Int.toNat (IntKind.i64.wrap (n4 + 1)) then b4 else Option.map (fun z : Addr => z.add ((Int.toNat (IntKind.i64.wrap (n4 + 1))) * 1)) b4) (b7 - (Int.toNat (IntKind.i64.wrap (n4 + 1)))) (bd - (Int.toNat (IntKind.i64.wrap (n4 + 1)))))) fun eg =>
 R (.int .u64 ac) eg))) else (
 ∃ (I2 : Nat → List Value → World → Prop) (iw : Nat), I2 iw [.int .u64 0, .int .i64 n4] a0 ∧ ∀ (eb : Nat) (aa : World) (ai ay : Int), I2 eb [.int .u64 ai, .int .i64 ay] aa →
 bif decide (ay ≥ 0) then (
 r1.elim False fun gy =>
 ∃ (bv : Option Addr) (bq fm : Nat), aa.cell? (gy.add 0) = some (.slice bv bq fm) ∧
 bv.elim False fun i4 =>
 0 ≤ (ay : Int) ∧ (ay : Int) < (bq : Int) ∧
 ∃ (f8 : Int), aa.cell? (i4.add (Int.toNat ay * 1)) = some (.int .u8 f8) ∧
 128 ≠ (0 : Int) ∧ ∃ fc, fc < eb ∧ I2 fc [.int .u64 (IntKind.u64.wrap ((IntKind.u64.wrap (ai * 128)) + (IntKind.u64.wrap (Int.tmod f8 128)))), .int .i64 (IntKind.i64.wrap (ay - 1))] aa) else (
 r1.elim False fun ii =>
 ∃ (bh : Option Addr) (b6 be : Nat), aa.cell? (ii.add 0) = some (.slice bh b6 be) ∧
 (0 : Int) ≤ ((IntKind.i64.wrap (n4 + 1)) : Int) ∧ ((IntKind.i64.wrap (n4 + 1)) : Int) ≤ (b6 : Int) ∧
 r1.elim False fun em =>
 Q01 aa ((em.add 0).add 0) ∧
 thenW (aa.setCell ((em.add 0).add 0) (.slice (if be = Int.toNat (IntKind.i64.wrap (n4 + 1)) then bh else Option.map (fun z : Addr => z.add ((Int.toNat (IntKind.i64.wrap (n4 + 1))) * 1)) bh) (b6 - (Int.toNat (IntKind.i64.wrap (n4 + 1)))) (be - (Int.toNat (IntKind.i64.wrap (n4 + 1)))))) fun d4 =>
 R (.int .u64 ai) d4)))) else (
 bif decide (n4 > 0) then (
 r1.elim False fun ge =>
 ∃ (ca : Option Addr) (cb e1 : Nat), a0.cell? (ge.add 0) = some (.slice ca cb e1) ∧
 ca.elim False fun i7 =>
 0 ≤ (n4 : Int) ∧ (n4 : Int) < (cb : Int) ∧
 ∃ (es : Int), a0.cell? (i7.add (Int.toNat n4 * 1)) = some (.int .u8 es) ∧
 bif es == 0 then (
 Calls Try.prog 69 #[.pointer r1, .int .i64 4] a0 fun du ef => du = .returned (.tuple #[]) ∧
 R (.int .u64 0) ef) else (
 ∃ (I2 : Nat → List Value → World → Prop) (it : Nat), I2 it [.int .u64 0, .int .i64 n4] a0 ∧ ∀ (f7 : Nat) (a4 : World) (ag ar : Int), I2 f7 [.int .u64 ag, .int .i64 ar] a4 →
 bif decide (ar ≥ 0) then (
 r1.elim False fun gb =>
 ∃ (c3 : Option Addr) (cc d3 : Nat), a4.cell? (gb.add 0) = some (.slice c3 cc d3) ∧
 c3.elim False fun im =>
 0 ≤ (ar : Int) ∧ (ar : Int) < (cc : Int) ∧
 ∃ (dx : Int), a4.cell? (im.add (Int.toNat ar * 1)) = some (.int .u8 dx) ∧
 128 ≠ (0 : Int) ∧ ∃ e6, e6 < f7 ∧ I2 e6 [.int .u64 (IntKind.u64.wrap ((IntKind.u64.wrap (ag * 128)) + (IntKind.u64.wrap (Int.tmod dx 128)))), .int .i64 (IntKind.i64.wrap (ar - 1))] a4) else (
 r1.elim False fun gu =>
 ∃ (bc : Option Addr) (bf bo : Nat), a4.cell? (gu.add 0) = some (.slice bc bf bo) ∧
 (0 : Int) ≤ ((IntKind.i64.wrap (n4 + 1)) : Int) ∧ ((IntKind.i64.wrap (n4 + 1)) : Int) ≤ (bf : Int) ∧
 r1.elim False fun fk =>
 Q01 a4 ((fk.add 0).add 0) ∧
 thenW (a4.setCell ((fk.add 0).add 0) (.slice (if bo = Int.toNat (IntKind.i64.wrap (n4 + 1)) then bc else Option.map (fun z : Addr => z.add ((Int.toNat (IntKind.i64.wrap (n4 + 1))) * 1)) bc) (bf - (Int.toNat (IntKind.i64.wrap (n4 + 1)))) (bo - (Int.toNat (IntKind.i64.wrap (n4 + 1)))))) fun de =>
 R (.int .u64 ag) de))) else (
 ∃ (I2 : Nat → List Value → World → Prop) (gj : Nat), I2 gj [.int .u64 0, .int .i64 n4] a0 ∧ ∀ (ds : Nat) (a3 : World) (ah au : Int), I2 ds [.int .u64 ah, .int .i64 au] a3 →
 bif decide (au ≥ 0) then (
 r1.elim False fun ie =>
 ∃ (cd : Option Addr) (cf dw : Nat), a3.cell? (ie.add 0) = some (.slice cd cf dw) ∧
 cd.elim False fun i2 =>
 0 ≤ (au : Int) ∧ (au : Int) < (cf : Int) ∧
 ∃ (ed : Int), a3.cell? (i2.add (Int.toNat au * 1)) = some (.int .u8 ed) ∧
 128 ≠ (0 : Int) ∧ ∃ db, db < ds ∧ I2 db [.int .u64 (IntKind.u64.wrap ((IntKind.u64.wrap (ah * 128)) + (IntKind.u64.wrap (Int.tmod ed 128)))), .int .i64 (IntKind.i64.wrap (au - 1))] a3) else (
 r1.elim False fun fs =>
 ∃ (b8 : Option Addr) (b1 b2 : Nat), a3.cell? (fs.add 0) = some (.slice b8 b1 b2) ∧
 (0 : Int) ≤ ((IntKind.i64.wrap (n4 + 1)) : Int) ∧ ((IntKind.i64.wrap (n4 + 1)) : Int) ≤ (b1 : Int) ∧
 r1.elim False fun d1 =>
 Q01 a3 ((d1.add 0).add 0) ∧
 thenW (a3.setCell ((d1.add 0).add 0) (.slice (if b2 = Int.toNat (IntKind.i64.wrap (n4 + 1)) then b8 else Option.map (fun z : Addr => z.add ((Int.toNat (IntKind.i64.wrap (n4 + 1))) * 1)) b8) (b1 - (Int.toNat (IntKind.i64.wrap (n4 + 1)))) (b2 - (Int.toNat (IntKind.i64.wrap (n4 + 1)))))) fun ew =>
 R (.int .u64 ah) ew)))))))

theorem rRNum.ok (r1 : Option Addr) {R : RW} {w : World} (h : rRNum.M r1 R w) : Calls Try.prog 49 #[.pointer r1] w fun e w' => ∃ v, e = .returned v ∧ R v w' :=
  Q09 follows (H := [(0, [0], [(3, (.one (.int .i64)))]), (2, [0, 3], [(4, (.one (.int .u64))), (5, (.one (.int .i64)))])]) (args := [.pointer r1]) (cast (by kernel_rfl) h)

def rRCount.M (r1 : Option Addr) (a1 : Int) (R : RW) (w : World) : Prop :=
 Calls Try.prog 49 #[.pointer r1] w fun a7 a2 => ∃ (a0 : Int), a7 = .returned (.int .u64 a0) ∧
 r1.elim False fun a6 =>
 ∃ (a5 : Int), a2.cell? (a6.add 1) = some (.int .i64 a5) ∧
 bif a5 == 0 then (
 bif decide (a1 < 0) then (
 Calls Try.prog 69 #[.pointer r1, .int .i64 3] a2 fun a9 a8 => a9 = .returned (.tuple #[]) ∧
 R (.int .i64 0) a8) else (
 bif decide (a0 > (IntKind.u64.wrap a1)) then (
 Calls Try.prog 69 #[.pointer r1, .int .i64 3] a2 fun a3 a4 => a3 = .returned (.tuple #[]) ∧
 R (.int .i64 0) a4) else (
 R (.int .i64 (IntKind.i64.wrap a0)) a2))) else (
 R (.int .i64 (IntKind.i64.wrap a0)) a2)

theorem rRCount.ok (r1 : Option Addr) (a0 : Int) {R : RW} {w : World} (h : rRCount.M r1 a0 R w) : Calls Try.prog 44 #[.pointer r1, .int .i64 a0] w fun e w' => ∃ v, e = .returned v ∧ R v w' :=
  Q09 follows (H := []) (args := [.pointer r1, .int .i64 a0]) (cast (by kernel_rfl) h)

def rRDone.M (r1 : Option Addr) (R : RW) (w : World) : Prop :=
 r1.elim False fun a2 =>
 ∃ (a1 : Int), w.cell? (a2.add 1) = some (.int .i64 a1) ∧
 bif a1 == 0 then (
 r1.elim False fun a4 =>
 ∃ (a7 : Option Addr) (a5 a9 : Nat), w.cell? (a4.add 0) = some (.slice a7 a5 a9) ∧
 bif decide ((a5 : Int) > 0) then (
 R (.int .i64 4) w) else (
 r1.elim False fun a6 =>
 ∃ (a3 : Int), w.cell? (a6.add 1) = some (.int .i64 a3) ∧
 R (.int .i64 a3) w)) else (
 r1.elim False fun a8 =>
 ∃ (a0 : Int), w.cell? (a8.add 1) = some (.int .i64 a0) ∧
 R (.int .i64 a0) w)

theorem rRDone.ok (r1 : Option Addr) {R : RW} {w : World} (h : rRDone.M r1 R w) : Calls Try.prog 46 #[.pointer r1] w fun e w' => ∃ v, e = .returned v ∧ R v w' :=
  Q09 follows (H := []) (args := [.pointer r1]) (cast (by kernel_rfl) h)

def rRFail.M (r1 : Option Addr) (k2 : Int) (R : RW) (w : World) : Prop :=
 r1.elim False fun a3 =>
 Q01 w ((a3.add 1).add 0) ∧
 thenW (w.setCell ((a3.add 1).add 0) (.int .i64 k2)) fun a0 =>
 r1.elim False fun a5 =>
 Q01 a0 ((a5.add 0).add 0) ∧
 thenW (a0.setCell ((a5.add 0).add 0) (.slice none 0 0)) fun a1 =>
 R (.tuple #[]) a1

theorem rRFail.ok (r1 : Option Addr) (k2 : Int) {R : RW} {w : World} (h : rRFail.M r1 k2 R w) : Calls Try.prog 69 #[.pointer r1, .int .i64 k2] w fun e w' => ∃ v, e = .returned v ∧ R v w' :=
  Q09 follows (H := []) (args := [.pointer r1, .int .i64 k2]) (cast (by kernel_rfl) h)

theorem numL_le (n : Nat) : (numL n).length ≤ 10 := numF_le 10 n
theorem Q1j : ∀ (k m : Nat), m < 128 ^ k → 0 < k → numF (k + 1) m = numF k m
  | k + 1, m, h, _ => by
    by_cases h1 : m < 128
    · rw [numF, if_pos h1, numF, if_pos h1]
    · rw [numF, if_neg h1]
      conv => rhs; rw [numF, if_neg h1]
      have hk : 0 < k := Nat.pos_of_ne_zero fun e => by subst e; simp at h; omega
      rw [Q1j k (m / 128) (by rw [Nat.pow_succ] at h; omega) hk]
theorem Q27 {n : Nat} (h : n < 18446744073709551616) (h1 : ¬ n < 128) : numL n = UInt8.ofNat (n % 128 + 128) :: numL (n / 128) := by
  unfold numL
  rw [numF, if_neg h1, Q1j 9 (n / 128) (by omega) (by decide)]
theorem Q1U (m : Int) (s : List UInt8 × Int) (hm : 0 ≤ m) : ((countR m s).1 : Int) ≤ m := by
  unfold countR
  split
  · split
    · exact hm
    · rename_i h; exact Decidable.byContradiction fun e => h (.inr (by omega))
  · exact hm

section
variable {w w' : World} {a : Option Addr} {c : Nat}
theorem sameB_spec {a b : Option Addr} {c d : Nat} {x y : List UInt8} (ha : RowAt w a (bytesV x)) (hb : RowAt w b (bytesV y)) (hx : x.length < 1000000) :
    Calls Try.prog 14 #[.slice a x.length c, .slice b y.length d] w (GivesW (.bool (decide (x = y))) fun w' => Ext no w w') := by
  refine (wSame.ok _ _ _ _ _ _ (R := fun v w' => v = .bool (decide (x = y)) ∧ Ext no w w') ?_).mono fun e w' ⟨v, he, hv, hw⟩ => ⟨by rw [he, hv], hw⟩
  unfold wSame.M
  by_cases hl : x.length = y.length
  · have hl' : ((x.length : Int) != (y.length : Int)) = false := by simp [hl]
    rw [hl', cond_false]
    refine ⟨fun k vs w1 => ∃ i : Nat, vs = [.int .i64 i] ∧ k = x.length - i ∧ i ≤ x.length ∧ x.take i = y.take i ∧ Ext no w w1, x.length, ⟨0, rfl, rfl, Nat.zero_le _, rfl, Ext.refl _ _⟩, ?_⟩
    rintro k w1 i3 ⟨i, hi, rfl, hle, ht, hw⟩
    simp only [List.cons.injEq, Value.int.injEq, true_and, and_true] at hi
    subst hi
    by_cases hlt : i < x.length
    · have hd : decide ((i : Int) < (x.length : Int)) = true := by simp [hlt]
      rw [hd, cond_true]
      refine Q00 fun w7 h7 => ?_
      have hw7 : Ext no w w7 := hw.trans (by subst h7; exact (Ext.refl _ _).drew)
      have hi2 : i < y.length := hl ▸ hlt
      have hax := ha.ext hw7 (fun _ _ h => h)
      have hby := hb.ext hw7 (fun _ _ h => h)
      obtain ⟨ad, rfl⟩ := hax.addr (by intro e; rw [bytesV, List.map_eq_nil_iff] at e; subst e; simp at hlt)
      obtain ⟨bd, rfl⟩ := hby.addr (by intro e; rw [bytesV, List.map_eq_nil_iff] at e; subst e; simp at hi2)
      refine ⟨by omega, by omega, x[i].toNat, ?_, by omega, by omega, y[i].toNat, ?_, ?_⟩
      · rw [show Int.toNat (i : Int) * 1 = i by omega]; exact hax.at_ (Q0P hlt)
      · rw [show Int.toNat (i : Int) * 1 = i by omega]; exact hby.at_ (Q0P hi2)
      · by_cases he : x[i] = y[i]
        · have h1 : ((x[i].toNat : Int) != (y[i].toNat : Int)) = false := by simp [he]
          rw [h1, cond_false]
          refine ⟨x.length - (i + 1), by omega, i + 1, by rw [w64 (by omega) (by omega)]; rfl, rfl, by omega, ?_, hw7⟩
          rw [List.take_add_one, List.take_add_one, ht]; simp [hlt, hi2, he]
        · have h1 : ((x[i].toNat : Int) != (y[i].toNat : Int)) = true := by
            simp only [bne_iff_ne, ne_eq, Int.natCast_inj, UInt8.toNat_inj]; exact he
          rw [h1, cond_true]
          exact ⟨by rw [decide_eq_false]; rintro rfl; exact he rfl, hw7⟩
    · have hd : decide ((i : Int) < (x.length : Int)) = false := by simp; omega
      rw [hd, cond_false]
      obtain rfl : i = x.length := by omega
      refine ⟨?_, hw⟩
      have : x = y := by
        rw [List.take_length] at ht
        rw [hl, List.take_length] at ht
        exact ht
      simp [this]
  · have hl' : ((x.length : Int) != (y.length : Int)) = true := by simp; omega
    rw [hl', cond_true]
    exact ⟨by rw [decide_eq_false]; rintro rfl; exact hl rfl, Ext.refl _ _⟩
theorem rNum_spec : ∀ (n : Nat) (w : World), n < 18446744073709551616 → Calls Try.prog 39 #[.int .u64 n] w (fun e w' => ∃ a' c', e = .returned (.slice a' (numL n).length c') ∧ OwnB w.heap.size w' a' c' (numL n) ∧ Ext no w w') := by
  intro n
  induction n using Nat.strongRecOn with
  | _ n ih =>
    intro w hn
    refine (rNum.ok _ (R := fun v w' => ∃ a' c', v = (.slice a' (numL n).length c') ∧ OwnB w.heap.size w' a' c' (numL n) ∧ Ext no w w') ?_).mono fun e w' ⟨v, he, a', c', hv, hw⟩ => ⟨a', c', by rw [he, hv], hw⟩
    unfold rNum.M
    have one : ∀ (w2 : World) (x : UInt8), w2 = w.alloc (.cells #[.int .u8 (x.toNat : Int)] 5) → OwnB w.heap.size w2 (some (blk w.heap.size)) 1 [x] ∧ Ext no w w2 := fun w2 x h2 => by
      have hb : Blk w2 w.heap.size 5 (bytesV [x]) := by subst h2; exact Blk.new _ _ _
      exact ⟨⟨Q1e hb rfl (by simp [maxLen]), fun ad ha => by cases ha; exact ⟨Nat.le_refl _, hb.lt⟩⟩, by subst h2; exact (Ext.refl _ _).alloc _⟩
    by_cases h1 : n < 128
    · rw [show decide ((n : Int) < 128) = true by simp; omega, cond_true]
      have hv : IntKind.u8.wrap (n : Int) = ((UInt8.ofNat n).toNat : Int) := by rw [wu8 (by omega) (by omega), Q0S (by omega)]
      have hL : numL n = [UInt8.ofNat n] := by unfold numL; rw [numF, if_pos h1]
      rw [hv, hL]
      refine Q00 fun w2 h2 => ?_
      obtain ⟨q1, q2⟩ := one w2 _ h2
      exact ⟨_, 1, rfl, q1, q2⟩
    · rw [show decide ((n : Int) < 128) = false by simp; omega, cond_false]
      have hm : Int.tmod (n : Int) 128 = ((n % 128 : Nat) : Int) := by rw [Int.tmod_eq_emod_of_nonneg (by omega)]; omega
      have hd : Int.tdiv (n : Int) 128 = ((n / 128 : Nat) : Int) := by rw [Int.tdiv_eq_ediv_of_nonneg (by omega)]; omega
      have hv : IntKind.u8.wrap ((IntKind.u8.wrap (Int.tmod (n : Int) 128)) + 128) = ((UInt8.ofNat (n % 128 + 128)).toNat : Int) := by
        rw [hm, wu8 (n := ((n % 128 : Nat) : Int)) (by omega) (by omega), wu8 (by omega) (by omega), Q0S (by omega)]; omega
      rw [hv, hd, wu64 (by omega) (by omega), Q27 hn h1]
      refine ⟨by decide, Q00 fun w3 h3 => ⟨by decide, ?_⟩⟩
      obtain ⟨q1, q2⟩ := one w3 _ h3
      refine (ih (n / 128) (by omega) w3 (by omega)).mono fun e w6 ⟨a6, c6, he, ho6, x6⟩ => ⟨a6, _, c6, he, ?_⟩
      obtain ⟨a', c', w8, hr, ho8, x8⟩ := (W.OwnB.no q1 x6).append (t := 25) (ty := 25) Try.underlying25 (Nat.le_trans q2.size x6.size) (xc := c6) (W.OwnB.row ho6) (by have := numL_le (n / 128); simp; omega)
      exact ⟨a', _, c', w8, hr, a', c', rfl, ho8, (q2.trans x6).then x8 fun b hb => .inr hb⟩

end
theorem numR_write {n : Nat} (h : n < 18446744073709551616) (r : List UInt8) : numR (numL n ++ r, 0) = (n, (r, 0)) := by
  unfold numR; rw [if_pos rfl, rd_num h]
theorem countR_write {n : Nat} {m : Int} (h : n < 18446744073709551616) (hm : (n : Int) ≤ m) (r : List UInt8) : countR m (numL n ++ r, 0) = (n, (r, 0)) := by
  unfold countR
  rw [numR_write h, if_pos rfl, if_neg (by show ¬ (m < 0 ∨ (n : Int) > m); omega)]
theorem Q2B {s : List UInt8 × Int} (h : s.2 ≠ 0) : (numR s).2.2 ≠ 0 := by
  unfold numR; rw [if_neg h]; exact h
theorem Q1I {s : List UInt8 × Int} (h : (numR s).2.2 = 0) : s.2 = 0 ∧ s.1 = numL (numR s).1 ++ (numR s).2.1 := by
  have h0 : s.2 = 0 := Decidable.byContradiction fun e => Q2B e h
  refine ⟨h0, ?_⟩
  unfold numR at h ⊢
  rw [if_pos h0] at h ⊢
  cases hr : rdNum s.1 with
  | none => rw [hr] at h; exact absurd h (by decide)
  | some q => obtain ⟨n, r⟩ := q; exact (rd_back hr).1
theorem Q1c {m : Int} {s : List UInt8 × Int} (h : (countR m s).2.2 = 0) : s.2 = 0 ∧ s.1 = numL (countR m s).1 ++ (countR m s).2.1 := by
  unfold countR at h ⊢
  by_cases h1 : (numR s).2.2 = 0
  · rw [if_pos h1] at h ⊢
    by_cases h2 : m < 0 ∨ ((numR s).1 : Int) > m
    · rw [if_pos h2] at h; exact absurd h (by decide)
    · rw [if_neg h2]; exact Q1I h1
  · rw [if_neg h1] at h; exact absurd h h1
def RdR (w : World) (p N : Nat) (bs : List UInt8) (k : Int) : Prop :=
  N ≤ p ∧ ∃ a c, Blk w p 83 [.slice a bs.length c, .int .i64 k] ∧ bs.length ≤ c ∧ RowAt w a (bytesV bs) ∧ (bytesV bs ≠ [] → ∀ ad, a = some ad → ad.block < N)
section
variable {w w' : World} {a : Option Addr} {c : Nat} {bs : List UInt8} {p N : Nat} {k : Int}
theorem RdR.no (h : RdR w p N bs k) (e : Ext no w w') : RdR w' p N bs k := by
  obtain ⟨hNp, a, c, h1, h2, h3, h4⟩ := h
  exact ⟨hNp, a, c, h1.ext e id, h2, h3.no e, h4⟩
theorem RdR.up {m : Nat → Prop} (h : RdR w p N bs k) (e : Ext m w w') (hm : ∀ b, m b → p < b) : RdR w' p N bs k := by
  obtain ⟨hNp, a, c, h1, h2, h3, h4⟩ := h
  exact ⟨hNp, a, c, h1.ext e (fun h => by have := hm _ h; omega), h2, h3.ext' e (fun h0 ad ha hb => by have := hm _ hb; have := h4 h0 ad ha; omega), h4⟩
theorem RdR.lt (h : RdR w p N bs k) : p < w.heap.size := by obtain ⟨hNp, a, c, h1, _⟩ := h; exact h1.lt
theorem rFail_spec (h : RdR w p N bs k) (j : Int) : Calls Try.prog 69 #[.pointer (some (blk p)), .int .i64 j] w (GivesW (.tuple #[]) fun w' => RdR w' p N [] j ∧ Ext (fun b => b = p) w w') := by
  refine (rRFail.ok _ _ (R := fun v w' => v = .tuple #[] ∧ RdR w' p N [] j ∧ Ext (fun b => b = p) w w') ?_).mono fun e w' ⟨v, he, hv, hw⟩ => ⟨by rw [he, hv], hw⟩
  unfold rRFail.M
  obtain ⟨hNp, a, c, h1, _⟩ := h
  refine ⟨h1.cana (i := 1) rfl, Q00 fun w4 h4 => ?_⟩
  have hb4 := h1.seta 1 (.int .i64 j)
  rw [Q0X] at h4
  rw [← h4] at hb4
  have e4 : Ext (fun b => b = p) w w4 := by subst h4; exact (Ext.refl (fun b => b = p) w).setCell (a := (blk p).add 1) (.inl (by rw [add_blk])) _
  refine ⟨hb4.cana (i := 0) rfl, Q00 fun w6 h6 => ?_⟩
  rw [Q0X] at h6
  have hb6 := hb4.seta 0 (.slice none 0 0)
  rw [← h6] at hb6
  have e6 : Ext (fun b => b = p) w4 w6 := by subst h6; exact (Ext.refl (fun b => b = p) w4).setCell (a := (blk p).add 0) (.inl rfl) _
  exact ⟨rfl, ⟨hNp, none, 0, hb6, Nat.le_refl _, RowAt.nil _ _, fun h0 => absurd rfl h0⟩, e4.trans e6⟩
theorem rDone_spec (h : RdR w p N bs k) : Calls Try.prog 46 #[.pointer (some (blk p))] w (GivesW (.int .i64 (doneR (bs, k))) fun w' => w' = w) := by
  refine (rRDone.ok _ (R := fun v w' => v = .int .i64 (doneR (bs, k)) ∧ w' = w) ?_).mono fun e w' ⟨v, he, hv, hw⟩ => ⟨by rw [he, hv], hw⟩
  unfold rRDone.M
  obtain ⟨hNp, a, c, h1, h2, h3, h4⟩ := h
  unfold doneR
  refine ⟨_, h1.cella (i := 1) rfl, ?_⟩
  by_cases hk : k = 0
  · subst hk
    rw [show ((0 : Int) == 0) = true from rfl, cond_true, if_pos rfl]
    refine ⟨_, _, _, h1.cella (i := 0) rfl, ?_⟩
    by_cases hb : bs.length > 0
    · rw [decide_eq_true (by omega : (bs.length : Int) > 0), cond_true, if_pos hb]; exact ⟨rfl, rfl⟩
    · rw [decide_eq_false (by omega : ¬ (bs.length : Int) > 0), cond_false, if_neg hb]
      exact ⟨_, h1.cella (i := 1) rfl, rfl, rfl⟩
  · rw [beq_eq_false_iff_ne.2 hk, cond_false, if_neg hk]
    exact ⟨_, h1.cella (i := 1) rfl, rfl, rfl⟩

/-! ### where the number ends -/
theorem Q1s : ∀ (n i : Nat) (bs : List UInt8), i + n ≤ 9 → n ≤ bs.length → (∀ c ∈ bs.take n, 128 ≤ c.toNat) → widthF i bs = widthF (i + n) (bs.drop n)
  | 0, i, bs, _, _, _ => rfl
  | n + 1, i, [], _, h, _ => by simp at h
  | n + 1, i, c :: r, h9, hl, hc => by
    have h1 := hc c (by simp)
    simp only [widthF, List.drop_succ_cons]
    rw [if_neg (by omega), if_neg (by omega), Q1s n (i + 1) r (by omega) (by simpa using hl) fun d hd => hc d (by simp [hd])]
    congr 1; omega
theorem Q2j {bs : List UInt8} (hl : 10 ≤ bs.length) (hc : ∀ c ∈ bs.take 10, 128 ≤ c.toNat) : widthF 0 bs = 0 := by
  rw [Q1s 9 0 bs (by omega) (by omega) fun c h => hc c (List.mem_of_mem_take (l := bs.take 10) (i := 9) (by rw [List.take_take]; exact h))]
  rw [List.drop_eq_getElem_cons (by omega : 9 < bs.length)]
  simp only [widthF]
  have := hc bs[9] (List.mem_take_iff_getElem.2 ⟨9, by omega, rfl⟩)
  rw [if_pos (by first | exact ⟨rfl, by omega⟩ | exact ⟨trivial, by omega⟩)]
theorem Q1Q : ∀ (l : List UInt8) (j : Nat), valW (l.drop j) ≤ valW l
  | [], j => by simp
  | a :: r, 0 => Nat.le_refl _
  | a :: r, j + 1 => by
    have := Q1Q r j
    simp only [List.drop_succ_cons, valW]; omega

def loop2P (RR : RW) (w : World) (p : Nat) (n4 : Int) : Prop :=
  ∃ (I2 : Nat → List Value → World → Prop) (m35 : Nat), I2 m35 [.int .u64 0, .int .i64 n4] w ∧ ∀ (m36 : Nat) (ww37 : World) (outv33 i34 : Int), I2 m36 [.int .u64 outv33, .int .i64 i34] ww37 →
  bif decide (i34 ≥ 0) then (
  (some (blk p)).elim False fun a38 =>
  ∃ (B39a : Option Addr) (B39n B39c : Nat), ww37.cell? (a38.add 0) = some (.slice B39a B39n B39c) ∧
  B39a.elim False fun a40 =>
  0 ≤ (i34 : Int) ∧ (i34 : Int) < (B39n : Int) ∧
  ∃ (x41 : Int), ww37.cell? (a40.add (Int.toNat i34 * 1)) = some (.int .u8 x41) ∧
  128 ≠ (0 : Int) ∧ ∃ m42, m42 < m36 ∧ I2 m42 [.int .u64 (IntKind.u64.wrap ((IntKind.u64.wrap (outv33 * 128)) + (IntKind.u64.wrap (Int.tmod x41 128)))), .int .i64 (IntKind.i64.wrap (i34 - 1))] ww37) else (
  (some (blk p)).elim False fun a43 =>
  ∃ (B44a : Option Addr) (B44n B44c : Nat), ww37.cell? (a43.add 0) = some (.slice B44a B44n B44c) ∧
  (0 : Int) ≤ ((IntKind.i64.wrap (n4 + 1)) : Int) ∧ ((IntKind.i64.wrap (n4 + 1)) : Int) ≤ (B44n : Int) ∧
  (some (blk p)).elim False fun a45 =>
  Q01 ww37 ((a45.add 0).add 0) ∧
  thenW (ww37.setCell ((a45.add 0).add 0) (.slice (if B44c = Int.toNat (IntKind.i64.wrap (n4 + 1)) then B44a else Option.map (fun z : Addr => z.add ((Int.toNat (IntKind.i64.wrap (n4 + 1))) * 1)) B44a) (B44n - (Int.toNat (IntKind.i64.wrap (n4 + 1)))) (B44c - (Int.toNat (IntKind.i64.wrap (n4 + 1)))))) fun ww46 =>
  RR (.int .u64 outv33) ww46)
theorem Q2I (h : RdR w p N bs 0) (hl : bs.length < 1000000) {n : Nat} (hn : n < bs.length) (hw : widthF 0 bs = n + 1) :
    loop2P (fun v w' => v = .int .u64 (numR (bs, 0)).1 ∧ RdR w' p N (numR (bs, 0)).2.1 (numR (bs, 0)).2.2 ∧ Ext (fun b => b = p) w w') w p n := by
  have hz : widthF 0 bs ≠ 0 := by omega
  obtain ⟨q1, q2, q3, q4, _⟩ := Q1o bs 0 (by omega) hz
  simp only [Nat.sub_zero] at q2 q3 q4
  rw [hw] at q2 q3 q4
  have hnum : numR (bs, 0) = (valW (bs.take (n + 1)), (bs.drop (n + 1), 0)) := by unfold numR rdNum; simp [hw]
  rw [hnum]
  obtain ⟨hNp, a, c, h1, h2, h3, h4⟩ := h
  generalize hL : bs.take (n + 1) = L at *
  have hLl : L.length = n + 1 := by rw [← hL, List.length_take]; omega
  unfold loop2P
  refine ⟨fun j vs w1 => ∃ t : Nat, vs = [.int .u64 (valW (L.drop t)), .int .i64 ((t : Int) - 1)] ∧ j = t ∧ t ≤ n + 1 ∧ w1 = w, n + 1, ⟨n + 1, ?_, rfl, Nat.le_refl _, rfl⟩, ?_⟩
  · rw [List.drop_eq_nil_of_le (by omega)]
    have : (((n + 1 : Nat) : Int) - 1) = n := by omega
    rw [this]; rfl
  rintro t w1 o0 i ⟨t', hi, rfl, htn, rfl⟩
  simp only [List.cons.injEq, Value.int.injEq, true_and, and_true] at hi
  obtain ⟨rfl, rfl⟩ := hi
  cases t with
  | zero =>
    rw [show decide (((0 : Nat) : Int) - 1 ≥ 0) = false from rfl, cond_false]
    have hw1 : IntKind.i64.wrap ((n : Int) + 1) = ((n + 1 : Nat) : Int) := by rw [w64 (by omega) (by omega)]; rfl
    rw [hw1, Int.toNat_natCast, Nat.mul_one]
    refine ⟨a, bs.length, c, h1.cella (i := 0) rfl, by omega, by omega, h1.cana (i := 0) rfl, Q00 fun w23 h23 => ?_⟩
    rw [Q0X] at h23
    have hb := h1.seta 0 (.slice (if c = n + 1 then a else Option.map (fun z : Addr => z.add (n + 1)) a) (bs.length - (n + 1)) (c - (n + 1)))
    rw [← h23] at hb
    have hx : Ext (fun b => b = p) w1 w23 := by subst h23; exact (Ext.refl (fun b => b = p) w1).setCell (a := (blk p).add 0) (.inl rfl) _
    have hdl : (bs.drop (n + 1)).length = bs.length - (n + 1) := List.length_drop
    have hrow := h3.drop (n + 1) c (fun e => by rw [Q0M]; omega)
    have hne : bytesV (bs.drop (n + 1)) ≠ [] → bytesV bs ≠ [] := fun h0 e => h0 (by rw [bytesV, List.map_drop, show List.map u8V bs = [] from e]; simp)
    refine ⟨by rw [List.drop_zero], ⟨hNp, _, c - (n + 1), by rw [hdl]; exact hb, by rw [hdl]; omega, ?_, fun h0 ad ha => ?_⟩, hx⟩
    · rw [show bytesV (bs.drop (n + 1)) = (bytesV bs).drop (n + 1) by simp [bytesV]]
      refine hrow.ext' hx fun h0 ad ha hq => ?_
      have hne2 : bytesV bs ≠ [] := fun e => h0 (by rw [e]; simp)
      split at ha
      · have := h4 hne2 ad ha; omega
      · obtain ⟨b0, hb0, rfl⟩ := Option.map_eq_some_iff.1 ha
        rw [Q11] at hq
        have := h4 hne2 b0 hb0; omega
    · split at ha
      · exact h4 (hne h0) ad ha
      · obtain ⟨b0, hb0, rfl⟩ := Option.map_eq_some_iff.1 ha
        rw [Q11]; exact h4 (hne h0) b0 hb0
  | succ t =>
    have e1 : (((t + 1 : Nat) : Int) - 1) = (t : Int) := by omega
    rw [e1, show decide ((t : Int) ≥ 0) = true by simp, cond_true]
    have htl : t < bs.length := by omega
    have htL : t < L.length := by omega
    obtain ⟨ad, rfl⟩ := h3.addr (by intro e; rw [bytesV, List.map_eq_nil_iff] at e; subst e; simp at htl)
    have hx := u8_lt bs[t]
    have hLt : L[t] = bs[t] := by simp only [← hL]; rw [List.getElem_take]
    have hdr : L.drop t = bs[t] :: L.drop (t + 1) := by rw [List.drop_eq_getElem_cons htL, hLt]
    have hv : valW (L.drop t) = bs[t].toNat % 128 + 128 * valW (L.drop (t + 1)) := by rw [hdr]; rfl
    have hle := Q1Q L t
    have q4' : valW L < 18446744073709551616 := q4
    have hm : Int.tmod (bs[t].toNat : Int) 128 = ((bs[t].toNat % 128 : Nat) : Int) := by rw [Int.tmod_eq_emod_of_nonneg (by omega)]; omega
    refine ⟨_, _, _, h1.cella (i := 0) rfl, by omega, by omega, _, by rw [Int.toNat_natCast, Nat.mul_one]; exact h3.at_ (Q0P htl), by decide, t, by omega, t, ?_, rfl, by omega, rfl⟩
    rw [hm, wu64 (n := ((valW (L.drop (t + 1)) : Nat) : Int) * 128) (by omega) (by omega), wu64 (n := ((bs[t].toNat % 128 : Nat) : Int)) (by omega) (by omega), wu64 (by omega) (by omega), w64 (by omega) (by omega), hv]
    congr 2
    congr 1
    omega

def exitP (RR : RW) (ww7 : World) (p : Nat) (n4 : Int) : Prop :=
  (some (blk p)).elim False fun a15 =>
  ∃ (B16a : Option Addr) (B16n B16c : Nat), ww7.cell? (a15.add 0) = some (.slice B16a B16n B16c) ∧
  bif decide (n4 ≥ (B16n : Int)) then (
  Calls Try.prog 69 #[.pointer (some (blk p)), .int .i64 4] ww7 fun ee17 ww18 => ee17 = .returned (.tuple #[]) ∧
  RR (.int .u64 0) ww18) else (
  bif decide (n4 ≥ 10) then (
  Calls Try.prog 69 #[.pointer (some (blk p)), .int .i64 4] ww7 fun ee19 ww20 => ee19 = .returned (.tuple #[]) ∧
  RR (.int .u64 0) ww20) else (
  bif n4 == 9 then (
  (some (blk p)).elim False fun a21 =>
  ∃ (B22a : Option Addr) (B22n B22c : Nat), ww7.cell? (a21.add 0) = some (.slice B22a B22n B22c) ∧
  B22a.elim False fun a23 =>
  0 ≤ (n4 : Int) ∧ (n4 : Int) < (B22n : Int) ∧
  ∃ (x24 : Int), ww7.cell? (a23.add (Int.toNat n4 * 1)) = some (.int .u8 x24) ∧
  bif x24 != 1 then (
  Calls Try.prog 69 #[.pointer (some (blk p)), .int .i64 4] ww7 fun ee25 ww26 => ee25 = .returned (.tuple #[]) ∧
  RR (.int .u64 0) ww26) else (
  bif decide (n4 > 0) then (
  (some (blk p)).elim False fun a27 =>
  ∃ (B28a : Option Addr) (B28n B28c : Nat), ww7.cell? (a27.add 0) = some (.slice B28a B28n B28c) ∧
  B28a.elim False fun a29 =>
  0 ≤ (n4 : Int) ∧ (n4 : Int) < (B28n : Int) ∧
  ∃ (x30 : Int), ww7.cell? (a29.add (Int.toNat n4 * 1)) = some (.int .u8 x30) ∧
  bif x30 == 0 then (
  Calls Try.prog 69 #[.pointer (some (blk p)), .int .i64 4] ww7 fun ee31 ww32 => ee31 = .returned (.tuple #[]) ∧
  RR (.int .u64 0) ww32) else (
  loop2P RR ww7 p n4)) else (
  loop2P RR ww7 p n4))) else (
  bif decide (n4 > 0) then (
  (some (blk p)).elim False fun a61 =>
  ∃ (B62a : Option Addr) (B62n B62c : Nat), ww7.cell? (a61.add 0) = some (.slice B62a B62n B62c) ∧
  B62a.elim False fun a63 =>
  0 ≤ (n4 : Int) ∧ (n4 : Int) < (B62n : Int) ∧
  ∃ (x64 : Int), ww7.cell? (a63.add (Int.toNat n4 * 1)) = some (.int .u8 x64) ∧
  bif x64 == 0 then (
  Calls Try.prog 69 #[.pointer (some (blk p)), .int .i64 4] ww7 fun ee65 ww66 => ee65 = .returned (.tuple #[]) ∧
  RR (.int .u64 0) ww66) else (
  loop2P RR ww7 p n4)) else (
  loop2P RR ww7 p n4))))
theorem exit_ok (h : RdR w p N bs 0) (hl : bs.length < 1000000) {n : Nat} (hn : n ≤ bs.length) (h10 : n ≤ 10) (hc : ∀ c ∈ bs.take n, 128 ≤ c.toNat) (hs : n = bs.length ∨ n = 10 ∨ ∃ hn : n < bs.length, bs[n].toNat < 128) :
    exitP (fun v w' => v = .int .u64 (numR (bs, 0)).1 ∧ RdR w' p N (numR (bs, 0)).2.1 (numR (bs, 0)).2.2 ∧ Ext (fun b => b = p) w w') w p n := by
  obtain ⟨hNp, a, c, h1, h2, h3, h4⟩ := id h
  -- where there is no number
  have bad : widthF 0 bs = 0 → Calls Try.prog 69 #[.pointer (some (blk p)), .int .i64 4] w fun ee ww => ee = .returned (.tuple #[]) ∧ (fun v w' => v = Value.int .u64 (numR (bs, 0)).1 ∧ RdR w' p N (numR (bs, 0)).2.1 (numR (bs, 0)).2.2 ∧ Ext (fun b => b = p) w w') (.int .u64 0) ww := fun hz => by
    have hnum : numR (bs, 0) = (0, ([], 4)) := by unfold numR rdNum; simp [hz]
    rw [hnum]
    exact (rFail_spec h 4).mono fun e w9 ⟨he, hr, hx⟩ => ⟨he, rfl, hr, hx⟩
  unfold exitP
  refine ⟨a, bs.length, c, h1.cella (i := 0) rfl, ?_⟩
  by_cases c1 : n = bs.length
  · rw [decide_eq_true (by omega : (n : Int) ≥ (bs.length : Int)), cond_true]
    refine bad ?_
    by_cases c2 : n ≤ 9
    · rw [Q1s n 0 bs (by omega) (by omega) hc, List.drop_eq_nil_of_le (by omega)]; rfl
    · exact Q2j (by omega) (by rw [show (10 : Nat) = n by omega]; exact hc)
  rw [decide_eq_false (by omega : ¬ (n : Int) ≥ (bs.length : Int)), cond_false]
  have hnl : n < bs.length := by omega
  by_cases c2 : n = 10
  · rw [decide_eq_true (by omega : (n : Int) ≥ 10), cond_true]
    exact bad (Q2j (by omega) (by rw [show (10 : Nat) = n by omega]; exact hc))
  rw [decide_eq_false (by omega : ¬ (n : Int) ≥ 10), cond_false]
  have hlt : bs[n].toNat < 128 := by
    rcases hs with hs | hs | ⟨_, hs⟩
    · exact absurd hs c1
    · exact absurd hs c2
    · exact hs
  have hskip := Q1s n 0 bs (by omega) (by omega) hc
  rw [List.drop_eq_getElem_cons hnl, Nat.zero_add] at hskip
  simp only [widthF] at hskip
  obtain ⟨ad, rfl⟩ := h3.addr (by intro e; rw [bytesV, List.map_eq_nil_iff] at e; subst e; simp at hnl)
  have hcell : w.cell? (ad.add (Int.toNat (n : Int) * 1)) = some (.int .u8 (bs[n].toNat : Int)) := by rw [Int.toNat_natCast, Nat.mul_one]; exact h3.at_ (Q0P hnl)
  -- behind the test for the last byte of all
  have rest : ¬ (n = 9 ∧ bs[n].toNat ≠ 1) → (n > 0 → bs[n].toNat = 0 → widthF 0 bs = 0) ∧ ((n > 0 → bs[n].toNat ≠ 0) → widthF 0 bs = n + 1) := fun hq => by
    rw [if_neg hq, if_pos hlt] at hskip
    exact ⟨fun q1 q2 => by rw [hskip, if_pos ⟨q2, q1⟩], fun q => by rw [hskip, if_neg fun ⟨e1, e2⟩ => q e2 e1]⟩
  by_cases c9 : n = 9
  · rw [beq_iff_eq.2 (by omega : (n : Int) = 9), cond_true]
    refine ⟨_, _, _, h1.cella (i := 0) rfl, by omega, by omega, _, hcell, ?_⟩
    by_cases c8 : bs[n].toNat = 1
    · rw [show ((bs[n].toNat : Int) != 1) = false by simp; omega, cond_false, decide_eq_true (by omega : (n : Int) > 0), cond_true]
      refine ⟨_, _, _, h1.cella (i := 0) rfl, by omega, by omega, _, hcell, ?_⟩
      rw [beq_eq_false_iff_ne.2 (by omega : (bs[n].toNat : Int) ≠ 0), cond_false]
      exact Q2I h hl hnl ((rest fun q => q.2 c8).2 fun _ => by omega)
    · rw [show ((bs[n].toNat : Int) != 1) = true by simp; omega, cond_true]
      refine bad ?_
      rw [hskip, if_pos ⟨c9, c8⟩]
  · rw [beq_eq_false_iff_ne.2 (by omega : (n : Int) ≠ 9), cond_false]
    have hrest := rest fun q => c9 q.1
    by_cases c0 : n > 0
    · rw [decide_eq_true (by omega : (n : Int) > 0), cond_true]
      refine ⟨_, _, _, h1.cella (i := 0) rfl, by omega, by omega, _, hcell, ?_⟩
      by_cases cz : bs[n].toNat = 0
      · rw [beq_iff_eq.2 (by omega : (bs[n].toNat : Int) = 0), cond_true]
        exact bad (hrest.1 c0 cz)
      · rw [beq_eq_false_iff_ne.2 (by omega : (bs[n].toNat : Int) ≠ 0), cond_false]
        exact Q2I h hl hnl (hrest.2 fun _ => cz)
    · rw [decide_eq_false (by omega : ¬ (n : Int) > 0), cond_false]
      exact Q2I h hl hnl (hrest.2 fun q => absurd q c0)
theorem Q3F (h : RdR w p N bs k) (hl : bs.length < 1000000) :
    Calls Try.prog 49 #[.pointer (some (blk p))] w (GivesW (.int .u64 (numR (bs, k)).1) fun w' => RdR w' p N (numR (bs, k)).2.1 (numR (bs, k)).2.2 ∧ Ext (fun b => b = p) w w') := by
  refine (rRNum.ok _ (R := fun v w' => v = .int .u64 (numR (bs, k)).1 ∧ RdR w' p N (numR (bs, k)).2.1 (numR (bs, k)).2.2 ∧ Ext (fun b => b = p) w w') ?_).mono fun e w' ⟨v, he, hv, hw⟩ => ⟨by rw [he, hv], hw⟩
  unfold rRNum.M
  obtain ⟨hNp, a, c, h1, h2, h3, h4⟩ := id h
  refine ⟨_, h1.cella (i := 1) rfl, ?_⟩
  by_cases hk : k = 0
  · subst hk
    rw [show ((0 : Int) != 0) = false from rfl, cond_false]
    refine ⟨fun j vs w1 => ∃ n : Nat, vs = [.int .i64 n] ∧ j + n = 10 ∧ n ≤ bs.length ∧ (∀ c ∈ bs.take n, 128 ≤ c.toNat) ∧ w1 = w, 10, ⟨0, rfl, rfl, Nat.zero_le _, by simp, rfl⟩, ?_⟩
    rintro j w1 i ⟨n, hi, hj, hn, hc, rfl⟩
    simp only [List.cons.injEq, Value.int.injEq, true_and, and_true] at hi
    subst hi
    refine ⟨_, _, _, h1.cella (i := 0) rfl, ?_⟩
    by_cases c1 : n < bs.length
    · rw [decide_eq_true (by omega : (n : Int) < (bs.length : Int)), cond_true]
      by_cases c2 : n < 10
      · rw [decide_eq_true (by omega : (n : Int) < 10), cond_true]
        obtain ⟨ad, rfl⟩ := h3.addr (by intro e; rw [bytesV, List.map_eq_nil_iff] at e; subst e; simp at c1)
        refine ⟨_, _, _, h1.cella (i := 0) rfl, by omega, by omega, _, by rw [Int.toNat_natCast, Nat.mul_one]; exact h3.at_ (Q0P c1), ?_⟩
        by_cases c3 : 128 ≤ bs[n].toNat
        · rw [decide_eq_true (by omega : (bs[n].toNat : Int) ≥ 128), cond_true]
          refine ⟨j - 1, by omega, n + 1, by rw [w64 (by omega) (by omega)]; rfl, by omega, by omega, fun d hd => ?_, rfl⟩
          rw [List.take_add_one, show bs[n]?.toList = [bs[n]] by simp [c1]] at hd
          rcases List.mem_append.1 hd with hd | hd
          · exact hc d hd
          · rw [List.mem_singleton] at hd; rw [hd]; exact c3
        · rw [decide_eq_false (by omega : ¬ (bs[n].toNat : Int) ≥ 128), cond_false]
          exact exit_ok h hl (by omega) (by omega) hc (.inr (.inr ⟨c1, by omega⟩))
      · rw [decide_eq_false (by omega : ¬ (n : Int) < 10), cond_false]
        exact exit_ok h hl (by omega) (by omega) hc (.inr (.inl (by omega)))
    · rw [decide_eq_false (by omega : ¬ (n : Int) < (bs.length : Int)), cond_false]
      exact exit_ok h hl (by omega) (by omega) hc (.inl (by omega))
  · rw [show (k != 0) = true by simpa using hk, cond_true]
    have hn : numR (bs, k) = (0, (bs, k)) := by unfold numR; rw [if_neg hk]
    rw [hn]
    exact ⟨rfl, h, Ext.refl _ _⟩
theorem rCount_spec (h : RdR w p N bs k) (hl : bs.length < 1000000) {m : Int} (hm0 : 0 ≤ m) (hm : m < 4611686018427387904) :
    Calls Try.prog 44 #[.pointer (some (blk p)), .int .i64 m] w (GivesW (.int .i64 (countR m (bs, k)).1) fun w' => RdR w' p N (countR m (bs, k)).2.1 (countR m (bs, k)).2.2 ∧ Ext (fun b => b = p) w w') := by
  refine (rRCount.ok _ _ (R := fun v w' => v = .int .i64 (countR m (bs, k)).1 ∧ RdR w' p N (countR m (bs, k)).2.1 (countR m (bs, k)).2.2 ∧ Ext (fun b => b = p) w w') ?_).mono fun e w' ⟨v, he, hv, hw⟩ => ⟨by rw [he, hv], hw⟩
  unfold rRCount.M
  have hlt := W.numR_lt (bs, k)
  have hbad : (numR (bs, k)).2.2 ≠ 0 → (numR (bs, k)).1 = 0 := fun hb => by
    unfold numR at hb ⊢
    by_cases h0 : k = 0
    · rw [if_pos h0] at hb ⊢
      cases hr : rdNum bs with
      | none => rfl
      | some q => rw [hr] at hb; exact absurd rfl hb
    · rw [if_neg h0]
  refine (Q3F h hl).mono fun e w5 ⟨he, hr5, hx5⟩ => ⟨_, he, ?_⟩
  unfold countR
  generalize numR (bs, k) = s at *
  obtain ⟨n, bs', k'⟩ := s
  simp only at *
  obtain ⟨hNp, a, c, h1, _⟩ := id hr5
  refine ⟨_, h1.cella (i := 1) rfl, ?_⟩
  by_cases hk : k' = 0
  · subst hk
    rw [if_pos rfl, show ((0 : Int) == 0) = true from rfl, cond_true, decide_eq_false (by omega : ¬ m < 0), cond_false, wu64 (n := m) (by omega) (by omega)]
    by_cases c2 : (n : Int) > m
    · rw [decide_eq_true c2, cond_true, if_pos (.inr c2)]
      exact (rFail_spec hr5 3).mono fun e w9 ⟨he, hr, hx⟩ => ⟨he, rfl, hr, hx5.trans hx⟩
    · rw [decide_eq_false c2, cond_false, if_neg (fun h => h.elim (by omega) c2), w64 (by omega) (by omega)]
      exact ⟨rfl, hr5, hx5⟩
  · rw [if_neg hk, beq_eq_false_iff_ne.2 hk, cond_false, hbad hk]
    exact ⟨rfl, hr5, hx5⟩
end
end Go.Proofs.Ytlgpeojjmapnjaa.W
namespace Go.Mx
def Ret (v : Value) (Q : World → Prop) (e : Ending) (w' : World) : Prop := e = .returned v ∧ Q w'
def Priv (w w' : World) (L : List Nat) : Prop := ∀ p ∈ L, w.heap.size ≤ p ∧ p < w'.heap.size
theorem Priv.nil {w w' : World} : Priv w w' [] := fun p hp => by simp at hp
theorem Priv.cons {w w' : World} {p : Nat} {L : List Nat} (h1 : w.heap.size ≤ p) (h2 : p < w'.heap.size) (h : Priv w w' L) : Priv w w' (p :: L) := fun q hq => by
  rcases List.mem_cons.1 hq with rfl | hq
  · exact ⟨h1, h2⟩
  · exact h q hq
theorem Priv.one {w w' : World} {p : Nat} (h : Priv w w' [p]) : w.heap.size ≤ p ∧ p < w'.heap.size := h p (by simp)
def Privq (w : World) (q : Nat) (L : List Nat) : Prop := ∀ p ∈ L, w.heap.size ≤ p ∧ p < q
theorem Privq.nil {w : World} {q : Nat} : Privq w q [] := fun p hp => by simp at hp
theorem Privq.cons {w : World} {q p : Nat} {L : List Nat} (h1 : w.heap.size ≤ p) (h2 : p < q) (h : Privq w q L) : Privq w q (p :: L) := fun r hr => by
  rcases List.mem_cons.1 hr with rfl | hr
  · exact ⟨h1, h2⟩
  · exact h r hr
theorem Privq.one {w : World} {q p : Nat} (h : Privq w q [p]) : w.heap.size ≤ p ∧ p < q := h p (by simp)
def Keep (L : List Nat) (w w' : World) : Prop := ∀ p ∈ L, p < w.heap.size → w'.heap[p]? = w.heap[p]?
section
variable {m : Nat → Prop} {w w0 w' : World} {L : List Nat} {p q i : Nat} {t : TypeId} {cs : List Value} {a : Addr} {v : Value}
theorem Ext.keep (h : Ext m w w') (hm : ∀ p ∈ L, p < w.heap.size → ¬ m p) : Keep L w w' := fun p hp hl => h.block p hl (hm p hp hl)
theorem Ext.kept (h : Ext no w w') : Keep L w w' := h.keep fun _ _ _ hb => hb
theorem Keep.refl (L : List Nat) (w : World) : Keep L w w := fun _ _ _ => rfl
theorem Keep.blk (h : Keep L w w') (hb : Blk w p t cs) (hp : p ∈ L) : Blk w' p t cs := by
  unfold Blk at hb ⊢
  rw [h p hp (Array.getElem?_eq_some_iff.1 hb).1]; exact hb
theorem Blk.celli (h : Blk w p t cs) (i : Nat) (ha : a = ⟨p, i, Option.none⟩) (hv : cs[i]? = some v) : w.cell? a = some v := by subst ha; exact h.cell hv
theorem Blk.cani (h : Blk w p t cs) (i : Nat) (ha : a = ⟨p, i, Option.none⟩) (hv : cs[i]? = some v) : Q01 w a := by subst ha; exact h.can hv
theorem Blk.seti (h : Blk w p t cs) (i : Nat) (ha : a = ⟨p, i, Option.none⟩) (e : w' = w.setCell a v) : Blk w' p t (cs.set i v) := by subst ha; subst e; exact h.set i v
theorem Blk.oth (h : Blk w p t cs) (ha : a = ⟨q, i, Option.none⟩) (hne : p ≠ q) (e : w' = w.setCell a v) : Blk w' p t cs := by subst ha; subst e; exact h.set_other hne v
theorem Blk.of_new (e : w' = w.alloc (.cells cs.toArray t)) : Blk w' w.heap.size t cs := by subst e; exact Blk.new _ _ _
theorem Blk.x_drew (h : Blk w p t cs) (e : w' = w.drew) : Blk w' p t cs := by subst e; exact h
theorem Blk.x_alloc (h : Blk w p t cs) {o : Obj} (e : w' = w.alloc o) : Blk w' p t cs := by subst e; exact h.alloc o
theorem Ext.x_drew (h : Ext m w0 w) (e : w' = w.drew) : Ext m w0 w' := by subst e; exact h.drew
theorem Ext.x_alloc (h : Ext m w0 w) {o : Obj} (e : w' = w.alloc o) : Ext m w0 w' := by subst e; exact h.alloc o
theorem Ext.x_set (h : Ext m w0 w) (ha : a = ⟨q, i, Option.none⟩) (hq : m q ∨ w0.heap.size ≤ q) (e : w' = w.setCell a v) : Ext m w0 w' := by subst ha; subst e; exact h.setCell hq v
theorem Q0s {o : Obj} (e : w' = w.alloc o) : w.heap.size < w'.heap.size := by subst e; simp
end
theorem Q0W {w w' : World} {K : World → Prop} (h : thenW w K) (e : w' = w) : K w' := by subst e; exact h
theorem bif_of {c : Bool} {A B : Prop} (h1 : c = true → A) (h2 : c = false → B) : bif c then A else B := by cases c; exact h2 rfl; exact h1 rfl
theorem bif_fo {c : Bool} {A B : Prop} (h2 : c = false → B) (h1 : c = true → A) : bif c then A else B := by cases c; exact h2 rfl; exact h1 rfl
theorem bif_tt {c : Bool} {A B : Prop} (h : c = true) (h1 : A) : bif c then A else B := by subst h; exact h1
theorem bif_ff {c : Bool} {A B : Prop} (h : c = false) (h1 : B) : bif c then A else B := by subst h; exact h1
theorem Q0p {α : Type} {o : Option α} {a : α} {K : α → Prop} (h : o = some a) (k : K a) : o.elim False K := by subst h; exact k
theorem cong1 (f : Int → Bool) {a b : Int} {r : Bool} (h : a = b) (hd : f b = r) : f a = r := by subst h; exact hd
theorem not_t {b : Bool} (h : (!b) = true) : b = false := by simpa using h
theorem not_f {b : Bool} (h : (!b) = false) : b = true := by simpa using h
theorem bne_t {a b : Int} (h : (a != b) = true) : a ≠ b := by simpa using h
theorem bne_f {a b : Int} (h : (a != b) = false) : a = b := by simpa using h
theorem beq_t {a b : Int} (h : (a == b) = true) : a = b := by simpa using h
theorem beq_f {a b : Int} (h : (a == b) = false) : a ≠ b := by simpa using h
abbrev cutA (a : Option Addr) (c l sz : Nat) : Option Addr := if c = l then a else Option.map (fun z : Addr => z.add (l * sz)) a
theorem Q3h (a : Option Addr) (c k : Nat) : (if c = 0 then a else Option.map (fun z : Addr => z.add (0 * k)) a) = a := by
  split
  · rfl
  · rw [Nat.zero_mul]; cases a <;> rfl
theorem RowAt.cut {w : World} {a : Option Addr} {cs : List Value} (h : RowAt w a cs) (k c : Nat) (hc : cs.length ≤ c) : RowAt w (cutA a c k 1) (cs.drop k) := by
  have := h.drop k c (fun e => by omega)
  unfold cutA
  rw [Nat.mul_one]; exact this
theorem Q1r {a : Option Addr} {c l sz : Nat} {ad : Addr} (h : cutA a c l sz = some ad) : ∃ b, a = some b ∧ b.block = ad.block := by
  unfold cutA at h
  split at h
  · exact ⟨ad, h, rfl⟩
  · obtain ⟨b, hb, rfl⟩ := Option.map_eq_some_iff.1 h
    exact ⟨b, hb, (Q11 _ _).symm⟩
end Go.Mx
set_option linter.unusedSectionVars false
namespace Go.Mx
abbrev Own := Nat → Option Nat
def Tags (w : World) (o : Own) : Prop := ∀ b j, b < w.heap.size → o b = some j → j < w.heap.size
structure Step (K : Nat → Prop) (w : World) (o : Own) (w' : World) (o' : Own) : Prop where
  ext : Ext (fun b => ∃ k, o b = some k ∧ K k) w w'
  same : ∀ b, b < w.heap.size → o' b = o b
  ok0 : Tags w o
  ok : Tags w' o'
def grow (w : World) (o : Own) : Own := fun b => if b < w.heap.size then o b else none
def tag (o : Own) (p j : Nat) : Own := fun b => if b = p then some j else o b
section
variable {K K1 : Nat → Prop} {w w1 w' : World} {o o1 o' : Own} {p q j : Nat}
theorem Step.refl (K : Nat → Prop) (h : Tags w o) : Step K w o w o := ⟨Ext.refl _ _, fun _ _ => rfl, h, h⟩
theorem Step.size (h : Step K w o w' o') : w.heap.size ≤ w'.heap.size := h.ext.size
theorem Step.mono (h : Step K w o w' o') (hk : ∀ j, K j → j < w.heap.size → K1 j) : Step K1 w o w' o' :=
  ⟨h.ext.mono fun b ⟨k, h1, h2⟩ hb => ⟨k, h1, hk k h2 (h.ok0 b k hb h1)⟩, h.same, h.ok0, h.ok⟩
theorem Step.trans' (h : Step K w o w1 o1) (k : Step K1 w1 o1 w' o') (hk : ∀ j, K1 j → K j ∨ w.heap.size ≤ j) : Step K w o w' o' := by
  refine ⟨h.ext.then k.ext fun b ⟨j, h1, h2⟩ => ?_, fun b hb => (k.same b (Nat.lt_of_lt_of_le hb h.size)).trans (h.same b hb), h.ok0, k.ok⟩
  by_cases hb : b < w.heap.size
  · rw [h.same b hb] at h1
    rcases hk j h2 with h3 | h3
    · exact .inl ⟨j, h1, h3⟩
    · have := h.ok0 b j hb h1; omega
  · exact .inr (by omega)
theorem Step.trans (h : Step K w o w1 o1) (k : Step K w1 o1 w' o') : Step K w o w' o' := h.trans' k fun _ h => .inl h
theorem Step.none (h : Step no w o w' o') : Step K w o w' o' := h.mono fun _ h _ => h.elim
theorem grow_lt {b : Nat} (h : b < w.heap.size) : grow w o b = o b := if_pos h
theorem grow_ge {b : Nat} (h : w.heap.size ≤ b) : grow w o b = none := if_neg (by omega)
theorem Tags.grow (h : Tags w o) (hs : w.heap.size ≤ w'.heap.size) : Tags w' (grow w o) := fun b j hb hj => by
  by_cases hl : b < w.heap.size
  · rw [grow_lt hl] at hj; exact Nat.lt_of_lt_of_le (h b j hl hj) hs
  · rw [grow_ge (by omega)] at hj; cases hj
theorem Q0V : tag o p j p = some j := if_pos rfl
theorem tag_ne {b : Nat} (h : b ≠ p) : tag o p j b = o b := if_neg h
theorem Tags.tag (h : Tags w o) (hj : j < w.heap.size) : Tags w (tag o p j) := fun b i hb hi => by
  by_cases hp : b = p
  · subst hp; rw [Q0V] at hi; cases hi; exact hj
  · rw [tag_ne hp] at hi; exact h b i hb hi
theorem Step.of_no (h : Ext no w w') (ok : Tags w o) : Step no w o w' (grow w o) := ⟨h.mono fun _ h _ => h.elim, fun _ hb => grow_lt hb, ok, ok.grow h.size⟩
theorem Step.tag (h : Step K w o w' o') (hp : w.heap.size ≤ p) (hj : j < w'.heap.size) : Step K w o w' (tag o' p j) :=
  ⟨h.ext, fun b hb => by rw [tag_ne (by omega)]; exact h.same b hb, h.ok0, h.ok.tag hj⟩
theorem Step.of_ext {m : Nat → Prop} (h : Ext m w w') (ok : Tags w o) (hm : ∀ b, m b → b < w.heap.size → o b = some p) : Step (fun j => j = p) w o w' (grow w o) :=
  ⟨h.mono fun b hb hl => ⟨p, hm b hb hl, rfl⟩, fun _ hb => grow_lt hb, ok, ok.grow h.size⟩
theorem Step.at (h : Step K w o w' o') {b : Nat} (hb : b < w.heap.size) (hk : ∀ k, o b = some k → ¬ K k) : w'.heap[b]? = w.heap[b]? :=
  h.ext.block b hb fun ⟨k, h1, h2⟩ => hk k h1 h2
theorem Step.blk (h : Step K w o w' o') {t : TypeId} {cs : List Value} (hb : Blk w p t cs) (hp : o p = some j) (hj : ¬ K j) : Blk w' p t cs := by
  have := h.at hb.lt fun k hk => by rw [hp] at hk; cases hk; exact hj
  unfold Blk at hb ⊢
  rw [this]; exact hb
theorem Step.own (h : Step K w o w' o') (hp : p < w.heap.size) : o' p = o p := h.same p hp
def Row (w : World) (o : Own) (a : Option Addr) (cs : List Value) : Prop := RowAt w a cs ∧ (cs ≠ [] → ∀ ad, a = some ad → o ad.block = none)
theorem Row.nil (w : World) (o : Own) (a : Option Addr) : Row w o a [] := ⟨RowAt.nil _ _, fun h => absurd rfl h⟩
theorem Row.step {a : Option Addr} {cs : List Value} (h : Row w o a cs) (k : Step K w o w' o') : Row w' o' a cs :=
  ⟨h.1.ext' k.ext fun h0 ad ha ⟨j, h1, _⟩ => (by rw [h.2 h0 ad ha] at h1; cases h1), fun h0 ad ha => by rw [k.same _ (h.1.lt h0 ha)]; exact h.2 h0 ad ha⟩
theorem Row.fresh {a : Option Addr} {cs : List Value} (h : RowAt w' a cs) (hf : ∀ ad, a = some ad → w.heap.size ≤ ad.block) : Row w' (grow w o) a cs := ⟨h, fun _ ad ha => grow_ge (hf ad ha)⟩
end
/-! ### rows that grow, of an owner -/
section
variable {K K1 : Nat → Prop} {w w1 w' : World} {o o1 o' : Own} {p q j k : Nat}
structure Grows (e size : Nat) (w : World) (o : Own) (k : Nat) (a : Option Addr) (n c : Nat) (cs : List Value) : Prop where
  own : w.ownsRow 0 e size (.slice a n c) n cs
  tg : ∀ ad, a = some ad → o ad.block = some k ∧ ad.block < w.heap.size
theorem Grows.row {e size : Nat} {a : Option Addr} {n c : Nat} {cs : List Value} (h : Grows e size w o k a n c cs) : RowAt w a cs := by
  obtain ⟨_, _, hv, hr⟩ := RowAt.of_owns h.own
  cases hv; exact hr
theorem owns_ext' {m : Nat → Prop} {e size n : Nat} {v : Value} {xs : List Value} (h : w.ownsRow 0 e size v n xs) (x : Ext m w w') (hn : ∀ b, v.ownBlock = some b → ¬ m b) : w'.ownsRow 0 e size v n xs := by
  refine ⟨h.1, ?_⟩
  rcases h.2 with h2 | ⟨g, cap, cur, hv, hb, hg, hr⟩
  · exact .inl h2
  · exact .inr ⟨g, cap, cur, hv, hb, x.get hg (hn g (by rw [hv]; rfl)), hr⟩
theorem Grows.step {e size : Nat} {a : Option Addr} {n c : Nat} {cs : List Value} (h : Grows e size w o k a n c cs) (s : Step K w o w' o') (hk : ¬ K k) : Grows e size w' o' k a n c cs := by
  refine ⟨owns_ext' h.own s.ext fun b hb ⟨i, h1, h2⟩ => ?_, fun ad ha => ?_⟩
  · cases a with
    | none => simp [Value.ownBlock] at hb
    | some ad =>
      simp only [Value.ownBlock, Option.some.injEq] at hb
      subst hb
      rw [(h.tg ad rfl).1] at h1; cases h1; exact hk h2
  · have := h.tg ad ha
    exact ⟨by rw [s.own this.2]; exact this.1, Nat.lt_of_lt_of_le this.2 s.size⟩
theorem Grows.keep {e size : Nat} {a : Option Addr} {n c : Nat} {cs : List Value} (h : Grows e size w o k a n c cs) {m : Nat → Prop} (x : Ext m w w') (hm : ∀ ad, a = some ad → ¬ m ad.block) (ho : ∀ b, b < w.heap.size → o' b = o b) : Grows e size w' o' k a n c cs := by
  refine ⟨owns_ext' h.own x fun b hb => ?_, fun ad ha => ?_⟩
  · cases a with
    | none => simp [Value.ownBlock] at hb
    | some ad => simp only [Value.ownBlock, Option.some.injEq] at hb; subst hb; exact hm ad rfl
  · have := h.tg ad ha
    exact ⟨by rw [ho _ this.2]; exact this.1, Nat.lt_of_lt_of_le this.2 x.size⟩
theorem Grows.nil (e size : Nat) (w : World) (o : Own) (k : Nat) : Grows e size w o k none 0 0 [] := ⟨⟨by simp, .inl ⟨rfl, rfl⟩⟩, fun ad ha => by cases ha⟩
theorem Grows.push {P : Program} {t ty e : TypeId} {i : TypeInfo} {z : Value} {size bytes : Nat} (ht : P.underlying t = some (.slice e)) (hi : P.info? e = some i) (hz : i.zero = some z)
    (hsize : i.size = size) (hby : i.bytes = bytes) (hzs : z.cells.size = size) (hsz : 0 < size) {a : Option Addr} {n c : Nat} {cs : List Value} (h : Grows e size w o k a n c cs) (ok : Tags w o) (hk : k < w.heap.size)
    {xa : Option Addr} {m xc : Nat} {news : List Value} (hl : news.length = m * size) (hnews : RowAt w xa news) (h1 : ∀ u ∈ news, u.oneCell' = true) (hb : (n + m) * bytes ≤ 140737488355328) (h63 : n + m ≤ 9223372036854775807) :
    ∃ a' c' w' o', (Builtin.append_ #[t, t] ty #[.slice a n c, .slice xa m xc]).run P w = .ok (.slice a' (n + m) c') w' ∧ Step (fun j => j = k) w o w' o' ∧ Grows e size w' o' k a' (n + m) c' (cs ++ news) ∧
      (∀ b, b < w.heap.size → (∀ ad, a = some ad → b ≠ ad.block) → w'.heap[b]? = w.heap[b]?) ∧ (∀ ad, a' = some ad → (∃ b, a = some b ∧ ad.block = b.block) ∨ ad.block = w.heap.size) := by
  obtain ⟨a', c', w', hr, ho, hg, hbk⟩ := Q10 (ty := ty) ht hi hz hsize hby hzs hsz h.own (xa := xa) (m := m) (c := xc) hl hnews h1 hb h63
  have hrow : ∀ q, (Value.slice a n c).ownBlock = some q → o q = some k ∧ q < w.heap.size ∧ ∃ ad, a = some ad ∧ q = ad.block := fun q hq => by
    cases a with
    | none => simp [Value.ownBlock] at hq
    | some ad => simp only [Value.ownBlock, Option.some.injEq] at hq; subst hq; exact ⟨(h.tg ad rfl).1, (h.tg ad rfl).2, ad, rfl, rfl⟩
  have X : Ext (fun b => (Value.slice a n c).ownBlock = some b) w w' := Ext.of_grown hg fun q hq => .inl hq
  have s : Step (fun j => j = k) w o w' (grow w o) := Step.of_ext X ok fun b hb _ => (hrow b hb).1
  refine ⟨a', c', w', tag (grow w o) w.heap.size k, hr, s.tag (Nat.le_refl _) (Nat.lt_of_lt_of_le hk s.size), ⟨ho, fun ad ha => ?_⟩, fun b hb hne => X.block b hb fun hq => ?_, fun ad ha => ?_⟩
  · have hlt := (Q0Q ho).2 ad ha
    subst ha
    refine ⟨?_, hlt⟩
    rcases hbk with hq | hq
    · obtain ⟨q1, q2, _⟩ := hrow _ hq.symm
      rw [tag_ne (by omega), grow_lt q2]; exact q1
    · simp only [Value.ownBlock, Option.some.injEq] at hq
      rw [hq]; exact Q0V
  · obtain ⟨_, _, ad, ha, rfl⟩ := hrow b hq
    exact hne ad ha rfl
  · subst ha
    rcases hbk with hq | hq
    · obtain ⟨_, _, b, hb1, hb2⟩ := hrow _ hq.symm
      exact .inl ⟨b, hb1, hb2⟩
    · simp only [Value.ownBlock, Option.some.injEq] at hq; exact .inr hq
end
end Go.Mx
namespace Go.Proofs.Ytlgpeojjmapnjaa
open Go Go.Mx Go.Proofs
theorem follows : Try.prog.follows .mixedOrders = true := by kernel_rfl
end Go.Proofs.Ytlgpeojjmapnjaa
namespace Go.Proofs.Ytlgpeojjmapnjaa
open Go Go.Mx Go.Proofs
theorem W.eqf_step {P : Program} {w : World} {d : Nat} {xs ys : Array Value} {f : Field} {fs : List Field} {a b : Value} {r : Bool} (n : f.name ≠ "_") (qa : (part f.type xs f.offset).run P w = .ok a w) (qb : (part f.type ys f.offset).run P w = .ok b w) (he : (Op.equalIn d f.type a b).run P w = .ok r w) :
    (Op.eqFields d xs ys (f :: fs)).run P w = if r then (Op.eqFields d xs ys fs).run P w else .ok false w := by
  simp only [Op.eqFields, n, ne_eq, not_false_eq_true, if_true, Sem.run_bind, qa, qb, he, Result.andThen_ok]
  cases r <;> simp
theorem eqT24 (x0 x1 y0 y1 : Int) (w : World) : (Op.equalIn 10000 24 (.agg #[.int .i64 x0, .int .i64 x1]) (.agg #[.int .i64 y0, .int .i64 y1])).run Try.prog w = .ok (decide (x0 = y0 ∧ x1 = y1)) w := by
  obtain ⟨f0, f1, ht, n0, o0, p0, u0, n1, o1, p1, u1, hp⟩ : ∃ f0 f1, Try.prog.underlying 24 = some (.struct #[f0, f1]) ∧ f0.name ≠ "_" ∧ f0.offset = 0 ∧ Try.prog.plainKey f0.type = true ∧ Try.prog.underlying f0.type = some (.int .i64) ∧ f1.name ≠ "_" ∧ f1.offset = 1 ∧ Try.prog.plainKey f1.type = true ∧ Try.prog.underlying f1.type = some (.int .i64) ∧ Try.prog.stoodInHeld 24 = false :=
    ⟨_, _, Try.underlying24, by decide, rfl, by kernel_rfl, by kernel_rfl, by decide, rfl, by kernel_rfl, by kernel_rfl, by kernel_rfl⟩
  have hf : Try.prog.fieldsOf 24 = #[f0, f1] := by simp [Program.fieldsOf, ht]
  rw [show (10000 : Nat) = 9998 + 1 + 1 from rfl, run_equalIn_struct w (9998 + 1) _ _ _ (by rw [hf]; exact ht) hp, hf]
  show (Op.eqFields (9998 + 1) _ _ [f0, f1]).run Try.prog w = _
  rw [W.eqf_step n0 (run_part_plain w p0 (by rw [o0]; rfl)) (run_part_plain w p0 (by rw [o0]; rfl)) (run_equalIn_int w _ _ _ _ _ _ u0), W.eqf_step n1 (run_part_plain w p1 (by rw [o1]; rfl)) (run_part_plain w p1 (by rw [o1]; rfl)) (run_equalIn_int w _ _ _ _ _ _ u1)]
  by_cases e0 : x0 = y0 <;> by_cases e1 : x1 = y1 <;> simp [e0, e1, Op.eqFields]
theorem Q4u (x0 x1 y0 y1 : Int) (w : World) : (binOp .eql 24 (.agg #[.int .i64 x0, .int .i64 x1]) (.agg #[.int .i64 y0, .int .i64 y1])).run Try.prog w = .ok (.bool (decide (x0 = y0 ∧ x1 = y1))) w := by rw [run_eql_struct, eqT24]; rfl
end Go.Proofs.Ytlgpeojjmapnjaa
namespace Go.Proofs.Ytlgpeojjmapnjaa
open Go Go.Mx Go.Proofs
open W (OwnB Rd RdR GivesW numR countR doneR zig unzig intR)
abbrev Q0d.J1 (ab : Option Addr) (a3 : Int) (R : RW) (aa : World) : Prop :=
 ab.elim False fun ah =>
 ∃ (a7 : Option Addr) (ae a4 : Nat), aa.cell? (ah.add 0) = some (.slice a7 ae a4) ∧
 (0 : Int) ≤ (a3 : Int) ∧ (a3 : Int) ≤ (a4 : Int) ∧
 Calls Try.prog 57 #[.slice (if a4 = 0 then a7 else Option.map (fun z : Addr => z.add (0 * 1)) a7) ((Int.toNat a3) - 0) (a4 - 0)] aa fun ad a5 => ∃ (a2 : Option Addr) (a1 a0 : Nat), ad = .returned (.slice a2 a1 a0) ∧
 ab.elim False fun ag =>
 ∃ (a8 : Option Addr) (a9 a6 : Nat), a5.cell? (ag.add 0) = some (.slice a8 a9 a6) ∧
 (0 : Int) ≤ (a3 : Int) ∧ (a3 : Int) ≤ (a9 : Int) ∧
 ab.elim False fun af =>
 Q01 a5 ((af.add 0).add 0) ∧
 thenW (a5.setCell ((af.add 0).add 0) (.slice (if a6 = Int.toNat a3 then a8 else Option.map (fun z : Addr => z.add ((Int.toNat a3) * 1)) a8) (a9 - (Int.toNat a3)) (a6 - (Int.toNat a3)))) fun ac =>
 R (.slice a2 a1 a0) ac

abbrev Q0d.J2 (a3 : Option Addr) (a7 : Int) (R : RW) (a0 : World) : Prop :=
 a3.elim False fun a8 =>
 ∃ (a6 : Option Addr) (a1 a5 : Nat), a0.cell? (a8.add 0) = some (.slice a6 a1 a5) ∧
 bif decide (a7 > (a1 : Int)) then (
 Calls Try.prog 67 #[.pointer a3, .int .i64 4] a0 fun a4 a2 => a4 = .returned (.tuple #[]) ∧
 R (.slice none 0 0) a2) else (
 Q0d.J1 a3 a7 R a0)

def Q0d.M (r1 : Option Addr) (n2 : Int) (R : RW) (w : World) : Prop :=
 Calls Try.prog 65 #[.pointer r1] w fun a2 a1 => ∃ (a0 : Bool), a2 = .returned (.bool a0) ∧
 bif !a0 then (
 R (.slice none 0 0) a1) else (
 Q0d.J2 r1 n2 R a1)

theorem Q0d.ok (r1 : Option Addr) (n2 : Int) {R : RW} {w : World} (h : Q0d.M r1 n2 R w) : Calls Try.prog 68 #[.pointer r1, .int .i64 n2] w fun e w' => ∃ v, e = .returned v ∧ R v w' :=
  Q09 follows (H := []) (args := [.pointer r1, .int .i64 n2]) (cast (by kernel_rfl) h)

def Q0d.N (r1 : Option Addr) (n2 : Int) (R : RW) (w : World) : Prop :=
 Calls Try.prog 65 #[.pointer r1] w fun ai a9 => ∃ (ac : Bool), ai = .returned (.bool ac) ∧
 (ac = false →
 R (.slice none 0 0) a9) ∧
 (ac = true →
 ∃ a7 : Addr, r1 = some a7 ∧
 ∃ (aj : Option Addr) (ae ak : Nat), a9.cell? (a7.add 0) = some (.slice aj ae ak) ∧
 (n2 > (ae : Int) →
 Calls Try.prog 67 #[.pointer r1, .int .i64 4] a9 fun af ad => af = .returned (.tuple #[]) ∧
 R (.slice none 0 0) ad) ∧
 (n2 ≤ (ae : Int) →
 ∃ (aa : Option Addr) (ab a6 : Nat), a9.cell? (a7.add 0) = some (.slice aa ab a6) ∧
 (0 : Int) ≤ (n2 : Int) ∧ (n2 : Int) ≤ (a6 : Int) ∧ 
 Calls Try.prog 57 #[.slice aa (Int.toNat n2) a6] a9 fun ah a3 => ∃ (a0 : Option Addr) (a2 a1 : Nat), ah = .returned (.slice a0 a2 a1) ∧
 ∃ (a8 : Option Addr) (a5 a4 : Nat), a3.cell? (a7.add 0) = some (.slice a8 a5 a4) ∧
 (0 : Int) ≤ (n2 : Int) ∧ (n2 : Int) ≤ (a5 : Int) ∧ 
 Q01 a3 ((a7.add 0).add 0) ∧
 thenW (a3.setCell ((a7.add 0).add 0) (.slice (cutA a8 a4 (Int.toNat n2) 1) (a5 - (Int.toNat n2)) (a4 - (Int.toNat n2)))) fun ag =>
 R (.slice a0 a2 a1) ag))

theorem Q0d.up (r1 : Option Addr) (n2 : Int) {R : RW} {w : World} (h : Q0d.N r1 n2 R w) : Q0d.M r1 n2 R w := by
  unfold Q0d.M
  unfold Q0d.N at h
  refine h.mono fun ar au h => ?_
  obtain ⟨ah, he, h⟩ := h
  refine ⟨ah, he, ?_⟩
  refine bif_of (fun c6 => ?_) (fun c6 => ?_)
  ·have h := h.1 (not_t c6)
   exact h
  have h := h.2 (not_f c6)
  unfold Q0d.J2
  obtain ⟨a7, a3, h⟩ := h
  refine Q0p a3 ?_
  obtain ⟨ag, aj, al, ao, h⟩ := h
  refine ⟨ag, aj, al, ao, ?_⟩
  refine bif_of (fun a6 => ?_) (fun a6 => ?_)
  ·have h := h.1 (of_decide_eq_true a6)
   refine h.mono fun am ai h => ?_
   obtain ⟨he, h⟩ := h
   refine ⟨he, ?_⟩
   exact h
  have h := h.2 (Int.not_lt.1 (of_decide_eq_false a6))
  unfold Q0d.J1
  refine Q0p a3 ?_
  obtain ⟨af, a5, ac, aa, h⟩ := h
  refine ⟨af, a5, ac, aa, ?_⟩
  obtain ⟨ad, a8, h⟩ := h
  refine ⟨ad, a8, ?_⟩
  try rw [Q3h]
  refine h.mono fun aq ak h => ?_
  obtain ⟨a0, a2, a1, he, h⟩ := h
  refine ⟨a0, a2, a1, he, ?_⟩
  refine Q0p a3 ?_
  obtain ⟨a4, ab, a9, ae, h⟩ := h
  refine ⟨a4, ab, a9, ae, ?_⟩
  obtain ⟨ad, a8, h⟩ := h
  refine ⟨ad, a8, ?_⟩
  refine Q0p a3 ?_
  obtain ⟨hcs, h⟩ := h
  refine ⟨hcs, Q00 fun ap an => ?_⟩
  replace h := Q0W h an
  exact h

theorem Q0d.go (r1 : Option Addr) (n2 : Int) {R : RW} {w : World} (h : Q0d.N r1 n2 R w) : Calls Try.prog 68 #[.pointer r1, .int .i64 n2] w fun e w' => ∃ v, e = .returned v ∧ R v w' := Q0d.ok r1 n2 (Q0d.up r1 n2 h)
def Q0m.M (r1 : Option Addr) (a4 : Int) (R : RW) (w : World) : Prop :=
 Calls Try.prog 41 #[.pointer r1, .int .i64 a4] w fun a5 a8 => ∃ (a2 : Int), a5 = .returned (.int .i64 a2) ∧
 Calls Try.prog 68 #[.pointer r1, .int .i64 a2] a8 fun a6 a7 => ∃ (a3 : Option Addr) (a0 a1 : Nat), a6 = .returned (.slice a3 a0 a1) ∧
 R (.slice a3 a0 a1) a7

theorem Q0m.ok (r1 : Option Addr) (a0 : Int) {R : RW} {w : World} (h : Q0m.M r1 a0 R w) : Calls Try.prog 42 #[.pointer r1, .int .i64 a0] w fun e w' => ∃ v, e = .returned v ∧ R v w' :=
  Q09 follows (H := []) (args := [.pointer r1, .int .i64 a0]) (cast (by kernel_rfl) h)

def Q0m.N (r1 : Option Addr) (a4 : Int) (R : RW) (w : World) : Prop :=
 Calls Try.prog 41 #[.pointer r1, .int .i64 a4] w fun a5 a8 => ∃ (a2 : Int), a5 = .returned (.int .i64 a2) ∧
 Calls Try.prog 68 #[.pointer r1, .int .i64 a2] a8 fun a6 a7 => ∃ (a3 : Option Addr) (a0 a1 : Nat), a6 = .returned (.slice a3 a0 a1) ∧
 R (.slice a3 a0 a1) a7

theorem Q0m.up (r1 : Option Addr) (a0 : Int) {R : RW} {w : World} (h : Q0m.N r1 a0 R w) : Q0m.M r1 a0 R w := by
  unfold Q0m.M
  unfold Q0m.N at h
  refine h.mono fun a5 a8 h => ?_
  obtain ⟨a4, he, h⟩ := h
  refine ⟨a4, he, ?_⟩
  refine h.mono fun a6 a7 h => ?_
  obtain ⟨a3, a1, a2, he, h⟩ := h
  refine ⟨a3, a1, a2, he, ?_⟩
  exact h

theorem Q0m.go (r1 : Option Addr) (a0 : Int) {R : RW} {w : World} (h : Q0m.N r1 a0 R w) : Calls Try.prog 42 #[.pointer r1, .int .i64 a0] w fun e w' => ∃ v, e = .returned v ∧ R v w' := Q0m.ok r1 a0 (Q0m.up r1 a0 h)
def Q0j.M (aa : Option Addr) (a3 a9 : Nat) (R : RW) (w : World) : Prop :=
 Calls Try.prog 39 #[.int .u64 (IntKind.u64.wrap (a3 : Int))] w fun a8 ab => ∃ (a2 : Option Addr) (a0 a1 : Nat), a8 = .returned (.slice a2 a0 a1) ∧
 ∃ (a5 : Option Addr) (a4 a6 : Nat) (a7 : World), (Builtin.append_ #[25, 25] 25 #[.slice a2 a0 a1, .slice aa a3 a9]).run Try.prog ab = .ok (.slice a5 a4 a6) a7 ∧
 R (.slice a5 a4 a6) a7

theorem Q0j.ok (a2 : Option Addr) (a0 a1 : Nat) {R : RW} {w : World} (h : Q0j.M a2 a0 a1 R w) : Calls Try.prog 40 #[.slice a2 a0 a1] w fun e w' => ∃ v, e = .returned v ∧ R v w' :=
  Q09 follows (H := []) (args := [.slice a2 a0 a1]) (cast (by kernel_rfl) h)

def Q0j.N (aa : Option Addr) (a3 a9 : Nat) (R : RW) (w : World) : Prop :=
 Calls Try.prog 39 #[.int .u64 (IntKind.u64.wrap (a3 : Int))] w fun a8 ab => ∃ (a2 : Option Addr) (a0 a1 : Nat), a8 = .returned (.slice a2 a0 a1) ∧
 ∃ (a5 : Option Addr) (a4 a6 : Nat) (a7 : World), (Builtin.append_ #[25, 25] 25 #[.slice a2 a0 a1, .slice aa a3 a9]).run Try.prog ab = .ok (.slice a5 a4 a6) a7 ∧
 R (.slice a5 a4 a6) a7

theorem Q0j.up (a5 : Option Addr) (a3 a4 : Nat) {R : RW} {w : World} (h : Q0j.N a5 a3 a4 R w) : Q0j.M a5 a3 a4 R w := by
  unfold Q0j.M
  unfold Q0j.N at h
  refine h.mono fun aa ab h => ?_
  obtain ⟨a2, a0, a1, he, h⟩ := h
  refine ⟨a2, a0, a1, he, ?_⟩
  obtain ⟨a7, a6, a8, a9, hr, h⟩ := h
  refine ⟨a7, a6, a8, a9, hr, ?_⟩
  exact h

theorem Q0j.go (a2 : Option Addr) (a0 a1 : Nat) {R : RW} {w : World} (h : Q0j.N a2 a0 a1 R w) : Calls Try.prog 40 #[.slice a2 a0 a1] w fun e w' => ∃ v, e = .returned v ∧ R v w' := Q0j.ok a2 a0 a1 (Q0j.up a2 a0 a1 h)
abbrev Q04.J1 (a1 : Int) (a8 : Option Addr) (R : RW) (a0 : World) : Prop :=
 a8.elim False fun ai =>
 ∃ (ad : Option Addr) (a7 aa : Nat), a0.cell? (ai.add 0) = some (.slice ad a7 aa) ∧
 bif decide (a1 > (a7 : Int)) then (
 Calls Try.prog 69 #[.pointer a8, .int .i64 4] a0 fun ae ab => ae = .returned (.tuple #[]) ∧
 R (.slice none 0 0) ab) else (
 a8.elim False fun ag =>
 ∃ (a6 : Option Addr) (ac a2 : Nat), a0.cell? (ag.add 0) = some (.slice a6 ac a2) ∧
 (0 : Int) ≤ (a1 : Int) ∧ (a1 : Int) ≤ (a2 : Int) ∧
 a8.elim False fun ah =>
 ∃ (a4 : Option Addr) (a5 a3 : Nat), a0.cell? (ah.add 0) = some (.slice a4 a5 a3) ∧
 (0 : Int) ≤ (a1 : Int) ∧ (a1 : Int) ≤ (a5 : Int) ∧
 a8.elim False fun af =>
 Q01 a0 ((af.add 0).add 0) ∧
 thenW (a0.setCell ((af.add 0).add 0) (.slice (if a3 = Int.toNat a1 then a4 else Option.map (fun z : Addr => z.add ((Int.toNat a1) * 1)) a4) (a5 - (Int.toNat a1)) (a3 - (Int.toNat a1)))) fun a9 =>
 R (.slice (if a2 = 0 then a6 else Option.map (fun z : Addr => z.add (0 * 1)) a6) ((Int.toNat a1) - 0) (a2 - 0)) a9)

def Q04.M (r1 : Option Addr) (a1 : Int) (R : RW) (w : World) : Prop :=
 Calls Try.prog 44 #[.pointer r1, .int .i64 a1] w fun a4 a2 => ∃ (a0 : Int), a4 = .returned (.int .i64 a0) ∧
 r1.elim False fun a6 =>
 ∃ (a3 : Int), a2.cell? (a6.add 1) = some (.int .i64 a3) ∧
 bif a3 != 0 then (
 R (.slice none 0 0) a2) else (
 Q04.J1 a0 r1 R a2)

theorem Q04.ok (r1 : Option Addr) (a0 : Int) {R : RW} {w : World} (h : Q04.M r1 a0 R w) : Calls Try.prog 45 #[.pointer r1, .int .i64 a0] w fun e w' => ∃ v, e = .returned v ∧ R v w' :=
  Q09 follows (H := []) (args := [.pointer r1, .int .i64 a0]) (cast (by kernel_rfl) h)

def Q04.N (r1 : Option Addr) (a9 : Int) (R : RW) (w : World) : Prop :=
 Calls Try.prog 44 #[.pointer r1, .int .i64 a9] w fun ah a1 => ∃ (a0 : Int), ah = .returned (.int .i64 a0) ∧
 ∃ a6 : Addr, r1 = some a6 ∧
 ∃ (ag : Int), a1.cell? (a6.add 1) = some (.int .i64 ag) ∧
 (ag ≠ 0 →
 R (.slice none 0 0) a1) ∧
 (ag = 0 →
 ∃ (ab : Option Addr) (a3 ae : Nat), a1.cell? (a6.add 0) = some (.slice ab a3 ae) ∧
 (a0 > (a3 : Int) →
 Calls Try.prog 69 #[.pointer r1, .int .i64 4] a1 fun ad af => ad = .returned (.tuple #[]) ∧
 R (.slice none 0 0) af) ∧
 (a0 ≤ (a3 : Int) →
 ∃ (a8 : Option Addr) (aa a2 : Nat), a1.cell? (a6.add 0) = some (.slice a8 aa a2) ∧
 (0 : Int) ≤ (a0 : Int) ∧ (a0 : Int) ≤ (a2 : Int) ∧ 
 ∃ (a7 : Option Addr) (a5 a4 : Nat), a1.cell? (a6.add 0) = some (.slice a7 a5 a4) ∧
 (0 : Int) ≤ (a0 : Int) ∧ (a0 : Int) ≤ (a5 : Int) ∧ 
 Q01 a1 ((a6.add 0).add 0) ∧
 thenW (a1.setCell ((a6.add 0).add 0) (.slice (cutA a7 a4 (Int.toNat a0) 1) (a5 - (Int.toNat a0)) (a4 - (Int.toNat a0)))) fun ac =>
 R (.slice a8 (Int.toNat a0) a2) ac))

theorem Q04.up (r1 : Option Addr) (a0 : Int) {R : RW} {w : World} (h : Q04.N r1 a0 R w) : Q04.M r1 a0 R w := by
  unfold Q04.M
  unfold Q04.N at h
  refine h.mono fun ap aq h => ?_
  obtain ⟨a1, he, h⟩ := h
  refine ⟨a1, he, ?_⟩
  obtain ⟨a6, a2, h⟩ := h
  refine Q0p a2 ?_
  obtain ⟨al, aj, h⟩ := h
  refine ⟨al, aj, ?_⟩
  refine bif_of (fun c9 => ?_) (fun c9 => ?_)
  ·have h := h.1 (bne_t c9)
   exact h
  have h := h.2 (bne_f c9)
  unfold Q04.J1
  refine Q0p a2 ?_
  obtain ⟨a7, ae, aa, af, h⟩ := h
  refine ⟨a7, ae, aa, af, ?_⟩
  refine bif_of (fun ad => ?_) (fun ad => ?_)
  ·have h := h.1 (of_decide_eq_true ad)
   refine h.mono fun an ao h => ?_
   obtain ⟨he, h⟩ := h
   refine ⟨he, ?_⟩
   exact h
  have h := h.2 (Int.not_lt.1 (of_decide_eq_false ad))
  refine Q0p a2 ?_
  obtain ⟨a4, a3, a5, ai, h⟩ := h
  refine ⟨a4, a3, a5, ai, ?_⟩
  obtain ⟨ah, a8, h⟩ := h
  refine ⟨ah, a8, ?_⟩
  try rw [Q3h]
  refine Q0p a2 ?_
  obtain ⟨ag, ac, a9, ab, h⟩ := h
  refine ⟨ag, ac, a9, ab, ?_⟩
  obtain ⟨ah, a8, h⟩ := h
  refine ⟨ah, a8, ?_⟩
  refine Q0p a2 ?_
  obtain ⟨hcs, h⟩ := h
  refine ⟨hcs, Q00 fun am ak => ?_⟩
  replace h := Q0W h ak
  exact h

theorem Q04.go (r1 : Option Addr) (a0 : Int) {R : RW} {w : World} (h : Q04.N r1 a0 R w) : Calls Try.prog 45 #[.pointer r1, .int .i64 a0] w fun e w' => ∃ v, e = .returned v ∧ R v w' := Q04.ok r1 a0 (Q04.up r1 a0 h)
abbrev RS := List UInt8 × Int
def takeR (n : Nat) (s : RS) : List UInt8 × RS := if s.2 = 0 then (if s.1.length < n then ([], ([], 4)) else (s.1.take n, (s.1.drop n, 0))) else ([], s)
def bytesR (m : Int) (s : RS) : List UInt8 × RS := takeR (countR m s).1 (countR m s).2
theorem Q3W (n : Nat) (s : RS) : (takeR n s).2.1.length ≤ s.1.length ∧ (takeR n s).1.length ≤ s.1.length := by
  unfold takeR
  split
  · split
    · simp
    · simp; omega
  · simp
theorem Q18 (m : Int) (s : RS) : (bytesR m s).2.1.length ≤ s.1.length ∧ (bytesR m s).1.length ≤ s.1.length := by
  have h1 := W.countR_len m s
  have h2 := Q3W (countR m s).1 (countR m s).2
  unfold bytesR
  omega
section
variable {w w' : World} {a : Option Addr} {c N p : Nat} {bs : List UInt8} {k : Int}
theorem Rd_drop (h : Rd w p bs k) {a : Option Addr} {c : Nat} (hb : Blk w p 100 [.slice a bs.length c, .int .i64 k]) {n : Nat} (hn : n ≤ bs.length) (hc : bs.length ≤ c) (hr : RowAt w a (bytesV bs)) (h4 : bytesV bs ≠ [] → ∀ ad, a = some ad → ad.block < p)
    (e : w' = w.setCell ((blk p).add 0) (.slice (cutA a c n 1) (bs.length - n) (c - n))) : Rd w' p (bs.drop n) k ∧ Ext (fun b => b = p) w w' := by
  have hx : Ext (fun b => b = p) w w' := (Ext.refl (fun b => b = p) w).x_set (q := p) (i := 0) rfl (.inl rfl) e
  have hb' := hb.seti 0 rfl e
  have hne : bytesV (bs.drop n) ≠ [] → bytesV bs ≠ [] := fun h0 e => h0 (by rw [bytesV, List.map_drop, show List.map u8V bs = [] from e]; simp)
  refine ⟨⟨cutA a c n 1, c - n, by rw [List.length_drop]; exact hb', by rw [List.length_drop]; omega, ?_, fun h0 ad ha => ?_⟩, hx⟩
  · have := hr.cut n c (by rw [Q0M]; exact hc)
    rw [show bytesV (bs.drop n) = (bytesV bs).drop n by simp [bytesV]]
    refine this.ext' hx fun h0 ad ha hq => ?_
    obtain ⟨b, hb, hbb⟩ := Q1r ha
    have := h4 (fun e => h0 (by rw [e]; simp)) b hb
    omega
  · obtain ⟨b, hb, hbb⟩ := Q1r ha
    have := h4 (hne h0) b hb
    omega
theorem Q42 (h : Rd w p bs k) (hl : bs.length < 1000000) (n : Nat) :
    Calls Try.prog 68 #[.pointer (some (blk p)), .int .i64 n] w (fun e w' => ∃ a c, e = .returned (.slice a (takeR n (bs, k)).1.length c) ∧ OwnB w.heap.size w' a c (takeR n (bs, k)).1 ∧ Rd w' p (takeR n (bs, k)).2.1 (takeR n (bs, k)).2.2 ∧ Ext (fun b => b = p) w w') := by
  refine (Q0d.go _ _ (R := fun v w' => ∃ a c, v = (.slice a (takeR n (bs, k)).1.length c) ∧ OwnB w.heap.size w' a c (takeR n (bs, k)).1 ∧ Rd w' p (takeR n (bs, k)).2.1 (takeR n (bs, k)).2.2 ∧ Ext (fun b => b = p) w w') ?_).mono fun e w' ⟨v, he, a, c, hv, hw⟩ => ⟨a, c, by rw [he, hv], hw⟩
  unfold Q0d.N
  refine (W.ok_spec h).mono fun e w5 ⟨he, hw⟩ => ⟨_, he, fun hk => ?_, fun hk => ?_⟩ <;> subst hw <;> simp only [beq_iff_eq, beq_eq_false_iff_ne] at hk
  · unfold takeR
    rw [if_neg hk]
    exact ⟨none, 0, rfl, OwnB.nil _ _, h, Ext.refl _ _⟩
  · subst hk
    obtain ⟨a, c, h1, h2, h3, h4⟩ := id h
    refine ⟨_, rfl, a, bs.length, c, h1.cella (i := 0) rfl, fun hn => ?_, fun hn => ?_⟩
    · unfold takeR
      rw [if_pos rfl, if_pos (by show bs.length < n; omega)]
      refine (W.fail_spec h 4).mono fun e w12 ⟨he, hr, hx⟩ => ⟨he, none, 0, rfl, OwnB.nil _ _, hr, hx⟩
    · unfold takeR
      rw [if_pos rfl, if_neg (by show ¬ bs.length < n; omega)]
      refine ⟨a, bs.length, c, h1.cella (i := 0) rfl, by omega, by omega, ?_⟩
      rw [Int.toNat_natCast]
      have ht : bytesV (bs.take n) = (bytesV bs).take n := by simp [bytesV]
      have hlt : (bs.take n).length = n := by rw [List.length_take]; omega
      have hc := W.clone_spec (c := c) (bs := bs.take n) (a := a) (w := w5) (by rw [ht]; exact h3.take n) (by omega)
      rw [hlt] at hc
      refine hc.mono fun e w18 ⟨ra, rc, he, hO, hx⟩ => ⟨ra, n, rc, he, ?_⟩
      have h' := h.no hx
      refine ⟨a, bs.length, c, (h1.ext hx id).cella (i := 0) rfl, by omega, by omega, (h1.ext hx id).cana (i := 0) rfl, Q00 fun w23 e23 => ?_⟩
      obtain ⟨q1, q2⟩ := Rd_drop h' (h1.ext hx id) (n := n) (by omega) h2 (h3.no hx) h4 e23
      refine ⟨ra, rc, by rw [hlt], hO.ext q2 fun ad ha hb => ?_, q1, hx.none.trans q2⟩
      have := (hO.fr ad ha).1
      have := h1.lt
      omega
theorem Q1z (h : Rd w p bs k) (hl : bs.length < 1000000) {m : Int} (hm : m < 4611686018427387904) :
    Calls Try.prog 42 #[.pointer (some (blk p)), .int .i64 m] w (fun e w' => ∃ a c, e = .returned (.slice a (bytesR m (bs, k)).1.length c) ∧ OwnB w.heap.size w' a c (bytesR m (bs, k)).1 ∧ Rd w' p (bytesR m (bs, k)).2.1 (bytesR m (bs, k)).2.2 ∧ Ext (fun b => b = p) w w') := by
  refine (Q0m.go _ _ (R := fun v w' => ∃ a c, v = (.slice a (bytesR m (bs, k)).1.length c) ∧ OwnB w.heap.size w' a c (bytesR m (bs, k)).1 ∧ Rd w' p (bytesR m (bs, k)).2.1 (bytesR m (bs, k)).2.2 ∧ Ext (fun b => b = p) w w') ?_).mono fun e w' ⟨v, he, a, c, hv, hw⟩ => ⟨a, c, by rw [he, hv], hw⟩
  unfold Q0m.N
  refine (W.Count_spec h hl hm).mono fun e w5 ⟨he, hr, hx⟩ => ⟨_, he, ?_⟩
  have hlen := W.countR_len m (bs, k)
  refine (Q42 hr (by simp only at hlen; omega) _).mono fun e w8 ⟨a, c, he, hO, hr2, hx2⟩ => ⟨a, _, c, he, a, c, rfl, ⟨hO.own, fun ad ha => ⟨Nat.le_trans hx.size (hO.fr ad ha).1, (hO.fr ad ha).2⟩⟩, hr2, hx.trans hx2⟩

/-! ### the reference's -/
theorem Q32 {xs : List UInt8} {xa : Option Addr} {xc : Nat} (hx : RowAt w xa (bytesV xs)) (hl : xs.length ≤ 1000000) :
    Calls Try.prog 40 #[.slice xa xs.length xc] w (fun e w' => ∃ a' c', e = .returned (.slice a' (numL xs.length ++ xs).length c') ∧ OwnB w.heap.size w' a' c' (numL xs.length ++ xs) ∧ Ext no w w') := by
  refine (Q0j.go _ _ _ (R := fun v w' => ∃ a' c', v = (.slice a' (numL xs.length ++ xs).length c') ∧ OwnB w.heap.size w' a' c' (numL xs.length ++ xs) ∧ Ext no w w') ?_).mono fun e w' ⟨v, he, a, c, hv, hw⟩ => ⟨a, c, by rw [he, hv], hw⟩
  unfold Q0j.N
  rw [wu64 (n := (xs.length : Int)) (by omega) (by omega)]
  refine (W.rNum_spec xs.length w (by omega)).mono fun e w4 ⟨a4, c4, he, hO, hx4⟩ => ⟨a4, _, c4, he, ?_⟩
  have hnl : (numL xs.length).length ≤ 10 := numF_le 10 _
  obtain ⟨a', c', w7, hr, hO7, hx7⟩ := hO.append (t := 25) (ty := 25) Try.underlying25 hx4.size (xc := xc) (hx.no hx4) (by omega)
  exact ⟨a', _, c', w7, hr, a', c', rfl, hO7, hx4.then hx7 fun b hb => .inr hb⟩
theorem Q4w (h : RdR w p N bs k) {a : Option Addr} {c : Nat} (hb : Blk w p 83 [.slice a bs.length c, .int .i64 k]) {n : Nat} (hn : n ≤ bs.length) (hc : bs.length ≤ c) (hr : RowAt w a (bytesV bs)) (h4 : bytesV bs ≠ [] → ∀ ad, a = some ad → ad.block < N)
    (e : w' = w.setCell ((blk p).add 0) (.slice (cutA a c n 1) (bs.length - n) (c - n))) : RdR w' p N (bs.drop n) k ∧ Ext (fun b => b = p) w w' := by
  have hx : Ext (fun b => b = p) w w' := (Ext.refl (fun b => b = p) w).x_set (q := p) (i := 0) rfl (.inl rfl) e
  have hb' := hb.seti 0 rfl e
  have hne : bytesV (bs.drop n) ≠ [] → bytesV bs ≠ [] := fun h0 e => h0 (by rw [bytesV, List.map_drop, show List.map u8V bs = [] from e]; simp)
  have hNp := h.1
  refine ⟨⟨hNp, cutA a c n 1, c - n, by rw [List.length_drop]; exact hb', by rw [List.length_drop]; omega, ?_, fun h0 ad ha => ?_⟩, hx⟩
  · have := hr.cut n c (by rw [Q0M]; exact hc)
    rw [show bytesV (bs.drop n) = (bytesV bs).drop n by simp [bytesV]]
    refine this.ext' hx fun h0 ad ha hq => ?_
    obtain ⟨b, hb, hbb⟩ := Q1r ha
    have := h4 (fun e => h0 (by rw [e]; simp)) b hb
    omega
  · obtain ⟨b, hb, hbb⟩ := Q1r ha
    have := h4 (hne h0) b hb
    omega
theorem Q2V (h : RdR w p N bs k) (hl : bs.length < 1000000) {m : Int} (hm0 : 0 ≤ m) (hm : m < 4611686018427387904) :
    Calls Try.prog 45 #[.pointer (some (blk p)), .int .i64 m] w (fun e w' => ∃ a c, e = .returned (.slice a (bytesR m (bs, k)).1.length c) ∧ (bytesR m (bs, k)).1.length ≤ c ∧ RowAt w' a (bytesV (bytesR m (bs, k)).1) ∧ (bytesV (bytesR m (bs, k)).1 ≠ [] → ∀ ad, a = some ad → ad.block < N) ∧
      RdR w' p N (bytesR m (bs, k)).2.1 (bytesR m (bs, k)).2.2 ∧ Ext (fun b => b = p) w w') := by
  refine (Q04.go _ _ (R := fun v w' => ∃ a c, v = (.slice a (bytesR m (bs, k)).1.length c) ∧ (bytesR m (bs, k)).1.length ≤ c ∧ RowAt w' a (bytesV (bytesR m (bs, k)).1) ∧ (bytesV (bytesR m (bs, k)).1 ≠ [] → ∀ ad, a = some ad → ad.block < N) ∧
      RdR w' p N (bytesR m (bs, k)).2.1 (bytesR m (bs, k)).2.2 ∧ Ext (fun b => b = p) w w') ?_).mono fun e w' ⟨v, he, a, c, hv, hw⟩ => ⟨a, c, by rw [he, hv], hw⟩
  unfold Q04.N
  refine (W.rCount_spec h hl hm0 hm).mono fun e w5 ⟨he, hr, hx⟩ => ⟨_, he, ?_⟩
  have hlen := W.countR_len m (bs, k)
  unfold bytesR
  generalize countR m (bs, k) = s at *
  obtain ⟨n, l, k2⟩ := s
  simp only at *
  obtain ⟨hNp, a, c, h1, h2, h3, h4⟩ := id hr
  refine ⟨_, rfl, _, h1.cella (i := 1) rfl, fun hk => ?_, fun hk => ?_⟩
  · unfold takeR
    rw [if_neg hk]
    exact ⟨none, 0, rfl, Nat.le_refl _, RowAt.nil _ _, fun h0 => absurd rfl h0, hr, hx⟩
  · subst hk
    refine ⟨a, l.length, c, h1.cella (i := 0) rfl, fun hn => ?_, fun hn => ?_⟩
    · unfold takeR
      rw [if_pos rfl, if_pos (by show l.length < n; omega)]
      exact (W.rFail_spec hr 4).mono fun e w12 ⟨he, hr, hx2⟩ => ⟨he, none, 0, rfl, Nat.le_refl _, RowAt.nil _ _, fun h0 => absurd rfl h0, hr, hx.trans hx2⟩
    · unfold takeR
      rw [if_pos rfl, if_neg (by show ¬ l.length < n; omega)]
      refine ⟨a, l.length, c, h1.cella (i := 0) rfl, by omega, by omega, a, l.length, c, h1.cella (i := 0) rfl, by omega, by omega, h1.cana (i := 0) rfl, Q00 fun w23 e23 => ?_⟩
      rw [Int.toNat_natCast] at e23 ⊢
      have ht : bytesV (l.take n) = (bytesV l).take n := by simp [bytesV]
      have hlt : (l.take n).length = n := by rw [List.length_take]; omega
      obtain ⟨q1, q2⟩ := Q4w hr h1 (n := n) (by omega) h2 h3 h4 e23
      have hne : bytesV (l.take n) ≠ [] → bytesV l ≠ [] := fun h0 e => h0 (by rw [ht, e]; simp)
      refine ⟨a, c, by rw [hlt], by rw [hlt]; omega, ?_, fun h0 => h4 (hne h0), q1, hx.trans q2⟩
      rw [ht]
      refine (h3.take n).ext' q2 fun h0 ad ha hb => ?_
      have := h4 (fun e => h0 (by rw [e]; simp)) ad ha
      omega
end
end Go.Proofs.Ytlgpeojjmapnjaa
namespace Go.Proofs.Ytlgpeojjmapnjaa
open Go Go.Mx Go.Proofs
open W (OwnB Rd RdR GivesW numR countR doneR zig unzig intR)
def Q06.M (n1 a1 a0 : Int) (R : RW) (w : World) : Prop :=
 bif decide (n1 ≥ a1) then (
 R (.bool (decide (n1 < a0))) w) else (
 R (.bool false) w)

theorem Q06.ok (n1 a1 a0 : Int) {R : RW} {w : World} (h : Q06.M n1 a1 a0 R w) : Calls Try.prog 82 #[.int .i64 n1, .int .i64 a1, .int .i64 a0] w fun e w' => ∃ v, e = .returned v ∧ R v w' :=
  Q09 follows (H := []) (args := [.int .i64 n1, .int .i64 a1, .int .i64 a0]) (cast (by kernel_rfl) h)

def Q06.N (n1 a0 a1 : Int) (R : RW) (w : World) : Prop :=
 (n1 ≥ a0 →
 R (.bool (decide (n1 < a1))) w) ∧
 (n1 < a0 →
 R (.bool false) w)

theorem Q06.up (n1 a1 a0 : Int) {R : RW} {w : World} (h : Q06.N n1 a1 a0 R w) : Q06.M n1 a1 a0 R w := by
  unfold Q06.M
  unfold Q06.N at h
  refine bif_of (fun c4 => ?_) (fun c4 => ?_)
  ·have h := h.1 (of_decide_eq_true c4)
   exact h
  have h := h.2 (Int.not_le.1 (of_decide_eq_false c4))
  exact h

theorem Q06.go (n1 a1 a0 : Int) {R : RW} {w : World} (h : Q06.N n1 a1 a0 R w) : Calls Try.prog 82 #[.int .i64 n1, .int .i64 a1, .int .i64 a0] w fun e w' => ∃ v, e = .returned v ∧ R v w' := Q06.ok n1 a1 a0 (Q06.up n1 a1 a0 h)
theorem Q06.run (n1 a1 a0 : Int) {V : Value} {Q : World → Prop} {w : World} (h : Q06.N n1 a1 a0 (fun v w' => v = V ∧ Q w') w) : Calls Try.prog 82 #[.int .i64 n1, .int .i64 a1, .int .i64 a0] w (Ret V Q) := (Q06.go n1 a1 a0 h).mono fun e w' ⟨v, he, hv, hq⟩ => ⟨by rw [he, hv], hq⟩

def Q06.F (n1 a1 a0 : Int) : Bool :=
  if n1 ≥ a1 then
    (decide (n1 < a0))
  else
    false
theorem Q06.pure (n1 a0 a1 : Int) {w : World} : Calls Try.prog 82 #[.int .i64 n1, .int .i64 a0, .int .i64 a1] w (Ret (.bool (Q06.F n1 a0 a1)) fun w' => Ext no w w') := by
  refine Q06.run n1 a0 a1 ?_
  unfold Q06.N
  refine ⟨fun c0 => ?_, fun c0 => ?_⟩
  ·exact ⟨by unfold Q06.F; rw [if_pos c0], Ext.refl _ _⟩
  ·exact ⟨by unfold Q06.F; rw [if_neg (show ¬ (n1 ≥ a0) from by omega)], Ext.refl _ _⟩

def Q0g.M (a0 : Int) (R : RW) (w : World) : Prop :=
 bif decide (a0 ≥ 0) then (
 R (.bool (decide (a0 < 8))) w) else (
 R (.bool false) w)

theorem Q0g.ok (a0 : Int) {R : RW} {w : World} (h : Q0g.M a0 R w) : Calls Try.prog 94 #[.int .i64 a0] w fun e w' => ∃ v, e = .returned v ∧ R v w' :=
  Q09 follows (H := []) (args := [.int .i64 a0]) (cast (by kernel_rfl) h)

def Q0g.N (a0 : Int) (R : RW) (w : World) : Prop :=
 (a0 ≥ 0 →
 R (.bool (decide (a0 < 8))) w) ∧
 (a0 < 0 →
 R (.bool false) w)

theorem Q0g.up (a0 : Int) {R : RW} {w : World} (h : Q0g.N a0 R w) : Q0g.M a0 R w := by
  unfold Q0g.M
  unfold Q0g.N at h
  refine bif_of (fun c2 => ?_) (fun c2 => ?_)
  ·have h := h.1 (of_decide_eq_true c2)
   exact h
  have h := h.2 (Int.not_le.1 (of_decide_eq_false c2))
  exact h

theorem Q0g.go (a0 : Int) {R : RW} {w : World} (h : Q0g.N a0 R w) : Calls Try.prog 94 #[.int .i64 a0] w fun e w' => ∃ v, e = .returned v ∧ R v w' := Q0g.ok a0 (Q0g.up a0 h)
theorem Q0g.run (a0 : Int) {V : Value} {Q : World → Prop} {w : World} (h : Q0g.N a0 (fun v w' => v = V ∧ Q w') w) : Calls Try.prog 94 #[.int .i64 a0] w (Ret V Q) := (Q0g.go a0 h).mono fun e w' ⟨v, he, hv, hq⟩ => ⟨by rw [he, hv], hq⟩

def Q0g.F (a0 : Int) : Bool :=
  if a0 ≥ 0 then
    (decide (a0 < 8))
  else
    false
theorem Q0g.pure (a0 : Int) {w : World} : Calls Try.prog 94 #[.int .i64 a0] w (Ret (.bool (Q0g.F a0)) fun w' => Ext no w w') := by
  refine Q0g.run a0 ?_
  unfold Q0g.N
  refine ⟨fun c0 => ?_, fun c0 => ?_⟩
  ·exact ⟨by unfold Q0g.F; rw [if_pos c0], Ext.refl _ _⟩
  ·exact ⟨by unfold Q0g.F; rw [if_neg (show ¬ (a0 ≥ 0) from by omega)], Ext.refl _ _⟩

def Q0h.M (a4 a2 : Int) (R : RW) (w : World) : Prop :=
 thenW (w.alloc (.cells #[.int .i64 a4, .int .i64 a2] 24)) fun a1 =>
 ∃ (T4 : Int), a1.cell? ((blk w.heap.size).add 0) = some (.int .i64 T4) ∧
 bif decide (T4 > 0) then (
 ∃ (T5 : Int), a1.cell? ((blk w.heap.size).add 0) = some (.int .i64 T5) ∧
 bif decide (T5 ≤ 1099511627776) then (
 ∃ (W6 : Int), a1.cell? ((blk w.heap.size).add 1) = some (.int .i64 W6) ∧
 Calls Try.prog 94 #[.int .i64 W6] a1 fun a5 a3 => ∃ (a0 : Bool), a5 = .returned (.bool a0) ∧
 R (.bool a0) a3) else (
 R (.bool false) a1)) else (
 R (.bool false) a1)

theorem Q0h.ok (a1 a0 : Int) {R : RW} {w : World} (h : Q0h.M a1 a0 R w) : Calls Try.prog 83 #[.agg #[.int .i64 a1, .int .i64 a0]] w fun e w' => ∃ v, e = .returned v ∧ R v w' :=
  Q09 follows (H := []) (args := [.agg #[.int .i64 a1, .int .i64 a0]]) (cast (by kernel_rfl) h)

def Q0h.N (a1 a3 : Int) (R : RW) (w : World) : Prop :=
 (a1 > 0 →
 (a1 ≤ 1099511627776 →
 ∀ (a2 : World), Ext no w a2 →
 R (.bool (Q0g.F a3)) a2) ∧
 ((1099511627776 : Int) < a1 →
 ∀ (a0 : World), Ext no w a0 →
 R (.bool false) a0)) ∧
 (a1 ≤ 0 →
 ∀ (a0 : World), Ext no w a0 →
 R (.bool false) a0)

theorem Q0h.up (a1 a0 : Int) {R : RW} {w : World} (h : Q0h.N a1 a0 R w) : Q0h.M a1 a0 R w := by
  unfold Q0h.M
  unfold Q0h.N at h
  refine Q00 fun a4 e3 => ?_
  have a2 := Blk.of_new e3
  have a6 := ((Ext.refl no w)).size
  have a3 := (Ext.refl no w).x_alloc e3
  refine ⟨a1, a2.celli 0 rfl rfl, ?_⟩
  refine bif_fo (fun c4 => ?_) (fun c4 => ?_)
  ·have h := h.2 (Int.not_lt.1 (of_decide_eq_false c4))
   have h := h a4 a3
   exact h
  have h := h.1 (of_decide_eq_true c4)
  refine ⟨a1, a2.celli 0 rfl rfl, ?_⟩
  refine bif_fo (fun c5 => ?_) (fun c5 => ?_)
  ·have h := h.2 (Int.not_le.1 (of_decide_eq_false c5))
   have h := h a4 a3
   exact h
  have h := h.1 (of_decide_eq_true c5)
  refine ⟨a0, a2.celli 1 rfl rfl, ?_⟩
  refine (Q0g.pure a0).mono fun ee ww6 ⟨he, hxx⟩ => ⟨(Q0g.F a0), he, ?_⟩
  have a5 := a3.trans hxx
  have h := h ww6 a5
  exact h

theorem Q0h.go (a1 a0 : Int) {R : RW} {w : World} (h : Q0h.N a1 a0 R w) : Calls Try.prog 83 #[.agg #[.int .i64 a1, .int .i64 a0]] w fun e w' => ∃ v, e = .returned v ∧ R v w' := Q0h.ok a1 a0 (Q0h.up a1 a0 h)
theorem Q0h.run (a1 a0 : Int) {V : Value} {Q : World → Prop} {w : World} (h : Q0h.N a1 a0 (fun v w' => v = V ∧ Q w') w) : Calls Try.prog 83 #[.agg #[.int .i64 a1, .int .i64 a0]] w (Ret V Q) := (Q0h.go a1 a0 h).mono fun e w' ⟨v, he, hv, hq⟩ => ⟨by rw [he, hv], hq⟩

def Q0h.F (a0 a1 : Int) : Bool :=
  if a0 > 0 then
    if a0 ≤ 1099511627776 then
      (Q0g.F a1)
    else
      false
  else
    false
theorem Q0h.pure (a0 a1 : Int) {w : World} : Calls Try.prog 83 #[.agg #[.int .i64 a0, .int .i64 a1]] w (Ret (.bool (Q0h.F a0 a1)) fun w' => Ext no w w') := by
  refine Q0h.run a0 a1 ?_
  unfold Q0h.N
  refine ⟨fun c0 => ?_, fun c0 => ?_⟩
  ·refine ⟨fun c1 => ?_, fun c1 => ?_⟩
   ·intro w' hx; exact ⟨by unfold Q0h.F; rw [if_pos c0, if_pos c1], hx⟩
   ·intro w' hx; exact ⟨by unfold Q0h.F; rw [if_pos c0, if_neg (show ¬ (a0 ≤ 1099511627776) from by omega)], hx⟩
  ·intro w' hx; exact ⟨by unfold Q0h.F; rw [if_neg (show ¬ (a0 > 0) from by omega)], hx⟩

def Q08.M (b4 bf bn bp bq b9 : Int) (bb : Option Addr) (b7 bd : Nat) (bo : Int) (R : RW) (w : World) : Prop :=
 thenW (w.alloc (.cells #[.int .i64 b4, .int .i64 bf, .int .u64 bn, .int .i64 bp, .int .i64 bq, .int .i64 b9, .slice bb b7 bd, .int .u64 bo] 27)) fun c1 =>
 ∃ (ac : Int), c1.cell? ((blk w.heap.size).add 0) = some (.int .i64 ac) ∧
 Calls Try.prog 82 #[.int .i64 ac, .int .i64 0, .int .i64 8] c1 fun bv aw => ∃ (a4 : Bool), bv = .returned (.bool a4) ∧
 bif !a4 then (
 bif !a4 then (
 R (.bool false) aw) else (
 ∃ (bj bg : Int), cellsAt aw ((blk w.heap.size).add 3) [.int .i64 bj, .int .i64 bg] 0 ∧
 Calls Try.prog 83 #[.agg #[.int .i64 bj, .int .i64 bg]] aw fun bs a2 => ∃ (a9 : Bool), bs = .returned (.bool a9) ∧
 bif !a9 then (
 bif !a9 then (
 R (.bool false) a2) else (
 ∃ (av : Int), a2.cell? ((blk w.heap.size).add 2) = some (.int .u64 av) ∧
 ∃ (aq : Int), a2.cell? ((blk w.heap.size).add 1) = some (.int .i64 aq) ∧
 R (.bool ((av == 0) == (aq == 0))) a2)) else (
 ∃ (bx : Int), a2.cell? (((blk w.heap.size).add 3).add 1) = some (.int .i64 bx) ∧
 ∃ (a5 : Int), a2.cell? ((blk w.heap.size).add 0) = some (.int .i64 a5) ∧
 bif bx != a5 then (
 bif bx != a5 then (
 R (.bool false) a2) else (
 ∃ (ax : Int), a2.cell? ((blk w.heap.size).add 2) = some (.int .u64 ax) ∧
 ∃ (ad : Int), a2.cell? ((blk w.heap.size).add 1) = some (.int .i64 ad) ∧
 R (.bool ((ax == 0) == (ad == 0))) a2)) else (
 ∃ (b8 : Option Addr) (ai b6 : Nat), a2.cell? ((blk w.heap.size).add 6) = some (.slice b8 ai b6) ∧
 bif decide ((ai : Int) > 1100) then (
 R (.bool false) a2) else (
 ∃ (b0 : Int), a2.cell? ((blk w.heap.size).add 2) = some (.int .u64 b0) ∧
 ∃ (ak : Int), a2.cell? ((blk w.heap.size).add 1) = some (.int .i64 ak) ∧
 R (.bool ((b0 == 0) == (ak == 0))) a2))))) else (
 ∃ (ao : Int), aw.cell? ((blk w.heap.size).add 1) = some (.int .i64 ao) ∧
 Calls Try.prog 82 #[.int .i64 ao, .int .i64 0, .int .i64 200] aw fun bu au => ∃ (a6 : Bool), bu = .returned (.bool a6) ∧
 bif !a6 then (
 bif !a6 then (
 R (.bool false) au) else (
 ∃ (bk bi : Int), cellsAt au ((blk w.heap.size).add 3) [.int .i64 bk, .int .i64 bi] 0 ∧
 Calls Try.prog 83 #[.agg #[.int .i64 bk, .int .i64 bi]] au fun c0 a0 => ∃ (a8 : Bool), c0 = .returned (.bool a8) ∧
 bif !a8 then (
 bif !a8 then (
 R (.bool false) a0) else (
 ∃ (b2 : Int), a0.cell? ((blk w.heap.size).add 2) = some (.int .u64 b2) ∧
 ∃ (ah : Int), a0.cell? ((blk w.heap.size).add 1) = some (.int .i64 ah) ∧
 R (.bool ((b2 == 0) == (ah == 0))) a0)) else (
 ∃ (bw : Int), a0.cell? (((blk w.heap.size).add 3).add 1) = some (.int .i64 bw) ∧
 ∃ (a7 : Int), a0.cell? ((blk w.heap.size).add 0) = some (.int .i64 a7) ∧
 bif bw != a7 then (
 bif bw != a7 then (
 R (.bool false) a0) else (
 ∃ (b3 : Int), a0.cell? ((blk w.heap.size).add 2) = some (.int .u64 b3) ∧
 ∃ (ag : Int), a0.cell? ((blk w.heap.size).add 1) = some (.int .i64 ag) ∧
 R (.bool ((b3 == 0) == (ag == 0))) a0)) else (
 ∃ (be : Option Addr) (ae ba : Nat), a0.cell? ((blk w.heap.size).add 6) = some (.slice be ae ba) ∧
 bif decide ((ae : Int) > 1100) then (
 R (.bool false) a0) else (
 ∃ (ay : Int), a0.cell? ((blk w.heap.size).add 2) = some (.int .u64 ay) ∧
 ∃ (al : Int), a0.cell? ((blk w.heap.size).add 1) = some (.int .i64 al) ∧
 R (.bool ((ay == 0) == (al == 0))) a0))))) else (
 ∃ (af : Int), au.cell? ((blk w.heap.size).add 5) = some (.int .i64 af) ∧
 Calls Try.prog 82 #[.int .i64 af, .int .i64 (-1), .int .i64 20] au fun br bm => ∃ (ab : Bool), br = .returned (.bool ab) ∧
 bif !ab then (
 R (.bool false) bm) else (
 ∃ (bh bl : Int), cellsAt bm ((blk w.heap.size).add 3) [.int .i64 bh, .int .i64 bl] 0 ∧
 Calls Try.prog 83 #[.agg #[.int .i64 bh, .int .i64 bl]] bm fun bz a1 => ∃ (aa : Bool), bz = .returned (.bool aa) ∧
 bif !aa then (
 bif !aa then (
 R (.bool false) a1) else (
 ∃ (az : Int), a1.cell? ((blk w.heap.size).add 2) = some (.int .u64 az) ∧
 ∃ (aj : Int), a1.cell? ((blk w.heap.size).add 1) = some (.int .i64 aj) ∧
 R (.bool ((az == 0) == (aj == 0))) a1)) else (
 ∃ (bt : Int), a1.cell? (((blk w.heap.size).add 3).add 1) = some (.int .i64 bt) ∧
 ∃ (a3 : Int), a1.cell? ((blk w.heap.size).add 0) = some (.int .i64 a3) ∧
 bif bt != a3 then (
 bif bt != a3 then (
 R (.bool false) a1) else (
 ∃ (b1 : Int), a1.cell? ((blk w.heap.size).add 2) = some (.int .u64 b1) ∧
 ∃ (am : Int), a1.cell? ((blk w.heap.size).add 1) = some (.int .i64 am) ∧
 R (.bool ((b1 == 0) == (am == 0))) a1)) else (
 ∃ (b5 : Option Addr) (ap bc : Nat), a1.cell? ((blk w.heap.size).add 6) = some (.slice b5 ap bc) ∧
 bif decide ((ap : Int) > 1100) then (
 R (.bool false) a1) else (
 ∃ (ar : Int), a1.cell? ((blk w.heap.size).add 2) = some (.int .u64 ar) ∧
 ∃ (an : Int), a1.cell? ((blk w.heap.size).add 1) = some (.int .i64 an) ∧
 R (.bool ((ar == 0) == (an == 0))) a1))))))

theorem Q08.ok (a0 a3 a6 a7 a8 a1 : Int) (a5 : Option Addr) (a4 a2 : Nat) (a9 : Int) {R : RW} {w : World} (h : Q08.M a0 a3 a6 a7 a8 a1 a5 a4 a2 a9 R w) : Calls Try.prog 61 #[.agg #[.int .i64 a0, .int .i64 a3, .int .u64 a6, .int .i64 a7, .int .i64 a8, .int .i64 a1, .slice a5 a4 a2, .int .u64 a9]] w fun e w' => ∃ v, e = .returned v ∧ R v w' :=
  Q09 follows (H := []) (args := [.agg #[.int .i64 a0, .int .i64 a3, .int .u64 a6, .int .i64 a7, .int .i64 a8, .int .i64 a1, .slice a5 a4 a2, .int .u64 a9]]) (cast (by kernel_rfl) h)

def Q08.N (a0 a2 a7 a6 a3 a4 : Int) (ac : Option Addr) (a5 ab : Nat) (ad : Int) (R : RW) (w : World) : Prop :=
 ((Q06.F a0 0 8) = false →
 ∀ (aa : World), Ext no w aa →
 R (.bool false) aa) ∧
 ((Q06.F a0 0 8) = true →
 ((Q06.F a2 0 200) = false →
 ∀ (a9 : World), Ext no w a9 →
 R (.bool false) a9) ∧
 ((Q06.F a2 0 200) = true →
 ((Q06.F a4 (-1) 20) = false →
 ∀ (a8 : World), Ext no w a8 →
 R (.bool false) a8) ∧
 ((Q06.F a4 (-1) 20) = true →
 ((Q0h.F a6 a3) = false →
 ∀ (a1 : World), Ext no w a1 →
 R (.bool false) a1) ∧
 ((Q0h.F a6 a3) = true →
 (a3 ≠ a0 →
 ∀ (a1 : World), Ext no w a1 →
 R (.bool false) a1) ∧
 (a3 = a0 →
 ((a5 : Int) > 1100 →
 ∀ (a1 : World), Ext no w a1 →
 R (.bool false) a1) ∧
 ((a5 : Int) ≤ 1100 →
 ∀ (a1 : World), Ext no w a1 →
 R (.bool ((a7 == 0) == (a2 == 0))) a1))))))

theorem Q08.up (a0 a1 a9 a8 a3 a2 : Int) (a5 : Option Addr) (a4 a6 : Nat) (ab : Int) {R : RW} {w : World} (h : Q08.N a0 a1 a9 a8 a3 a2 a5 a4 a6 ab R w) : Q08.M a0 a1 a9 a8 a3 a2 a5 a4 a6 ab R w := by
  unfold Q08.M
  unfold Q08.N at h
  refine Q00 fun am e9 => ?_
  have a7 := Blk.of_new e9
  have an := ((Ext.refl no w)).size
  have al := (Ext.refl no w).x_alloc e9
  refine ⟨a0, a7.celli 0 rfl rfl, ?_⟩
  refine (Q06.pure a0 0 8).mono fun ee ww10 ⟨he, hxx⟩ => ⟨(Q06.F a0 0 8), he, ?_⟩
  have ac := al.trans hxx
  have a7 := a7.ext hxx id
  refine bif_of (fun af => ?_) (fun af => ?_)
  ·have h := h.1 (not_t af)
   refine bif_tt af ?_
   have h := h ww10 ac
   exact h
  have h := h.2 (not_f af)
  refine ⟨a1, a7.celli 1 rfl rfl, ?_⟩
  refine (Q06.pure a1 0 200).mono fun ee ww13 ⟨he, hxx⟩ => ⟨(Q06.F a1 0 200), he, ?_⟩
  have ae := ac.trans hxx
  have a7 := a7.ext hxx id
  refine bif_of (fun ah => ?_) (fun ah => ?_)
  ·have h := h.1 (not_t ah)
   refine bif_tt ah ?_
   have h := h ww13 ae
   exact h
  have h := h.2 (not_f ah)
  refine ⟨a2, a7.celli 5 rfl rfl, ?_⟩
  refine (Q06.pure a2 (-1) 20).mono fun ee ww16 ⟨he, hxx⟩ => ⟨(Q06.F a2 (-1) 20), he, ?_⟩
  have ad := ae.trans hxx
  have a7 := a7.ext hxx id
  refine bif_of (fun ak => ?_) (fun ak => ?_)
  ·have h := h.1 (not_t ak)
   have h := h ww16 ad
   exact h
  have h := h.2 (not_f ak)
  refine ⟨a8, a3, ⟨a7.celli 3 rfl rfl, a7.celli 4 rfl rfl, trivial⟩, ?_⟩
  refine (Q0h.pure a8 a3).mono fun ee ww19 ⟨he, hxx⟩ => ⟨(Q0h.F a8 a3), he, ?_⟩
  have aa := ad.trans hxx
  have a7 := a7.ext hxx id
  refine bif_of (fun ai => ?_) (fun ai => ?_)
  ·have h := h.1 (not_t ai)
   refine bif_tt ai ?_
   have h := h ww19 aa
   exact h
  have h := h.2 (not_f ai)
  refine ⟨a3, a7.celli 4 rfl rfl, ?_⟩
  refine ⟨a0, a7.celli 0 rfl rfl, ?_⟩
  refine bif_of (fun ag => ?_) (fun ag => ?_)
  ·have h := h.1 (bne_t ag)
   refine bif_tt ag ?_
   have h := h ww19 aa
   exact h
  have h := h.2 (bne_f ag)
  refine ⟨a5, a4, a6, a7.celli 6 rfl rfl, ?_⟩
  refine bif_of (fun aj => ?_) (fun aj => ?_)
  ·have h := h.1 (of_decide_eq_true aj)
   have h := h ww19 aa
   exact h
  have h := h.2 (Int.not_lt.1 (of_decide_eq_false aj))
  refine ⟨a9, a7.celli 2 rfl rfl, ?_⟩
  refine ⟨a1, a7.celli 1 rfl rfl, ?_⟩
  have h := h ww19 aa
  exact h

theorem Q08.go (a0 a3 a6 a7 a8 a1 : Int) (a5 : Option Addr) (a4 a2 : Nat) (a9 : Int) {R : RW} {w : World} (h : Q08.N a0 a3 a6 a7 a8 a1 a5 a4 a2 a9 R w) : Calls Try.prog 61 #[.agg #[.int .i64 a0, .int .i64 a3, .int .u64 a6, .int .i64 a7, .int .i64 a8, .int .i64 a1, .slice a5 a4 a2, .int .u64 a9]] w fun e w' => ∃ v, e = .returned v ∧ R v w' := Q08.ok a0 a3 a6 a7 a8 a1 a5 a4 a2 a9 (Q08.up a0 a3 a6 a7 a8 a1 a5 a4 a2 a9 h)
theorem Q08.run (a0 a3 a6 a7 a8 a1 : Int) (a5 : Option Addr) (a4 a2 : Nat) (a9 : Int) {V : Value} {Q : World → Prop} {w : World} (h : Q08.N a0 a3 a6 a7 a8 a1 a5 a4 a2 a9 (fun v w' => v = V ∧ Q w') w) : Calls Try.prog 61 #[.agg #[.int .i64 a0, .int .i64 a3, .int .u64 a6, .int .i64 a7, .int .i64 a8, .int .i64 a1, .slice a5 a4 a2, .int .u64 a9]] w (Ret V Q) := (Q08.go a0 a3 a6 a7 a8 a1 a5 a4 a2 a9 h).mono fun e w' ⟨v, he, hv, hq⟩ => ⟨by rw [he, hv], hq⟩

def Q08.F (a0 a1 a5 a6 a4 a2 : Int) (a8 : Option Addr) (a3 a7 : Nat) (a9 : Int) : Bool :=
  if (Q06.F a0 0 8) = false then
    false
  else
    if (Q06.F a1 0 200) = false then
      false
    else
      if (Q06.F a2 (-1) 20) = false then
        false
      else
        if (Q0h.F a6 a4) = false then
          false
        else
          if a4 ≠ a0 then
            false
          else
            if (a3 : Int) > 1100 then
              false
            else
              ((a5 == 0) == (a1 == 0))
theorem Q08.pure (a1 a4 a6 a7 a8 a2 : Int) (a5 : Option Addr) (a0 a3 : Nat) (a9 : Int) {w : World} : Calls Try.prog 61 #[.agg #[.int .i64 a1, .int .i64 a4, .int .u64 a6, .int .i64 a7, .int .i64 a8, .int .i64 a2, .slice a5 a0 a3, .int .u64 a9]] w (Ret (.bool (Q08.F a1 a4 a6 a7 a8 a2 a5 a0 a3 a9)) fun w' => Ext no w w') := by
  refine Q08.run a1 a4 a6 a7 a8 a2 a5 a0 a3 a9 ?_
  unfold Q08.N
  refine ⟨fun c0 => ?_, fun c0 => ?_⟩
  ·intro w' hx; exact ⟨by unfold Q08.F; rw [if_pos c0], hx⟩
  ·refine ⟨fun c1 => ?_, fun c1 => ?_⟩
   ·intro w' hx; exact ⟨by unfold Q08.F; rw [if_neg (by rw [c0]; decide), if_pos c1], hx⟩
   ·refine ⟨fun c2 => ?_, fun c2 => ?_⟩
    ·intro w' hx; exact ⟨by unfold Q08.F; rw [if_neg (by rw [c0]; decide), if_neg (by rw [c1]; decide), if_pos c2], hx⟩
    ·refine ⟨fun c3 => ?_, fun c3 => ?_⟩
     ·intro w' hx; exact ⟨by unfold Q08.F; rw [if_neg (by rw [c0]; decide), if_neg (by rw [c1]; decide), if_neg (by rw [c2]; decide), if_pos c3], hx⟩
     ·refine ⟨fun c4 => ?_, fun c4 => ?_⟩
      ·intro w' hx; exact ⟨by unfold Q08.F; rw [if_neg (by rw [c0]; decide), if_neg (by rw [c1]; decide), if_neg (by rw [c2]; decide), if_neg (by rw [c3]; decide), if_pos c4], hx⟩
      ·refine ⟨fun c5 => ?_, fun c5 => ?_⟩
       ·intro w' hx; exact ⟨by unfold Q08.F; rw [if_neg (by rw [c0]; decide), if_neg (by rw [c1]; decide), if_neg (by rw [c2]; decide), if_neg (by rw [c3]; decide), if_neg (not_not_intro c4), if_pos c5], hx⟩
       ·intro w' hx; exact ⟨by unfold Q08.F; rw [if_neg (by rw [c0]; decide), if_neg (by rw [c1]; decide), if_neg (by rw [c2]; decide), if_neg (by rw [c3]; decide), if_neg (not_not_intro c4), if_neg (show ¬ ((a0 : Int) > 1100) from by omega)], hx⟩

structure Ent where
  w : Int
  i : Int
  pv : Int
  t : Int
  tw : Int
  ep : Int
  body : List UInt8
  sg : Int
deriving DecidableEq
def Ent.zero : Ent := ⟨0, 0, 0, 0, 0, 0, [], 0⟩
def entC (e : Ent) (a : Option Addr) (c : Nat) : List Value := [.int .i64 e.w, .int .i64 e.i, .int .u64 e.pv, .int .i64 e.t, .int .i64 e.tw, .int .i64 e.ep, .slice a e.body.length c, .int .u64 e.sg]
def entV (e : Ent) (a : Option Addr) (c : Nat) : Value := .agg #[.int .i64 e.w, .int .i64 e.i, .int .u64 e.pv, .int .i64 e.t, .int .i64 e.tw, .int .i64 e.ep, .slice a e.body.length c, .int .u64 e.sg]
structure Ent.fit (e : Ent) : Prop where
  pv0 : 0 ≤ e.pv
  pv1 : e.pv < 18446744073709551616
  sg0 : 0 ≤ e.sg
  sg1 : e.sg < 18446744073709551616
def Q0z (e : Ent) : Bool := decide (0 ≤ e.w ∧ e.w < 8 ∧ 0 ≤ e.i ∧ e.i < 200 ∧ -1 ≤ e.ep ∧ e.ep < 20 ∧ 0 < e.t ∧ e.t ≤ 1099511627776 ∧ e.tw = e.w ∧ e.body.length ≤ 1100 ∧ (e.pv = 0 ↔ e.i = 0))
theorem beq_dec (x y : Int) : ((x == 0) == (y == 0)) = decide (x = 0 ↔ y = 0) := by
  rw [Bool.eq_iff_iff, decide_eq_true_eq, beq_iff_eq, Bool.eq_iff_iff, beq_iff_eq, beq_iff_eq]
theorem Q4j (n a b : Int) : Q06.F n a b = decide (a ≤ n ∧ n < b) := by
  unfold Q06.F
  by_cases h : n ≥ a
  · rw [if_pos h, decide_eq_decide]; omega
  · rw [if_neg h, eq_comm, decide_eq_false_iff_not]; omega
theorem Q2O (t w : Int) : Q0h.F t w = decide (0 < t ∧ t ≤ 1099511627776 ∧ 0 ≤ w ∧ w < 8) := by
  unfold Q0h.F Q0g.F
  by_cases h : t > 0
  · rw [if_pos h]
    by_cases h1 : t ≤ 1099511627776
    · rw [if_pos h1]
      by_cases h2 : w ≥ 0
      · rw [if_pos h2, decide_eq_decide]; omega
      · rw [if_neg h2, eq_comm, decide_eq_false_iff_not]; omega
    · rw [if_neg h1, eq_comm, decide_eq_false_iff_not]; omega
  · rw [if_neg h, eq_comm, decide_eq_false_iff_not]; omega
theorem Q1K (e : Ent) (a : Option Addr) (c : Nat) : Q08.F e.w e.i e.pv e.t e.tw e.ep a e.body.length c e.sg = Q0z e := by
  unfold Q08.F Q0z
  rw [beq_dec]
  simp only [Q4j, Q2O, decide_eq_false_iff_not]
  rw [Bool.eq_iff_iff, decide_eq_true_eq]
  (repeat' split) <;> simp only [Bool.false_eq_true, decide_eq_true_eq, false_iff] <;> omega
def stampL (t w : Int) : List UInt8 := numL (zig t) ++ numL w.toNat
def textL (e : Ent) : List UInt8 := numL e.w.toNat ++ numL e.i.toNat ++ numL e.pv.toNat ++ stampL e.t e.tw ++ numL (zig e.ep) ++ (numL e.body.length ++ e.body)
def bytesL (e : Ent) : List UInt8 := textL e ++ numL e.sg.toNat
theorem Q2Q (t w : Int) : (stampL t w).length ≤ 20 := by
  have h1 := W.numL_le (zig t); have h2 := W.numL_le w.toNat
  unfold stampL; rw [List.length_append]; omega
theorem Q3t (e : Ent) : (textL e).length ≤ 70 + e.body.length := by
  have h1 := W.numL_le e.w.toNat; have h2 := W.numL_le e.i.toNat; have h3 := W.numL_le e.pv.toNat; have h4 := Q2Q e.t e.tw; have h5 := W.numL_le (zig e.ep); have h6 := W.numL_le e.body.length
  unfold textL; simp only [List.length_append]; omega
theorem Q41 (e : Ent) : (bytesL e).length ≤ 80 + e.body.length := by
  have h1 := Q3t e; have h2 := W.numL_le e.sg.toNat
  unfold bytesL; rw [List.length_append]; omega
def stampR (s : RS) : (Int × Nat) × RS := (((intR s).1, (countR 7 (intR s).2).1), (countR 7 (intR s).2).2)
def entR1 (s : RS) : RS := (countR 7 s).2
def entR2 (s : RS) : RS := (countR 199 (entR1 s)).2
def entR3 (s : RS) : RS := (numR (entR2 s)).2
def entR4 (s : RS) : RS := (stampR (entR3 s)).2
def entR5 (s : RS) : RS := (intR (entR4 s)).2
def entR6 (s : RS) : RS := (bytesR 1100 (entR5 s)).2
def entR7 (s : RS) : RS := (numR (entR6 s)).2
def entR (s : RS) : Ent := ⟨(countR 7 s).1, (countR 199 (entR1 s)).1, (numR (entR2 s)).1, (stampR (entR3 s)).1.1, (stampR (entR3 s)).1.2, (intR (entR4 s)).1, (bytesR 1100 (entR5 s)).1, (numR (entR6 s)).1⟩
def readE (b : List UInt8) : Ent × Int :=
  if doneR (entR7 (b, 0)) ≠ 0 then (Ent.zero, doneR (entR7 (b, 0))) else if Q0z (entR (b, 0)) = true then (entR (b, 0), 0) else (Ent.zero, 4)
theorem Q2D (s : RS) : (intR s).2.1.length ≤ s.1.length := W.numR_len s
theorem Q3y (s : RS) : (stampR s).2.1.length ≤ s.1.length := Nat.le_trans (W.countR_len 7 _) (Q2D s)
theorem Q4t (s : RS) : (entR1 s).1.length ≤ s.1.length ∧ (entR2 s).1.length ≤ s.1.length ∧ (entR3 s).1.length ≤ s.1.length ∧ (entR4 s).1.length ≤ s.1.length ∧ (entR5 s).1.length ≤ s.1.length ∧ (entR6 s).1.length ≤ s.1.length ∧ (entR7 s).1.length ≤ s.1.length := by
  have h1 : (entR1 s).1.length ≤ s.1.length := W.countR_len 7 s
  have h2 : (entR2 s).1.length ≤ (entR1 s).1.length := W.countR_len 199 _
  have h3 : (entR3 s).1.length ≤ (entR2 s).1.length := W.numR_len _
  have h4 : (entR4 s).1.length ≤ (entR3 s).1.length := Q3y _
  have h5 : (entR5 s).1.length ≤ (entR4 s).1.length := Q2D _
  have h6 : (entR6 s).1.length ≤ (entR5 s).1.length := (Q18 1100 _).1
  have h7 : (entR7 s).1.length ≤ (entR6 s).1.length := W.numR_len _
  omega
/-! ### the plain law -/
theorem Q2T {t : Int} (h0 : -9223372036854775808 ≤ t) (h1 : t < 9223372036854775808) (r : List UInt8) : intR (numL (zig t) ++ r, 0) = (t, (r, 0)) := by
  unfold intR
  rw [W.numR_write (W.zig_lt h0 h1), W.unzig_zig]
theorem Q30 (x r : List UInt8) : takeR x.length (x ++ r, 0) = (x, (r, 0)) := by
  unfold takeR
  rw [if_pos rfl, if_neg (by simp), List.take_left' rfl, List.drop_left' rfl]
theorem Q0O {m : Int} {x : List UInt8} (hm : (x.length : Int) ≤ m) (hx : x.length < 18446744073709551616) (r : List UInt8) : bytesR m (numL x.length ++ (x ++ r), 0) = (x, (r, 0)) := by
  unfold bytesR
  rw [W.countR_write hx hm, Q30]
theorem Q15 (e : Ent) : Q0z e = true ↔ (0 ≤ e.w ∧ e.w < 8 ∧ 0 ≤ e.i ∧ e.i < 200 ∧ -1 ≤ e.ep ∧ e.ep < 20 ∧ 0 < e.t ∧ e.t ≤ 1099511627776 ∧ e.tw = e.w ∧ e.body.length ≤ 1100 ∧ (e.pv = 0 ↔ e.i = 0)) := decide_eq_true_iff
theorem Q3x {e : Ent} (h : Q0z e = true) (hf : e.fit) (r : List UInt8) : entR (bytesL e ++ r, 0) = e ∧ entR7 (bytesL e ++ r, 0) = (r, 0) := by
  obtain ⟨h1, h2, h3, h4, h5, h6, h7, h8, h9, h10, h11⟩ := (Q15 e).1 h
  obtain ⟨l2, l3, l4, l5, l6, l7, l8, e1, rfl, rfl, rfl, rfl, rfl, rfl, rfl⟩ : ∃ l2 l3 l4 l5 l6 l7 l8, bytesL e ++ r = numL e.w.toNat ++ l2 ∧ l2 = numL e.i.toNat ++ l3 ∧ l3 = numL e.pv.toNat ++ l4 ∧ l4 = numL (zig e.t) ++ l5 ∧ l5 = numL e.tw.toNat ++ l6 ∧ l6 = numL (zig e.ep) ++ l7 ∧
      l7 = numL e.body.length ++ (e.body ++ l8) ∧ l8 = numL e.sg.toNat ++ r := ⟨_, _, _, _, _, _, _, by unfold bytesL textL stampL; simp only [List.append_assoc], rfl, rfl, rfl, rfl, rfl, rfl, rfl⟩
  have f1 := hf.pv0; have f2 := hf.pv1; have f3 := hf.sg0; have f4 := hf.sg1
  have q1 := W.countR_write (n := e.w.toNat) (m := 7) (by omega) (by omega) (numL e.i.toNat ++ (numL e.pv.toNat ++ (numL (zig e.t) ++ (numL e.tw.toNat ++ (numL (zig e.ep) ++ (numL e.body.length ++ (e.body ++ (numL e.sg.toNat ++ r))))))))
  rw [← e1] at q1
  have q2 := W.countR_write (n := e.i.toNat) (m := 199) (by omega) (by omega) (numL e.pv.toNat ++ (numL (zig e.t) ++ (numL e.tw.toNat ++ (numL (zig e.ep) ++ (numL e.body.length ++ (e.body ++ (numL e.sg.toNat ++ r)))))))
  have p1 : entR1 (bytesL e ++ r, 0) = (numL e.i.toNat ++ (numL e.pv.toNat ++ (numL (zig e.t) ++ (numL e.tw.toNat ++ (numL (zig e.ep) ++ (numL e.body.length ++ (e.body ++ (numL e.sg.toNat ++ r))))))), 0) := congrArg Prod.snd q1
  rw [← p1] at q2
  have q3 := W.numR_write (n := e.pv.toNat) (by omega) (numL (zig e.t) ++ (numL e.tw.toNat ++ (numL (zig e.ep) ++ (numL e.body.length ++ (e.body ++ (numL e.sg.toNat ++ r))))))
  have p2 : entR2 (bytesL e ++ r, 0) = (numL e.pv.toNat ++ (numL (zig e.t) ++ (numL e.tw.toNat ++ (numL (zig e.ep) ++ (numL e.body.length ++ (e.body ++ (numL e.sg.toNat ++ r)))))), 0) := congrArg Prod.snd q2
  rw [← p2] at q3
  have q4 := Q2T (t := e.t) (by omega) (by omega) (numL e.tw.toNat ++ (numL (zig e.ep) ++ (numL e.body.length ++ (e.body ++ (numL e.sg.toNat ++ r)))))
  have p3 : entR3 (bytesL e ++ r, 0) = (numL (zig e.t) ++ (numL e.tw.toNat ++ (numL (zig e.ep) ++ (numL e.body.length ++ (e.body ++ (numL e.sg.toNat ++ r))))), 0) := congrArg Prod.snd q3
  rw [← p3] at q4
  have q5 := W.countR_write (n := e.tw.toNat) (m := 7) (by omega) (by omega) (numL (zig e.ep) ++ (numL e.body.length ++ (e.body ++ (numL e.sg.toNat ++ r))))
  have p5 : (intR (entR3 (bytesL e ++ r, 0))).2 = (numL e.tw.toNat ++ (numL (zig e.ep) ++ (numL e.body.length ++ (e.body ++ (numL e.sg.toNat ++ r)))), 0) := congrArg Prod.snd q4
  rw [← p5] at q5
  have q6 := Q2T (t := e.ep) (by omega) (by omega) (numL e.body.length ++ (e.body ++ (numL e.sg.toNat ++ r)))
  have p6 : entR4 (bytesL e ++ r, 0) = (numL (zig e.ep) ++ (numL e.body.length ++ (e.body ++ (numL e.sg.toNat ++ r))), 0) := congrArg Prod.snd q5
  rw [← p6] at q6
  have q7 := Q0O (x := e.body) (m := 1100) (by omega) (by omega) (numL e.sg.toNat ++ r)
  have p7 : entR5 (bytesL e ++ r, 0) = (numL e.body.length ++ (e.body ++ (numL e.sg.toNat ++ r)), 0) := congrArg Prod.snd q6
  rw [← p7] at q7
  have q8 := W.numR_write (n := e.sg.toNat) (by omega) r
  have p8 : entR6 (bytesL e ++ r, 0) = (numL e.sg.toNat ++ r, 0) := congrArg Prod.snd q7
  rw [← p8] at q8
  refine ⟨?_, congrArg Prod.snd q8⟩
  unfold entR stampR
  rw [q1, q2, q3, q5, q4, q6, q7, q8]
  simp only
  obtain ⟨w, i, pv, t, tw, ep, body, sg⟩ := e
  simp only at *
  rw [Int.toNat_of_nonneg h1, Int.toNat_of_nonneg h3, Int.toNat_of_nonneg f1, Int.toNat_of_nonneg (by omega : 0 ≤ tw), Int.toNat_of_nonneg f3]
theorem Q1A {e : Ent} (h : Q0z e = true) (hf : e.fit) : readE (bytesL e) = (e, 0) := by
  obtain ⟨h1, h2⟩ := Q3x h hf []
  rw [List.append_nil] at h1 h2
  unfold readE
  rw [h2, h1, if_neg (by simp [doneR]), if_pos h]
end Go.Proofs.Ytlgpeojjmapnjaa
namespace Go.Proofs.Ytlgpeojjmapnjaa
open Go Go.Mx Go.Proofs
open W (OwnB Rd RdR GivesW numR countR doneR zig unzig intR)
def Q0u.M (a0 : Option Addr) (a3 a5 : Nat) (a2 : Option Addr) (a1 a4 : Nat) (R : RW) (w : World) : Prop :=
 ∃ (s3 : ByteArray), (convert 25 9 (.slice a0 a3 a5)).run Try.prog w = .ok (.string s3) w ∧
 ∃ (s4 : ByteArray), (convert 25 9 (.slice a2 a1 a4)).run Try.prog w = .ok (.string s4) w ∧
 R (.bool (s3.toList == s4.toList)) w

theorem Q0u.ok (a0 : Option Addr) (a3 a5 : Nat) (a2 : Option Addr) (a1 a4 : Nat) {R : RW} {w : World} (h : Q0u.M a0 a3 a5 a2 a1 a4 R w) : Calls Try.prog 75 #[.slice a0 a3 a5, .slice a2 a1 a4] w fun e w' => ∃ v, e = .returned v ∧ R v w' :=
  Q09 follows (H := []) (args := [.slice a0 a3 a5, .slice a2 a1 a4]) (cast (by kernel_rfl) h)

def Q0u.N (a0 : Option Addr) (a3 a5 : Nat) (a2 : Option Addr) (a1 a4 : Nat) (R : RW) (w : World) : Prop :=
 ∃ (s3 : ByteArray), (convert 25 9 (.slice a0 a3 a5)).run Try.prog w = .ok (.string s3) w ∧
 ∃ (s5 : ByteArray), (convert 25 9 (.slice a2 a1 a4)).run Try.prog w = .ok (.string s5) w ∧
 R (.bool (s3.toList == s5.toList)) w

theorem Q0u.up (a0 : Option Addr) (a3 a5 : Nat) (a2 : Option Addr) (a1 a4 : Nat) {R : RW} {w : World} (h : Q0u.N a0 a3 a5 a2 a1 a4 R w) : Q0u.M a0 a3 a5 a2 a1 a4 R w := by
  unfold Q0u.M
  unfold Q0u.N at h
  obtain ⟨s3, a7, h⟩ := h
  refine ⟨s3, a7, ?_⟩
  obtain ⟨s5, a6, h⟩ := h
  refine ⟨s5, a6, ?_⟩
  exact h

theorem Q0u.go (a0 : Option Addr) (a3 a5 : Nat) (a2 : Option Addr) (a1 a4 : Nat) {R : RW} {w : World} (h : Q0u.N a0 a3 a5 a2 a1 a4 R w) : Calls Try.prog 75 #[.slice a0 a3 a5, .slice a2 a1 a4] w fun e w' => ∃ v, e = .returned v ∧ R v w' := Q0u.ok a0 a3 a5 a2 a1 a4 (Q0u.up a0 a3 a5 a2 a1 a4 h)
theorem Q0u.run (a0 : Option Addr) (a3 a5 : Nat) (a2 : Option Addr) (a1 a4 : Nat) {V : Value} {Q : World → Prop} {w : World} (h : Q0u.N a0 a3 a5 a2 a1 a4 (fun v w' => v = V ∧ Q w') w) : Calls Try.prog 75 #[.slice a0 a3 a5, .slice a2 a1 a4] w (Ret V Q) := (Q0u.go a0 a3 a5 a2 a1 a4 h).mono fun e w' ⟨v, he, hv, hq⟩ => ⟨by rw [he, hv], hq⟩

def Q0K.M (ag : Option Addr) (ab aa : Nat) (ae ad : Int) (R : RW) (w : World) : Prop :=
 thenW (w.alloc (.cells #[.int .i64 ae, .int .i64 ad] 24)) fun af =>
 thenW (af.drew) fun a9 =>
 ∃ (T6 : Int), a9.cell? ((blk w.heap.size).add 0) = some (.int .i64 T6) ∧
 ∃ (W7 : Int), a9.cell? ((blk w.heap.size).add 1) = some (.int .i64 W7) ∧
 Calls Try.prog 89 #[.slice ag ab aa, .int .i64 T6] a9 fun ac a6 => ∃ (a5 : Option Addr) (a3 a4 : Nat), ac = .returned (.slice a5 a3 a4) ∧
 a6.cell? ((blk w.heap.size).add 1) = some (.int .i64 W7) ∧
 Calls Try.prog 26 #[.slice a5 a3 a4, .int .u64 (IntKind.u64.wrap (if (0 : Int) > W7 then 0 else W7))] a6 fun a7 a8 => ∃ (a1 : Option Addr) (a0 a2 : Nat), a7 = .returned (.slice a1 a0 a2) ∧
 R (.slice a1 a0 a2) a8

theorem Q0K.ok (a4 : Option Addr) (a1 a0 : Nat) (a3 a2 : Int) {R : RW} {w : World} (h : Q0K.M a4 a1 a0 a3 a2 R w) : Calls Try.prog 90 #[.slice a4 a1 a0, .agg #[.int .i64 a3, .int .i64 a2]] w fun e w' => ∃ v, e = .returned v ∧ R v w' :=
  Q09 follows (H := []) (args := [.slice a4 a1 a0, .agg #[.int .i64 a3, .int .i64 a2]]) (cast (by kernel_rfl) h)

def Q0K.N (af : Option Addr) (ac ab : Nat) (ae aa : Int) (R : RW) (w : World) : Prop :=
 ∀ (a6 : World) (p6 : Nat), Ext no w a6 → Priv w a6 [p6] →
 Calls Try.prog 89 #[.slice af ac ab, .int .i64 ae] a6 fun ad a9 => ∃ (a4 : Option Addr) (a5 a3 : Nat), ad = .returned (.slice a4 a5 a3) ∧
 Keep [p6] a6 a9 ∧
 Calls Try.prog 26 #[.slice a4 a5 a3, .int .u64 (IntKind.u64.wrap (if (0 : Int) > aa then 0 else aa))] a9 fun a8 a7 => ∃ (a2 : Option Addr) (a1 a0 : Nat), a8 = .returned (.slice a2 a1 a0) ∧
 R (.slice a2 a1 a0) a7

theorem Q0K.up (aa : Option Addr) (a9 ab : Nat) (a8 a7 : Int) {R : RW} {w : World} (h : Q0K.N aa a9 ab a8 a7 R w) : Q0K.M aa a9 ab a8 a7 R w := by
  unfold Q0K.M
  unfold Q0K.N at h
  refine Q00 fun ak e4 => ?_
  have a0 := Blk.of_new e4
  have ae := ((Ext.refl no w)).size
  have af := (Ext.refl no w).x_alloc e4
  refine Q00 fun ah e5 => ?_
  have ac := af.x_drew e5
  have a0 := a0.x_drew e5
  refine ⟨a8, a0.celli 0 rfl rfl, ?_⟩
  refine ⟨a7, a0.celli 1 rfl rfl, ?_⟩
  have h := h ah (w.heap.size) ac (Priv.cons ae a0.lt Priv.nil)
  refine h.mono fun aj ai h => ?_
  obtain ⟨a6, a5, a4, he, hk, h⟩ := h
  refine ⟨a6, a5, a4, he, ?_⟩
  have a0 := hk.blk a0 (by simp)
  refine ⟨a0.celli 1 rfl rfl, ?_⟩
  refine h.mono fun ag ad h => ?_
  obtain ⟨a3, a2, a1, he, h⟩ := h
  refine ⟨a3, a2, a1, he, ?_⟩
  exact h

theorem Q0K.go (a4 : Option Addr) (a1 a0 : Nat) (a3 a2 : Int) {R : RW} {w : World} (h : Q0K.N a4 a1 a0 a3 a2 R w) : Calls Try.prog 90 #[.slice a4 a1 a0, .agg #[.int .i64 a3, .int .i64 a2]] w fun e w' => ∃ v, e = .returned v ∧ R v w' := Q0K.ok a4 a1 a0 a3 a2 (Q0K.up a4 a1 a0 a3 a2 h)
def Q0G.M (r1 : Option Addr) (R : RW) (w : World) : Prop :=
 thenW (w.alloc (.cells #[.int .i64 0, .int .i64 0] 24)) fun ae =>
 Calls Try.prog 100 #[.pointer r1] ae fun ab aa => ∃ (a7 : Int), ab = .returned (.int .i64 a7) ∧
 Q01 aa (((blk w.heap.size).add 0).add 0) ∧
 thenW (aa.setCell (((blk w.heap.size).add 0).add 0) (.int .i64 a7)) fun ad =>
 Calls Try.prog 41 #[.pointer r1, .int .i64 7] ad fun ac a9 => ∃ (a1 : Int), ac = .returned (.int .i64 a1) ∧
 Q01 a9 (((blk w.heap.size).add 1).add 0) ∧
 thenW (a9.setCell (((blk w.heap.size).add 1).add 0) (.int .i64 a1)) fun a3 =>
 ∃ (a4 a8 : Int), cellsAt a3 (blk w.heap.size) [.int .i64 a4, .int .i64 a8] 0 ∧
 Q01 a3 ((blk w.heap.size).add 0) ∧
 thenW (a3.setCell ((blk w.heap.size).add 0) (.int .i64 a4)) fun a5 =>
 Q01 a5 ((blk w.heap.size).add 1) ∧
 thenW (a5.setCell ((blk w.heap.size).add 1) (.int .i64 a8)) fun a6 =>
 ∃ (a0 a2 : Int), cellsAt a6 (blk w.heap.size) [.int .i64 a0, .int .i64 a2] 0 ∧
 R (.agg #[.int .i64 a0, .int .i64 a2]) a6

theorem Q0G.ok (r1 : Option Addr) {R : RW} {w : World} (h : Q0G.M r1 R w) : Calls Try.prog 99 #[.pointer r1] w fun e w' => ∃ v, e = .returned v ∧ R v w' :=
  Q09 follows (H := []) (args := [.pointer r1]) (cast (by kernel_rfl) h)

def Q0G.N (r1 : Option Addr) (R : RW) (w : World) : Prop :=
 ∀ (a4 : World) (p3 : Nat), Ext no w a4 → Priv w a4 [p3] →
 Calls Try.prog 100 #[.pointer r1] a4 fun a8 a6 => ∃ (a3 : Int), a8 = .returned (.int .i64 a3) ∧
 Keep [p3] a4 a6 ∧
 ∀ (a5 : World), Ext (fun b => b = p3) a6 a5 →
 Calls Try.prog 41 #[.pointer r1, .int .i64 7] a5 fun a7 a2 => ∃ (a0 : Int), a7 = .returned (.int .i64 a0) ∧
 Keep [p3] a5 a2 ∧
 ∀ (a1 : World), Ext (fun b => b = p3) a2 a1 →
 R (.agg #[.int .i64 a3, .int .i64 a0]) a1

theorem Q0G.up (r1 : Option Addr) {R : RW} {w : World} (h : Q0G.N r1 R w) : Q0G.M r1 R w := by
  unfold Q0G.M
  unfold Q0G.N at h
  refine Q00 fun ae e2 => ?_
  have a0 := Blk.of_new e2
  have af := ((Ext.refl no w)).size
  have ah := (Ext.refl no w).x_alloc e2
  have h := h ae (w.heap.size) ah (Priv.cons af a0.lt Priv.nil)
  refine h.mono fun am a7 h => ?_
  obtain ⟨a3, he, hk, h⟩ := h
  refine ⟨a3, he, ?_⟩
  have a0 := hk.blk a0 (by simp)
  have ak : Ext (fun b => b = w.heap.size) a7 a7 := ((Ext.refl no a7)).none
  refine ⟨a0.cani 0 rfl rfl, Q00 fun ai e7 => ?_⟩
  have ag := ak.x_set (q := w.heap.size) (i := 0) rfl (.inl rfl) e7
  have a0 := a0.seti 0 rfl e7
  have h := h ai ag
  refine h.mono fun al a2 h => ?_
  obtain ⟨a1, he, hk, h⟩ := h
  refine ⟨a1, he, ?_⟩
  have a0 := hk.blk a0 (by simp)
  have a5 : Ext (fun b => b = w.heap.size) a2 a2 := ((Ext.refl no a2)).none
  refine ⟨a0.cani 1 rfl rfl, Q00 fun aj aa => ?_⟩
  have a8 := a5.x_set (q := w.heap.size) (i := 1) rfl (.inl rfl) aa
  have a0 := a0.seti 1 rfl aa
  refine ⟨a3, a1, ⟨a0.celli 0 rfl rfl, a0.celli 1 rfl rfl, trivial⟩, ?_⟩
  refine ⟨a0.cani 0 rfl rfl, Q00 fun ad ac => ?_⟩
  have a6 := a8.x_set (q := w.heap.size) (i := 0) rfl (.inl rfl) ac
  have a0 := a0.seti 0 rfl ac
  refine ⟨a0.cani 1 rfl rfl, Q00 fun a4 ab => ?_⟩
  have a9 := a6.x_set (q := w.heap.size) (i := 1) rfl (.inl rfl) ab
  have a0 := a0.seti 1 rfl ab
  refine ⟨a3, a1, ⟨a0.celli 0 rfl rfl, a0.celli 1 rfl rfl, trivial⟩, ?_⟩
  have h := h a4 a9
  exact h

theorem Q0G.go (r1 : Option Addr) {R : RW} {w : World} (h : Q0G.N r1 R w) : Calls Try.prog 99 #[.pointer r1] w fun e w' => ∃ v, e = .returned v ∧ R v w' := Q0G.ok r1 (Q0G.up r1 h)
theorem Q0G.run (r1 : Option Addr) {V : Value} {Q : World → Prop} {w : World} (h : Q0G.N r1 (fun v w' => v = V ∧ Q w') w) : Calls Try.prog 99 #[.pointer r1] w (Ret V Q) := (Q0G.go r1 h).mono fun e w' ⟨v, he, hv, hq⟩ => ⟨by rw [he, hv], hq⟩

abbrev Q0e.J1 (j8 : Int) (I0 : Nat → List Value → World → Prop) (af : Option Addr) (ae m5 : Nat) (ac : Option Addr) (R : RW) (a8 : World) : Prop :=
 af.elim False fun ag =>
 0 ≤ (j8 : Int) ∧ (j8 : Int) < (ae : Int) ∧
 ∃ (ab : Int), a8.cell? (ag.add (Int.toNat j8 * 1)) = some (.int .u64 ab) ∧
 ac.elim False fun ah =>
 ∃ (a5 : Option Addr) (a3 a6 : Nat), a8.cell? ah = some (.slice a5 a3 a6) ∧
 Calls Try.prog 26 #[.slice a5 a3 a6, .int .u64 ab] a8 fun a9 a4 => ∃ (a0 : Option Addr) (a2 a1 : Nat), a9 = .returned (.slice a0 a2 a1) ∧
 ac.elim False fun ad =>
 Q01 a4 (ad.add 0) ∧
 thenW (a4.setCell (ad.add 0) (.slice a0 a2 a1)) fun a7 =>
 ∃ aa, aa < m5 ∧ I0 aa [.int .i64 (IntKind.i64.wrap (j8 + 1))] a7

def Q0e.M (a2 a3 : Option Addr) (a1 a4 : Nat) (R : RW) (w : World) : Prop :=
 ∃ (I0 : Nat → List Value → World → Prop) (m4 : Nat), I0 m4 [.int .i64 0] w ∧ ∀ (m5 : Nat) (a0 : World) (t3 : Int), I0 m5 [.int .i64 t3] a0 →
 bif decide (t3 < (a1 : Int)) then (
 Q0e.J1 t3 I0 a3 a1 m5 a2 R a0) else (
 R (.tuple #[]) a0)

theorem Q0e.ok (a1 a0 : Option Addr) (a2 a3 : Nat) {R : RW} {w : World} (h : Q0e.M a1 a0 a2 a3 R w) : Calls Try.prog 88 #[.pointer a1, .slice a0 a2 a3] w fun e w' => ∃ v, e = .returned v ∧ R v w' :=
  Q09 follows (H := [(0, [0, 6, 7], [(8, (.one (.int .i64)))])]) (args := [.pointer a1, .slice a0 a2 a3]) (cast (by kernel_rfl) h)

def Q0e.N (ag af : Option Addr) (ab ah : Nat) (R : RW) (w : World) : Prop :=
 ∃ (I0 : Nat → List Value → World → Prop) (m4 : Nat), I0 m4 [.int .i64 0] w ∧ ∀ (m5 : Nat) (a5 : World) (t3 : Int), I0 m5 [.int .i64 t3] a5 →
 (t3 < (ab : Int) →
 ∃ a8 : Addr, af = some a8 ∧
 0 ≤ (t3 : Int) ∧ (t3 : Int) < (ab : Int) ∧
 ∃ (ad : Int), a5.cell? (a8.add (Int.toNat t3 * 1)) = some (.int .u64 ad) ∧
 ∃ a9 : Addr, ag = some a9 ∧
 ∃ (a6 : Option Addr) (a3 a7 : Nat), a5.cell? a9 = some (.slice a6 a3 a7) ∧
 Calls Try.prog 26 #[.slice a6 a3 a7, .int .u64 ad] a5 fun ac a4 => ∃ (a0 : Option Addr) (a2 a1 : Nat), ac = .returned (.slice a0 a2 a1) ∧
 Q01 a4 (a9.add 0) ∧
 thenW (a4.setCell (a9.add 0) (.slice a0 a2 a1)) fun aa =>
 (-9223372036854775808 : Int) ≤ (t3 + 1) ∧ (t3 + 1) < 9223372036854775808 ∧
 ∃ ae, ae < m5 ∧ I0 ae [.int .i64 (t3 + 1)] aa) ∧
 ((ab : Int) ≤ t3 →
 R (.tuple #[]) a5)

theorem Q0e.up (ab ac : Option Addr) (aa a9 : Nat) {R : RW} {w : World} (h : Q0e.N ab ac aa a9 R w) : Q0e.M ab ac aa a9 R w := by
  unfold Q0e.M
  unfold Q0e.N at h
  obtain ⟨I0, m4, h0, h⟩ := h
  refine ⟨I0, m4, h0, fun m5 al t3 hI => ?_⟩
  have h := h m5 al t3 hI
  refine bif_fo (fun c7 => ?_) (fun c7 => ?_)
  ·have h := h.2 (Int.not_lt.1 (of_decide_eq_false c7))
   exact h
  have h := h.1 (of_decide_eq_true c7)
  unfold Q0e.J1
  obtain ⟨a8, ae, h⟩ := h
  refine Q0p ae ?_
  obtain ⟨ah, aj, h⟩ := h
  refine ⟨ah, aj, ?_⟩
  obtain ⟨am, an, h⟩ := h
  refine ⟨am, an, ?_⟩
  obtain ⟨aq, a3, h⟩ := h
  refine Q0p a3 ?_
  obtain ⟨a5, a6, a7, a4, h⟩ := h
  refine ⟨a5, a6, a7, a4, ?_⟩
  refine h.mono fun ad ap h => ?_
  obtain ⟨a2, a1, a0, he, h⟩ := h
  refine ⟨a2, a1, a0, he, ?_⟩
  refine Q0p a3 ?_
  obtain ⟨hcs, h⟩ := h
  refine ⟨hcs, Q00 fun af ao => ?_⟩
  replace h := Q0W h ao
  obtain ⟨ag, ak, h⟩ := h
  try rw [w64 ag ak]
  obtain ⟨ai, hk, h⟩ := h
  exact ⟨ai, hk, h⟩

theorem Q0e.go (a1 a0 : Option Addr) (a2 a3 : Nat) {R : RW} {w : World} (h : Q0e.N a1 a0 a2 a3 R w) : Calls Try.prog 88 #[.pointer a1, .slice a0 a2 a3] w fun e w' => ∃ v, e = .returned v ∧ R v w' := Q0e.ok a1 a0 a2 a3 (Q0e.up a1 a0 a2 a3 h)
def Q0I.M (ah an aq av aw ak : Int) (al : Option Addr) (ai am : Nat) (az : Int) (R : RW) (w : World) : Prop :=
 thenW (w.alloc (.cells #[.int .i64 ah, .int .i64 an, .int .u64 aq, .int .i64 av, .int .i64 aw, .int .i64 ak, .slice al ai am, .int .u64 az] 27)) fun b3 =>
 thenW (b3.alloc (.cells #[.slice none 0 0] 113)) fun ad =>
 ∃ (a1 : Int), ad.cell? ((blk w.heap.size).add 0) = some (.int .i64 a1) ∧
 ∃ (a6 : Int), ad.cell? ((blk w.heap.size).add 1) = some (.int .i64 a6) ∧
 ∃ (af : Int), ad.cell? ((blk w.heap.size).add 2) = some (.int .u64 af) ∧
 thenW (ad.alloc (.cells #[.int .u64 (IntKind.u64.wrap a1), .int .u64 (IntKind.u64.wrap a6), .int .u64 af] 22)) fun b7 =>
 Calls Try.prog 88 #[.pointer (some (blk b3.heap.size)), .slice (some (blk ad.heap.size)) 3 3] b7 fun b4 b8 => b4 = .returned (.tuple #[]) ∧
 thenW (b8.drew) fun aj =>
 ∃ (ar : Option Addr) (ax ay : Nat), aj.cell? (blk b3.heap.size) = some (.slice ar ax ay) ∧
 ∃ (ap ao : Int), cellsAt aj ((blk w.heap.size).add 3) [.int .i64 ap, .int .i64 ao] 0 ∧
 ∃ (a0 : Int), aj.cell? ((blk w.heap.size).add 5) = some (.int .i64 a0) ∧
 Calls Try.prog 90 #[.slice ar ax ay, .agg #[.int .i64 ap, .int .i64 ao]] aj fun b6 au => ∃ (ac : Option Addr) (ab ag : Nat), b6 = .returned (.slice ac ab ag) ∧
 au.cell? ((blk w.heap.size).add 5) = some (.int .i64 a0) ∧
 Calls Try.prog 89 #[.slice ac ab ag, .int .i64 a0] au fun b1 b0 => ∃ (ae : Option Addr) (a9 aa : Nat), b1 = .returned (.slice ae a9 aa) ∧
 ∃ (a7 : Option Addr) (a8 a5 : Nat), b0.cell? ((blk w.heap.size).add 6) = some (.slice a7 a8 a5) ∧
 Calls Try.prog 29 #[.slice ae a9 aa, .slice a7 a8 a5] b0 fun b5 b2 => ∃ (a2 : Option Addr) (a3 a4 : Nat), b5 = .returned (.slice a2 a3 a4) ∧
 R (.slice a2 a3 a4) b2

theorem Q0I.ok (a0 a3 a6 a7 a8 a1 : Int) (a5 : Option Addr) (a4 a2 : Nat) (a9 : Int) {R : RW} {w : World} (h : Q0I.M a0 a3 a6 a7 a8 a1 a5 a4 a2 a9 R w) : Calls Try.prog 76 #[.agg #[.int .i64 a0, .int .i64 a3, .int .u64 a6, .int .i64 a7, .int .i64 a8, .int .i64 a1, .slice a5 a4 a2, .int .u64 a9]] w fun e w' => ∃ v, e = .returned v ∧ R v w' :=
  Q09 follows (H := []) (args := [.agg #[.int .i64 a0, .int .i64 a3, .int .u64 a6, .int .i64 a7, .int .i64 a8, .int .i64 a1, .slice a5 a4 a2, .int .u64 a9]]) (cast (by kernel_rfl) h)

def Q0I.N (ab ag ai ap ar ad : Int) (ae : Option Addr) (ac af : Nat) (b1 : Int) (R : RW) (w : World) : Prop :=
 ∀ (a7 : World) (al av : Nat), Ext no w a7 → Blk a7 al 113 [.slice none 0 0] → w.heap.size ≤ al → al < a7.heap.size → Privq w al [av] →
 ∀ (a4 : World) (au : Nat), Ext no a7 a4 → Blk a4 au 22 [.int .u64 (IntKind.u64.wrap ab), .int .u64 (IntKind.u64.wrap ag), .int .u64 ai] → a7.heap.size ≤ au → au < a4.heap.size →
 Calls Try.prog 88 #[.pointer (some (blk al)), .slice (some (blk au)) 3 3] a4 fun ax ak => ax = .returned (.tuple #[]) ∧
 Keep [av] a4 ak ∧
 ∃ (ao : Option Addr) (an am : Nat), ak.cell? (blk al) = some (.slice ao an am) ∧
 ∀ (ah : World), Ext no ak ah →
 Calls Try.prog 90 #[.slice ao an am, .agg #[.int .i64 ap, .int .i64 ar]] ah fun aw aj => ∃ (aa : Option Addr) (a5 a6 : Nat), aw = .returned (.slice aa a5 a6) ∧
 Keep [av] ah aj ∧
 Calls Try.prog 89 #[.slice aa a5 a6, .int .i64 ad] aj fun b0 aq => ∃ (a3 : Option Addr) (a8 a9 : Nat), b0 = .returned (.slice a3 a8 a9) ∧
 Keep [av] aj aq ∧
 Calls Try.prog 29 #[.slice a3 a8 a9, .slice ae ac af] aq fun ay az => ∃ (a2 : Option Addr) (a0 a1 : Nat), ay = .returned (.slice a2 a0 a1) ∧
 R (.slice a2 a0 a1) az

theorem Q0I.up (a0 a6 a7 a8 a9 a3 : Int) (a4 : Option Addr) (a2 a5 : Nat) (ae : Int) {R : RW} {w : World} (h : Q0I.N a0 a6 a7 a8 a9 a3 a4 a2 a5 ae R w) : Q0I.M a0 a6 a7 a8 a9 a3 a4 a2 a5 ae R w := by
  unfold Q0I.M
  unfold Q0I.N at h
  refine Q00 fun az e9 => ?_
  have a1 := Blk.of_new e9
  have b3 := ((Ext.refl no w)).size
  have ax := (Ext.refl no w).x_alloc e9
  refine Q00 fun ad an => ?_
  have b6 := a1.lt
  have a1 := a1.x_alloc an
  have h := h ad az.heap.size (w.heap.size) (ax.x_alloc an) (Blk.of_new an) (ax).size (Q0s an) (Privq.cons b3 b6 Privq.nil)
  refine ⟨a0, a1.celli 0 rfl rfl, ?_⟩
  refine ⟨a6, a1.celli 1 rfl rfl, ?_⟩
  refine ⟨a7, a1.celli 2 rfl rfl, ?_⟩
  refine Q00 fun ap am => ?_
  have a1 := a1.x_alloc am
  have h := h ap ad.heap.size ((Ext.refl no ad).x_alloc am) (Blk.of_new am) ((Ext.refl no ad)).size (Q0s am)
  refine h.mono fun b1 av h => ?_
  obtain ⟨he, hk, h⟩ := h
  refine ⟨he, ?_⟩
  have a1 := hk.blk a1 (by simp)
  refine Q00 fun aq ay => ?_
  have al := (Ext.refl no av).x_drew ay
  have a1 := a1.x_drew ay
  obtain ⟨au, ar, ao, aw, h⟩ := h
  refine ⟨au, ar, ao, (al).cell aw id, ?_⟩
  refine ⟨a8, a9, ⟨a1.celli 3 rfl rfl, a1.celli 4 rfl rfl, trivial⟩, ?_⟩
  refine ⟨a3, a1.celli 5 rfl rfl, ?_⟩
  have h := h aq al
  refine h.mono fun b0 b7 h => ?_
  obtain ⟨ak, ag, ah, he, hk, h⟩ := h
  refine ⟨ak, ag, ah, he, ?_⟩
  have a1 := hk.blk a1 (by simp)
  refine ⟨a1.celli 5 rfl rfl, ?_⟩
  refine h.mono fun b8 b4 h => ?_
  obtain ⟨af, ai, aj, he, hk, h⟩ := h
  refine ⟨af, ai, aj, he, ?_⟩
  have a1 := hk.blk a1 (by simp)
  refine ⟨a4, a2, a5, a1.celli 6 rfl rfl, ?_⟩
  refine h.mono fun b2 b5 h => ?_
  obtain ⟨ac, aa, ab, he, h⟩ := h
  refine ⟨ac, aa, ab, he, ?_⟩
  exact h

theorem Q0I.go (a0 a3 a6 a7 a8 a1 : Int) (a5 : Option Addr) (a4 a2 : Nat) (a9 : Int) {R : RW} {w : World} (h : Q0I.N a0 a3 a6 a7 a8 a1 a5 a4 a2 a9 R w) : Calls Try.prog 76 #[.agg #[.int .i64 a0, .int .i64 a3, .int .u64 a6, .int .i64 a7, .int .i64 a8, .int .i64 a1, .slice a5 a4 a2, .int .u64 a9]] w fun e w' => ∃ v, e = .returned v ∧ R v w' := Q0I.ok a0 a3 a6 a7 a8 a1 a5 a4 a2 a9 (Q0I.up a0 a3 a6 a7 a8 a1 a5 a4 a2 a9 h)
abbrev Q0x.J1 (ak : Addr) (R : RW) (al : World) : Prop :=
 thenW (al.drew) fun ah =>
 ∃ (a0 a2 a9 ab ac a3 : Int) (a5 : Option Addr) (a1 a4 : Nat) (ag : Int), cellsAt ah ak [.int .i64 a0, .int .i64 a2, .int .u64 a9, .int .i64 ab, .int .i64 ac, .int .i64 a3, .slice a5 a1 a4, .int .u64 ag] 0 ∧
 ∃ (aa : Int), ah.cell? (ak.add 7) = some (.int .u64 aa) ∧
 Calls Try.prog 76 #[.agg #[.int .i64 a0, .int .i64 a2, .int .u64 a9, .int .i64 ab, .int .i64 ac, .int .i64 a3, .slice a5 a1 a4, .int .u64 ag]] ah fun an ai => ∃ (a6 : Option Addr) (a7 a8 : Nat), an = .returned (.slice a6 a7 a8) ∧
 ai.cell? (ak.add 7) = some (.int .u64 aa) ∧
 Calls Try.prog 26 #[.slice a6 a7 a8, .int .u64 aa] ai fun aj am => ∃ (af : Option Addr) (ad ae : Nat), aj = .returned (.slice af ad ae) ∧
 R (.tuple #[.slice af ad ae, .int .i64 0]) am

def Q0x.M (aa ag ah ai aj ad : Int) (ae : Option Addr) (ac af : Nat) (al : Int) (R : RW) (w : World) : Prop :=
 thenW (w.alloc (.cells #[.int .i64 aa, .int .i64 ag, .int .u64 ah, .int .i64 ai, .int .i64 aj, .int .i64 ad, .slice ae ac af, .int .u64 al] 27)) fun an =>
 ∃ (a0 a1 a6 ab a9 a5 : Int) (a4 : Option Addr) (a3 a2 : Nat) (a8 : Int), cellsAt an (blk w.heap.size) [.int .i64 a0, .int .i64 a1, .int .u64 a6, .int .i64 ab, .int .i64 a9, .int .i64 a5, .slice a4 a3 a2, .int .u64 a8] 0 ∧
 Calls Try.prog 61 #[.agg #[.int .i64 a0, .int .i64 a1, .int .u64 a6, .int .i64 ab, .int .i64 a9, .int .i64 a5, .slice a4 a3 a2, .int .u64 a8]] an fun am ak => ∃ (a7 : Bool), am = .returned (.bool a7) ∧
 bif !a7 then (
 R (.tuple #[.slice none 0 0, .int .i64 1]) ak) else (
 Q0x.J1 (blk w.heap.size) R ak)

theorem Q0x.ok (a0 a3 a6 a7 a8 a1 : Int) (a5 : Option Addr) (a4 a2 : Nat) (a9 : Int) {R : RW} {w : World} (h : Q0x.M a0 a3 a6 a7 a8 a1 a5 a4 a2 a9 R w) : Calls Try.prog 58 #[.agg #[.int .i64 a0, .int .i64 a3, .int .u64 a6, .int .i64 a7, .int .i64 a8, .int .i64 a1, .slice a5 a4 a2, .int .u64 a9]] w fun e w' => ∃ v, e = .returned v ∧ R v w' :=
  Q09 follows (H := []) (args := [.agg #[.int .i64 a0, .int .i64 a3, .int .u64 a6, .int .i64 a7, .int .i64 a8, .int .i64 a1, .slice a5 a4 a2, .int .u64 a9]]) (cast (by kernel_rfl) h)

def Q0x.N (a0 a5 a6 ac ad a2 : Int) (a3 : Option Addr) (a1 a4 : Nat) (aa : Int) (R : RW) (w : World) : Prop :=
 ((Q08.F a0 a5 a6 ac ad a2 a3 a1 a4 aa) = false →
 ∀ (ai : World), Ext no w ai →
 R (.tuple #[.slice none 0 0, .int .i64 1]) ai) ∧
 ((Q08.F a0 a5 a6 ac ad a2 a3 a1 a4 aa) = true →
 ∀ (ag : World) (am : Nat), Ext no w ag → Priv w ag [am] →
 Calls Try.prog 76 #[.agg #[.int .i64 a0, .int .i64 a5, .int .u64 a6, .int .i64 ac, .int .i64 ad, .int .i64 a2, .slice a3 a1 a4, .int .u64 aa]] ag fun al ah => ∃ (a9 : Option Addr) (a8 a7 : Nat), al = .returned (.slice a9 a8 a7) ∧
 Keep [am] ag ah ∧
 Calls Try.prog 26 #[.slice a9 a8 a7, .int .u64 aa] ah fun aj ak => ∃ (ae : Option Addr) (ab af : Nat), aj = .returned (.slice ae ab af) ∧
 R (.tuple #[.slice ae ab af, .int .i64 0]) ak)

theorem Q0x.up (a0 a5 a6 a9 aa a2 : Int) (a3 : Option Addr) (a1 a4 : Nat) (a8 : Int) {R : RW} {w : World} (h : Q0x.N a0 a5 a6 a9 aa a2 a3 a1 a4 a8 R w) : Q0x.M a0 a5 a6 a9 aa a2 a3 a1 a4 a8 R w := by
  unfold Q0x.M
  unfold Q0x.N at h
  refine Q00 fun au e9 => ?_
  have a7 := Blk.of_new e9
  have ao := ((Ext.refl no w)).size
  have am := (Ext.refl no w).x_alloc e9
  refine ⟨a0, a5, a6, a9, aa, a2, a3, a1, a4, a8, ⟨a7.celli 0 rfl rfl, a7.celli 1 rfl rfl, a7.celli 2 rfl rfl, a7.celli 3 rfl rfl, a7.celli 4 rfl rfl, a7.celli 5 rfl rfl, a7.celli 6 rfl rfl, a7.celli 7 rfl rfl, trivial⟩, ?_⟩
  refine (Q08.pure a0 a5 a6 a9 aa a2 a3 a1 a4 a8).mono fun ee ww10 ⟨he, hxx⟩ => ⟨(Q08.F a0 a5 a6 a9 aa a2 a3 a1 a4 a8), he, ?_⟩
  have ah := am.trans hxx
  have a7 := a7.ext hxx id
  refine bif_of (fun aj => ?_) (fun aj => ?_)
  ·have h := h.1 (not_t aj)
   have h := h ww10 ah
   exact h
  have h := h.2 (not_f aj)
  unfold Q0x.J1
  refine Q00 fun ai al => ?_
  have ak := ah.x_drew al
  have a7 := a7.x_drew al
  refine ⟨a0, a5, a6, a9, aa, a2, a3, a1, a4, a8, ⟨a7.celli 0 rfl rfl, a7.celli 1 rfl rfl, a7.celli 2 rfl rfl, a7.celli 3 rfl rfl, a7.celli 4 rfl rfl, a7.celli 5 rfl rfl, a7.celli 6 rfl rfl, a7.celli 7 rfl rfl, trivial⟩, ?_⟩
  refine ⟨a8, a7.celli 7 rfl rfl, ?_⟩
  have h := h ai (w.heap.size) ak (Priv.cons ao a7.lt Priv.nil)
  refine h.mono fun ar an h => ?_
  obtain ⟨ad, ac, ab, he, hk, h⟩ := h
  refine ⟨ad, ac, ab, he, ?_⟩
  have a7 := hk.blk a7 (by simp)
  refine ⟨a7.celli 7 rfl rfl, ?_⟩
  refine h.mono fun ap aq h => ?_
  obtain ⟨af, ae, ag, he, h⟩ := h
  refine ⟨af, ae, ag, he, ?_⟩
  exact h

theorem Q0x.go (a0 a3 a6 a7 a8 a1 : Int) (a5 : Option Addr) (a4 a2 : Nat) (a9 : Int) {R : RW} {w : World} (h : Q0x.N a0 a3 a6 a7 a8 a1 a5 a4 a2 a9 R w) : Calls Try.prog 58 #[.agg #[.int .i64 a0, .int .i64 a3, .int .u64 a6, .int .i64 a7, .int .i64 a8, .int .i64 a1, .slice a5 a4 a2, .int .u64 a9]] w fun e w' => ∃ v, e = .returned v ∧ R v w' := Q0x.ok a0 a3 a6 a7 a8 a1 a5 a4 a2 a9 (Q0x.up a0 a3 a6 a7 a8 a1 a5 a4 a2 a9 h)
abbrev Q0A.J1 (cd : Int) (cc a0 : Addr) (R : RW) (ca : World) : Prop :=
 Q01 ca ((cc.add 5).add 0) ∧
 thenW (ca.setCell ((cc.add 5).add 0) (.int .i64 cd)) fun bk =>
 ∃ (bh : Int), bk.cell? (cc.add 5) = some (.int .i64 bh) ∧
 bif bh != cd then (
 Q01 bk (a0.add 0) ∧
 thenW (bk.setCell (a0.add 0) (.int .i64 0)) fun c9 =>
 Q01 c9 (a0.add 1) ∧
 thenW (c9.setCell (a0.add 1) (.int .i64 0)) fun c8 =>
 Q01 c8 (a0.add 2) ∧
 thenW (c8.setCell (a0.add 2) (.int .u64 0)) fun bs =>
 Q01 bs (a0.add 3) ∧
 thenW (bs.setCell (a0.add 3) (.int .i64 0)) fun c2 =>
 Q01 c2 (a0.add 4) ∧
 thenW (c2.setCell (a0.add 4) (.int .i64 0)) fun bu =>
 Q01 bu (a0.add 5) ∧
 thenW (bu.setCell (a0.add 5) (.int .i64 0)) fun bv =>
 Q01 bv (a0.add 6) ∧
 thenW (bv.setCell (a0.add 6) (.slice none 0 0)) fun bl =>
 Q01 bl (a0.add 7) ∧
 thenW (bl.setCell (a0.add 7) (.int .u64 0)) fun c0 =>
 ∃ (a3 aa aj b5 ay ac : Int) (a6 : Option Addr) (af a4 : Nat) (aw : Int), cellsAt c0 a0 [.int .i64 a3, .int .i64 aa, .int .u64 aj, .int .i64 b5, .int .i64 ay, .int .i64 ac, .slice a6 af a4, .int .u64 aw] 0 ∧
 R (.tuple #[.agg #[.int .i64 a3, .int .i64 aa, .int .u64 aj, .int .i64 b5, .int .i64 ay, .int .i64 ac, .slice a6 af a4, .int .u64 aw], .int .i64 4]) c0) else (
 ∃ (an au bc bj bi ao : Int) (av : Option Addr) (b8 b2 : Nat) (bg : Int), cellsAt bk cc [.int .i64 an, .int .i64 au, .int .u64 bc, .int .i64 bj, .int .i64 bi, .int .i64 ao, .slice av b8 b2, .int .u64 bg] 0 ∧
 Calls Try.prog 61 #[.agg #[.int .i64 an, .int .i64 au, .int .u64 bc, .int .i64 bj, .int .i64 bi, .int .i64 ao, .slice av b8 b2, .int .u64 bg]] bk fun cb b9 => ∃ (bb : Bool), cb = .returned (.bool bb) ∧
 bif !bb then (
 Q01 b9 (a0.add 0) ∧
 thenW (b9.setCell (a0.add 0) (.int .i64 0)) fun bm =>
 Q01 bm (a0.add 1) ∧
 thenW (bm.setCell (a0.add 1) (.int .i64 0)) fun bo =>
 Q01 bo (a0.add 2) ∧
 thenW (bo.setCell (a0.add 2) (.int .u64 0)) fun c3 =>
 Q01 c3 (a0.add 3) ∧
 thenW (c3.setCell (a0.add 3) (.int .i64 0)) fun c6 =>
 Q01 c6 (a0.add 4) ∧
 thenW (c6.setCell (a0.add 4) (.int .i64 0)) fun bq =>
 Q01 bq (a0.add 5) ∧
 thenW (bq.setCell (a0.add 5) (.int .i64 0)) fun c1 =>
 Q01 c1 (a0.add 6) ∧
 thenW (c1.setCell (a0.add 6) (.slice none 0 0)) fun bz =>
 Q01 bz (a0.add 7) ∧
 thenW (bz.setCell (a0.add 7) (.int .u64 0)) fun bp =>
 ∃ (a1 ae ak az b4 ah : Int) (ag : Option Addr) (ad a7 : Nat) (b7 : Int), cellsAt bp a0 [.int .i64 a1, .int .i64 ae, .int .u64 ak, .int .i64 az, .int .i64 b4, .int .i64 ah, .slice ag ad a7, .int .u64 b7] 0 ∧
 R (.tuple #[.agg #[.int .i64 a1, .int .i64 ae, .int .u64 ak, .int .i64 az, .int .i64 b4, .int .i64 ah, .slice ag ad a7, .int .u64 b7], .int .i64 4]) bp) else (
 ∃ (am ax ba be bf b0 : Int) (aq : Option Addr) (b1 b3 : Nat) (bd : Int), cellsAt b9 cc [.int .i64 am, .int .i64 ax, .int .u64 ba, .int .i64 be, .int .i64 bf, .int .i64 b0, .slice aq b1 b3, .int .u64 bd] 0 ∧
 Q01 b9 (a0.add 0) ∧
 thenW (b9.setCell (a0.add 0) (.int .i64 am)) fun bx =>
 Q01 bx (a0.add 1) ∧
 thenW (bx.setCell (a0.add 1) (.int .i64 ax)) fun c5 =>
 Q01 c5 (a0.add 2) ∧
 thenW (c5.setCell (a0.add 2) (.int .u64 ba)) fun bn =>
 Q01 bn (a0.add 3) ∧
 thenW (bn.setCell (a0.add 3) (.int .i64 be)) fun bw =>
 Q01 bw (a0.add 4) ∧
 thenW (bw.setCell (a0.add 4) (.int .i64 bf)) fun c7 =>
 Q01 c7 (a0.add 5) ∧
 thenW (c7.setCell (a0.add 5) (.int .i64 b0)) fun c4 =>
 Q01 c4 (a0.add 6) ∧
 thenW (c4.setCell (a0.add 6) (.slice aq b1 b3)) fun bt =>
 Q01 bt (a0.add 7) ∧
 thenW (bt.setCell (a0.add 7) (.int .u64 bd)) fun br =>
 ∃ (a2 ab al ap ar ai : Int) (a5 : Option Addr) (a9 a8 : Nat) (b6 : Int), cellsAt br a0 [.int .i64 a2, .int .i64 ab, .int .u64 al, .int .i64 ap, .int .i64 ar, .int .i64 ai, .slice a5 a9 a8, .int .u64 b6] 0 ∧
 R (.tuple #[.agg #[.int .i64 a2, .int .i64 ab, .int .u64 al, .int .i64 ap, .int .i64 ar, .int .i64 ai, .slice a5 a9 a8, .int .u64 b6], .int .i64 0]) br))

def Q0A.M (bl : Option Addr) (bk bo : Nat) (R : RW) (w : World) : Prop :=
 thenW (w.alloc (.cells #[.int .i64 0, .int .i64 0, .int .u64 0, .int .i64 0, .int .i64 0, .int .i64 0, .slice none 0 0, .int .u64 0] 27)) fun bm =>
 Calls Try.prog 31 #[.slice bl bk bo] bm fun bj ae => ∃ (a0 : Option Addr), bj = .returned (.pointer a0) ∧
 thenW (ae.alloc (.cells #[.int .i64 0, .int .i64 0, .int .u64 0, .int .i64 0, .int .i64 0, .int .i64 0, .slice none 0 0, .int .u64 0] 27)) fun bn =>
 Calls Try.prog 41 #[.pointer a0, .int .i64 7] bn fun bp bg => ∃ (ah : Int), bp = .returned (.int .i64 ah) ∧
 Q01 bg (((blk ae.heap.size).add 0).add 0) ∧
 thenW (bg.setCell (((blk ae.heap.size).add 0).add 0) (.int .i64 ah)) fun b7 =>
 Calls Try.prog 41 #[.pointer a0, .int .i64 199] b7 fun bb ap => ∃ (ag : Int), bb = .returned (.int .i64 ag) ∧
 Q01 ap (((blk ae.heap.size).add 1).add 0) ∧
 thenW (ap.setCell (((blk ae.heap.size).add 1).add 0) (.int .i64 ag)) fun bc =>
 Calls Try.prog 64 #[.pointer a0] bc fun bd au => ∃ (aj : Int), bd = .returned (.int .u64 aj) ∧
 Q01 au (((blk ae.heap.size).add 2).add 0) ∧
 thenW (au.setCell (((blk ae.heap.size).add 2).add 0) (.int .u64 aj)) fun ba =>
 Calls Try.prog 99 #[.pointer a0] ba fun b5 ay => ∃ (bh bi : Int), b5 = .returned (.agg #[.int .i64 bh, .int .i64 bi]) ∧
 Q01 ay (((blk ae.heap.size).add 3).add 0) ∧
 thenW (ay.setCell (((blk ae.heap.size).add 3).add 0) (.int .i64 bh)) fun an =>
 Q01 an (((blk ae.heap.size).add 3).add 1) ∧
 thenW (an.setCell (((blk ae.heap.size).add 3).add 1) (.int .i64 bi)) fun b9 =>
 Calls Try.prog 100 #[.pointer a0] b9 fun b2 bf => ∃ (ak : Int), b2 = .returned (.int .i64 ak) ∧
 Calls Try.prog 42 #[.pointer a0, .int .i64 1100] bf fun b4 b0 => ∃ (ab : Option Addr) (ac a8 : Nat), b4 = .returned (.slice ab ac a8) ∧
 Q01 b0 (((blk ae.heap.size).add 6).add 0) ∧
 thenW (b0.setCell (((blk ae.heap.size).add 6).add 0) (.slice ab ac a8)) fun b3 =>
 Calls Try.prog 64 #[.pointer a0] b3 fun b8 ar => ∃ (ai : Int), b8 = .returned (.int .u64 ai) ∧
 Q01 ar (((blk ae.heap.size).add 7).add 0) ∧
 thenW (ar.setCell (((blk ae.heap.size).add 7).add 0) (.int .u64 ai)) fun be =>
 Calls Try.prog 43 #[.pointer a0] be fun b6 al => ∃ (af : Int), b6 = .returned (.int .i64 af) ∧
 bif af != 0 then (
 Q01 al ((blk w.heap.size).add 0) ∧
 thenW (al.setCell ((blk w.heap.size).add 0) (.int .i64 0)) fun am =>
 Q01 am ((blk w.heap.size).add 1) ∧
 thenW (am.setCell ((blk w.heap.size).add 1) (.int .i64 0)) fun b1 =>
 Q01 b1 ((blk w.heap.size).add 2) ∧
 thenW (b1.setCell ((blk w.heap.size).add 2) (.int .u64 0)) fun ao =>
 Q01 ao ((blk w.heap.size).add 3) ∧
 thenW (ao.setCell ((blk w.heap.size).add 3) (.int .i64 0)) fun az =>
 Q01 az ((blk w.heap.size).add 4) ∧
 thenW (az.setCell ((blk w.heap.size).add 4) (.int .i64 0)) fun aq =>
 Q01 aq ((blk w.heap.size).add 5) ∧
 thenW (aq.setCell ((blk w.heap.size).add 5) (.int .i64 0)) fun aw =>
 Q01 aw ((blk w.heap.size).add 6) ∧
 thenW (aw.setCell ((blk w.heap.size).add 6) (.slice none 0 0)) fun ax =>
 Q01 ax ((blk w.heap.size).add 7) ∧
 thenW (ax.setCell ((blk w.heap.size).add 7) (.int .u64 0)) fun av =>
 ∃ (a1 a3 a7 a9 aa a4 : Int) (a6 : Option Addr) (a2 a5 : Nat) (ad : Int), cellsAt av (blk w.heap.size) [.int .i64 a1, .int .i64 a3, .int .u64 a7, .int .i64 a9, .int .i64 aa, .int .i64 a4, .slice a6 a2 a5, .int .u64 ad] 0 ∧
 R (.tuple #[.agg #[.int .i64 a1, .int .i64 a3, .int .u64 a7, .int .i64 a9, .int .i64 aa, .int .i64 a4, .slice a6 a2 a5, .int .u64 ad], .int .i64 af]) av) else (
 Q0A.J1 ak (blk ae.heap.size) (blk w.heap.size) R al)

theorem Q0A.ok (a2 : Option Addr) (a1 a0 : Nat) {R : RW} {w : World} (h : Q0A.M a2 a1 a0 R w) : Calls Try.prog 98 #[.slice a2 a1 a0] w fun e w' => ∃ v, e = .returned v ∧ R v w' :=
  Q09 follows (H := []) (args := [.slice a2 a1 a0]) (cast (by kernel_rfl) h)

def Q0A.N (b8 : Option Addr) (b7 ba : Nat) (R : RW) (w : World) : Prop :=
 ∀ (av : World) (p3 : Nat), Ext no w av → Priv w av [p3] →
 Calls Try.prog 31 #[.slice b8 b7 ba] av fun b9 b1 => ∃ (a1 : Option Addr), b9 = .returned (.pointer a1) ∧
 Keep [p3] av b1 ∧
 ∀ (ax : World) (p8 : Nat), Ext no b1 ax → Priv b1 ax [p8] →
 Calls Try.prog 41 #[.pointer a1, .int .i64 7] ax fun ay ao => ∃ (a6 : Int), ay = .returned (.int .i64 a6) ∧
 Keep [p3, p8] ax ao ∧
 ∀ (ac : World), Ext (fun b => b = p8) ao ac →
 Calls Try.prog 41 #[.pointer a1, .int .i64 199] ac fun b4 am => ∃ (a5 : Int), b4 = .returned (.int .i64 a5) ∧
 Keep [p3, p8] ac am ∧
 ∀ (ah : World), Ext (fun b => b = p8) am ah →
 Calls Try.prog 64 #[.pointer a1] ah fun b5 an => ∃ (a8 : Int), b5 = .returned (.int .u64 a8) ∧
 Keep [p3, p8] ah an ∧
 ∀ (ag : World), Ext (fun b => b = p8) an ag →
 Calls Try.prog 99 #[.pointer a1] ag fun b2 al => ∃ (au aw : Int), b2 = .returned (.agg #[.int .i64 au, .int .i64 aw]) ∧
 Keep [p3, p8] ag al ∧
 ∀ (ad : World), Ext (fun b => b = p8) al ad →
 Calls Try.prog 100 #[.pointer a1] ad fun az af => ∃ (a4 : Int), az = .returned (.int .i64 a4) ∧
 Keep [p3, p8] ad af ∧
 Calls Try.prog 42 #[.pointer a1, .int .i64 1100] af fun b0 aq => ∃ (a0 : Option Addr) (a3 a2 : Nat), b0 = .returned (.slice a0 a3 a2) ∧
 Keep [p3, p8] af aq ∧
 ∀ (ab : World), Ext (fun b => b = p8) aq ab →
 Calls Try.prog 64 #[.pointer a1] ab fun b6 ak => ∃ (a9 : Int), b6 = .returned (.int .u64 a9) ∧
 Keep [p3, p8] ab ak ∧
 ∀ (ae : World), Ext (fun b => b = p8) ak ae →
 Calls Try.prog 43 #[.pointer a1] ae fun b3 aa => ∃ (a7 : Int), b3 = .returned (.int .i64 a7) ∧
 Keep [p3, p8] ae aa ∧
 (a7 ≠ 0 →
 ∀ (ai : World), Ext (fun b => b = p3) aa ai →
 R (.tuple #[.agg #[.int .i64 0, .int .i64 0, .int .u64 0, .int .i64 0, .int .i64 0, .int .i64 0, .slice none 0 0, .int .u64 0], .int .i64 a7]) ai) ∧
 (a7 = 0 →
 (a4 ≠ a4 →
 ∀ (aj : World), Ext (fun b => b = p3 ∨ b = p8) aa aj →
 R (.tuple #[.agg #[.int .i64 0, .int .i64 0, .int .u64 0, .int .i64 0, .int .i64 0, .int .i64 0, .slice none 0 0, .int .u64 0], .int .i64 4]) aj) ∧
 (a4 = a4 →
 ((Q08.F a6 a5 a8 au aw a4 a0 a3 a2 a9) = false →
 ∀ (ar : World), Ext (fun b => b = p3 ∨ b = p8) aa ar →
 R (.tuple #[.agg #[.int .i64 0, .int .i64 0, .int .u64 0, .int .i64 0, .int .i64 0, .int .i64 0, .slice none 0 0, .int .u64 0], .int .i64 4]) ar) ∧
 ((Q08.F a6 a5 a8 au aw a4 a0 a3 a2 a9) = true →
 ∀ (ap : World), Ext (fun b => b = p3 ∨ b = p8) aa ap →
 R (.tuple #[.agg #[.int .i64 a6, .int .i64 a5, .int .u64 a8, .int .i64 au, .int .i64 aw, .int .i64 a4, .slice a0 a3 a2, .int .u64 a9], .int .i64 0]) ap)))

theorem Q0A.up (dm : Option Addr) (eh du : Nat) {R : RW} {w : World} (h : Q0A.N dm eh du R w) : Q0A.M dm eh du R w := by
  unfold Q0A.M
  unfold Q0A.N at h
  refine Q00 fun ex e2 => ?_
  have a0 := Blk.of_new e2
  have f0 := ((Ext.refl no w)).size
  have f1 := (Ext.refl no w).x_alloc e2
  have h := h ex (w.heap.size) f1 (Priv.cons f0 a0.lt Priv.nil)
  refine h.mono fun f3 a8 h => ?_
  obtain ⟨an, he, hk, h⟩ := h
  refine ⟨an, he, ?_⟩
  have a0 := hk.blk a0 (by simp)
  refine Q00 fun ev e7 => ?_
  have a6 := Blk.of_new e7
  have ey := ((Ext.refl no a8)).size
  have ab := Nat.ne_of_lt a0.lt
  have a0 := a0.x_alloc e7
  have eq := (Ext.refl no a8).x_alloc e7
  have h := h ev (a8.heap.size) eq (Priv.cons ey a6.lt Priv.nil)
  refine h.mono fun eo al h => ?_
  obtain ⟨a2, he, hk, h⟩ := h
  refine ⟨a2, he, ?_⟩
  have a0 := hk.blk a0 (by simp)
  have a6 := hk.blk a6 (by simp)
  have cq : Ext (fun b => b = a8.heap.size) al al := ((Ext.refl no al)).none
  refine ⟨a6.cani 0 rfl rfl, Q00 fun ax b8 => ?_⟩
  have ci := cq.x_set (q := a8.heap.size) (i := 0) rfl (.inl rfl) b8
  have a0 := a0.oth (q := a8.heap.size) (i := 0) rfl ab b8
  have a6 : Blk ax a8.heap.size 27 [.int .i64 a2, .int .i64 0, .int .u64 0, .int .i64 0, .int .i64 0, .int .i64 0, .slice none 0 0, .int .u64 0] := a6.seti 0 rfl b8
  have h := h ax ci
  refine h.mono fun et ag h => ?_
  obtain ⟨a1, he, hk, h⟩ := h
  refine ⟨a1, he, ?_⟩
  have a0 := hk.blk a0 (by simp)
  have a6 := hk.blk a6 (by simp)
  have c4 : Ext (fun b => b = a8.heap.size) ag ag := ((Ext.refl no ag)).none
  refine ⟨a6.cani 1 rfl rfl, Q00 fun b1 dc => ?_⟩
  have d0 := c4.x_set (q := a8.heap.size) (i := 1) rfl (.inl rfl) dc
  have a0 := a0.oth (q := a8.heap.size) (i := 1) rfl ab dc
  have a6 : Blk b1 a8.heap.size 27 [.int .i64 a2, .int .i64 a1, .int .u64 0, .int .i64 0, .int .i64 0, .int .i64 0, .slice none 0 0, .int .u64 0] := a6.seti 1 rfl dc
  have h := h b1 d0
  refine h.mono fun eu ak h => ?_
  obtain ⟨a7, he, hk, h⟩ := h
  refine ⟨a7, he, ?_⟩
  have a0 := hk.blk a0 (by simp)
  have a6 := hk.blk a6 (by simp)
  have bo : Ext (fun b => b = a8.heap.size) ak ak := ((Ext.refl no ak)).none
  refine ⟨a6.cani 2 rfl rfl, Q00 fun b0 bx => ?_⟩
  have bq := bo.x_set (q := a8.heap.size) (i := 2) rfl (.inl rfl) bx
  have a0 := a0.oth (q := a8.heap.size) (i := 2) rfl ab bx
  have a6 : Blk b0 a8.heap.size 27 [.int .i64 a2, .int .i64 a1, .int .u64 a7, .int .i64 0, .int .i64 0, .int .i64 0, .slice none 0 0, .int .u64 0] := a6.seti 2 rfl bx
  have h := h b0 bq
  refine h.mono fun f2 aj h => ?_
  obtain ⟨ad, ae, he, hk, h⟩ := h
  refine ⟨ad, ae, he, ?_⟩
  have a0 := hk.blk a0 (by simp)
  have a6 := hk.blk a6 (by simp)
  have bz : Ext (fun b => b = a8.heap.size) aj aj := ((Ext.refl no aj)).none
  refine ⟨a6.cani 3 rfl rfl, Q00 fun da b2 => ?_⟩
  have b9 := bz.x_set (q := a8.heap.size) (i := 3) rfl (.inl rfl) b2
  have a0 := a0.oth (q := a8.heap.size) (i := 3) rfl ab b2
  have a6 : Blk da a8.heap.size 27 [.int .i64 a2, .int .i64 a1, .int .u64 a7, .int .i64 ad, .int .i64 0, .int .i64 0, .slice none 0 0, .int .u64 0] := a6.seti 3 rfl b2
  refine ⟨a6.cani 4 rfl rfl, Q00 fun ay cn => ?_⟩
  have c6 := b9.x_set (q := a8.heap.size) (i := 4) rfl (.inl rfl) cn
  have a0 := a0.oth (q := a8.heap.size) (i := 4) rfl ab cn
  have a6 : Blk ay a8.heap.size 27 [.int .i64 a2, .int .i64 a1, .int .u64 a7, .int .i64 ad, .int .i64 ae, .int .i64 0, .slice none 0 0, .int .u64 0] := a6.seti 4 rfl cn
  have h := h ay c6
  refine h.mono fun ez er h => ?_
  obtain ⟨a9, he, hk, h⟩ := h
  refine ⟨a9, he, ?_⟩
  have a0 := hk.blk a0 (by simp)
  have a6 := hk.blk a6 (by simp)
  refine h.mono fun ep ah h => ?_
  obtain ⟨a4, a5, a3, he, hk, h⟩ := h
  refine ⟨a4, a5, a3, he, ?_⟩
  have a0 := hk.blk a0 (by simp)
  have a6 := hk.blk a6 (by simp)
  have b3 : Ext (fun b => b = a8.heap.size) ah ah := ((Ext.refl no ah)).none
  refine ⟨a6.cani 6 rfl rfl, Q00 fun ao cv => ?_⟩
  have bk := b3.x_set (q := a8.heap.size) (i := 6) rfl (.inl rfl) cv
  have a0 := a0.oth (q := a8.heap.size) (i := 6) rfl ab cv
  have a6 : Blk ao a8.heap.size 27 [.int .i64 a2, .int .i64 a1, .int .u64 a7, .int .i64 ad, .int .i64 ae, .int .i64 0, .slice a4 a5 a3, .int .u64 0] := a6.seti 6 rfl cv
  have h := h ao bk
  refine h.mono fun ew ai h => ?_
  obtain ⟨aa, he, hk, h⟩ := h
  refine ⟨aa, he, ?_⟩
  have a0 := hk.blk a0 (by simp)
  have a6 := hk.blk a6 (by simp)
  have d4 : Ext (fun b => b = a8.heap.size) ai ai := ((Ext.refl no ai)).none
  refine ⟨a6.cani 7 rfl rfl, Q00 fun ar bf => ?_⟩
  have c8 := d4.x_set (q := a8.heap.size) (i := 7) rfl (.inl rfl) bf
  have a0 := a0.oth (q := a8.heap.size) (i := 7) rfl ab bf
  have a6 : Blk ar a8.heap.size 27 [.int .i64 a2, .int .i64 a1, .int .u64 a7, .int .i64 ad, .int .i64 ae, .int .i64 0, .slice a4 a5 a3, .int .u64 aa] := a6.seti 7 rfl bf
  have h := h ar c8
  refine h.mono fun es ac h => ?_
  obtain ⟨af, he, hk, h⟩ := h
  refine ⟨af, he, ?_⟩
  have a0 := hk.blk a0 (by simp)
  have a6 := hk.blk a6 (by simp)
  refine bif_of (fun cr => ?_) (fun cr => ?_)
  ·have h := h.1 (bne_t cr)
   have bg : Ext (fun b => b = w.heap.size) ac ac := ((Ext.refl no ac)).none
   refine ⟨a0.cani 0 rfl rfl, Q00 fun di e9 => ?_⟩
   have ca := bg.x_set (q := w.heap.size) (i := 0) rfl (.inl rfl) e9
   have a0 : Blk di w.heap.size 27 [.int .i64 0, .int .i64 0, .int .u64 0, .int .i64 0, .int .i64 0, .int .i64 0, .slice none 0 0, .int .u64 0] := a0.seti 0 rfl e9
   refine ⟨a0.cani 1 rfl rfl, Q00 fun cy ec => ?_⟩
   have ba := ca.x_set (q := w.heap.size) (i := 1) rfl (.inl rfl) ec
   have a0 : Blk cy w.heap.size 27 [.int .i64 0, .int .i64 0, .int .u64 0, .int .i64 0, .int .i64 0, .int .i64 0, .slice none 0 0, .int .u64 0] := a0.seti 1 rfl ec
   refine ⟨a0.cani 2 rfl rfl, Q00 fun c0 em => ?_⟩
   have cz := ba.x_set (q := w.heap.size) (i := 2) rfl (.inl rfl) em
   have a0 : Blk c0 w.heap.size 27 [.int .i64 0, .int .i64 0, .int .u64 0, .int .i64 0, .int .i64 0, .int .i64 0, .slice none 0 0, .int .u64 0] := a0.seti 2 rfl em
   refine ⟨a0.cani 3 rfl rfl, Q00 fun c5 dy => ?_⟩
   have be := cz.x_set (q := w.heap.size) (i := 3) rfl (.inl rfl) dy
   have a0 : Blk c5 w.heap.size 27 [.int .i64 0, .int .i64 0, .int .u64 0, .int .i64 0, .int .i64 0, .int .i64 0, .slice none 0 0, .int .u64 0] := a0.seti 3 rfl dy
   refine ⟨a0.cani 4 rfl rfl, Q00 fun cj dl => ?_⟩
   have cu := be.x_set (q := w.heap.size) (i := 4) rfl (.inl rfl) dl
   have a0 : Blk cj w.heap.size 27 [.int .i64 0, .int .i64 0, .int .u64 0, .int .i64 0, .int .i64 0, .int .i64 0, .slice none 0 0, .int .u64 0] := a0.seti 4 rfl dl
   refine ⟨a0.cani 5 rfl rfl, Q00 fun c7 dn => ?_⟩
   have cf := cu.x_set (q := w.heap.size) (i := 5) rfl (.inl rfl) dn
   have a0 : Blk c7 w.heap.size 27 [.int .i64 0, .int .i64 0, .int .u64 0, .int .i64 0, .int .i64 0, .int .i64 0, .slice none 0 0, .int .u64 0] := a0.seti 5 rfl dn
   refine ⟨a0.cani 6 rfl rfl, Q00 fun d3 eb => ?_⟩
   have bi := cf.x_set (q := w.heap.size) (i := 6) rfl (.inl rfl) eb
   have a0 : Blk d3 w.heap.size 27 [.int .i64 0, .int .i64 0, .int .u64 0, .int .i64 0, .int .i64 0, .int .i64 0, .slice none 0 0, .int .u64 0] := a0.seti 6 rfl eb
   refine ⟨a0.cani 7 rfl rfl, Q00 fun am ef => ?_⟩
   have b7 := bi.x_set (q := w.heap.size) (i := 7) rfl (.inl rfl) ef
   have a0 : Blk am w.heap.size 27 [.int .i64 0, .int .i64 0, .int .u64 0, .int .i64 0, .int .i64 0, .int .i64 0, .slice none 0 0, .int .u64 0] := a0.seti 7 rfl ef
   refine ⟨0, 0, 0, 0, 0, 0, none, 0, 0, 0, ⟨a0.celli 0 rfl rfl, a0.celli 1 rfl rfl, a0.celli 2 rfl rfl, a0.celli 3 rfl rfl, a0.celli 4 rfl rfl, a0.celli 5 rfl rfl, a0.celli 6 rfl rfl, a0.celli 7 rfl rfl, trivial⟩, ?_⟩
   have h := h am b7
   exact h
  have h := h.2 (bne_f cr)
  unfold Q0A.J1
  have cw : Ext (fun b => b = a8.heap.size) ac ac := ((Ext.refl no ac)).none
  refine ⟨a6.cani 5 rfl rfl, Q00 fun az bs => ?_⟩
  have au := cw.x_set (q := a8.heap.size) (i := 5) rfl (.inl rfl) bs
  have a0 := a0.oth (q := a8.heap.size) (i := 5) rfl ab bs
  have a6 : Blk az a8.heap.size 27 [.int .i64 a2, .int .i64 a1, .int .u64 a7, .int .i64 ad, .int .i64 ae, .int .i64 a9, .slice a4 a5 a3, .int .u64 aa] := a6.seti 5 rfl bs
  refine ⟨a9, a6.celli 5 rfl rfl, ?_⟩
  refine bif_of (fun d6 => ?_) (fun d6 => ?_)
  ·have h := h.1 (bne_t d6)
   have dd : Ext (fun b => b = w.heap.size ∨ b = a8.heap.size) ac az := (au).mono fun _ h _ => .inr h
   refine ⟨a0.cani 0 rfl rfl, Q00 fun cs ek => ?_⟩
   have bt := dd.x_set (q := w.heap.size) (i := 0) rfl (.inl (.inl rfl)) ek
   have a0 : Blk cs w.heap.size 27 [.int .i64 0, .int .i64 0, .int .u64 0, .int .i64 0, .int .i64 0, .int .i64 0, .slice none 0 0, .int .u64 0] := a0.seti 0 rfl ek
   refine ⟨a0.cani 1 rfl rfl, Q00 fun c3 dr => ?_⟩
   have de := bt.x_set (q := w.heap.size) (i := 1) rfl (.inl (.inl rfl)) dr
   have a0 : Blk c3 w.heap.size 27 [.int .i64 0, .int .i64 0, .int .u64 0, .int .i64 0, .int .i64 0, .int .i64 0, .slice none 0 0, .int .u64 0] := a0.seti 1 rfl dr
   refine ⟨a0.cani 2 rfl rfl, Q00 fun bb dw => ?_⟩
   have ct := de.x_set (q := w.heap.size) (i := 2) rfl (.inl (.inl rfl)) dw
   have a0 : Blk bb w.heap.size 27 [.int .i64 0, .int .i64 0, .int .u64 0, .int .i64 0, .int .i64 0, .int .i64 0, .slice none 0 0, .int .u64 0] := a0.seti 2 rfl dw
   refine ⟨a0.cani 3 rfl rfl, Q00 fun bl e3 => ?_⟩
   have bv := ct.x_set (q := w.heap.size) (i := 3) rfl (.inl (.inl rfl)) e3
   have a0 : Blk bl w.heap.size 27 [.int .i64 0, .int .i64 0, .int .u64 0, .int .i64 0, .int .i64 0, .int .i64 0, .slice none 0 0, .int .u64 0] := a0.seti 3 rfl e3
   refine ⟨a0.cani 4 rfl rfl, Q00 fun d2 ed => ?_⟩
   have bw := bv.x_set (q := w.heap.size) (i := 4) rfl (.inl (.inl rfl)) ed
   have a0 : Blk d2 w.heap.size 27 [.int .i64 0, .int .i64 0, .int .u64 0, .int .i64 0, .int .i64 0, .int .i64 0, .slice none 0 0, .int .u64 0] := a0.seti 4 rfl ed
   refine ⟨a0.cani 5 rfl rfl, Q00 fun bd e8 => ?_⟩
   have cp := bw.x_set (q := w.heap.size) (i := 5) rfl (.inl (.inl rfl)) e8
   have a0 : Blk bd w.heap.size 27 [.int .i64 0, .int .i64 0, .int .u64 0, .int .i64 0, .int .i64 0, .int .i64 0, .slice none 0 0, .int .u64 0] := a0.seti 5 rfl e8
   refine ⟨a0.cani 6 rfl rfl, Q00 fun d5 ds => ?_⟩
   have cg := cp.x_set (q := w.heap.size) (i := 6) rfl (.inl (.inl rfl)) ds
   have a0 : Blk d5 w.heap.size 27 [.int .i64 0, .int .i64 0, .int .u64 0, .int .i64 0, .int .i64 0, .int .i64 0, .slice none 0 0, .int .u64 0] := a0.seti 6 rfl ds
   refine ⟨a0.cani 7 rfl rfl, Q00 fun aq e5 => ?_⟩
   have br := cg.x_set (q := w.heap.size) (i := 7) rfl (.inl (.inl rfl)) e5
   have a0 : Blk aq w.heap.size 27 [.int .i64 0, .int .i64 0, .int .u64 0, .int .i64 0, .int .i64 0, .int .i64 0, .slice none 0 0, .int .u64 0] := a0.seti 7 rfl e5
   refine ⟨0, 0, 0, 0, 0, 0, none, 0, 0, 0, ⟨a0.celli 0 rfl rfl, a0.celli 1 rfl rfl, a0.celli 2 rfl rfl, a0.celli 3 rfl rfl, a0.celli 4 rfl rfl, a0.celli 5 rfl rfl, a0.celli 6 rfl rfl, a0.celli 7 rfl rfl, trivial⟩, ?_⟩
   have h := h aq br
   exact h
  have h := h.2 (bne_f d6)
  refine ⟨a2, a1, a7, ad, ae, a9, a4, a5, a3, aa, ⟨a6.celli 0 rfl rfl, a6.celli 1 rfl rfl, a6.celli 2 rfl rfl, a6.celli 3 rfl rfl, a6.celli 4 rfl rfl, a6.celli 5 rfl rfl, a6.celli 6 rfl rfl, a6.celli 7 rfl rfl, trivial⟩, ?_⟩
  refine (Q08.pure a2 a1 a7 ad ae a9 a4 a5 a3 aa).mono fun ee ww60 ⟨he, hxx⟩ => ⟨(Q08.F a2 a1 a7 ad ae a9 a4 a5 a3 aa), he, ?_⟩
  have ap := au.trans hxx.none
  have a0 := a0.ext hxx id
  have a6 := a6.ext hxx id
  refine bif_of (fun bc => ?_) (fun bc => ?_)
  ·have h := h.1 (not_t bc)
   have bm : Ext (fun b => b = w.heap.size ∨ b = a8.heap.size) ac ww60 := (ap).mono fun _ h _ => .inr h
   refine ⟨a0.cani 0 rfl rfl, Q00 fun d7 e4 => ?_⟩
   have bh := bm.x_set (q := w.heap.size) (i := 0) rfl (.inl (.inl rfl)) e4
   have a0 : Blk d7 w.heap.size 27 [.int .i64 0, .int .i64 0, .int .u64 0, .int .i64 0, .int .i64 0, .int .i64 0, .slice none 0 0, .int .u64 0] := a0.seti 0 rfl e4
   refine ⟨a0.cani 1 rfl rfl, Q00 fun c9 eg => ?_⟩
   have d8 := bh.x_set (q := w.heap.size) (i := 1) rfl (.inl (.inl rfl)) eg
   have a0 : Blk c9 w.heap.size 27 [.int .i64 0, .int .i64 0, .int .u64 0, .int .i64 0, .int .i64 0, .int .i64 0, .slice none 0 0, .int .u64 0] := a0.seti 1 rfl eg
   refine ⟨a0.cani 2 rfl rfl, Q00 fun dk dx => ?_⟩
   have b4 := d8.x_set (q := w.heap.size) (i := 2) rfl (.inl (.inl rfl)) dx
   have a0 : Blk dk w.heap.size 27 [.int .i64 0, .int .i64 0, .int .u64 0, .int .i64 0, .int .i64 0, .int .i64 0, .slice none 0 0, .int .u64 0] := a0.seti 2 rfl dx
   refine ⟨a0.cani 3 rfl rfl, Q00 fun cx e6 => ?_⟩
   have b5 := b4.x_set (q := w.heap.size) (i := 3) rfl (.inl (.inl rfl)) e6
   have a0 : Blk cx w.heap.size 27 [.int .i64 0, .int .i64 0, .int .u64 0, .int .i64 0, .int .i64 0, .int .i64 0, .slice none 0 0, .int .u64 0] := a0.seti 3 rfl e6
   refine ⟨a0.cani 4 rfl rfl, Q00 fun dj ea => ?_⟩
   have cm := b5.x_set (q := w.heap.size) (i := 4) rfl (.inl (.inl rfl)) ea
   have a0 : Blk dj w.heap.size 27 [.int .i64 0, .int .i64 0, .int .u64 0, .int .i64 0, .int .i64 0, .int .i64 0, .slice none 0 0, .int .u64 0] := a0.seti 4 rfl ea
   refine ⟨a0.cani 5 rfl rfl, Q00 fun cl dt => ?_⟩
   have c1 := cm.x_set (q := w.heap.size) (i := 5) rfl (.inl (.inl rfl)) dt
   have a0 : Blk cl w.heap.size 27 [.int .i64 0, .int .i64 0, .int .u64 0, .int .i64 0, .int .i64 0, .int .i64 0, .slice none 0 0, .int .u64 0] := a0.seti 5 rfl dt
   refine ⟨a0.cani 6 rfl rfl, Q00 fun bp en => ?_⟩
   have bu := c1.x_set (q := w.heap.size) (i := 6) rfl (.inl (.inl rfl)) en
   have a0 : Blk bp w.heap.size 27 [.int .i64 0, .int .i64 0, .int .u64 0, .int .i64 0, .int .i64 0, .int .i64 0, .slice none 0 0, .int .u64 0] := a0.seti 6 rfl en
   refine ⟨a0.cani 7 rfl rfl, Q00 fun aw dv => ?_⟩
   have ch := bu.x_set (q := w.heap.size) (i := 7) rfl (.inl (.inl rfl)) dv
   have a0 : Blk aw w.heap.size 27 [.int .i64 0, .int .i64 0, .int .u64 0, .int .i64 0, .int .i64 0, .int .i64 0, .slice none 0 0, .int .u64 0] := a0.seti 7 rfl dv
   refine ⟨0, 0, 0, 0, 0, 0, none, 0, 0, 0, ⟨a0.celli 0 rfl rfl, a0.celli 1 rfl rfl, a0.celli 2 rfl rfl, a0.celli 3 rfl rfl, a0.celli 4 rfl rfl, a0.celli 5 rfl rfl, a0.celli 6 rfl rfl, a0.celli 7 rfl rfl, trivial⟩, ?_⟩
   have h := h aw ch
   exact h
  have h := h.2 (not_f bc)
  refine ⟨a2, a1, a7, ad, ae, a9, a4, a5, a3, aa, ⟨a6.celli 0 rfl rfl, a6.celli 1 rfl rfl, a6.celli 2 rfl rfl, a6.celli 3 rfl rfl, a6.celli 4 rfl rfl, a6.celli 5 rfl rfl, a6.celli 6 rfl rfl, a6.celli 7 rfl rfl, trivial⟩, ?_⟩
  have bj : Ext (fun b => b = w.heap.size ∨ b = a8.heap.size) ac ww60 := (ap).mono fun _ h _ => .inr h
  refine ⟨a0.cani 0 rfl rfl, Q00 fun ck el => ?_⟩
  have df := bj.x_set (q := w.heap.size) (i := 0) rfl (.inl (.inl rfl)) el
  have a0 : Blk ck w.heap.size 27 [.int .i64 a2, .int .i64 0, .int .u64 0, .int .i64 0, .int .i64 0, .int .i64 0, .slice none 0 0, .int .u64 0] := a0.seti 0 rfl el
  refine ⟨a0.cani 1 rfl rfl, Q00 fun co e0 => ?_⟩
  have c2 := df.x_set (q := w.heap.size) (i := 1) rfl (.inl (.inl rfl)) e0
  have a0 : Blk co w.heap.size 27 [.int .i64 a2, .int .i64 a1, .int .u64 0, .int .i64 0, .int .i64 0, .int .i64 0, .slice none 0 0, .int .u64 0] := a0.seti 1 rfl e0
  refine ⟨a0.cani 2 rfl rfl, Q00 fun db dz => ?_⟩
  have bn := c2.x_set (q := w.heap.size) (i := 2) rfl (.inl (.inl rfl)) dz
  have a0 : Blk db w.heap.size 27 [.int .i64 a2, .int .i64 a1, .int .u64 a7, .int .i64 0, .int .i64 0, .int .i64 0, .slice none 0 0, .int .u64 0] := a0.seti 2 rfl dz
  refine ⟨a0.cani 3 rfl rfl, Q00 fun cb dq => ?_⟩
  have cd := bn.x_set (q := w.heap.size) (i := 3) rfl (.inl (.inl rfl)) dq
  have a0 : Blk cb w.heap.size 27 [.int .i64 a2, .int .i64 a1, .int .u64 a7, .int .i64 ad, .int .i64 0, .int .i64 0, .slice none 0 0, .int .u64 0] := a0.seti 3 rfl dq
  refine ⟨a0.cani 4 rfl rfl, Q00 fun dg ei => ?_⟩
  have d1 := cd.x_set (q := w.heap.size) (i := 4) rfl (.inl (.inl rfl)) ei
  have a0 : Blk dg w.heap.size 27 [.int .i64 a2, .int .i64 a1, .int .u64 a7, .int .i64 ad, .int .i64 ae, .int .i64 0, .slice none 0 0, .int .u64 0] := a0.seti 4 rfl ei
  refine ⟨a0.cani 5 rfl rfl, Q00 fun ce ej => ?_⟩
  have b6 := d1.x_set (q := w.heap.size) (i := 5) rfl (.inl (.inl rfl)) ej
  have a0 : Blk ce w.heap.size 27 [.int .i64 a2, .int .i64 a1, .int .u64 a7, .int .i64 ad, .int .i64 ae, .int .i64 a9, .slice none 0 0, .int .u64 0] := a0.seti 5 rfl ej
  refine ⟨a0.cani 6 rfl rfl, Q00 fun dh e1 => ?_⟩
  have d9 := b6.x_set (q := w.heap.size) (i := 6) rfl (.inl (.inl rfl)) e1
  have a0 : Blk dh w.heap.size 27 [.int .i64 a2, .int .i64 a1, .int .u64 a7, .int .i64 ad, .int .i64 ae, .int .i64 a9, .slice a4 a5 a3, .int .u64 0] := a0.seti 6 rfl e1
  refine ⟨a0.cani 7 rfl rfl, Q00 fun av dp => ?_⟩
  have cc := d9.x_set (q := w.heap.size) (i := 7) rfl (.inl (.inl rfl)) dp
  have a0 : Blk av w.heap.size 27 [.int .i64 a2, .int .i64 a1, .int .u64 a7, .int .i64 ad, .int .i64 ae, .int .i64 a9, .slice a4 a5 a3, .int .u64 aa] := a0.seti 7 rfl dp
  refine ⟨a2, a1, a7, ad, ae, a9, a4, a5, a3, aa, ⟨a0.celli 0 rfl rfl, a0.celli 1 rfl rfl, a0.celli 2 rfl rfl, a0.celli 3 rfl rfl, a0.celli 4 rfl rfl, a0.celli 5 rfl rfl, a0.celli 6 rfl rfl, a0.celli 7 rfl rfl, trivial⟩, ?_⟩
  have h := h av cc
  exact h

theorem Q0A.go (a2 : Option Addr) (a1 a0 : Nat) {R : RW} {w : World} (h : Q0A.N a2 a1 a0 R w) : Calls Try.prog 98 #[.slice a2 a1 a0] w fun e w' => ∃ v, e = .returned v ∧ R v w' := Q0A.ok a2 a1 a0 (Q0A.up a2 a1 a0 h)
def Q0D.M (al ar b6 b7 b9 ao : Int) (av : Option Addr) (ap au : Nat) (b8 af ai aq b4 b2 am : Int) (ag : Option Addr) (ah an : Nat) (b3 : Int) (R : RW) (w : World) : Prop :=
 thenW (w.alloc (.cells #[.int .i64 al, .int .i64 ar, .int .u64 b6, .int .i64 b7, .int .i64 b9, .int .i64 ao, .slice av ap au, .int .u64 b8] 27)) fun a1 =>
 thenW (a1.alloc (.cells #[.int .i64 af, .int .i64 ai, .int .u64 aq, .int .i64 b4, .int .i64 b2, .int .i64 am, .slice ag ah an, .int .u64 b3] 27)) fun bb =>
 thenW (bb.drew) fun b5 =>
 ∃ (ad : Option Addr) (a5 a9 : Nat), b5.cell? ((blk w.heap.size).add 6) = some (.slice ad a5 a9) ∧
 ∃ (a6 : Option Addr) (ab ac : Nat), b5.cell? ((blk a1.heap.size).add 6) = some (.slice a6 ab ac) ∧
 Calls Try.prog 75 #[.slice ad a5 a9, .slice a6 ab ac] b5 fun ba a0 => ∃ (a8 : Bool), ba = .returned (.bool a8) ∧
 bif a8 then (
 ∃ (a3 : Int), a0.cell? ((blk w.heap.size).add 0) = some (.int .i64 a3) ∧
 ∃ (a2 : Int), a0.cell? ((blk a1.heap.size).add 0) = some (.int .i64 a2) ∧
 bif a3 == a2 then (
 ∃ (a7 : Int), a0.cell? ((blk w.heap.size).add 1) = some (.int .i64 a7) ∧
 ∃ (ae : Int), a0.cell? ((blk a1.heap.size).add 1) = some (.int .i64 ae) ∧
 bif a7 == ae then (
 ∃ (aj : Int), a0.cell? ((blk w.heap.size).add 2) = some (.int .u64 aj) ∧
 ∃ (ak : Int), a0.cell? ((blk a1.heap.size).add 2) = some (.int .u64 ak) ∧
 bif aj == ak then (
 ∃ (b1 az : Int), cellsAt a0 ((blk w.heap.size).add 3) [.int .i64 b1, .int .i64 az] 0 ∧
 ∃ (ax aw : Int), cellsAt a0 ((blk a1.heap.size).add 3) [.int .i64 ax, .int .i64 aw] 0 ∧
 ∃ (bc : Bool), (binOp .eql 24 (.agg #[.int .i64 b1, .int .i64 az]) (.agg #[.int .i64 ax, .int .i64 aw])).run Try.prog a0 = .ok (.bool bc) a0 ∧
 bif bc then (
 ∃ (aa : Int), a0.cell? ((blk w.heap.size).add 5) = some (.int .i64 aa) ∧
 ∃ (a4 : Int), a0.cell? ((blk a1.heap.size).add 5) = some (.int .i64 a4) ∧
 bif aa == a4 then (
 ∃ (ay : Int), a0.cell? ((blk w.heap.size).add 7) = some (.int .u64 ay) ∧
 ∃ (b0 : Int), a0.cell? ((blk a1.heap.size).add 7) = some (.int .u64 b0) ∧
 R (.bool (ay == b0)) a0) else (
 R (.bool false) a0)) else (
 R (.bool false) a0)) else (
 R (.bool false) a0)) else (
 R (.bool false) a0)) else (
 R (.bool false) a0)) else (
 R (.bool false) a0)

theorem Q0D.ok (a4 aa ag ah aj a7 : Int) (ac : Option Addr) (a8 ab : Nat) (ai a0 a3 a9 af ad a5 : Int) (a1 : Option Addr) (a2 a6 : Nat) (ae : Int) {R : RW} {w : World} (h : Q0D.M a4 aa ag ah aj a7 ac a8 ab ai a0 a3 a9 af ad a5 a1 a2 a6 ae R w) : Calls Try.prog 55 #[.agg #[.int .i64 a4, .int .i64 aa, .int .u64 ag, .int .i64 ah, .int .i64 aj, .int .i64 a7, .slice ac a8 ab, .int .u64 ai], .agg #[.int .i64 a0, .int .i64 a3, .int .u64 a9, .int .i64 af, .int .i64 ad, .int .i64 a5, .slice a1 a2 a6, .int .u64 ae]] w fun e w' => ∃ v, e = .returned v ∧ R v w' :=
  Q09 follows (H := []) (args := [.agg #[.int .i64 a4, .int .i64 aa, .int .u64 ag, .int .i64 ah, .int .i64 aj, .int .i64 a7, .slice ac a8 ab, .int .u64 ai], .agg #[.int .i64 a0, .int .i64 a3, .int .u64 a9, .int .i64 af, .int .i64 ad, .int .i64 a5, .slice a1 a2 a6, .int .u64 ae]]) (cast (by kernel_rfl) h)

def Q0D.N (a4 a8 ad aj ak a6 : Int) (ai : Option Addr) (af ah : Nat) (am a1 a3 a7 ac a9 a5 : Int) (aa : Option Addr) (ab ae : Nat) (al : Int) (R : RW) (w : World) : Prop :=
 ∀ (ag : World) (ap ao : Nat), Ext no w ag → Priv w ag [ap, ao] →
 Calls Try.prog 75 #[.slice ai af ah, .slice aa ab ae] ag fun an a2 => ∃ (a0 : Bool), an = .returned (.bool a0) ∧
 Keep [ap, ao] ag a2 ∧
 (a0 = true →
 (a4 = a1 →
 (a8 = a3 →
 (ad = a7 →
 (aj = ac ∧ ak = a9 →
 (a6 = a5 →
 R (.bool (am == al)) a2) ∧
 (a6 ≠ a5 →
 R (.bool false) a2)) ∧
 (¬ (aj = ac ∧ ak = a9) →
 R (.bool false) a2)) ∧
 (ad ≠ a7 →
 R (.bool false) a2)) ∧
 (a8 ≠ a3 →
 R (.bool false) a2)) ∧
 (a4 ≠ a1 →
 R (.bool false) a2)) ∧
 (a0 = false →
 R (.bool false) a2)

theorem Q0D.up (a5 ac ah ai aj a8 : Int) (ae : Option Addr) (a9 ad : Nat) (al a1 a4 aa ab a7 a6 : Int) (a2 : Option Addr) (a3 a0 : Nat) (ag : Int) {R : RW} {w : World} (h : Q0D.N a5 ac ah ai aj a8 ae a9 ad al a1 a4 aa ab a7 a6 a2 a3 a0 ag R w) : Q0D.M a5 ac ah ai aj a8 ae a9 ad al a1 a4 aa ab a7 a6 a2 a3 a0 ag R w := by
  unfold Q0D.M
  unfold Q0D.N at h
  refine Q00 fun aq b3 => ?_
  have af := Blk.of_new b3
  have b4 := ((Ext.refl no w)).size
  have an := (Ext.refl no w).x_alloc b3
  refine Q00 fun b7 au => ?_
  have ak := Blk.of_new au
  have b8 := (an).size
  have b2 := Nat.ne_of_lt af.lt
  have af := af.x_alloc au
  have ar := an.x_alloc au
  refine Q00 fun ax aw => ?_
  have b0 := ar.x_drew aw
  have af := af.x_drew aw
  have ak := ak.x_drew aw
  refine ⟨ae, a9, ad, af.celli 6 rfl rfl, ?_⟩
  refine ⟨a2, a3, a0, ak.celli 6 rfl rfl, ?_⟩
  have h := h ax (w.heap.size) (aq.heap.size) b0 (Priv.cons b4 af.lt (Priv.cons b8 ak.lt Priv.nil))
  refine h.mono fun b5 b6 h => ?_
  obtain ⟨am, he, hk, h⟩ := h
  refine ⟨am, he, ?_⟩
  have af := hk.blk af (by simp)
  have ak := hk.blk ak (by simp)
  refine bif_fo (fun ay => ?_) (fun ay => ?_)
  ·have h := h.2 ay
   exact h
  have h := h.1 ay
  refine ⟨a5, af.celli 0 rfl rfl, ?_⟩
  refine ⟨a1, ak.celli 0 rfl rfl, ?_⟩
  refine bif_fo (fun av => ?_) (fun av => ?_)
  ·have h := h.2 (beq_f av)
   exact h
  have h := h.1 (beq_t av)
  refine ⟨ac, af.celli 1 rfl rfl, ?_⟩
  refine ⟨a4, ak.celli 1 rfl rfl, ?_⟩
  refine bif_fo (fun az => ?_) (fun az => ?_)
  ·have h := h.2 (beq_f az)
   exact h
  have h := h.1 (beq_t az)
  refine ⟨ah, af.celli 2 rfl rfl, ?_⟩
  refine ⟨aa, ak.celli 2 rfl rfl, ?_⟩
  refine bif_fo (fun b1 => ?_) (fun b1 => ?_)
  ·have h := h.2 (beq_f b1)
   exact h
  have h := h.1 (beq_t b1)
  refine ⟨ai, aj, ⟨af.celli 3 rfl rfl, af.celli 4 rfl rfl, trivial⟩, ?_⟩
  refine ⟨ab, a7, ⟨ak.celli 3 rfl rfl, ak.celli 4 rfl rfl, trivial⟩, ?_⟩
  refine ⟨_, Q4u ai aj ab a7 _, ?_⟩
  refine bif_fo (fun ap => ?_) (fun ap => ?_)
  ·have h := h.2 (of_decide_eq_false ap)
   exact h
  have h := h.1 (of_decide_eq_true ap)
  refine ⟨a8, af.celli 5 rfl rfl, ?_⟩
  refine ⟨a6, ak.celli 5 rfl rfl, ?_⟩
  refine bif_fo (fun ao => ?_) (fun ao => ?_)
  ·have h := h.2 (beq_f ao)
   exact h
  have h := h.1 (beq_t ao)
  refine ⟨al, af.celli 7 rfl rfl, ?_⟩
  refine ⟨ag, ak.celli 7 rfl rfl, ?_⟩
  exact h

theorem Q0D.go (a4 aa ag ah aj a7 : Int) (ac : Option Addr) (a8 ab : Nat) (ai a0 a3 a9 af ad a5 : Int) (a1 : Option Addr) (a2 a6 : Nat) (ae : Int) {R : RW} {w : World} (h : Q0D.N a4 aa ag ah aj a7 ac a8 ab ai a0 a3 a9 af ad a5 a1 a2 a6 ae R w) : Calls Try.prog 55 #[.agg #[.int .i64 a4, .int .i64 aa, .int .u64 ag, .int .i64 ah, .int .i64 aj, .int .i64 a7, .slice ac a8 ab, .int .u64 ai], .agg #[.int .i64 a0, .int .i64 a3, .int .u64 a9, .int .i64 af, .int .i64 ad, .int .i64 a5, .slice a1 a2 a6, .int .u64 ae]] w fun e w' => ∃ v, e = .returned v ∧ R v w' := Q0D.ok a4 aa ag ah aj a7 ac a8 ab ai a0 a3 a9 af ad a5 a1 a2 a6 ae (Q0D.up a4 aa ag ah aj a7 ac a8 ab ai a0 a3 a9 af ad a5 a1 a2 a6 ae h)
theorem Q0D.run (a4 aa ag ah aj a7 : Int) (ac : Option Addr) (a8 ab : Nat) (ai a0 a3 a9 af ad a5 : Int) (a1 : Option Addr) (a2 a6 : Nat) (ae : Int) {V : Value} {Q : World → Prop} {w : World} (h : Q0D.N a4 aa ag ah aj a7 ac a8 ab ai a0 a3 a9 af ad a5 a1 a2 a6 ae (fun v w' => v = V ∧ Q w') w) : Calls Try.prog 55 #[.agg #[.int .i64 a4, .int .i64 aa, .int .u64 ag, .int .i64 ah, .int .i64 aj, .int .i64 a7, .slice ac a8 ab, .int .u64 ai], .agg #[.int .i64 a0, .int .i64 a3, .int .u64 a9, .int .i64 af, .int .i64 ad, .int .i64 a5, .slice a1 a2 a6, .int .u64 ae]] w (Ret V Q) := (Q0D.go a4 aa ag ah aj a7 ac a8 ab ai a0 a3 a9 af ad a5 a1 a2 a6 ae h).mono fun e w' ⟨v, he, hv, hq⟩ => ⟨by rw [he, hv], hq⟩

theorem keep1 {w w' : World} {m : Nat → Prop} {p : Nat} (h : Ext m w w') (hp : ¬ m p) : Keep [p] w w' := h.keep fun q hq _ => by simp at hq; subst hq; exact hp
theorem keep2 {w w' : World} {m : Nat → Prop} {p q : Nat} (h : Ext m w w') (hp : ¬ m p) (hq : ¬ m q) : Keep [p, q] w w' := h.keep fun r hr _ => by
  simp at hr
  rcases hr with rfl | rfl
  · exact hp
  · exact hq
theorem OwnB.up {N M : Nat} {w : World} {a : Option Addr} {c : Nat} {bs : List UInt8} (h : OwnB N w a c bs) (hM : M ≤ N) : OwnB M w a c bs := ⟨h.own, fun ad ha => ⟨Nat.le_trans hM (h.fr ad ha).1, (h.fr ad ha).2⟩⟩
theorem app {w0 wi w1 : World} {N : Nat} {a xa : Option Addr} {c xc : Nat} {l x : List UInt8} (hB : OwnB N wi a c l) (X : Ext no w0 wi) (h0 : w0.heap.size ≤ N) (hN : N ≤ wi.heap.size) (hx : Ext no wi w1) (hO : RowAt w1 xa (bytesV x)) (hl : l.length + x.length ≤ 100000000) :
    ∃ a' c' w', (Builtin.append_ #[25, 25] 25 #[.slice a l.length c, .slice xa x.length xc]).run Try.prog w1 = .ok (.slice a' (l ++ x).length c') w' ∧ OwnB N w' a' c' (l ++ x) ∧ Ext no w0 w' ∧ Ext (fun b => N ≤ b) w1 w' ∧ N ≤ w'.heap.size := by
  obtain ⟨a', c', w', hr, hO2, hx2⟩ := (hB.no hx).append (t := 25) (ty := 25) Try.underlying25 (Nat.le_trans hN hx.size) (xc := xc) hO hl
  exact ⟨a', c', w', hr, hO2, (X.trans hx).then hx2 fun b hb => .inr (Nat.le_trans h0 hb), hx2, Nat.le_trans hN (Nat.le_trans hx.size hx2.size)⟩
section
variable {w w' : World} {a : Option Addr} {c N p : Nat} {bs : List UInt8} {k : Int}
theorem Q4m (h : RowAt w a (bytesV bs)) (hl : bs.length ≤ 900000) {t s : Int} (h0 : -9223372036854775808 ≤ t) (h1 : t < 9223372036854775808) (hs : s < 9223372036854775808) :
    Calls Try.prog 90 #[.slice a bs.length c, .agg #[.int .i64 t, .int .i64 s]] w (fun e w' => ∃ a' c', e = .returned (.slice a' (bs ++ stampL t s).length c') ∧ OwnB w.heap.size w' a' c' (bs ++ stampL t s) ∧ Ext no w w') := by
  refine (Q0K.go _ _ _ _ _ (R := fun v w' => ∃ a' c', v = (.slice a' (bs ++ stampL t s).length c') ∧ OwnB w.heap.size w' a' c' (bs ++ stampL t s) ∧ Ext no w w') ?_).mono fun e w' ⟨v, he, a, c, hv, hw⟩ => ⟨a, c, by rw [he, hv], hw⟩
  unfold Q0K.N
  intro w5 p6 hx5 hp
  refine (W.Int_spec (h.no hx5) (by omega) h0 h1).mono fun e w9 ⟨a9, c9, he, hO, hx9⟩ => ⟨a9, _, c9, he, hx9.kept, ?_⟩
  have e1 : IntKind.u64.wrap (if (0 : Int) > s then 0 else s) = ((s.toNat : Nat) : Int) := by split <;> rw [wu64 (by omega) (by omega)] <;> omega
  rw [e1]
  have hz := W.numL_le (zig t)
  refine (W.Num_spec hO.row (by rw [List.length_append]; omega) (n := s.toNat) (by omega)).mono fun e w12 ⟨a12, c12, he, hO2, hx12⟩ => ⟨a12, _, c12, he, a12, c12, ?_, ?_, (hx5.trans hx9).trans hx12⟩
  · unfold stampL; rw [List.append_assoc]
  · unfold stampL; rw [← List.append_assoc]; exact OwnB.up hO2 (Nat.le_trans hx5.size hx9.size)
theorem Q3X {q : Nat} (hq : Blk w q 113 [.slice a bs.length c]) (h : RowAt w a (bytesV bs)) (ho : ∀ ad, a = some ad → ad.block ≠ q) {la : Option Addr} {lc : Nat} {xs : List Nat} (hx : RowAt w la (xs.map fun (n : Nat) => Value.int .u64 (n : Int))) (hla : ∀ ad, la = some ad → ad.block ≠ q)
    (hxs : ∀ n ∈ xs, n < 18446744073709551616) (hl : bs.length + xs.length * 10 ≤ 900000) :
    Calls Try.prog 88 #[.pointer (some (blk q)), .slice la xs.length lc] w (fun e w' => e = .returned (.tuple #[]) ∧ ∃ a' c', Blk w' q 113 [.slice a' (bs ++ xs.flatMap numL).length c'] ∧ RowAt w' a' (bytesV (bs ++ xs.flatMap numL)) ∧ (∀ ad, a' = some ad → ad.block ≠ q ∧ (a' = a ∨ w.heap.size ≤ ad.block)) ∧ Ext (fun b => b = q) w w') := by
  refine (Q0e.go _ _ _ _ (R := fun v w' => v = .tuple #[] ∧ ∃ a' c', Blk w' q 113 [.slice a' (bs ++ xs.flatMap numL).length c'] ∧ RowAt w' a' (bytesV (bs ++ xs.flatMap numL)) ∧ (∀ ad, a' = some ad → ad.block ≠ q ∧ (a' = a ∨ w.heap.size ≤ ad.block)) ∧ Ext (fun b => b = q) w w') ?_).mono fun e w' ⟨v, he, hv, hw⟩ => ⟨by rw [he, hv], hw⟩
  unfold Q0e.N
  refine ⟨fun k vs w1 => ∃ (t : Nat) (a1 : Option Addr) (c1 : Nat) (l1 : List UInt8), vs = [.int .i64 t] ∧ k + t = xs.length ∧ l1 = bs ++ (xs.take t).flatMap numL ∧ l1.length ≤ bs.length + t * 10 ∧ Blk w1 q 113 [.slice a1 l1.length c1] ∧ RowAt w1 a1 (bytesV l1) ∧ (∀ ad, a1 = some ad → ad.block ≠ q ∧ (a1 = a ∨ w.heap.size ≤ ad.block)) ∧ Ext (fun b => b = q) w w1, xs.length,
    ⟨0, a, c, bs, rfl, rfl, by simp, by omega, hq, h, fun ad ha => ⟨ho ad ha, .inl rfl⟩, Ext.refl _ _⟩, ?_⟩
  rintro k w1 i ⟨t, a1, c1, l1, hi, hk, hl1, hlen, hb, hr, hf, X⟩
  simp only [List.cons.injEq, Value.int.injEq, true_and, and_true] at hi
  subst hi
  refine ⟨fun ht => ?_, fun ht => ?_⟩
  · have htl : t < xs.length := by omega
    have hx1 := hx.ext' X fun _ ad ha => hla ad ha
    obtain ⟨ad, rfl⟩ := hx1.addr (by intro e; rw [List.map_eq_nil_iff] at e; subst e; simp at htl)
    have hnb := hxs xs[t] (List.getElem_mem htl)
    refine ⟨ad, rfl, by omega, by omega, xs[t], by rw [Int.toNat_natCast, Nat.mul_one]; exact hx1.at_ (by simp [htl]), blk q, rfl, a1, _, c1, hb.cella (i := 0) rfl, ?_⟩
    refine (W.Num_spec hr (by omega) hnb).mono fun e w16 ⟨a2, c2, he, hO, hx16⟩ => ⟨a2, _, c2, he, (hb.ext hx16 id).cana (i := 0) rfl, Q00 fun w18 e18 => ?_⟩
    have hb18 := (hb.ext hx16 id).seti 0 rfl e18
    have x18 : Ext (fun b => b = q) w16 w18 := (Ext.refl (fun b => b = q) w16).x_set (q := q) (i := 0) rfl (.inl rfl) e18
    have hne : ∀ ad, a2 = some ad → ad.block ≠ q := fun ad ha e => by have := (hO.fr ad ha).1; have := hb.lt; omega
    have htk : xs.take (t + 1) = xs.take t ++ [xs[t]] := by rw [List.take_add_one]; simp [htl]
    have hnl := W.numL_le xs[t]
    refine ⟨by omega, by omega, k - 1, by omega, t + 1, a2, c2, l1 ++ numL xs[t], rfl, by omega, ?_, by rw [List.length_append]; omega, hb18, hO.row.ext' x18 fun _ ad ha => hne ad ha, fun ad ha => ⟨hne ad ha, .inr (Nat.le_trans X.size (hO.fr ad ha).1)⟩, (X.trans hx16.none).trans x18⟩
    rw [hl1, htk, List.flatMap_append, List.append_assoc]; simp
  · obtain rfl : t = xs.length := by omega
    rw [List.take_length] at hl1
    subst hl1
    exact ⟨rfl, a1, c1, hb, hr, hf, X⟩
theorem Q3V {e : Ent} (hr : Q0z e = true) (hf : e.fit) {ba : Option Addr} {bc : Nat} (hb : RowAt w ba (bytesV e.body)) :
    Calls Try.prog 76 #[entV e ba bc] w (fun x w' => ∃ a' c', x = .returned (.slice a' (textL e).length c') ∧ OwnB w.heap.size w' a' c' (textL e) ∧ Ext no w w') := by
  obtain ⟨h1, h2, h3, h4, h5, h6, h7, h8, h9, h10, h11⟩ := (Q15 e).1 hr
  have f1 := hf.pv0; have f2 := hf.pv1
  refine (Q0I.go e.w e.i e.pv e.t e.tw e.ep ba e.body.length bc e.sg (R := fun v w' => ∃ a' c', v = (.slice a' (textL e).length c') ∧ OwnB w.heap.size w' a' c' (textL e) ∧ Ext no w w') ?_).mono fun x w' ⟨v, he, a, c, hv, hw⟩ => ⟨a, c, by rw [he, hv], hw⟩
  unfold Q0I.N
  intro w10 q p X10 hq hq1 hq2 hp w13 q2 X13 hq3 hq4 hq5
  rw [wu64 (n := e.w) h1 (by omega), wu64 (n := e.i) h3 (by omega)] at hq3
  have hrow : RowAt w13 (some (blk q2)) (([e.w.toNat, e.i.toNat, e.pv.toNat] : List Nat).map fun (n : Nat) => Value.int .u64 (n : Int)) := by
    have := RowAt.of_blk hq3
    simp only [List.map_cons, List.map_nil, Int.toNat_of_nonneg h1, Int.toNat_of_nonneg h3, Int.toNat_of_nonneg f1]
    exact this
  have hp1 := hp.one
  refine (Q3X (bs := []) (q := q) (hq.ext X13 id) (RowAt.nil _ _) (fun ad ha => by cases ha) hrow (fun ad ha => by cases ha; simp only [blk]; omega) (by simp; omega) (by simp)).mono fun x w16 ⟨he, a1, c1, hb1, hr1, hf1, X16⟩ => ?_
  have hw16 : Ext no w w16 := (X10.trans X13).then X16 fun b hb => .inr (by omega)
  have hpq : p ≠ q := by omega
  have e1 : ([] ++ [e.w.toNat, e.i.toNat, e.pv.toNat].flatMap numL) = numL e.w.toNat ++ numL e.i.toNat ++ numL e.pv.toNat := by simp
  rw [e1] at hr1 hb1
  refine ⟨he, keep1 X16 hpq, a1, _, c1, hb1.cell (i := 0) rfl, fun w17 X17 => ?_⟩
  have g1 := W.numL_le e.w.toNat; have g2 := W.numL_le e.i.toNat; have g3 := W.numL_le e.pv.toNat; have g4 := Q2Q e.t e.tw; have g5 := W.numL_le (zig e.ep)
  have h17 := hw16.trans X17
  refine (Q4m (hr1.no X17) (by simp only [List.length_append]; omega) (by omega) (by omega) (by omega)).mono fun x w22 ⟨a2, c2, he, hO2, X22⟩ => ⟨a2, _, c2, he, X22.kept, ?_⟩
  refine (W.Int_spec hO2.row (by simp only [List.length_append]; omega) (by omega) (by omega)).mono fun x w25 ⟨a3, c3, he, hO3, X25⟩ => ⟨a3, _, c3, he, X25.kept, ?_⟩
  have h25 := (h17.trans X22).trans X25
  refine (W.Bytes_spec hO3.row (by simp only [List.length_append]; omega) (hb.no h25) (by omega)).mono fun x w28 ⟨a4, c4, he, hO4, X28⟩ => ⟨a4, _, c4, he, a4, c4, ?_, ?_, h25.trans X28⟩
  · unfold textL; simp only [List.append_assoc]
  · unfold textL; rw [← List.append_assoc]; exact OwnB.up hO4 h25.size
theorem Q34 {e : Ent} (hf : Q0z e = true → e.fit) {ba : Option Addr} {bc : Nat} (hb : RowAt w ba (bytesV e.body)) :
    Calls Try.prog 58 #[entV e ba bc] w (fun x w' => Ext no w w' ∧ ((Q0z e = false ∧ x = .returned (.tuple #[.slice none 0 0, .int .i64 1])) ∨ (Q0z e = true ∧ ∃ a' c', x = .returned (.tuple #[.slice a' (bytesL e).length c', .int .i64 0]) ∧ OwnB w.heap.size w' a' c' (bytesL e)))) := by
  refine (Q0x.go e.w e.i e.pv e.t e.tw e.ep ba e.body.length bc e.sg (R := fun v w' => Ext no w w' ∧ ((Q0z e = false ∧ v = (.tuple #[.slice none 0 0, .int .i64 1])) ∨ (Q0z e = true ∧ ∃ a' c', v = (.tuple #[.slice a' (bytesL e).length c', .int .i64 0]) ∧ OwnB w.heap.size w' a' c' (bytesL e)))) ?_).mono fun x w' ⟨v, he, hx, hv⟩ => ⟨hx, hv.imp (fun ⟨h1, h2⟩ => ⟨h1, by rw [he, h2]⟩) fun ⟨h1, a, c, h2, h3⟩ => ⟨h1, a, c, by rw [he, h2], h3⟩⟩
  unfold Q0x.N
  rw [Q1K]
  refine ⟨fun h w10 X => ⟨X, .inl ⟨h, rfl⟩⟩, fun h w13 p X hp => ?_⟩
  have hf := hf h
  have f3 := hf.sg0; have f4 := hf.sg1
  have hbl := ((Q15 e).1 h).2.2.2.2.2.2.2.2.2.1
  have htl := Q3t e
  refine (Q3V h hf (hb.no X)).mono fun x w17 ⟨a1, c1, he, hO, X17⟩ => ⟨a1, _, c1, he, X17.kept, ?_⟩
  rw [← Int.toNat_of_nonneg f3]
  refine (W.Num_spec hO.row (by omega) (n := e.sg.toNat) (by omega)).mono fun x w20 ⟨a2, c2, he, hO2, X20⟩ => ⟨a2, _, c2, he, (X.trans X17).trans X20, .inr ⟨h, a2, c2, rfl, OwnB.up hO2 (X.trans X17).size⟩⟩
/-! ### reading -/
theorem Q4v (h : Rd w p bs k) (hl : bs.length < 1000000) :
    Calls Try.prog 99 #[.pointer (some (blk p))] w (GivesW (.agg #[.int .i64 (stampR (bs, k)).1.1, .int .i64 (stampR (bs, k)).1.2]) fun w' => Rd w' p (stampR (bs, k)).2.1 (stampR (bs, k)).2.2 ∧ Ext (fun b => b = p) w w') := by
  refine (Q0G.run _ (Q := fun w' => Rd w' p (stampR (bs, k)).2.1 (stampR (bs, k)).2.2 ∧ Ext (fun b => b = p) w w') ?_)
  unfold Q0G.N
  intro w2 p3 X2 hp
  have hp := hp.one
  have hpp : p < p3 := by have := h.lt; omega
  refine (W.RInt_spec (h.no X2) hl).mono fun e w6 ⟨he, h6, X6⟩ => ⟨_, he, keep1 X6 (by omega), fun w7 X7 => ?_⟩
  have h7 := h6.up X7 fun b hb => by omega
  have hlen := Q2D (bs, k)
  have hc := W.Count_spec h7 (by simp only at hlen; omega) (m := 7) (by decide)
  refine hc.mono fun e w10 ⟨he, h10, X10⟩ => ⟨_, he, keep1 X10 (by omega), fun w13 X13 => ?_⟩
  have h13 := h10.up X13 fun b hb => by omega
  refine ⟨rfl, h13, ?_⟩
  have y1 : Ext (fun b => b = p) w w7 := (X2.none.trans X6).then X7 fun b hb => .inr (by omega)
  exact (y1.trans X10).then X13 fun b hb => .inr (by omega)
theorem Read_spec (h : RowAt w a (bytesV bs)) (hc : bs.length ≤ c) (hl : bs.length < 1000000) :
    Calls Try.prog 98 #[.slice a bs.length c] w (fun e w' => ∃ a' c', e = .returned (.tuple #[entV (readE bs).1 a' c', .int .i64 (readE bs).2]) ∧ RowAt w' a' (bytesV (readE bs).1.body) ∧ (∀ ad, a' = some ad → w.heap.size ≤ ad.block) ∧ Ext no w w') := by
  refine (Q0A.go _ _ _ (R := fun v w' => ∃ a' c', v = (.tuple #[entV (readE bs).1 a' c', .int .i64 (readE bs).2]) ∧ RowAt w' a' (bytesV (readE bs).1.body) ∧ (∀ ad, a' = some ad → w.heap.size ≤ ad.block) ∧ Ext no w w') ?_).mono fun e w' ⟨v, he, a, c, hv, hw⟩ => ⟨a, c, by rw [he, hv], hw⟩
  unfold Q0A.N
  intro w2 p3 X2 hp3
  have hp3 := hp3.one
  obtain ⟨L1, L2, L3, L4, L5, L6, L7⟩ := Q4t (bs, 0)
  simp only at L1 L2 L3 L4 L5 L6 L7
  refine (W.Read_spec (h.no X2) hc).mono fun e w6 ⟨q, he, hr6, hq6, X6⟩ => ⟨_, he, X6.kept, fun w7 p8 X7 hp8 => ?_⟩
  have hp8 := hp8.one
  have hq7 := hr6.lt
  have s6 := X6.size
  have Y7 : Ext no w w7 := (X2.trans X6).trans X7
  -- what is changed is new
  have new : ∀ {w1 w2 : World}, Ext no w w1 → Ext (fun b => b = q) w1 w2 → Ext no w w2 := fun h1 h2 => h1.then h2 fun b hb => .inr (by omega)
  have new8 : ∀ {w1 w2 : World}, Ext no w w1 → Ext (fun b => b = p8) w1 w2 → Ext no w w2 := fun h1 h2 => h1.then h2 fun b hb => .inr (by omega)
  have new3 : ∀ {w1 w2 : World}, Ext no w w1 → Ext (fun b => b = p3) w1 w2 → Ext no w w2 := fun h1 h2 => h1.then h2 fun b hb => .inr (by omega)
  have up8 : ∀ b, b = p8 → q < b := fun b hb => by omega
  have k8 : ¬ (p8 = q) := by omega
  have k3 : ¬ (p3 = q) := by omega
  refine (W.Count_spec (hr6.no X7) hl (m := 7) (by decide)).mono fun e w11 ⟨he, hr11, X11⟩ => ⟨_, he, keep2 X11 k3 k8, fun w12 X12 => ?_⟩
  refine (W.Count_spec (bs := (entR1 (bs, 0)).1) (k := (entR1 (bs, 0)).2) (hr11.up X12 up8) (by omega) (m := 199) (by decide)).mono fun e w15 ⟨he, hr15, X15⟩ => ⟨_, he, keep2 X15 k3 k8, fun w16 X16 => ?_⟩
  refine (W.RNum_spec (bs := (entR2 (bs, 0)).1) (k := (entR2 (bs, 0)).2) (hr15.up X16 up8) (by omega)).mono fun e w19 ⟨he, hr19, X19⟩ => ⟨_, he, keep2 X19 k3 k8, fun w20 X20 => ?_⟩
  refine (Q4v (bs := (entR3 (bs, 0)).1) (k := (entR3 (bs, 0)).2) (hr19.up X20 up8) (by omega)).mono fun e w24 ⟨he, hr24, X24⟩ => ⟨_, _, he, keep2 X24 k3 k8, fun w26 X26 => ?_⟩
  refine (W.RInt_spec (bs := (entR4 (bs, 0)).1) (k := (entR4 (bs, 0)).2) (hr24.up X26 up8) (by omega)).mono fun e w29 ⟨he, hr29, X29⟩ => ⟨_, he, keep2 X29 k3 k8, ?_⟩
  refine (Q1z (bs := (entR5 (bs, 0)).1) (k := (entR5 (bs, 0)).2) hr29 (by omega) (m := 1100) (by decide)).mono fun e w32 ⟨ba, bc, he, hO, hr32, X32⟩ => ⟨ba, _, bc, he, keep2 X32 k3 k8, fun w33 X33 => ?_⟩
  have Y29 := new (new8 (new (new8 (new (new8 (new (new8 (new Y7 X11) X12) X15) X16) X19) X20) X24) X26) X29
  have hO33 : OwnB w29.heap.size w33 ba bc (bytesR 1100 (entR5 (bs, 0))).1 := hO.ext X33 fun ad ha hb => by have := (hO.fr ad ha).1; have := X29.size; have := X26.size; have := X24.size; have := X20.size; have := X19.size; have := X16.size; have := X15.size; have := X12.size; have := X11.size; omega
  have s29 : w7.heap.size ≤ w29.heap.size := by have := X29.size; have := X26.size; have := X24.size; have := X20.size; have := X19.size; have := X16.size; have := X15.size; have := X12.size; have := X11.size; omega
  refine (W.RNum_spec (bs := (entR6 (bs, 0)).1) (k := (entR6 (bs, 0)).2) (hr32.up X33 up8) (by omega)).mono fun e w36 ⟨he, hr36, X36⟩ => ⟨_, he, keep2 X36 k3 k8, fun w37 X37 => ?_⟩
  have hO37 : OwnB w29.heap.size w37 ba bc (bytesR 1100 (entR5 (bs, 0))).1 := (hO33.ext X36 fun ad ha hb => by have := (hO.fr ad ha).1; have := X7.size; omega).ext X37 fun ad ha hb => by have := (hO.fr ad ha).1; omega
  refine (W.Done_spec (bs := (entR7 (bs, 0)).1) (k := (entR7 (bs, 0)).2) (hr36.up X37 up8)).mono fun e w40 ⟨he, hw⟩ => ⟨_, he, Keep.refl _ _ |> fun k => by subst hw; exact k, ?_⟩
  subst hw
  have Y40 := new8 (new (new8 (new Y29 X32) X33) X36) X37
  have hF := Q1K (entR (bs, 0)) ba bc
  have hF' : Q08.F ((countR 7 (bs, 0)).1 : Int) ((countR 199 (entR1 (bs, 0))).1 : Int) ((numR (entR2 (bs, 0))).1 : Int) (stampR (entR3 (bs, 0))).1.1 ((stampR (entR3 (bs, 0))).1.2 : Int) (intR (entR4 (bs, 0))).1 ba (bytesR 1100 (entR5 (bs, 0))).1.length bc ((numR (entR6 (bs, 0))).1 : Int) = Q0z (entR (bs, 0)) := hF
  have new38 : ∀ {w1 w2 : World}, Ext no w w1 → Ext (fun b => b = p3 ∨ b = p8) w1 w2 → Ext no w w2 := fun h1 h2 => h1.then h2 fun b hb => .inr (by omega)
  refine ⟨fun hd w49 X49 => ?_, fun hd => ⟨fun hn => absurd rfl hn, fun _ => ⟨fun hr w69 X69 => ?_, fun hr w77 X77 => ?_⟩⟩⟩
  · have : readE bs = (Ent.zero, doneR (entR7 (bs, 0))) := by unfold readE; rw [if_pos hd]
    rw [this]
    exact ⟨none, 0, rfl, RowAt.nil _ _, fun ad ha => by (cases ha), new3 Y40 X49⟩
  · rw [hF'] at hr
    have : readE bs = (Ent.zero, 4) := by unfold readE; rw [if_neg (by rw [hd]; simp), if_neg (by rw [hr]; simp)]
    rw [this]
    exact ⟨none, 0, rfl, RowAt.nil _ _, fun ad ha => by (cases ha), new38 Y40 X69⟩
  · rw [hF'] at hr
    have : readE bs = (entR (bs, 0), 0) := by unfold readE; rw [if_neg (by rw [hd]; simp), if_pos hr]
    rw [this]
    refine ⟨ba, bc, rfl, ?_, fun ad ha => ?_, new38 Y40 X77⟩
    · refine (hO37.ext X77 fun ad ha hb => ?_).row
      have := (hO.fr ad ha).1; have := X7.size; omega
    · have := (hO.fr ad ha).1; have := Y7.size; omega
end
end Go.Proofs.Ytlgpeojjmapnjaa
namespace Go.Proofs.Ytlgpeojjmapnjaa
open Go Go.Mx Go.Proofs
open W (OwnB Rd RdR GivesW numR countR doneR zig unzig intR)
theorem litB {w w1 : World} {t e : TypeId} (hs : Try.prog.underlying t = some (.slice e)) (he : Try.prog.underlying e = some (.int .u8)) (bs : List UInt8) {q : Nat} (X : Ext no w w1) (hb : Blk w1 q e (bytesV bs)) (hq : w.heap.size ≤ q) :
    ∃ w2, (convert t t (.slice (some (blk q)) bs.length bs.length)).run Try.prog w1 = .ok (.slice (some (blk q)) bs.length bs.length) w2 ∧ RowAt w2 (some (blk q)) (bytesV bs) ∧ Ext no w w2 :=
  ⟨_, Q3U hs he hb, (RowAt.of_blk hb).freeze _ _, X.freeze (.inr hq) _⟩
section
variable {w w' : World} {a : Option Addr} {c N p : Nat} {bs : List UInt8} {k : Int}
theorem Q3G {b : Option Addr} {d : Nat} {x y : List UInt8} (ha : RowAt w a (bytesV x)) (hb : RowAt w b (bytesV y)) :
    Calls Try.prog 75 #[.slice a x.length c, .slice b y.length d] w (Ret (.bool (decide (x = y))) fun w' => w' = w) := by
  refine Q0u.run _ _ _ _ _ _ ?_
  unfold Q0u.N
  refine ⟨_, Q3q Try.underlying25 Try.underlying5 Try.underlying9 ha, _, Q3q Try.underlying25 Try.underlying5 Try.underlying9 hb, ?_, rfl⟩
  have key := Q47 x y
  have e : ∀ s : List UInt8, (ByteArray.mk s.toArray).toList = s := fun s => by
    simp
  congr 1
  rw [e, e, Bool.eq_iff_iff]
  simp
theorem Q3E {e f : Ent} {b : Option Addr} {d : Nat} (ha : RowAt w a (bytesV e.body)) (hb : RowAt w b (bytesV f.body)) :
    Calls Try.prog 55 #[entV e a c, entV f b d] w (Ret (.bool (decide (e = f))) fun w' => Ext no w w') := by
  refine Q0D.run _ _ _ _ _ _ _ _ _ _ _ _ _ _ _ _ _ _ _ _ ?_
  unfold Q0D.N
  intro w19 p20 p21 X hp
  refine (Q3G (ha.no X) (hb.no X)).mono fun x w24 ⟨he, hw⟩ => ⟨_, he, by subst hw; exact Keep.refl _ _, ?_⟩
  subst hw
  obtain ⟨e1, e2, e3, e4, e5, e6, e7, e8⟩ := e
  obtain ⟨f1, f2, f3, f4, f5, f6, f7, f8⟩ := f
  simp only [Ent.mk.injEq]
  refine ⟨fun h => ?_, fun h => ?_⟩
  · have h := of_decide_eq_true h
    subst h
    refine ⟨fun c1 => ⟨fun c2 => ⟨fun c3 => ⟨fun c4 => ⟨fun c5 => ?_, fun c5 => ?_⟩, fun c4 => ?_⟩, fun c3 => ?_⟩, fun c2 => ?_⟩, fun c1 => ?_⟩ <;> refine ⟨?_, X⟩
    · congr 1; rw [Bool.eq_iff_iff, beq_iff_eq, decide_eq_true_eq]; exact ⟨fun h => ⟨c1, c2, c3, c4.1, c4.2, c5, rfl, h⟩, fun h => h.2.2.2.2.2.2.2⟩
    · rw [decide_eq_false fun h => c5 h.2.2.2.2.2.1]
    · rw [decide_eq_false fun h => c4 ⟨h.2.2.2.1, h.2.2.2.2.1⟩]
    · rw [decide_eq_false fun h => c3 h.2.2.1]
    · rw [decide_eq_false fun h => c2 h.2.1]
    · rw [decide_eq_false fun h => c1 h.1]
  · have h := of_decide_eq_false h
    exact ⟨by rw [decide_eq_false fun q => h q.2.2.2.2.2.2.1], X⟩
end
end Go.Proofs.Ytlgpeojjmapnjaa
namespace Go.Proofs.Ytlgpeojjmapnjaa
open Go Go.Mx Go.Proofs
open W (OwnB Rd RdR GivesW numR countR doneR zig unzig intR)
section
variable {w w' : World} {a : Option Addr} {c N p : Nat} {bs : List UInt8} {k : Int}
end
end Go.Proofs.Ytlgpeojjmapnjaa
namespace Go.Proofs.Ytlgpeojjmapnjaa
open Go Go.Mx Go.Proofs
def vRight.M (aj : Option Addr) (ah an : Nat) (R : RW) (w : World) : Prop :=
 ∃ (I0 : Nat → List Value → World → Prop) (m3 : Nat), I0 m3 [.int .i64 0] w ∧ ∀ (m4 : Nat) (a7 : World) (t2 : Int), I0 m4 [.int .i64 t2] a7 →
 bif decide (t2 < (ah : Int)) then (
 aj.elim False fun a6 =>
 0 ≤ (t2 : Int) ∧ (t2 : Int) < (ah : Int) ∧
 ∃ (a2 aa ab : Int), cellsAt a7 (a6.add (Int.toNat t2 * 3)) [.int .i64 a2, .int .i64 aa, .int .u64 ab] 0 ∧
 thenW (a7.alloc (.cells #[.int .i64 0, .int .i64 0, .int .u64 0] 95)) fun ad =>
 Q01 ad ((blk a7.heap.size).add 0) ∧
 thenW (ad.setCell ((blk a7.heap.size).add 0) (.int .i64 a2)) fun af =>
 Q01 af ((blk a7.heap.size).add 1) ∧
 thenW (af.setCell ((blk a7.heap.size).add 1) (.int .i64 aa)) fun ac =>
 Q01 ac ((blk a7.heap.size).add 2) ∧
 thenW (ac.setCell ((blk a7.heap.size).add 2) (.int .u64 ab)) fun ag =>
 thenW (ag.drew) fun ae =>
 ∃ (a1 a9 a8 : Int), cellsAt ae (blk a7.heap.size) [.int .i64 a1, .int .i64 a9, .int .u64 a8] 0 ∧
 Calls Try.prog 62 #[.agg #[.int .i64 a1, .int .i64 a9, .int .u64 a8]] ae fun ai a5 => ∃ (a0 : Bool), ai = .returned (.bool a0) ∧
 bif !a0 then (
 R (.bool false) a5) else (
 bif decide (t2 > 0) then (
 ∃ (a3 : Int), a5.cell? ((blk a7.heap.size).add 0) = some (.int .i64 a3) ∧
 aj.elim False fun am =>
 0 ≤ ((IntKind.i64.wrap (t2 - 1)) : Int) ∧ ((IntKind.i64.wrap (t2 - 1)) : Int) < (ah : Int) ∧
 ∃ (a4 : Int), a5.cell? ((am.add (Int.toNat (IntKind.i64.wrap (t2 - 1)) * 3)).add 0) = some (.int .i64 a4) ∧
 bif decide (a3 ≤ a4) then (
 R (.bool false) a5) else (
 ∃ al, al < m4 ∧ I0 al [.int .i64 (IntKind.i64.wrap (t2 + 1))] a5)) else (
 ∃ ak, ak < m4 ∧ I0 ak [.int .i64 (IntKind.i64.wrap (t2 + 1))] a5))) else (
 R (.bool true) a7)

theorem vRight.ok (a1 : Option Addr) (a2 a0 : Nat) {R : RW} {w : World} (h : vRight.M a1 a2 a0 R w) : Calls Try.prog 36 #[.slice a1 a2 a0] w fun e w' => ∃ v, e = .returned v ∧ R v w' :=
  Q09 follows (H := [(0, [0, 5, 6], [(7, (.one (.int .i64)))])]) (args := [.slice a1 a2 a0]) (cast (by kernel_rfl) h)

def vrh.M (a2 a7 a5 : Int) (R : RW) (w : World) : Prop :=
 thenW (w.alloc (.cells #[.int .i64 a2, .int .i64 a7, .int .u64 a5] 95)) fun a3 =>
 ∃ (a0 : Int), a3.cell? ((blk w.heap.size).add 0) = some (.int .i64 a0) ∧
 bif decide (a0 ≥ 0) then (
 ∃ (a1 : Int), a3.cell? ((blk w.heap.size).add 0) = some (.int .i64 a1) ∧
 bif decide (a1 < 8) then (
 ∃ (a8 : Int), a3.cell? ((blk w.heap.size).add 1) = some (.int .i64 a8) ∧
 bif decide (a8 > 0) then (
 ∃ (a6 : Int), a3.cell? ((blk w.heap.size).add 1) = some (.int .i64 a6) ∧
 bif decide (a6 ≤ 200) then (
 ∃ (a4 : Int), a3.cell? ((blk w.heap.size).add 2) = some (.int .u64 a4) ∧
 R (.bool (a4 != 0)) a3) else (
 R (.bool false) a3)) else (
 R (.bool false) a3)) else (
 R (.bool false) a3)) else (
 R (.bool false) a3)

theorem vrh.ok (a0 a1 a2 : Int) {R : RW} {w : World} (h : vrh.M a0 a1 a2 R w) : Calls Try.prog 62 #[.agg #[.int .i64 a0, .int .i64 a1, .int .u64 a2]] w fun e w' => ∃ v, e = .returned v ∧ R v w' :=
  Q09 follows (H := []) (args := [.agg #[.int .i64 a0, .int .i64 a1, .int .u64 a2]]) (cast (by kernel_rfl) h)

def GivesV (v : Value) (Q : World → Prop) (e : Ending) (w' : World) : Prop := e = .returned v ∧ Q w'
abbrev Hd := Int × Int × Int
def hdC (h : Hd) : List Value := [.int .i64 h.1, .int .i64 h.2.1, .int .u64 h.2.2]
def hdV (h : Hd) : Value := .agg #[.int .i64 h.1, .int .i64 h.2.1, .int .u64 h.2.2]
def hsC (hs : List Hd) : List Value := hs.flatMap hdC
theorem Q2r : ∀ hs : List Hd, (hsC hs).length = hs.length * 3
  | [] => rfl
  | h :: r => by
    have := Q2r r
    simp only [hsC, List.flatMap_cons, List.length_append, List.length_cons] at this ⊢
    rw [this]; simp [hdC]; omega
theorem hsC_get : ∀ {hs : List Hd} {i : Nat} {h : Hd}, hs[i]? = some h → ∀ j, j < 3 → (hsC hs)[i * 3 + j]? = (hdC h)[j]?
  | [], i, h, hi, j, hj => by simp at hi
  | a :: r, 0, h, hi, j, hj => by
    simp only [List.getElem?_cons_zero, Option.some.injEq] at hi
    subst hi
    simp only [hsC, List.flatMap_cons, Nat.zero_mul, Nat.zero_add]
    rw [List.getElem?_append_left (by simp [hdC]; omega)]
  | a :: r, i + 1, h, hi, j, hj => by
    simp only [List.getElem?_cons_succ] at hi
    have := hsC_get hi j hj
    simp only [hsC, List.flatMap_cons] at this ⊢
    rw [List.getElem?_append_right (by simp [hdC]; omega), show (i + 1) * 3 + j - (hdC a).length = i * 3 + j by simp [hdC]; omega]
    exact this
theorem hs_cell {w : World} {ad : Addr} {hs : List Hd} (hr : RowAt w (some ad) (hsC hs)) {i : Nat} {h : Hd} (hi : hs[i]? = some h) {j : Nat} {v : Value} (hv : (hdC h)[j]? = some v) : w.cell? ((ad.add (i * 3)).add j) = some v := by
  have hj : j < 3 := by have := (List.getElem?_eq_some_iff.1 hv).1; simpa [hdC] using this
  rw [add_add]
  exact hr.at_ ((hsC_get hi j hj).trans hv)
theorem hs_at {w : World} {ad : Addr} {hs : List Hd} (hr : RowAt w (some ad) (hsC hs)) {i : Nat} {h : Hd} (hi : hs[i]? = some h) : cellsAt w (ad.add (i * 3)) [.int .i64 h.1, .int .i64 h.2.1, .int .u64 h.2.2] 0 :=
  ⟨hs_cell hr hi (j := 0) rfl, hs_cell hr hi (j := 1) rfl, hs_cell hr hi (j := 2) rfl, trivial⟩
theorem hsC_ne {hs : List Hd} (h : hs ≠ []) : hsC hs ≠ [] := fun e => by
  have := Q2r hs
  rw [e] at this
  simp at this
  exact h (List.eq_nil_of_length_eq_zero (by omega))

def rhead (h : Hd) : Bool := decide (h.1 ≥ 0) && (decide (h.1 < 8) && (decide (h.2.1 > 0) && (decide (h.2.1 ≤ 200) && (h.2.2 != 0))))
def rightF : Option Int → List Hd → Bool
  | _, [] => true
  | p, h :: r => rhead h && (match p with | none => true | some q => decide (q < h.1)) && rightF (some h.1) r
def rightV (hs : List Hd) : Bool := rightF none hs
def prevOf (hs : List Hd) : Nat → Option Int
  | 0 => none
  | t + 1 => (hs[t]?).map (·.1)
theorem Q2R : ∀ {hs : List Hd} {p : Option Int}, rightF p hs = true → (∀ q, p = some q → ∀ h ∈ hs, q < h.1) ∧ (hs.map (·.1)).Pairwise (· < ·)
  | [], p, _ => ⟨fun q _ h hh => by simp at hh, by simp⟩
  | a :: r, p, h => by
    simp only [rightF, Bool.and_eq_true] at h
    obtain ⟨⟨h1, h2⟩, h3⟩ := h
    obtain ⟨i1, i2⟩ := Q2R h3
    refine ⟨fun q hq x hx => ?_, ?_⟩
    · subst hq
      simp only [decide_eq_true_eq] at h2
      rcases List.mem_cons.1 hx with rfl | hx
      · exact h2
      · have := i1 a.1 rfl x hx; omega
    · simp only [List.map_cons, List.pairwise_cons]
      refine ⟨fun b hb => ?_, i2⟩
      obtain ⟨x, hx, rfl⟩ := List.mem_map.1 hb
      exact i1 a.1 rfl x hx
section
variable {w w' : World} {a : Option Addr} {c : Nat} {hs : List Hd}
theorem Q2h (h : Hd) : Calls Try.prog 62 #[hdV h] w (GivesV (.bool (rhead h)) fun w' => Ext no w w') := by
  refine (vrh.ok _ _ _ (R := fun v w' => v = .bool (rhead h) ∧ Ext no w w') ?_).mono fun e w' ⟨v, he, hv, hw⟩ => ⟨by rw [he, hv], hw⟩
  unfold vrh.M
  refine Q00 fun w4 h4 => ?_
  have hb : Blk w4 w.heap.size 95 (hdC h) := by subst h4; exact Blk.new _ _ _
  have hx : Ext no w w4 := by subst h4; exact (Ext.refl _ _).alloc _
  refine ⟨_, hb.cella (i := 0) rfl, ?_⟩
  unfold rhead
  by_cases c1 : h.1 ≥ 0
  · rw [decide_eq_true c1, cond_true, Bool.true_and]
    refine ⟨_, hb.cella (i := 0) rfl, ?_⟩
    by_cases c2 : h.1 < 8
    · rw [decide_eq_true c2, cond_true, Bool.true_and]
      refine ⟨_, hb.cella (i := 1) rfl, ?_⟩
      by_cases c3 : h.2.1 > 0
      · rw [decide_eq_true c3, cond_true, Bool.true_and]
        refine ⟨_, hb.cella (i := 1) rfl, ?_⟩
        by_cases c4 : h.2.1 ≤ 200
        · rw [decide_eq_true c4, cond_true, Bool.true_and]
          exact ⟨_, hb.cella (i := 2) rfl, rfl, hx⟩
        · rw [decide_eq_false c4]; exact ⟨rfl, hx⟩
      · rw [decide_eq_false c3]; exact ⟨rfl, hx⟩
    · rw [decide_eq_false c2]; exact ⟨rfl, hx⟩
  · rw [decide_eq_false c1]; exact ⟨rfl, hx⟩

theorem Q1p (hr : RowAt w a (hsC hs)) (hl : hs.length < 1000000) : Calls Try.prog 36 #[.slice a hs.length c] w (GivesV (.bool (rightV hs)) fun w' => Ext no w w') := by
  refine (vRight.ok _ _ _ (R := fun v w' => v = .bool (rightV hs) ∧ Ext no w w') ?_).mono fun e w' ⟨v, he, hv, hw⟩ => ⟨by rw [he, hv], hw⟩
  unfold vRight.M
  refine ⟨fun k vs w1 => ∃ t : Nat, vs = [.int .i64 t] ∧ k + t = hs.length ∧ rightF (prevOf hs t) (hs.drop t) = rightV hs ∧ Ext no w w1, hs.length, ⟨0, rfl, rfl, rfl, Ext.refl _ _⟩, ?_⟩
  rintro k w1 i ⟨t, hi, hk, hf, hx⟩
  simp only [List.cons.injEq, Value.int.injEq, true_and, and_true] at hi
  subst hi
  cases k with
  | zero =>
    obtain rfl : t = hs.length := by omega
    rw [show decide ((hs.length : Int) < (hs.length : Int)) = false by simp, cond_false]
    rw [List.drop_length] at hf
    exact ⟨by rw [← hf]; cases prevOf hs hs.length <;> rfl, hx⟩
  | succ k =>
    have ht : t < hs.length := by omega
    rw [show decide ((t : Int) < (hs.length : Int)) = true by simp; omega, cond_true]
    have hr1 := hr.no hx
    obtain ⟨ad, rfl⟩ := hr1.addr (hsC_ne (by intro e; subst e; simp at ht))
    have hgi : hs[t]? = some hs[t] := List.getElem?_eq_getElem ht
    refine ⟨by omega, by omega, _, _, _, by rw [Int.toNat_natCast]; exact hs_at hr1 hgi, Q00 fun w10 h10 => ?_⟩
    have hb10 : Blk w10 w1.heap.size 95 [.int .i64 0, .int .i64 0, .int .u64 0] := by subst h10; exact Blk.new _ _ _
    have x10 : Ext no w1 w10 := by subst h10; exact (Ext.refl _ _).alloc _
    refine ⟨hb10.cana (i := 0) rfl, Q00 fun w11 h11 => ?_⟩
    have hb11 := hb10.seta 0 (.int .i64 hs[t].1)
    rw [← h11] at hb11
    have x11 : Ext no w1 w11 := by subst h11; exact x10.setCell (.inr (by rw [Q0X]; exact Nat.le_refl _)) _
    refine ⟨hb11.cana (i := 1) rfl, Q00 fun w12 h12 => ?_⟩
    have hb12 := hb11.seta 1 (.int .i64 hs[t].2.1)
    rw [← h12] at hb12
    have x12 : Ext no w1 w12 := by subst h12; exact x11.setCell (.inr (by rw [add_blk]; exact Nat.le_refl _)) _
    refine ⟨hb12.cana (i := 2) rfl, Q00 fun w13 h13 => Q00 fun w14 h14 => ?_⟩
    have hb13 := hb12.seta 2 (.int .u64 hs[t].2.2)
    rw [← h13] at hb13
    have x13 : Ext no w1 w13 := by subst h13; exact x12.setCell (.inr (by rw [add_blk]; exact Nat.le_refl _)) _
    have hb14 := hb13.drew
    rw [← h14] at hb14
    have x14 : Ext no w1 w14 := by subst h14; exact x13.drew
    refine ⟨_, _, _, ⟨hb14.cella (i := 0) rfl, hb14.cella (i := 1) rfl, hb14.cella (i := 2) rfl, trivial⟩, ?_⟩
    refine (Q2h hs[t]).mono fun e w20 ⟨he, x20'⟩ => ⟨_, he, ?_⟩
    have x20 := x14.trans x20'
    have hb20 := hb14.ext x20' id
    have hd : hs.drop t = hs[t] :: hs.drop (t + 1) := List.drop_eq_getElem_cons ht
    rw [hd] at hf
    simp only [rightF] at hf
    by_cases c1 : rhead hs[t] = true
    · rw [c1, Bool.not_true, cond_false]
      rw [c1, Bool.true_and] at hf
      have hw1 : IntKind.i64.wrap ((t : Int) + 1) = ((t + 1 : Nat) : Int) := by rw [w64 (by omega) (by omega)]; rfl
      cases t with
      | zero =>
        rw [show decide (((0 : Nat) : Int) > 0) = false from rfl, cond_false]
        exact ⟨k, by omega, 1, by rw [hw1], by omega, by rw [← hf]; simp [prevOf, ht], hx.trans x20⟩
      | succ t =>
        rw [show decide (((t + 1 : Nat) : Int) > 0) = true by simp <;> omega, cond_true]
        have htl : t < hs.length := by omega
        have hgp : hs[t]? = some hs[t] := List.getElem?_eq_getElem htl
        have hw2 : IntKind.i64.wrap (((t + 1 : Nat) : Int) - 1) = (t : Int) := by rw [w64 (by omega) (by omega)] <;> omega
        rw [hw2]
        refine ⟨_, hb20.cella (i := 0) rfl, by omega, by omega, _, by rw [Int.toNat_natCast]; exact hs_cell (hr1.no x20) hgp (j := 0) rfl, ?_⟩
        simp only [prevOf, hgp, Option.map_some] at hf
        by_cases c2 : hs[t + 1].1 ≤ hs[t].1
        · rw [decide_eq_true c2, cond_true]
          rw [decide_eq_false (by omega), Bool.false_and] at hf
          exact ⟨by rw [← hf], hx.trans x20⟩
        · rw [decide_eq_false c2, cond_false]
          rw [decide_eq_true (by omega), Bool.true_and] at hf
          exact ⟨k, by omega, t + 2, by rw [hw1], by omega, by rw [← hf]; simp [prevOf, ht], hx.trans x20⟩
    · have c1' : rhead hs[t] = false := by simpa using c1
      rw [c1', Bool.not_false, cond_true]
      rw [c1', Bool.false_and, Bool.false_and] at hf
      exact ⟨by rw [← hf], hx.trans x20⟩

theorem Q3T (hs : List Hd) (h : rightV hs = true) {i j : Nat} {p q : Hd} (hij : i < j) (hi : hs[i]? = some p) (hj : hs[j]? = some q) : p.1 < q.1 := by
  have := (Q2R h).2
  obtain ⟨hi1, rfl⟩ := List.getElem?_eq_some_iff.1 hi
  obtain ⟨hj1, rfl⟩ := List.getElem?_eq_some_iff.1 hj
  have h2 := List.pairwise_iff_getElem.1 this i j (by simpa using hi1) (by simpa using hj1) hij
  simpa using h2
end
end Go.Proofs.Ytlgpeojjmapnjaa
namespace Go.Proofs.Ytlgpeojjmapnjaa
open Go Go.Mx Go.Proofs
theorem infHead : (Try.prog.info? 95).map (fun i => (i.zero, i.size, i.bytes)) = some (some (.agg #[.int .i64 0, .int .i64 0, .int .u64 0]), 3, 24) := by kernel_rfl

theorem Q3m {w w' : World} {m : Nat → Prop} {base e size n : Nat} {v : Value} {xs : List Value} (h : w.ownsRow base e size v n xs) (k : Ext m w w') (hm : ∀ q, v.ownBlock = some q → ¬ m q) : w'.ownsRow base e size v n xs := by
  refine ⟨h.1, ?_⟩
  rcases h.2 with h2 | ⟨g, cap, cur, hv, hb, hg, hr⟩
  · exact .inl h2
  · exact .inr ⟨g, cap, cur, hv, hb, k.get hg (hm g (by rw [hv]; rfl)), hr⟩
theorem Q4r (w : World) (e size : Nat) : w.ownsRow 0 e size (.slice none 0 0) 0 [] := ⟨by simp, .inl ⟨rfl, rfl⟩⟩

section
variable {w w' : World} {aa ba : Option Addr} {ac bc : Nat} {a b : List Hd}
/-! ### Compare -/
/-! ### a list of heads that grows -/
def Grows (N : Nat) (w : World) (A : Nat) (t : TypeId) (l : List Hd) : Prop :=
  ∃ ra rc, Blk w A t [.slice ra l.length rc] ∧ w.ownsRow 0 95 3 (.slice ra l.length rc) l.length (hsC l) ∧ (∀ ad, ra = some ad → N ≤ ad.block ∧ ad.block ≠ A) ∧ N ≤ A
/-! ### Missing -/
end
end Go.Proofs.Ytlgpeojjmapnjaa
namespace Go.Proofs.Ytlgpeojjmapnjaa
open Go Go.Mx Go.Proofs
section
variable {w w' : World} {aa ba : Option Addr} {ac bc : Nat} {a b : List Hd}
/-! ### Conflict -/
/-! ### Merge -/
/-! ### the chapter's example -/
end
end Go.Proofs.Ytlgpeojjmapnjaa
namespace Go.Proofs.Ytlgpeojjmapnjaa
open Go Go.Mx Go.Proofs
end Go.Proofs.Ytlgpeojjmapnjaa
namespace Go.Proofs.Ytlgpeojjmapnjaa
open Go Go.Mx Go.Proofs
open W (OwnB Rd GivesW numR countR doneR)
def vBytes.M (b6 : Option Addr) (aw bd : Nat) (R : RW) (w : World) : Prop :=
 Calls Try.prog 36 #[.slice b6 aw bd] w fun bj bc => ∃ (a5 : Bool), bj = .returned (.bool a5) ∧
 bif !a5 then (
 R (.tuple #[.slice none 0 0, .int .i64 1]) bc) else (
 Calls Try.prog 26 #[.slice none 0 0, .int .u64 (IntKind.u64.wrap (aw : Int))] bc fun bg bf => ∃ (al : Option Addr) (ap ao : Nat), bg = .returned (.slice al ap ao) ∧
 ∃ (I0 : Nat → List Value → World → Prop) (bh : Nat), I0 bh [.slice al ap ao, .int .i64 0] bf ∧ ∀ (bb : Nat) (a0 : World) (b2 : Option Addr) (b3 b0 : Nat) (t9 : Int), I0 bb [.slice b2 b3 b0, .int .i64 t9] a0 →
 bif decide (t9 < (aw : Int)) then (
 b6.elim False fun be =>
 0 ≤ (t9 : Int) ∧ (t9 : Int) < (aw : Int) ∧
 ∃ (a1 a6 a4 : Int), cellsAt a0 (be.add (Int.toNat t9 * 3)) [.int .i64 a1, .int .i64 a6, .int .u64 a4] 0 ∧
 thenW (a0.alloc (.cells #[.int .i64 0, .int .i64 0, .int .u64 0] 95)) fun aq =>
 Q01 aq ((blk a0.heap.size).add 0) ∧
 thenW (aq.setCell ((blk a0.heap.size).add 0) (.int .i64 a1)) fun ar =>
 Q01 ar ((blk a0.heap.size).add 1) ∧
 thenW (ar.setCell ((blk a0.heap.size).add 1) (.int .i64 a6)) fun au =>
 Q01 au ((blk a0.heap.size).add 2) ∧
 thenW (au.setCell ((blk a0.heap.size).add 2) (.int .u64 a4)) fun ak =>
 ∃ (a2 : Int), ak.cell? ((blk a0.heap.size).add 0) = some (.int .i64 a2) ∧
 ∃ (an : Int), ak.cell? ((blk a0.heap.size).add 1) = some (.int .i64 an) ∧
 ∃ (am : Int), ak.cell? ((blk a0.heap.size).add 2) = some (.int .u64 am) ∧
 ∃ (I2 : Nat → List Value → World → Prop) (bi : Nat), I2 bi [.slice b2 b3 b0, .int .i64 0] ak ∧ ∀ (av : Nat) (a9 : World) (ac : Option Addr) (ai a8 : Nat) (aj : Int), I2 av [.slice ac ai a8, .int .i64 aj] a9 →
 bif decide (aj < 3) then (
 0 ≤ (aj : Int) ∧ (aj : Int) < (3 : Int) ∧
 ((aj : Int) = 0 → 
 Calls Try.prog 26 #[.slice ac ai a8, .int .u64 (IntKind.u64.wrap a2)] a9 fun b1 ay => ∃ (ah : Option Addr) (ad ab : Nat), b1 = .returned (.slice ah ad ab) ∧
 ∃ b7, b7 < av ∧ I2 b7 [.slice ah ad ab, .int .i64 (IntKind.i64.wrap (aj + 1))] ay) ∧
 ((aj : Int) = 1 → 
 Calls Try.prog 26 #[.slice ac ai a8, .int .u64 (IntKind.u64.wrap an)] a9 fun b4 b5 => ∃ (aa : Option Addr) (ae a7 : Nat), b4 = .returned (.slice aa ae a7) ∧
 ∃ ba, ba < av ∧ I2 ba [.slice aa ae a7, .int .i64 (IntKind.i64.wrap (aj + 1))] b5) ∧
 ((aj : Int) = 2 → 
 Calls Try.prog 26 #[.slice ac ai a8, .int .u64 am] a9 fun az ax => ∃ (af : Option Addr) (a3 ag : Nat), az = .returned (.slice af a3 ag) ∧
 ∃ b8, b8 < av ∧ I2 b8 [.slice af a3 ag, .int .i64 (IntKind.i64.wrap (aj + 1))] ax) ∧ True) else (
 ∃ b9, b9 < bb ∧ I0 b9 [.slice ac ai a8, .int .i64 (IntKind.i64.wrap (t9 + 1))] a9)) else (
 R (.tuple #[.slice b2 b3 b0, .int .i64 0]) a0))

theorem vBytes.ok (a1 : Option Addr) (a2 a0 : Nat) {R : RW} {w : World} (h : vBytes.M a1 a2 a0 R w) : Calls Try.prog 28 #[.slice a1 a2 a0] w fun e w' => ∃ v, e = .returned v ∧ R v w' :=
  Q09 follows (H := [(0, [16, 17], [(4, (.one .slice)), (18, (.one (.int .i64)))]), (2, [16, 17, 18, 30], [(4, (.one .slice)), (31, (.one (.int .i64)))])]) (args := [.slice a1 a2 a0]) (cast (by kernel_rfl) h)

def vRead.M (b2 : Option Addr) (b1 b6 : Nat) (R : RW) (w : World) : Prop :=
 Calls Try.prog 31 #[.slice b2 b1 b6] w fun b7 b8 => ∃ (a1 : Option Addr), b7 = .returned (.pointer a1) ∧
 Calls Try.prog 41 #[.pointer a1, .int .i64 8] b8 fun b4 b3 => ∃ (a8 : Int), b4 = .returned (.int .i64 a8) ∧
 ∃ (I0 : Nat → List Value → World → Prop) (b5 : Nat), I0 b5 [.slice none 0 0, .int .i64 0] b3 ∧ ∀ (b0 : Nat) (a0 : World) (am : Option Addr) (al an : Nat) (t9 : Int), I0 b0 [.slice am al an, .int .i64 t9] a0 →
 bif decide (t9 < a8) then (
 thenW (a0.alloc (.cells #[.int .i64 0, .int .i64 0, .int .u64 0] 95)) fun ao =>
 Calls Try.prog 41 #[.pointer a1, .int .i64 7] ao fun ap ak => ∃ (a5 : Int), ap = .returned (.int .i64 a5) ∧
 Q01 ak (((blk a0.heap.size).add 0).add 0) ∧
 thenW (ak.setCell (((blk a0.heap.size).add 0).add 0) (.int .i64 a5)) fun aq =>
 Calls Try.prog 41 #[.pointer a1, .int .i64 200] aq fun ay ai => ∃ (a4 : Int), ay = .returned (.int .i64 a4) ∧
 Q01 ai (((blk a0.heap.size).add 1).add 0) ∧
 thenW (ai.setCell (((blk a0.heap.size).add 1).add 0) (.int .i64 a4)) fun ax =>
 Calls Try.prog 64 #[.pointer a1] ax fun au ae => ∃ (aa : Int), au = .returned (.int .u64 aa) ∧
 Q01 ae (((blk a0.heap.size).add 2).add 0) ∧
 thenW (ae.setCell (((blk a0.heap.size).add 2).add 0) (.int .u64 aa)) fun ab =>
 ∃ (a2 a9 a7 : Int), cellsAt ab (blk a0.heap.size) [.int .i64 a2, .int .i64 a9, .int .u64 a7] 0 ∧
 thenW (ab.alloc (.cells #[.int .i64 a2, .int .i64 a9, .int .u64 a7] 95)) fun aw =>
 ∃ (ad : Option Addr) (af ag : Nat) (ac : World), (Builtin.append_ #[36, 36] 36 #[.slice am al an, .slice (some (blk ab.heap.size)) 1 1]).run Try.prog aw = .ok (.slice ad af ag) ac ∧
 ∃ az, az < b0 ∧ I0 az [.slice ad af ag, .int .i64 (IntKind.i64.wrap (t9 + 1))] ac) else (
 Calls Try.prog 43 #[.pointer a1] a0 fun av aj => ∃ (a3 : Int), av = .returned (.int .i64 a3) ∧
 bif a3 != 0 then (
 R (.tuple #[.slice none 0 0, .int .i64 a3]) aj) else (
 Calls Try.prog 36 #[.slice am al an] aj fun ar ah => ∃ (a6 : Bool), ar = .returned (.bool a6) ∧
 bif !a6 then (
 R (.tuple #[.slice none 0 0, .int .i64 4]) ah) else (
 R (.tuple #[.slice am al an, .int .i64 0]) ah)))

theorem vRead.ok (a2 : Option Addr) (a1 a0 : Nat) {R : RW} {w : World} (h : vRead.M a2 a1 a0 R w) : Calls Try.prog 93 #[.slice a2 a1 a0] w fun e w' => ∃ v, e = .returned v ∧ R v w' :=
  Q09 follows (H := [(0, [4, 10], [(2, (.one .slice)), (11, (.one (.int .i64)))])]) (args := [.slice a2 a1 a0]) (cast (by kernel_rfl) h)

def wSame.M (a6 : Option Addr) (a1 ab : Nat) (a7 : Option Addr) (a4 aa : Nat) (R : RW) (w : World) : Prop :=
 bif (a1 : Int) != (a4 : Int) then (
 R (.bool false) w) else (
 ∃ (I0 : Nat → List Value → World → Prop) (m4 : Nat), I0 m4 [.int .i64 0] w ∧ ∀ (m5 : Nat) (a2 : World) (i3 : Int), I0 m5 [.int .i64 i3] a2 →
 bif decide (i3 < (a1 : Int)) then (
 thenW (a2.drew) fun a0 =>
 a6.elim False fun a8 =>
 0 ≤ (i3 : Int) ∧ (i3 : Int) < (a1 : Int) ∧
 ∃ (x9 : Int), a0.cell? (a8.add (Int.toNat i3 * 1)) = some (.int .u8 x9) ∧
 a7.elim False fun a9 =>
 0 ≤ (i3 : Int) ∧ (i3 : Int) < (a4 : Int) ∧
 ∃ (a3 : Int), a0.cell? (a9.add (Int.toNat i3 * 1)) = some (.int .u8 a3) ∧
 bif x9 != a3 then (
 R (.bool false) a0) else (
 ∃ a5, a5 < m5 ∧ I0 a5 [.int .i64 (IntKind.i64.wrap (i3 + 1))] a0)) else (
 R (.bool true) a2))

theorem wSame.eq (a1a : Option Addr) (a1n a1c : Nat) (b2a : Option Addr) (b2n b2c : Nat) (R : RW) (w : World) : mfunc Try.prog [(0, [0, 1], [(5, (.one (.int .i64)))])] 14 [.slice a1a a1n a1c, .slice b2a b2n b2c] R w = wSame.M a1a a1n a1c b2a b2n b2c R w := by kernel_rfl
theorem wSame.ok (a0 : Option Addr) (a3 a5 : Nat) (a2 : Option Addr) (a1 a4 : Nat) {R : RW} {w : World} (h : wSame.M a0 a3 a5 a2 a1 a4 R w) : Calls Try.prog 14 #[.slice a0 a3 a5, .slice a2 a1 a4] w fun e w' => ∃ v, e = .returned v ∧ R v w' :=
  Q09 follows (H := [(0, [0, 1], [(5, (.one (.int .i64)))])]) (args := [.slice a0 a3 a5, .slice a2 a1 a4]) (by rw [wSame.eq]; exact h)

def hdL (h : Hd) : List UInt8 := numL h.1.toNat ++ (numL h.2.1.toNat ++ numL h.2.2.toNat)
def vecL (hs : List Hd) : List UInt8 := numL hs.length ++ hs.flatMap hdL
theorem numL_le (n : Nat) : (numL n).length ≤ 10 := numF_le 10 n
theorem hdL_le (h : Hd) : (hdL h).length ≤ 30 := by
  have := numL_le h.1.toNat; have := numL_le h.2.1.toNat; have := numL_le h.2.2.toNat
  simp only [hdL, List.length_append]; omega
theorem hdsL_le : ∀ hs : List Hd, (hs.flatMap hdL).length ≤ 30 * hs.length
  | [] => Nat.le_refl _
  | h :: r => by
    have := hdsL_le r; have := hdL_le h
    simp only [List.flatMap_cons, List.length_append, List.length_cons]; omega
def natH (h : Hd) : Prop := 0 ≤ h.1 ∧ h.1 < 18446744073709551616 ∧ 0 ≤ h.2.1 ∧ h.2.1 < 18446744073709551616 ∧ 0 ≤ h.2.2 ∧ h.2.2 < 18446744073709551616
theorem Q46 {h : Hd} (hr : rhead h = true) (hf : 0 ≤ h.2.2 ∧ h.2.2 < 18446744073709551616) : natH h := by
  simp only [rhead, Bool.and_eq_true, decide_eq_true_eq] at hr
  obtain ⟨a, b, c, d, _⟩ := hr
  exact ⟨a, by omega, by omega, by omega, hf.1, hf.2⟩
theorem Q12 : ∀ {hs : List Hd} {p : Option Int}, rightF p hs = true → ∀ h ∈ hs, rhead h = true
  | [], _, _, h, hh => by simp at hh
  | a :: r, p, hr, h, hh => by
    simp only [rightF, Bool.and_eq_true] at hr
    rcases List.mem_cons.1 hh with rfl | hh
    · exact hr.1.1
    · exact Q12 hr.2 h hh
theorem OwnB.mono {N M : Nat} {w : World} {a : Option Addr} {c : Nat} {bs : List UInt8} (h : OwnB N w a c bs) (hM : M ≤ N) : OwnB M w a c bs := ⟨h.own, fun ad ha => ⟨Nat.le_trans hM (h.fr ad ha).1, (h.fr ad ha).2⟩⟩

section
variable {w w' : World} {a : Option Addr} {c : Nat} {hs : List Hd}
theorem Q3c (hr : RowAt w a (hsC hs)) (hl : hs.length ≤ 1000) (hn : rightV hs = true → ∀ h ∈ hs, natH h) :
    Calls Try.prog 28 #[.slice a hs.length c] w (fun e w' => Ext no w w' ∧ ((rightV hs = false ∧ e = .returned (.tuple #[.slice none 0 0, .int .i64 1])) ∨ (rightV hs = true ∧ ∃ a' c', e = .returned (.tuple #[.slice a' (vecL hs).length c', .int .i64 0]) ∧ OwnB w.heap.size w' a' c' (vecL hs)))) := by
  refine (vBytes.ok _ _ _ (R := fun v w' => Ext no w w' ∧ ((rightV hs = false ∧ v = .tuple #[.slice none 0 0, .int .i64 1]) ∨ (rightV hs = true ∧ ∃ a' c', v = .tuple #[.slice a' (vecL hs).length c', .int .i64 0] ∧ OwnB w.heap.size w' a' c' (vecL hs)))) ?_).mono fun e w' ⟨v, he, hx, hv⟩ => ⟨hx, hv.imp (fun ⟨h1, h2⟩ => ⟨h1, by rw [he, h2]⟩) (fun ⟨h1, a', c', h2, h3⟩ => ⟨h1, a', c', by rw [he, h2], h3⟩)⟩
  unfold vBytes.M
  refine (Q1p hr (by omega)).mono fun e w4 ⟨he, x4⟩ => ⟨_, he, ?_⟩
  by_cases hright : rightV hs = true
  · rw [hright, Bool.not_true, cond_false]
    have hnat := hn hright
    rw [wu64 (n := (hs.length : Int)) (by omega) (by omega)]
    refine (W.Num_spec (bs := []) (n := hs.length) (RowAt.nil _ none) (by decide) (by omega)).mono fun e w7 ⟨a7, c7, he, ho7, x7'⟩ => ⟨a7, _, c7, he, ?_⟩
    rw [List.nil_append] at ho7 ⊢
    have x7 := x4.trans x7'
    refine ⟨fun k vs w1 => ∃ (t : Nat) (a1 : Option Addr) (c1 : Nat), vs = [.slice a1 (numL hs.length ++ (hs.take t).flatMap hdL).length c1, .int .i64 t] ∧ k + t = hs.length ∧ OwnB w.heap.size w1 a1 c1 (numL hs.length ++ (hs.take t).flatMap hdL) ∧ Ext no w w1, hs.length,
      ⟨0, a7, c7, by simp, rfl, by simpa using OwnB.mono ho7 x4.size, x7⟩, ?_⟩
    rintro k w12 b0 n0 c0 i ⟨t, a1, c1, hvs, hk, ho, hx⟩
    simp only [List.cons.injEq, Value.int.injEq, Value.slice.injEq, true_and, and_true] at hvs
    obtain ⟨⟨rfl, rfl, rfl⟩, rfl⟩ := hvs
    cases k with
    | zero =>
      obtain rfl : t = hs.length := by omega
      rw [show decide ((hs.length : Int) < (hs.length : Int)) = false by simp, cond_false]
      rw [List.take_length] at ho ⊢
      exact ⟨hx, .inr ⟨rfl, _, _, rfl, ho⟩⟩
    | succ k =>
      have ht : t < hs.length := by omega
      rw [show decide ((t : Int) < (hs.length : Int)) = true by simp; omega, cond_true]
      have hr1 := hr.no hx
      obtain ⟨ad, rfl⟩ := hr1.addr (hsC_ne (by intro e; subst e; simp at ht))
      have hgi : hs[t]? = some hs[t] := List.getElem?_eq_getElem ht
      obtain ⟨m1, m2, m3, m4, m5, m6⟩ := hnat hs[t] (List.getElem_mem ht)
      refine ⟨by omega, by omega, _, _, _, by rw [Int.toNat_natCast]; exact hs_at hr1 hgi, Q00 fun w17 h17 => ?_⟩
      have hb17 : Blk w17 w12.heap.size 95 [.int .i64 0, .int .i64 0, .int .u64 0] := by subst h17; exact Blk.new _ _ _
      have x17 : Ext no w12 w17 := by subst h17; exact (Ext.refl _ _).alloc _
      refine ⟨hb17.cana (i := 0) rfl, Q00 fun w18 h18 => ?_⟩
      have hb18 := hb17.seta 0 (.int .i64 hs[t].1)
      rw [← h18] at hb18
      have x18 : Ext no w12 w18 := by subst h18; exact x17.setCell (.inr (by rw [Q0X]; exact Nat.le_refl _)) _
      refine ⟨hb18.cana (i := 1) rfl, Q00 fun w19 h19 => ?_⟩
      have hb19 := hb18.seta 1 (.int .i64 hs[t].2.1)
      rw [← h19] at hb19
      have x19 : Ext no w12 w19 := by subst h19; exact x18.setCell (.inr (by rw [add_blk]; exact Nat.le_refl _)) _
      refine ⟨hb19.cana (i := 2) rfl, Q00 fun w20 h20 => ?_⟩
      have hb20 := hb19.seta 2 (.int .u64 hs[t].2.2)
      rw [← h20] at hb20
      have x20 : Ext no w12 w20 := by subst h20; exact x19.setCell (.inr (by rw [add_blk]; exact Nat.le_refl _)) _
      refine ⟨_, hb20.cella (i := 0) rfl, _, hb20.cella (i := 1) rfl, _, hb20.cella (i := 2) rfl, ?_⟩
      -- the three numbers
      have hlen : (numL hs.length ++ (hs.take t).flatMap hdL).length ≤ 10 + 30 * 1000 := by
        have h1 := numL_le hs.length
        have h2 := hdsL_le (hs.take t)
        rw [List.length_take] at h2
        rw [List.length_append]; omega
      have n1 := numL_le hs[t].1.toNat; have n2 := numL_le hs[t].2.1.toNat; have n3 := numL_le hs[t].2.2.toNat
      rw [wu64 m1 m2, wu64 m3 m4]
      generalize hbase : numL hs.length ++ (hs.take t).flatMap hdL = base at *
      have part : ∀ j : Nat, j ≤ 3 → ((([numL hs[t].1.toNat, numL hs[t].2.1.toNat, numL hs[t].2.2.toNat] : List (List UInt8)).take j).flatten).length ≤ 30 := fun j hj => by
        match j, hj with
        | 0, _ => simp
        | 1, _ => simp; omega
        | 2, _ => simp; omega
        | 3, _ => simp; omega
      refine ⟨fun k2 vs w1 => ∃ (j : Nat) (a2 : Option Addr) (c2 : Nat), vs = [.slice a2 (base ++ (([numL hs[t].1.toNat, numL hs[t].2.1.toNat, numL hs[t].2.2.toNat] : List (List UInt8)).take j).flatten).length c2, .int .i64 j] ∧ k2 + j = 3 ∧ OwnB w.heap.size w1 a2 c2 (base ++ (([numL hs[t].1.toNat, numL hs[t].2.1.toNat, numL hs[t].2.2.toNat] : List (List UInt8)).take j).flatten) ∧ Ext no w w1, 3,
        ⟨0, b0, c0, by simp, rfl, by simpa using ho.no x20, hx.trans x20⟩, ?_⟩
      rintro k2 w28 b2 l2 c2 i2 ⟨j, a2', c2', hvs, hk2, ho2, hx2⟩
      simp only [List.cons.injEq, Value.int.injEq, Value.slice.injEq, true_and, and_true] at hvs
      obtain ⟨⟨rfl, rfl, rfl⟩, rfl⟩ := hvs
      cases k2 with
      | zero =>
        obtain rfl : j = 3 := by omega
        rw [show decide (((3 : Nat) : Int) < 3) = false from rfl, cond_false]
        have hnx : base ++ (([numL hs[t].1.toNat, numL hs[t].2.1.toNat, numL hs[t].2.2.toNat] : List (List UInt8)).take 3).flatten = numL hs.length ++ (hs.take (t + 1)).flatMap hdL := by
          rw [← hbase, List.take_add_one (l := hs) (i := t), hgi, Option.toList_some, List.flatMap_append]
          show (numL hs.length ++ (hs.take t).flatMap hdL) ++ (numL hs[t].1.toNat ++ (numL hs[t].2.1.toNat ++ (numL hs[t].2.2.toNat ++ []))) = numL hs.length ++ ((hs.take t).flatMap hdL ++ (hdL hs[t] ++ []))
          simp only [hdL, List.append_nil, List.append_assoc]
        rw [hnx] at ho2 ⊢
        exact ⟨k, by omega, t + 1, _, _, by rw [w64 (by omega) (by omega)]; rfl, by omega, ho2, hx2⟩
      | succ k2 =>
        have hj : j < 3 := by omega
        rw [show decide ((j : Int) < 3) = true by simp; omega, cond_true]
        refine ⟨by omega, by omega, ?_⟩
        have hp := part j (by omega)
        -- one number more
        have step : ∀ (n : Nat), n < 18446744073709551616 → (([numL hs[t].1.toNat, numL hs[t].2.1.toNat, numL hs[t].2.2.toNat] : List (List UInt8))[j]? = some (numL n)) → ∀ x : Int, x = (n : Int) →
            Calls Try.prog 26 #[.slice b2 (base ++ (([numL hs[t].1.toNat, numL hs[t].2.1.toNat, numL hs[t].2.2.toNat] : List (List UInt8)).take j).flatten).length c2, .int .u64 x] w28 (fun ee31 ww32 => ∃ (num30a : Option Addr) (num30n num30c : Nat), ee31 = .returned (.slice num30a num30n num30c) ∧
              ∃ m33, m33 < k2 + 1 ∧ ∃ (j' : Nat) (a2 : Option Addr) (c2 : Nat), [Value.slice num30a num30n num30c, .int .i64 (IntKind.i64.wrap ((j : Int) + 1))] = [.slice a2 (base ++ (([numL hs[t].1.toNat, numL hs[t].2.1.toNat, numL hs[t].2.2.toNat] : List (List UInt8)).take j').flatten).length c2, .int .i64 j'] ∧ m33 + j' = 3 ∧ OwnB w.heap.size ww32 a2 c2 (base ++ (([numL hs[t].1.toNat, numL hs[t].2.1.toNat, numL hs[t].2.2.toNat] : List (List UInt8)).take j').flatten) ∧ Ext no w ww32) := fun n hn64 hj2 x hx' => by
          subst hx'
          refine (W.Num_spec (c := c2) ho2.row (by rw [List.length_append]; omega) hn64).mono fun e w32 ⟨a3, c3, he, ho3, x3⟩ => ⟨a3, _, c3, he, k2, by omega, j + 1, a3, c3, ?_, by omega, ?_, hx2.trans x3⟩
          · rw [w64 (by omega) (by omega), List.take_add_one, hj2]
            simp [List.append_assoc]
          · rw [List.take_add_one, hj2]
            have := OwnB.mono ho3 hx2.size
            simpa [List.append_assoc] using this
        refine ⟨fun h => ?_, fun h => ?_, fun h => ?_, trivial⟩
        · obtain rfl : j = 0 := by omega
          exact step hs[t].1.toNat (by omega) rfl hs[t].1 (by omega)
        · obtain rfl : j = 1 := by omega
          exact step hs[t].2.1.toNat (by omega) rfl hs[t].2.1 (by omega)
        · obtain rfl : j = 2 := by omega
          exact step hs[t].2.2.toNat (by omega) rfl hs[t].2.2 (by omega)
  · rw [show rightV hs = false by simpa using hright, Bool.not_false, cond_true]
    exact ⟨x4, .inl ⟨rfl, rfl⟩⟩

/-! ### reading -/
def readF : Nat → List Hd → List UInt8 × Int → List Hd × (List UInt8 × Int)
  | 0, hs, s => (hs, s)
  | n + 1, hs, s =>
    readF n (hs ++ [(((countR 7 s).1 : Int), (((countR 200 (countR 7 s).2).1 : Int), ((numR (countR 200 (countR 7 s).2).2).1 : Int)))]) (numR (countR 200 (countR 7 s).2).2).2
def readAll (b : List UInt8) : List Hd × (List UInt8 × Int) := readF (countR 8 (b, 0)).1 [] (countR 8 (b, 0)).2
def readV (b : List UInt8) : List Hd × Int :=
  if doneR (readAll b).2 ≠ 0 then ([], doneR (readAll b).2) else if rightV (readAll b).1 then ((readAll b).1, 0) else ([], 4)

structure OwnH (N : Nat) (w : World) (a : Option Addr) (c : Nat) (hs : List Hd) : Prop where
  own : w.ownsRow 0 95 3 (.slice a hs.length c) hs.length (hsC hs)
  fr : ∀ ad, a = some ad → N ≤ ad.block ∧ ad.block < w.heap.size
theorem OwnH.row {N : Nat} (h : OwnH N w a c hs) : RowAt w a (hsC hs) := by
  obtain ⟨_, _, hv, hr⟩ := RowAt.of_owns h.own
  cases hv; exact hr
theorem OwnH.ext {N : Nat} {m : Nat → Prop} (h : OwnH N w a c hs) (k : Ext m w w') (hm : ∀ ad, a = some ad → ¬ m ad.block) : OwnH N w' a c hs :=
  ⟨Q3m h.own k fun q hq => by
    cases a with
    | none => simp [Value.ownBlock] at hq
    | some ad => simp only [Value.ownBlock, Option.some.injEq] at hq; subst hq; exact hm ad rfl, fun ad ha => ⟨(h.fr ad ha).1, Nat.lt_of_lt_of_le (h.fr ad ha).2 k.size⟩⟩
theorem OwnH.push {N : Nat} {ty : TypeId} (hty : Try.prog.underlying ty = some (.slice 95)) (h : OwnH N w a c hs) (hN : N ≤ w.heap.size) (hl : hs.length ≤ 1000000) {xa : Option Addr} {x : Hd} (hx : RowAt w xa (hdC x)) :
    ∃ a' c' w', (Builtin.append_ #[ty, ty] ty #[.slice a hs.length c, .slice xa 1 1]).run Try.prog w = .ok (.slice a' (hs.length + 1) c') w' ∧ OwnH N w' a' c' (hs ++ [x]) ∧ Ext (fun b => N ≤ b ∧ ∀ ad, a = some ad → b = ad.block ∨ w.heap.size ≤ b) w w' ∧ (∀ ad, a' = some ad → (∃ b, a = some b ∧ ad.block = b.block) ∨ w.heap.size ≤ ad.block) := by
  obtain ⟨i, hi, hz, hs', hby⟩ := info_of infHead
  obtain ⟨a', c', w2, hr, ho, hg, hb⟩ := Q10 (ty := ty) hty hi hz hs' hby rfl (by decide) h.own (xa := xa) (m := 1) (c := 1) rfl hx (fun u hu => by
    simp only [hdC, List.mem_cons, List.not_mem_nil, or_false] at hu
    rcases hu with rfl | rfl | rfl <;> rfl) (by omega) (by omega)
  have hrow : ∀ q, (Value.slice a hs.length c).ownBlock = some q → N ≤ q ∧ ∀ ad, a = some ad → q = ad.block := fun q hq => by
    cases a with
    | none => simp [Value.ownBlock] at hq
    | some ad => simp only [Value.ownBlock, Option.some.injEq] at hq; subst hq; exact ⟨(h.fr ad rfl).1, fun ad' ha' => by cases ha'; rfl⟩
  refine ⟨a', c', w2, hr, ⟨?_, fun ad ha => ⟨?_, (Q0Q ho).2 ad ha⟩⟩, Ext.of_grown hg fun q hq => .inl ⟨(hrow q hq).1, fun ad ha => .inl ((hrow q hq).2 ad ha)⟩, fun ad ha => ?_⟩
  · rw [List.length_append, show hsC (hs ++ [x]) = hsC hs ++ hdC x by simp [hsC]]; exact ho
  · subst ha
    rcases hb with hq | hq
    · exact (hrow _ hq.symm).1
    · simp only [Value.ownBlock, Option.some.injEq] at hq; omega
  · subst ha
    rcases hb with hq | hq
    · cases a with
      | none => simp [Value.ownBlock] at hq
      | some b => exact .inl ⟨b, rfl, by simpa [Value.ownBlock] using hq⟩
    · simp only [Value.ownBlock, Option.some.injEq] at hq; exact .inr (by omega)
end
end Go.Proofs.Ytlgpeojjmapnjaa