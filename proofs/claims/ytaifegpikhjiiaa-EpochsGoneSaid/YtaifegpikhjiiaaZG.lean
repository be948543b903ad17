/- Epochs: predicates of EpochsGone. -/
import Derived.Test.YtaifegpikhjiiaaZF
set_option linter.unusedVariables false
set_option linter.unusedSimpArgs false
set_option maxRecDepth 100000
set_option maxHeartbeats 4000000
namespace Go.Proofs.Ytaifegpikhjiiaa
open Go Go.Mx Go.Proofs
def do3.N (jd : Option Addr) (jb ih : Int) (gz : Option Addr) (gy ir : Nat) (j6 : Option Addr) (j7 iz : Nat) (R : RW) (w : World) : Prop :=
 ∃ a7 : Addr, jd = some a7 ∧
 ∃ (ja : Option Addr), w.cell? (a7.add 0) = some (.pointer ja) ∧
 ∃ (gb : Option Addr) (g4 gm : Nat) (dg : Int), cellsAt w (a7.add 14) [.slice gb g4 gm, .int .i64 dg] 0 ∧
 ∃ (ev : Int), w.cell? (a7.add 22) = some (.int .u64 ev) ∧
 ∀ (fz : World) (iw : List Nat), Ext no w fz → Priv w fz iw →
 Calls Try.prog 9 #[.pointer ja, .agg #[.slice gb g4 gm, .int .i64 dg], .int .u64 ev] fz fun j0 gu => ∃ (et gg dc eb : Int) (d2 : Option Addr) (d9 dt : Nat) (fx : Option Addr) (f4 f0 : Nat) (c4 c3 : Int), j0 = .returned (.tuple #[.agg #[.int .i64 et, .int .i64 gg, .int .u64 dc, .int .i64 eb, .slice d2 d9 dt, .slice fx f4 f0], .int .u64 c4, .int .i64 c3]) ∧
 Keep iw fz gu ∧
 ∀ (bw : World) (ep b1 j9 : Nat), Ext (fun b => b ∈ iw) gu bw → PrivJ iw gu bw [ep, b1, j9] →
 ∃ (jc : Option Addr), bw.cell? (a7.add 1) = some (.pointer jc) ∧
 ∃ (ge : Option Addr) (g6 g5 : Nat) (d6 : Int), cellsAt bw (a7.add 16) [.slice ge g6 g5, .int .i64 d6] 0 ∧
 ∃ (fw : Int), bw.cell? (a7.add 22) = some (.int .u64 fw) ∧
 ∀ (es : World) (gw : List Nat), Ext no bw es → Priv bw es gw →
 Calls Try.prog 24 #[.pointer jc, .agg #[.slice ge g6 g5, .int .i64 d6], .int .u64 fw] es fun j1 eo => ∃ (a0 ad a2 a5 : Int) (a1 : Option Addr) (a3 a4 : Nat) (aa : Option Addr) (a8 a9 : Nat) (bi b8 : Int), j1 = .returned (.tuple #[.agg #[.int .i64 a0, .int .i64 ad, .int .u64 a2, .int .i64 a5, .slice a1 a3 a4, .slice aa a8 a9], .int .u64 bi, .int .i64 b8]) ∧
 Keep gw es eo ∧
 Keep [ep, b1, j9] es eo ∧
 (c4 ≠ bi →
 ∀ (i0 : World), Ext (fun b => b ∈ gw) eo i0 →
 R (.bool false) i0) ∧
 (c4 = bi →
 (c3 ≠ b8 →
 ∀ (ip : World), Ext (fun b => b ∈ gw) eo ip →
 R (.bool false) ip) ∧
 (c3 = b8 →
 ∀ (e7 : World) (j5 : Nat), Ext (fun b => b ∈ gw) eo e7 → PrivJ gw eo e7 [j5] →
 Calls Try.prog 15 #[.agg #[.int .i64 et, .int .i64 gg, .int .u64 dc, .int .i64 eb, .slice d2 d9 dt, .slice fx f4 f0]] e7 fun j2 gr => ∃ (eq gc da ek : Int) (d0 : Option Addr) (dl de : Nat) (ff : Option Addr) (fa eu : Nat), j2 = .returned (.agg #[.int .i64 eq, .int .i64 gc, .int .u64 da, .int .i64 ek, .slice d0 dl de, .slice ff fa eu]) ∧
 Keep [ep, b1, j5] e7 gr ∧
 Calls Try.prog 25 #[.agg #[.int .i64 eq, .int .i64 gc, .int .u64 da, .int .i64 ek, .slice d0 dl de, .slice ff fa eu], .agg #[.int .i64 a0, .int .i64 ad, .int .u64 a2, .int .i64 a5, .slice a1 a3 a4, .slice aa a8 a9]] gr fun j3 fy => ∃ (bm : Bool), j3 = .returned (.bool bm) ∧
 Keep [ep, b1, j5] gr fy ∧
 (bm = false →
 R (.bool false) fy) ∧
 (bm = true →
 (b8 ≠ 0 →
 R (.bool true) fy) ∧
 (b8 = 0 →
 ∀ (gs : World), Ext (fun b => b = b1) fy gs →
 Q07 gs ((a7.add 22).add 0) ∧
 (∀ p ∈ [ep, b1], p ≠ Addr.block (a7.add 22)) ∧
 thenW (gs.setCell ((a7.add 22).add 0) (.int .u64 bi)) fun f3 =>
 ∃ (bv : Option Addr) (ch br : Nat) (ak : Int), cellsAt f3 (a7.add 14) [.slice bv ch br, .int .i64 ak] 0 ∧
 (∀ (fe : World) (gx : List Nat), Ext no f3 fe → Priv f3 fe gx →
 Calls Try.prog 26 #[.agg #[.int .i64 a0, .int .i64 ad, .int .u64 a2, .int .i64 a5, .slice a1 a3 a4, .slice aa a8 a9]] fe fun j8 e4 => ∃ (e2 fj bu cz : Int) (cg : Option Addr) (c0 c7 : Nat) (dy : Option Addr) (dz e3 : Nat), j8 = .returned (.agg #[.int .i64 e2, .int .i64 fj, .int .u64 bu, .int .i64 cz, .slice cg c0 c7, .slice dy dz e3]) ∧
 Keep gx fe e4 ∧
 Keep [ep, b1] fe e4 ∧
 cellsAt e4 (a7.add 14) [.slice bv ch br, .int .i64 ak] 0 ∧
 (∀ (fh : World) (iv : List Nat), Ext (fun b => b ∈ gx) e4 fh → PrivJ gx e4 fh iv →
 Calls Try.prog 10 #[.agg #[.slice bv ch br, .int .i64 ak], .agg #[.int .i64 e2, .int .i64 fj, .int .u64 bu, .int .i64 cz, .slice cg c0 c7, .slice dy dz e3]] fh fun ig ef => ∃ (i1 : Option Addr) (ik i6 : Nat) (en cc : Int), ig = .returned (.tuple #[.agg #[.slice i1 ik i6, .int .i64 en], .int .i64 cc]) ∧
 Keep iv fh ef ∧
 Keep [ep, b1] fh ef ∧
 ∀ (al : World) (fr : Nat), Ext (fun b => b ∈ iv) ef al → PrivJ iv ef al [fr] →
 ∃ (c5 : Option Addr) (ca c8 : Nat) (ao : Int), cellsAt al (a7.add 16) [.slice c5 ca c8, .int .i64 ao] 0 ∧
 ∀ (b3 : World) (b2 : List Nat), Ext no al b3 → Priv al b3 b2 →
 Calls Try.prog 14 #[.agg #[.slice c5 ca c8, .int .i64 ao], .agg #[.int .i64 a0, .int .i64 ad, .int .u64 a2, .int .i64 a5, .slice a1 a3 a4, .slice aa a8 a9]] b3 fun fv ae => ∃ (ds : Option Addr) (dd d3 : Nat) (b9 a6 : Int), fv = .returned (.tuple #[.agg #[.slice ds dd d3, .int .i64 b9], .int .i64 a6]) ∧
 Keep b2 b3 ae ∧
 Keep [ep, b1, fr] b3 ae ∧
 (cc ≠ a6 →
 ∀ (dn : World), Ext (fun b => b ∈ b2) ae dn →
 R (.bool false) dn) ∧
 (cc = a6 →
 (a6 = 0 →
 ∀ (bh : World) (ew : Nat), Ext (fun b => b ∈ b2) ae bh → PrivJ b2 ae bh [ew] →
 Q07 bh ((a7.add 14).add 0) ∧
 (∀ p ∈ [b1, ew], p ≠ Addr.block (a7.add 14)) ∧
 thenW (bh.setCell ((a7.add 14).add 0) (.slice i1 ik i6)) fun db =>
 Q07 db ((a7.add 14).add 1) ∧
 thenW (db.setCell ((a7.add 14).add 1) (.int .i64 en)) fun bp =>
 Q07 bp ((a7.add 16).add 0) ∧
 (∀ p ∈ [b1], p ≠ Addr.block (a7.add 16)) ∧
 thenW (bp.setCell ((a7.add 16).add 0) (.slice ds dd d3)) fun bo =>
 Q07 bo ((a7.add 16).add 1) ∧
 thenW (bo.setCell ((a7.add 16).add 1) (.int .i64 b9)) fun bq =>
 (a0 ≠ 3 →
 R (.bool true) bq) ∧
 (a0 = 3 →
 ∃ (I1 : Nat → List Value → World → Prop) (gv : Nat), I1 gv [.int .i64 0] bq ∧ ∀ (e1 : Nat) (ay : World) (ab : Int), I1 e1 [.int .i64 ab] ay →
 (ab < 4 →
 0 ≤ (ab : Int) ∧ (ab : Int) < (4 : Int) ∧
 ∃ (e6 : Option Addr), ay.cell? ((a7.add 6).add (Int.toNat ab * 1)) = some (.pointer e6) ∧
 0 ≤ (ab : Int) ∧ (ab : Int) < (4 : Int) ∧
 ∃ (cw : Option Addr), ay.cell? ((a7.add 10).add (Int.toNat ab * 1)) = some (.pointer cw) ∧
 ∃ (cy : Option Addr), ay.cell? (a7.add 1) = some (.pointer cy) ∧
 ∀ (c9 : World), Ext no ay c9 →
 Calls Try.prog 26 #[.agg #[.int .i64 a0, .int .i64 ad, .int .u64 a2, .int .i64 a5, .slice a1 a3 a4, .slice aa a8 a9]] c9 fun ez aq => ∃ (bd bz av b6 : Int) (ap : Option Addr) (am az : Nat) (bc : Option Addr) (bf bl : Nat), ez = .returned (.agg #[.int .i64 bd, .int .i64 bz, .int .u64 av, .int .i64 b6, .slice ap am az, .slice bc bf bl]) ∧
 Keep [b1] c9 aq ∧
 aq.cell? (a7.add 1) = some (.pointer cy) ∧
 aq.cell? ((a7.add 10).add (Int.toNat ab * 1)) = some (.pointer cw) ∧
 aq.cell? ((a7.add 6).add (Int.toNat ab * 1)) = some (.pointer e6) ∧
 Calls Try.prog 11 #[.pointer e6, .agg #[.int .i64 bd, .int .i64 bz, .int .u64 av, .int .i64 b6, .slice ap am az, .slice bc bf bl]] aq fun fk b7 => ∃ (af : Int), fk = .returned (.int .i64 af) ∧
 Keep [b1] aq b7 ∧
 b7.cell? (a7.add 1) = some (.pointer cy) ∧
 b7.cell? ((a7.add 10).add (Int.toNat ab * 1)) = some (.pointer cw) ∧
 Calls Try.prog 27 #[.pointer cw, .pointer cy, .agg #[.int .i64 a0, .int .i64 ad, .int .u64 a2, .int .i64 a5, .slice a1 a3 a4, .slice aa a8 a9]] b7 fun ey cb => ∃ (ah : Int), ey = .returned (.int .i64 ah) ∧
 Keep [b1] b7 cb ∧
 (af ≠ ah →
 R (.bool false) cb) ∧
 (af = ah →
 (-9223372036854775808 : Int) ≤ (ab + 1) ∧ (ab + 1) < 9223372036854775808 ∧
 ∃ f2, f2 < e1 ∧ I1 f2 [.int .i64 (ab + 1)] cb)) ∧
 ((4 : Int) ≤ ab →
 R (.bool true) ay))) ∧
 (a6 ≠ 0 →
 (a0 ≠ 3 →
 ∀ (dw : World), Ext (fun b => b ∈ b2) ae dw →
 R (.bool true) dw) ∧
 (a0 = 3 →
 (a6 ≠ 0 →
 ∀ (du : World), Ext (fun b => b ∈ b2) ae du →
 R (.bool true) du) ∧
 (a6 = 0 →
 ∀ (dk : World), Ext (fun b => b ∈ b2) ae dk →
 ∃ (I1 : Nat → List Value → World → Prop) (gp : Nat), I1 gp [.int .i64 0] dk ∧ ∀ (e0 : Nat) (ax : World) (ac : Int), I1 e0 [.int .i64 ac] ax →
 (ac < 4 →
 0 ≤ (ac : Int) ∧ (ac : Int) < (4 : Int) ∧
 ∃ (e5 : Option Addr), ax.cell? ((a7.add 6).add (Int.toNat ac * 1)) = some (.pointer e5) ∧
 0 ≤ (ac : Int) ∧ (ac : Int) < (4 : Int) ∧
 ∃ (cx : Option Addr), ax.cell? ((a7.add 10).add (Int.toNat ac * 1)) = some (.pointer cx) ∧
 ∃ (cv : Option Addr), ax.cell? (a7.add 1) = some (.pointer cv) ∧
 ∀ (bs : World), Ext no ax bs →
 Calls Try.prog 26 #[.agg #[.int .i64 a0, .int .i64 ad, .int .u64 a2, .int .i64 a5, .slice a1 a3 a4, .slice aa a8 a9]] bs fun f5 au => ∃ (bg c6 an b5 : Int) (b0 : Option Addr) (ar aw : Nat) (bj : Option Addr) (bk be : Nat), f5 = .returned (.agg #[.int .i64 bg, .int .i64 c6, .int .u64 an, .int .i64 b5, .slice b0 ar aw, .slice bj bk be]) ∧
 Keep [b1] bs au ∧
 au.cell? (a7.add 1) = some (.pointer cv) ∧
 au.cell? ((a7.add 10).add (Int.toNat ac * 1)) = some (.pointer cx) ∧
 au.cell? ((a7.add 6).add (Int.toNat ac * 1)) = some (.pointer e5) ∧
 Calls Try.prog 11 #[.pointer e5, .agg #[.int .i64 bg, .int .i64 c6, .int .u64 an, .int .i64 b5, .slice b0 ar aw, .slice bj bk be]] au fun fs b4 => ∃ (ai : Int), fs = .returned (.int .i64 ai) ∧
 Keep [b1] au b4 ∧
 b4.cell? (a7.add 1) = some (.pointer cv) ∧
 b4.cell? ((a7.add 10).add (Int.toNat ac * 1)) = some (.pointer cx) ∧
 Calls Try.prog 27 #[.pointer cx, .pointer cv, .agg #[.int .i64 a0, .int .i64 ad, .int .u64 a2, .int .i64 a5, .slice a1 a3 a4, .slice aa a8 a9]] b4 fun f1 bt => ∃ (ag : Int), f1 = .returned (.int .i64 ag) ∧
 Keep [b1] b4 bt ∧
 (ai ≠ ag →
 R (.bool false) bt) ∧
 (ai = ag →
 (-9223372036854775808 : Int) ≤ (ac + 1) ∧ (ac + 1) < 9223372036854775808 ∧
 ∃ fq, fq < e0 ∧ I1 fq [.int .i64 (ac + 1)] bt)) ∧
 ((4 : Int) ≤ ac →
 R (.bool true) ax)))))) ∧
 (∀ (dp : World) (it : Nat), Ext (fun b => b ∈ gx) e4 dp → PrivJ gx e4 dp [it] →
 cellsAt dp (a7.add 14) [.slice bv ch br, .int .i64 ak] 0 ∧
 ∀ (dh : World) (iy : List Nat), Ext no dp dh → Priv dp dh iy →
 Calls Try.prog 10 #[.agg #[.slice bv ch br, .int .i64 ak], .agg #[.int .i64 e2, .int .i64 fj, .int .u64 bu, .int .i64 cz, .slice cg c0 c7, .slice dy dz e3]] dh fun i4 fl => ∃ (gl : Option Addr) (ga gi : Nat) (d8 bx : Int), i4 = .returned (.tuple #[.agg #[.slice gl ga gi, .int .i64 d8], .int .i64 bx]) ∧
 Keep iy dh fl ∧
 Keep [ep, b1, it] dh fl ∧
 ∀ (gk : World), Ext (fun b => b ∈ iy) fl gk →
 ∀ (ed : World), Ext (fun b => b = it) gk ed →
 ∃ (er : Option Addr) (ft f9 : Nat) (cn : Int), cellsAt ed (a7.add 16) [.slice er ft f9, .int .i64 cn] 0 ∧
 ∀ (di : World) (dx : List Nat), Ext no ed di → Priv ed di dx →
 Calls Try.prog 14 #[.agg #[.slice er ft f9, .int .i64 cn], .agg #[.int .i64 a0, .int .i64 ad, .int .u64 a2, .int .i64 a5, .slice a1 a3 a4, .slice aa a8 a9]] di fun ii bn => ∃ (g8 : Option Addr) (gh gd : Nat) (d7 aj : Int), ii = .returned (.tuple #[.agg #[.slice g8 gh gd, .int .i64 d7], .int .i64 aj]) ∧
 Keep dx di bn ∧
 Keep [ep, b1, it] di bn ∧
 (bx ≠ aj →
 ∀ (gf : World), Ext (fun b => b ∈ dx) bn gf →
 R (.bool false) gf) ∧
 (bx = aj →
 (aj = 0 →
 ∀ (ea : World) (ic : Nat), Ext (fun b => b ∈ dx) bn ea → PrivJ dx bn ea [ic] →
 Q07 ea ((a7.add 14).add 0) ∧
 (∀ p ∈ [b1, ic], p ≠ Addr.block (a7.add 14)) ∧
 thenW (ea.setCell ((a7.add 14).add 0) (.slice gl ga gi)) fun bp =>
 Q07 bp ((a7.add 14).add 1) ∧
 thenW (bp.setCell ((a7.add 14).add 1) (.int .i64 d8)) fun bo =>
 Q07 bo ((a7.add 16).add 0) ∧
 (∀ p ∈ [b1], p ≠ Addr.block (a7.add 16)) ∧
 thenW (bo.setCell ((a7.add 16).add 0) (.slice g8 gh gd)) fun bq =>
 Q07 bq ((a7.add 16).add 1) ∧
 thenW (bq.setCell ((a7.add 16).add 1) (.int .i64 d7)) fun gj =>
 (a0 ≠ 3 →
 R (.bool true) gj) ∧
 (a0 = 3 →
 ∃ (I1 : Nat → List Value → World → Prop) (e1 : Nat), I1 e1 [.int .i64 0] gj ∧ ∀ (i8 : Nat) (cl : World) (ba : Int), I1 i8 [.int .i64 ba] cl →
 (ba < 4 →
 0 ≤ (ba : Int) ∧ (ba : Int) < (4 : Int) ∧
 ∃ (gq : Option Addr), cl.cell? ((a7.add 6).add (Int.toNat ba * 1)) = some (.pointer gq) ∧
 0 ≤ (ba : Int) ∧ (ba : Int) < (4 : Int) ∧
 ∃ (g1 : Option Addr), cl.cell? ((a7.add 10).add (Int.toNat ba * 1)) = some (.pointer g1) ∧
 ∃ (g3 : Option Addr), cl.cell? (a7.add 1) = some (.pointer g3) ∧
 ∀ (f7 : World), Ext no cl f7 →
 Calls Try.prog 26 #[.agg #[.int .i64 a0, .int .i64 ad, .int .u64 a2, .int .i64 a5, .slice a1 a3 a4, .slice aa a8 a9]] f7 fun iq cj => ∃ (eg fo ck dq : Int) (cp : Option Addr) (cm co : Nat) (ee : Option Addr) (eh ec : Nat), iq = .returned (.agg #[.int .i64 eg, .int .i64 fo, .int .u64 ck, .int .i64 dq, .slice cp cm co, .slice ee eh ec]) ∧
 Keep [b1] f7 cj ∧
 cj.cell? (a7.add 1) = some (.pointer g3) ∧
 cj.cell? ((a7.add 10).add (Int.toNat ba * 1)) = some (.pointer g1) ∧
 cj.cell? ((a7.add 6).add (Int.toNat ba * 1)) = some (.pointer gq) ∧
 Calls Try.prog 11 #[.pointer gq, .agg #[.int .i64 eg, .int .i64 fo, .int .u64 ck, .int .i64 dq, .slice cp cm co, .slice ee eh ec]] cj fun im d4 => ∃ (cd : Int), im = .returned (.int .i64 cd) ∧
 Keep [b1] cj d4 ∧
 d4.cell? (a7.add 1) = some (.pointer g3) ∧
 d4.cell? ((a7.add 10).add (Int.toNat ba * 1)) = some (.pointer g1) ∧
 Calls Try.prog 27 #[.pointer g1, .pointer g3, .agg #[.int .i64 a0, .int .i64 ad, .int .u64 a2, .int .i64 a5, .slice a1 a3 a4, .slice aa a8 a9]] d4 fun i9 fu => ∃ (c1 : Int), i9 = .returned (.int .i64 c1) ∧
 Keep [b1] d4 fu ∧
 (cd ≠ c1 →
 R (.bool false) fu) ∧
 (cd = c1 →
 (-9223372036854775808 : Int) ≤ (ba + 1) ∧ (ba + 1) < 9223372036854775808 ∧
 ∃ io, io < i8 ∧ I1 io [.int .i64 (ba + 1)] fu)) ∧
 ((4 : Int) ≤ ba →
 R (.bool true) cl))) ∧
 (aj ≠ 0 →
 (a0 ≠ 3 →
 ∀ (g7 : World), Ext (fun b => b ∈ dx) bn g7 →
 R (.bool true) g7) ∧
 (a0 = 3 →
 (aj ≠ 0 →
 ∀ (g9 : World), Ext (fun b => b ∈ dx) bn g9 →
 R (.bool true) g9) ∧
 (aj = 0 →
 ∀ (al : World), Ext (fun b => b ∈ dx) bn al →
 ∃ (I1 : Nat → List Value → World → Prop) (e0 : Nat), I1 e0 [.int .i64 0] al ∧ ∀ (i7 : Nat) (cu : World) (bb : Int), I1 i7 [.int .i64 bb] cu →
 (bb < 4 →
 0 ≤ (bb : Int) ∧ (bb : Int) < (4 : Int) ∧
 ∃ (gt : Option Addr), cu.cell? ((a7.add 6).add (Int.toNat bb * 1)) = some (.pointer gt) ∧
 0 ≤ (bb : Int) ∧ (bb : Int) < (4 : Int) ∧
 ∃ (g2 : Option Addr), cu.cell? ((a7.add 10).add (Int.toNat bb * 1)) = some (.pointer g2) ∧
 ∃ (g0 : Option Addr), cu.cell? (a7.add 1) = some (.pointer g0) ∧
 ∀ (ex : World), Ext no cu ex →
 Calls Try.prog 26 #[.agg #[.int .i64 a0, .int .i64 ad, .int .u64 a2, .int .i64 a5, .slice a1 a3 a4, .slice aa a8 a9]] ex fun i3 ci => ∃ (ej fm cs df : Int) (cr : Option Addr) (cq ct : Nat) (el : Option Addr) (em e9 : Nat), i3 = .returned (.agg #[.int .i64 ej, .int .i64 fm, .int .u64 cs, .int .i64 df, .slice cr cq ct, .slice el em e9]) ∧
 Keep [b1] ex ci ∧
 ci.cell? (a7.add 1) = some (.pointer g0) ∧
 ci.cell? ((a7.add 10).add (Int.toNat bb * 1)) = some (.pointer g2) ∧
 ci.cell? ((a7.add 6).add (Int.toNat bb * 1)) = some (.pointer gt) ∧
 Calls Try.prog 11 #[.pointer gt, .agg #[.int .i64 ej, .int .i64 fm, .int .u64 cs, .int .i64 df, .slice cr cq ct, .slice el em e9]] ci fun ia d1 => ∃ (cf : Int), ia = .returned (.int .i64 cf) ∧
 Keep [b1] ci d1 ∧
 d1.cell? (a7.add 1) = some (.pointer g0) ∧
 d1.cell? ((a7.add 10).add (Int.toNat bb * 1)) = some (.pointer g2) ∧
 Calls Try.prog 27 #[.pointer g2, .pointer g0, .agg #[.int .i64 a0, .int .i64 ad, .int .u64 a2, .int .i64 a5, .slice a1 a3 a4, .slice aa a8 a9]] d1 fun ie fb => ∃ (ce : Int), ie = .returned (.int .i64 ce) ∧
 Keep [b1] d1 fb ∧
 (cf ≠ ce →
 R (.bool false) fb) ∧
 (cf = ce →
 (-9223372036854775808 : Int) ≤ (bb + 1) ∧ (bb + 1) < 9223372036854775808 ∧
 ∃ i2, i2 < i7 ∧ I1 i2 [.int .i64 (bb + 1)] fb)) ∧
 ((4 : Int) ≤ bb →
 R (.bool true) cu))))))) ∧
 (∀ (fg : World) (iu : List Nat), Ext no f3 fg → Priv f3 fg iu →
 Calls Try.prog 26 #[.agg #[.int .i64 a0, .int .i64 ad, .int .u64 a2, .int .i64 a5, .slice a1 a3 a4, .slice aa a8 a9]] fg fun j4 fc => ∃ (fd gn dv ei : Int) (dm : Option Addr) (dj d5 : Nat) (f8 : Option Addr) (f6 fi : Nat), j4 = .returned (.agg #[.int .i64 fd, .int .i64 gn, .int .u64 dv, .int .i64 ei, .slice dm dj d5, .slice f8 f6 fi]) ∧
 Keep iu fg fc ∧
 Keep [ep, b1] fg fc ∧
 cellsAt fc (a7.add 14) [.slice bv ch br, .int .i64 ak] 0 ∧
 ∀ (fp : World) (ix : List Nat), Ext (fun b => b ∈ iu) fc fp → PrivJ iu fc fp ix →
 Calls Try.prog 10 #[.agg #[.slice bv ch br, .int .i64 ak], .agg #[.int .i64 fd, .int .i64 gn, .int .u64 dv, .int .i64 ei, .slice dm dj d5, .slice f8 f6 fi]] fp fun il e8 => ∃ (i5 : Option Addr) (ib ij : Nat) (dr c2 : Int), il = .returned (.tuple #[.agg #[.slice i5 ib ij, .int .i64 dr], .int .i64 c2]) ∧
 Keep ix fp e8 ∧
 Keep [ep, b1] fp e8 ∧
 ∀ (al : World) (fr : Nat), Ext (fun b => b ∈ ix) e8 al → PrivJ ix e8 al [fr] →
 ∃ (c5 : Option Addr) (ca c8 : Nat) (ao : Int), cellsAt al (a7.add 16) [.slice c5 ca c8, .int .i64 ao] 0 ∧
 ∀ (b3 : World) (b2 : List Nat), Ext no al b3 → Priv al b3 b2 →
 Calls Try.prog 14 #[.agg #[.slice c5 ca c8, .int .i64 ao], .agg #[.int .i64 a0, .int .i64 ad, .int .u64 a2, .int .i64 a5, .slice a1 a3 a4, .slice aa a8 a9]] b3 fun fv ae => ∃ (ds : Option Addr) (dd d3 : Nat) (b9 a6 : Int), fv = .returned (.tuple #[.agg #[.slice ds dd d3, .int .i64 b9], .int .i64 a6]) ∧
 Keep b2 b3 ae ∧
 Keep [ep, b1, fr] b3 ae ∧
 (c2 ≠ a6 →
 ∀ (dn : World), Ext (fun b => b ∈ b2) ae dn →
 R (.bool false) dn) ∧
 (c2 = a6 →
 (a6 = 0 →
 ∀ (bh : World) (ew : Nat), Ext (fun b => b ∈ b2) ae bh → PrivJ b2 ae bh [ew] →
 Q07 bh ((a7.add 14).add 0) ∧
 (∀ p ∈ [b1, ew], p ≠ Addr.block (a7.add 14)) ∧
 thenW (bh.setCell ((a7.add 14).add 0) (.slice i5 ib ij)) fun db =>
 Q07 db ((a7.add 14).add 1) ∧
 thenW (db.setCell ((a7.add 14).add 1) (.int .i64 dr)) fun bp =>
 Q07 bp ((a7.add 16).add 0) ∧
 (∀ p ∈ [b1], p ≠ Addr.block (a7.add 16)) ∧
 thenW (bp.setCell ((a7.add 16).add 0) (.slice ds dd d3)) fun bo =>
 Q07 bo ((a7.add 16).add 1) ∧
 thenW (bo.setCell ((a7.add 16).add 1) (.int .i64 b9)) fun bq =>
 (a0 ≠ 3 →
 R (.bool true) bq) ∧
 (a0 = 3 →
 ∃ (I1 : Nat → List Value → World → Prop) (gv : Nat), I1 gv [.int .i64 0] bq ∧ ∀ (e1 : Nat) (ay : World) (ab : Int), I1 e1 [.int .i64 ab] ay →
 (ab < 4 →
 0 ≤ (ab : Int) ∧ (ab : Int) < (4 : Int) ∧
 ∃ (e6 : Option Addr), ay.cell? ((a7.add 6).add (Int.toNat ab * 1)) = some (.pointer e6) ∧
 0 ≤ (ab : Int) ∧ (ab : Int) < (4 : Int) ∧
 ∃ (cw : Option Addr), ay.cell? ((a7.add 10).add (Int.toNat ab * 1)) = some (.pointer cw) ∧
 ∃ (cy : Option Addr), ay.cell? (a7.add 1) = some (.pointer cy) ∧
 ∀ (c9 : World), Ext no ay c9 →
 Calls Try.prog 26 #[.agg #[.int .i64 a0, .int .i64 ad, .int .u64 a2, .int .i64 a5, .slice a1 a3 a4, .slice aa a8 a9]] c9 fun ez aq => ∃ (bd bz av b6 : Int) (ap : Option Addr) (am az : Nat) (bc : Option Addr) (bf bl : Nat), ez = .returned (.agg #[.int .i64 bd, .int .i64 bz, .int .u64 av, .int .i64 b6, .slice ap am az, .slice bc bf bl]) ∧
 Keep [b1] c9 aq ∧
 aq.cell? (a7.add 1) = some (.pointer cy) ∧
 aq.cell? ((a7.add 10).add (Int.toNat ab * 1)) = some (.pointer cw) ∧
 aq.cell? ((a7.add 6).add (Int.toNat ab * 1)) = some (.pointer e6) ∧
 Calls Try.prog 11 #[.pointer e6, .agg #[.int .i64 bd, .int .i64 bz, .int .u64 av, .int .i64 b6, .slice ap am az, .slice bc bf bl]] aq fun fk b7 => ∃ (af : Int), fk = .returned (.int .i64 af) ∧
 Keep [b1] aq b7 ∧
 b7.cell? (a7.add 1) = some (.pointer cy) ∧
 b7.cell? ((a7.add 10).add (Int.toNat ab * 1)) = some (.pointer cw) ∧
 Calls Try.prog 27 #[.pointer cw, .pointer cy, .agg #[.int .i64 a0, .int .i64 ad, .int .u64 a2, .int .i64 a5, .slice a1 a3 a4, .slice aa a8 a9]] b7 fun ey cb => ∃ (ah : Int), ey = .returned (.int .i64 ah) ∧
 Keep [b1] b7 cb ∧
 (af ≠ ah →
 R (.bool false) cb) ∧
 (af = ah →
 (-9223372036854775808 : Int) ≤ (ab + 1) ∧ (ab + 1) < 9223372036854775808 ∧
 ∃ f2, f2 < e1 ∧ I1 f2 [.int .i64 (ab + 1)] cb)) ∧
 ((4 : Int) ≤ ab →
 R (.bool true) ay))) ∧
 (a6 ≠ 0 →
 (a0 ≠ 3 →
 ∀ (dw : World), Ext (fun b => b ∈ b2) ae dw →
 R (.bool true) dw) ∧
 (a0 = 3 →
 (a6 ≠ 0 →
 ∀ (du : World), Ext (fun b => b ∈ b2) ae du →
 R (.bool true) du) ∧
 (a6 = 0 →
 ∀ (dk : World), Ext (fun b => b ∈ b2) ae dk →
 ∃ (I1 : Nat → List Value → World → Prop) (gp : Nat), I1 gp [.int .i64 0] dk ∧ ∀ (e0 : Nat) (ax : World) (ac : Int), I1 e0 [.int .i64 ac] ax →
 (ac < 4 →
 0 ≤ (ac : Int) ∧ (ac : Int) < (4 : Int) ∧
 ∃ (e5 : Option Addr), ax.cell? ((a7.add 6).add (Int.toNat ac * 1)) = some (.pointer e5) ∧
 0 ≤ (ac : Int) ∧ (ac : Int) < (4 : Int) ∧
 ∃ (cx : Option Addr), ax.cell? ((a7.add 10).add (Int.toNat ac * 1)) = some (.pointer cx) ∧
 ∃ (cv : Option Addr), ax.cell? (a7.add 1) = some (.pointer cv) ∧
 ∀ (bs : World), Ext no ax bs →
 Calls Try.prog 26 #[.agg #[.int .i64 a0, .int .i64 ad, .int .u64 a2, .int .i64 a5, .slice a1 a3 a4, .slice aa a8 a9]] bs fun f5 au => ∃ (bg c6 an b5 : Int) (b0 : Option Addr) (ar aw : Nat) (bj : Option Addr) (bk be : Nat), f5 = .returned (.agg #[.int .i64 bg, .int .i64 c6, .int .u64 an, .int .i64 b5, .slice b0 ar aw, .slice bj bk be]) ∧
 Keep [b1] bs au ∧
 au.cell? (a7.add 1) = some (.pointer cv) ∧
 au.cell? ((a7.add 10).add (Int.toNat ac * 1)) = some (.pointer cx) ∧
 au.cell? ((a7.add 6).add (Int.toNat ac * 1)) = some (.pointer e5) ∧
 Calls Try.prog 11 #[.pointer e5, .agg #[.int .i64 bg, .int .i64 c6, .int .u64 an, .int .i64 b5, .slice b0 ar aw, .slice bj bk be]] au fun fs b4 => ∃ (ai : Int), fs = .returned (.int .i64 ai) ∧
 Keep [b1] au b4 ∧
 b4.cell? (a7.add 1) = some (.pointer cv) ∧
 b4.cell? ((a7.add 10).add (Int.toNat ac * 1)) = some (.pointer cx) ∧
 Calls Try.prog 27 #[.pointer cx, .pointer cv, .agg #[.int .i64 a0, .int .i64 ad, .int .u64 a2, .int .i64 a5, .slice a1 a3 a4, .slice aa a8 a9]] b4 fun f1 bt => ∃ (ag : Int), f1 = .returned (.int .i64 ag) ∧
 Keep [b1] b4 bt ∧
 (ai ≠ ag →
 R (.bool false) bt) ∧
 (ai = ag →
 (-9223372036854775808 : Int) ≤ (ac + 1) ∧ (ac + 1) < 9223372036854775808 ∧
 ∃ fq, fq < e0 ∧ I1 fq [.int .i64 (ac + 1)] bt)) ∧
 ((4 : Int) ≤ ac →
 R (.bool true) ax))))))))))

theorem do3.up (ko : Option Addr) (e9 c1 : Int) (da : Option Addr) (d9 db : Nat) (fs : Option Addr) (fa em : Nat) {R : RW} {w : World} (h : do3.N ko e9 c1 da d9 db fs fa em R w) : Q00.M ko 3 e9 c1 da d9 db fs fa em R w := by
  unfold Q00.M
  unfold do3.N at h
  refine Q01 fun cq e7 => ?_
  have a7 := Blk.of_new e7
  have kk := ((Ext.refl no w)).size
  have kh := (Ext.refl no w).x_alloc e7
  refine ⟨e9, a7.celli 1 rfl rfl, ?_⟩
  refine ⟨c1, a7.celli 2 rfl rfl, ?_⟩
  refine Q01 fun l4 e8 => ?_
  have a0 := Blk.of_new e8
  have k9 := (kh).size
  have gh := Nat.ne_of_lt a7.lt
  have a7 := a7.x_alloc e8
  have ky := kh.x_alloc e8
  refine Q0g (k := 0) (j := 0) a0 (Nat.le_of_ble_eq_true rfl) fun kt X9 b9 => ?_
  have kw := ky.x_puts X9 (.inr k9)
  have a7 := a7.x_puts X9 gh
  have a0 : Blk kt cq.heap.size 67 [.int .i64 1, .int .i64 e9, .int .u64 c1, .int .i64 0, .slice none 0 0, .slice none 0 0] := b9
  refine ⟨3, a7.celli 0 rfl rfl, ?_⟩
  refine bif_ff (by decide) ?_
  refine bif_ff (by decide) ?_
  refine bif_tt (by decide) ?_
  refine Q01 fun fh jt => ?_
  have ek := kw.x_drew jt
  have a7 := a7.x_drew jt
  have a0 := a0.x_drew jt
  obtain ⟨l5, al, h⟩ := h
  refine Q03 al ?_
  obtain ⟨kx, j6, h⟩ := h
  refine ⟨kx, (ek).cell j6 id, ?_⟩
  refine Q03 al ?_
  obtain ⟨iv, j0, jj, f7, it, h⟩ := h
  refine ⟨iv, j0, jj, f7, Q0Z (ek) it, ?_⟩
  refine Q03 al ?_
  obtain ⟨gs, iw, h⟩ := h
  refine ⟨gs, (ek).cell iw id, ?_⟩
  refine ⟨?_, ?_⟩
  focus
   have h := h fh [w.heap.size, cq.heap.size] ek (Priv.cons kk a7.lt (Priv.cons k9 a0.lt Priv.nil))
   refine h.mono fun l0 g5 h => ?_
   obtain ⟨d2, ed, bt, c5, bw, bz, c2, ct, cw, cr, ex, cf, he, hkL, h⟩ := h
   refine ⟨d2, ed, bt, c5, bw, bz, c2, ct, cw, cr, ex, cf, he, ?_⟩
   have a7 := hkL.blk a7 (by simp)
   have a0 := hkL.blk a0 (by simp)
   refine Q01 fun je jk => ?_
   have ai := Blk.of_new jk
   have jn := ((Ext.refl (fun b => b ∈ ([w.heap.size, cq.heap.size] : List Nat)) g5)).size
   have f5 := Nat.ne_of_lt a7.lt
   have a7 := a7.x_alloc jk
   have fp := Nat.ne_of_lt a0.lt
   have a0 := a0.x_alloc jk
   have k6 := (Ext.refl (fun b => b ∈ ([w.heap.size, cq.heap.size] : List Nat)) g5).x_alloc jk
   refine Q0g (k := 0) (j := 0) ai (Nat.le_of_ble_eq_true rfl) fun i8 gn jq => ?_
   have gq := k6.x_puts gn (.inr jn)
   have a7 := a7.x_puts gn f5
   have a0 := a0.x_puts gn fp
   have ai : Blk i8 g5.heap.size 52 [.int .i64 d2, .int .i64 ed, .int .u64 bt, .int .i64 c5, .slice bw bz c2, .slice ct cw cr] := jq
   unfold Q00.J11
   refine Q01 fun b1 g2 => ?_
   have gp := gq.x_drew g2
   have a7 := a7.x_drew g2
   have a0 := a0.x_drew g2
   have ai := ai.x_drew g2
   refine Q03 al ?_
   have h := h b1 (w.heap.size) (cq.heap.size) (g5.heap.size) gp (PrivJ.cons (.inl (by simp)) a7.lt (PrivJ.cons (.inl (by simp)) a0.lt (PrivJ.cons (.inr jn) ai.lt PrivJ.nil)))
   obtain ⟨kc, fv, h⟩ := h
   refine ⟨kc, fv, ?_⟩
   refine Q03 al ?_
   obtain ⟨ep, fj, el, ch, fb, h⟩ := h
   refine ⟨ep, fj, el, ch, fb, ?_⟩
   refine Q03 al ?_
   obtain ⟨dt, et, h⟩ := h
   refine ⟨dt, et, ?_⟩
   refine ⟨?_, ?_⟩
   have h := h b1 [] (Ext.refl no b1) Priv.nil
   refine h.mono fun jz cs h => ?_
   obtain ⟨a5, ab, a2, a6, a1, a3, a4, a9, aa, a8, ca, ap, he, hkL, hk, h⟩ := h
   refine ⟨a5, ab, a2, a6, a1, a3, a4, a9, aa, a8, ca, ap, he, ?_⟩
   have a7 := hk.blk a7 (by simp)
   have a0 := hk.blk a0 (by simp)
   have ai := hk.blk ai (by simp)
   refine Q01 fun ew fc => ?_
   have ac := Blk.of_new fc
   have g3 := ((Ext.refl (fun b => b ∈ ([] : List Nat)) cs)).size
   have cp := Nat.ne_of_lt a7.lt
   have a7 := a7.x_alloc fc
   have c9 := Nat.ne_of_lt a0.lt
   have a0 := a0.x_alloc fc
   have cm := Nat.ne_of_lt ai.lt
   have ai := ai.x_alloc fc
   have gu := (Ext.refl (fun b => b ∈ ([] : List Nat)) cs).x_alloc fc
   refine Q0g (k := 0) (j := 0) ac (Nat.le_of_ble_eq_true rfl) fun dg cu gw => ?_
   have dk := gu.x_puts cu (.inr g3)
   have a7 := a7.x_puts cu cp
   have a0 := a0.x_puts cu c9
   have ai := ai.x_puts cu cm
   have ac : Blk dg cs.heap.size 67 [.int .i64 a5, .int .i64 ab, .int .u64 a2, .int .i64 a6, .slice a1 a3 a4, .slice a9 aa a8] := gw
   unfold Q00.J10
   refine Q01 fun bk cb => ?_
   have bm := dk.x_drew cb
   have a7 := a7.x_drew cb
   have a0 := a0.x_drew cb
   have ai := ai.x_drew cb
   have ac := ac.x_drew cb
   refine bif_of (fun dl => ?_) (fun dl => ?_)
   ·have h := h.1 (bne_t dl)
    have h := h bk bm
    exact h
   have h := h.2 (bne_f dl)
   refine bif_of (fun dx => ?_) (fun dx => ?_)
   ·have h := h.1 (bne_t dx)
    have h := h bk bm
    exact h
   have h := h.2 (bne_f dx)
   refine ⟨d2, ed, bt, c5, bw, bz, c2, ct, cw, cr, ⟨ai.celli 0 rfl rfl, ai.celli 1 rfl rfl, ai.celli 2 rfl rfl, ai.celli 3 rfl rfl, ai.celli 4 rfl rfl, ai.celli 5 rfl rfl, trivial⟩, ?_⟩
   refine ⟨a5, ab, a2, a6, a1, a3, a4, a9, aa, a8, ⟨ac.celli 0 rfl rfl, ac.celli 1 rfl rfl, ac.celli 2 rfl rfl, ac.celli 3 rfl rfl, ac.celli 4 rfl rfl, ac.celli 5 rfl rfl, trivial⟩, ?_⟩
   have h := h bk (cs.heap.size) bm (PrivJ.cons (.inr g3) ac.lt PrivJ.nil)
   refine h.mono fun ig gm h => ?_
   obtain ⟨bh, cd, ar, az, av, au, an, bf, bj, bi, he, hk, h⟩ := h
   refine ⟨bh, cd, ar, az, av, au, an, bf, bj, bi, he, ?_⟩
   have a7 := hk.blk a7 (by simp)
   have a0 := hk.blk a0 (by simp)
   have ac := hk.blk ac (by simp)
   refine ⟨⟨ac.celli 0 rfl rfl, ac.celli 1 rfl rfl, ac.celli 2 rfl rfl, ac.celli 3 rfl rfl, ac.celli 4 rfl rfl, ac.celli 5 rfl rfl, trivial⟩, ?_⟩
   refine h.mono fun i1 ee h => ?_
   obtain ⟨am, he, hk, h⟩ := h
   refine ⟨am, he, ?_⟩
   have a7 := hk.blk a7 (by simp)
   have a0 := hk.blk a0 (by simp)
   have ac := hk.blk ac (by simp)
   refine bif_of (fun dp => ?_) (fun dp => ?_)
   ·have h := h.1 (not_t dp)
    exact h
   have h := h.2 (not_f dp)
   rotate_left
   refine Q01 fun gx en => ?_
   have ac := Blk.of_new en
   have g3 := ((Ext.refl no b1)).size
   have cp := Nat.ne_of_lt a7.lt
   have a7 := a7.x_alloc en
   have c9 := Nat.ne_of_lt a0.lt
   have a0 := a0.x_alloc en
   have cm := Nat.ne_of_lt ai.lt
   have ai := ai.x_alloc en
   have d3 := (Ext.refl no b1).x_alloc en
   refine ⟨(d3).cell et id, Q0Z (d3) fb, (d3).cell fv id, ?_⟩
   have h := h gx [b1.heap.size] d3 (Priv.cons g3 ac.lt Priv.nil)
   refine h.mono fun k0 ew h => ?_
   obtain ⟨a5, ab, a2, a6, a1, a3, a4, a9, aa, a8, ap, cc, he, hkL, hk, h⟩ := h
   refine ⟨a5, ab, a2, a6, a1, a3, a4, a9, aa, a8, ap, cc, he, ?_⟩
   have ac := hkL.blk ac (by simp)
   have a7 := hk.blk a7 (by simp)
   have a0 := hk.blk a0 (by simp)
   have ai := hk.blk ai (by simp)
   refine Q0g (k := 0) (j := 0) ac (Nat.le_of_ble_eq_true rfl) fun dg cu gw => ?_
   have dk := (Ext.refl (fun b => b ∈ ([b1.heap.size] : List Nat)) ew).x_puts cu (.inl (by simp))
   have a7 := a7.x_puts cu cp
   have a0 := a0.x_puts cu c9
   have ai := ai.x_puts cu cm
   have ac : Blk dg b1.heap.size 67 [.int .i64 a5, .int .i64 ab, .int .u64 a2, .int .i64 a6, .slice a1 a3 a4, .slice a9 aa a8] := gw
   unfold Q00.J10
   refine Q01 fun bk cb => ?_
   have bm := dk.x_drew cb
   have a7 := a7.x_drew cb
   have a0 := a0.x_drew cb
   have ai := ai.x_drew cb
   have ac := ac.x_drew cb
   refine bif_of (fun dl => ?_) (fun dl => ?_)
   ·have h := h.1 (bne_t dl)
    have h := h bk bm
    exact h
   have h := h.2 (bne_f dl)
   refine bif_of (fun dx => ?_) (fun dx => ?_)
   ·have h := h.1 (bne_t dx)
    have h := h bk bm
    exact h
   have h := h.2 (bne_f dx)
   refine ⟨d2, ed, bt, c5, bw, bz, c2, ct, cw, cr, ⟨ai.celli 0 rfl rfl, ai.celli 1 rfl rfl, ai.celli 2 rfl rfl, ai.celli 3 rfl rfl, ai.celli 4 rfl rfl, ai.celli 5 rfl rfl, trivial⟩, ?_⟩
   refine ⟨a5, ab, a2, a6, a1, a3, a4, a9, aa, a8, ⟨ac.celli 0 rfl rfl, ac.celli 1 rfl rfl, ac.celli 2 rfl rfl, ac.celli 3 rfl rfl, ac.celli 4 rfl rfl, ac.celli 5 rfl rfl, trivial⟩, ?_⟩
   have h := h bk (b1.heap.size) bm (PrivJ.cons (.inl (by simp)) ac.lt PrivJ.nil)
   refine h.mono fun ig gm h => ?_
   obtain ⟨bh, cd, ar, az, av, au, an, bf, bj, bi, he, hk, h⟩ := h
   refine ⟨bh, cd, ar, az, av, au, an, bf, bj, bi, he, ?_⟩
   have a7 := hk.blk a7 (by simp)
   have a0 := hk.blk a0 (by simp)
   have ac := hk.blk ac (by simp)
   refine ⟨⟨ac.celli 0 rfl rfl, ac.celli 1 rfl rfl, ac.celli 2 rfl rfl, ac.celli 3 rfl rfl, ac.celli 4 rfl rfl, ac.celli 5 rfl rfl, trivial⟩, ?_⟩
   refine h.mono fun i1 ee h => ?_
   obtain ⟨am, he, hk, h⟩ := h
   refine ⟨am, he, ?_⟩
   have a7 := hk.blk a7 (by simp)
   have a0 := hk.blk a0 (by simp)
   have ac := hk.blk ac (by simp)
   refine bif_of (fun dp => ?_) (fun dp => ?_)
   ·have h := h.1 (not_t dp)
    exact h
   have h := h.2 (not_f dp)
   rotate_left
  rotate_left 2
  focus
   refine Q01 fun jv jo => ?_
   have ai := Blk.of_new jo
   have jn := (ek).size
   have f5 := Nat.ne_of_lt a7.lt
   have a7 := a7.x_alloc jo
   have fp := Nat.ne_of_lt a0.lt
   have a0 := a0.x_alloc jo
   have g0 := ek.x_alloc jo
   refine ⟨(g0).cell iw id, Q0Z (g0) it, (g0).cell j6 id, ?_⟩
   have h := h jv [w.heap.size, cq.heap.size, fh.heap.size] g0 (Priv.cons kk a7.lt (Priv.cons k9 a0.lt (Priv.cons jn ai.lt Priv.nil)))
   refine h.mono fun ku je h => ?_
   obtain ⟨d0, eb, bx, c7, c3, bs, c0, cy, cx, d1, cf, ey, he, hkL, h⟩ := h
   refine ⟨d0, eb, bx, c7, c3, bs, c0, cy, cx, d1, cf, ey, he, ?_⟩
   have a7 := hkL.blk a7 (by simp)
   have a0 := hkL.blk a0 (by simp)
   have ai := hkL.blk ai (by simp)
   refine Q0g (k := 0) (j := 0) ai (Nat.le_of_ble_eq_true rfl) fun i8 gn jq => ?_
   have gq := (Ext.refl (fun b => b ∈ ([w.heap.size, cq.heap.size, fh.heap.size] : List Nat)) je).x_puts gn (.inl (by simp))
   have a7 := a7.x_puts gn f5
   have a0 := a0.x_puts gn fp
   have ai : Blk i8 fh.heap.size 52 [.int .i64 d0, .int .i64 eb, .int .u64 bx, .int .i64 c7, .slice c3 bs c0, .slice cy cx d1] := jq
   unfold Q00.J11
   refine Q01 fun b1 g2 => ?_
   have gp := gq.x_drew g2
   have a7 := a7.x_drew g2
   have a0 := a0.x_drew g2
   have ai := ai.x_drew g2
   refine Q03 al ?_
   have h := h b1 (w.heap.size) (cq.heap.size) (fh.heap.size) gp (PrivJ.cons (.inl (by simp)) a7.lt (PrivJ.cons (.inl (by simp)) a0.lt (PrivJ.cons (.inl (by simp)) ai.lt PrivJ.nil)))
   obtain ⟨kc, fv, h⟩ := h
   refine ⟨kc, fv, ?_⟩
   refine Q03 al ?_
   obtain ⟨ep, fj, el, ch, fb, h⟩ := h
   refine ⟨ep, fj, el, ch, fb, ?_⟩
   refine Q03 al ?_
   obtain ⟨dt, et, h⟩ := h
   refine ⟨dt, et, ?_⟩
   refine ⟨?_, ?_⟩
   have h := h b1 [] (Ext.refl no b1) Priv.nil
   refine h.mono fun jz cs h => ?_
   obtain ⟨a5, ab, a2, a6, a1, a3, a4, a9, aa, a8, ca, ap, he, hkL, hk, h⟩ := h
   refine ⟨a5, ab, a2, a6, a1, a3, a4, a9, aa, a8, ca, ap, he, ?_⟩
   have a7 := hk.blk a7 (by simp)
   have a0 := hk.blk a0 (by simp)
   have ai := hk.blk ai (by simp)
   refine Q01 fun ew fc => ?_
   have ac := Blk.of_new fc
   have g3 := ((Ext.refl (fun b => b ∈ ([] : List Nat)) cs)).size
   have cp := Nat.ne_of_lt a7.lt
   have a7 := a7.x_alloc fc
   have c9 := Nat.ne_of_lt a0.lt
   have a0 := a0.x_alloc fc
   have cm := Nat.ne_of_lt ai.lt
   have ai := ai.x_alloc fc
   have gu := (Ext.refl (fun b => b ∈ ([] : List Nat)) cs).x_alloc fc
   refine Q0g (k := 0) (j := 0) ac (Nat.le_of_ble_eq_true rfl) fun dg cu gw => ?_
   have dk := gu.x_puts cu (.inr g3)
   have a7 := a7.x_puts cu cp
   have a0 := a0.x_puts cu c9
   have ai := ai.x_puts cu cm
   have ac : Blk dg cs.heap.size 67 [.int .i64 a5, .int .i64 ab, .int .u64 a2, .int .i64 a6, .slice a1 a3 a4, .slice a9 aa a8] := gw
   unfold Q00.J10
   refine Q01 fun bk cb => ?_
   have bm := dk.x_drew cb
   have a7 := a7.x_drew cb
   have a0 := a0.x_drew cb
   have ai := ai.x_drew cb
   have ac := ac.x_drew cb
   refine bif_of (fun dl => ?_) (fun dl => ?_)
   ·have h := h.1 (bne_t dl)
    have h := h bk bm
    exact h
   have h := h.2 (bne_f dl)
   refine bif_of (fun dx => ?_) (fun dx => ?_)
   ·have h := h.1 (bne_t dx)
    have h := h bk bm
    exact h
   have h := h.2 (bne_f dx)
   refine ⟨d0, eb, bx, c7, c3, bs, c0, cy, cx, d1, ⟨ai.celli 0 rfl rfl, ai.celli 1 rfl rfl, ai.celli 2 rfl rfl, ai.celli 3 rfl rfl, ai.celli 4 rfl rfl, ai.celli 5 rfl rfl, trivial⟩, ?_⟩
   refine ⟨a5, ab, a2, a6, a1, a3, a4, a9, aa, a8, ⟨ac.celli 0 rfl rfl, ac.celli 1 rfl rfl, ac.celli 2 rfl rfl, ac.celli 3 rfl rfl, ac.celli 4 rfl rfl, ac.celli 5 rfl rfl, trivial⟩, ?_⟩
   have h := h bk (cs.heap.size) bm (PrivJ.cons (.inr g3) ac.lt PrivJ.nil)
   refine h.mono fun ig gm h => ?_
   obtain ⟨bh, cd, ar, az, av, au, an, bf, bj, bi, he, hk, h⟩ := h
   refine ⟨bh, cd, ar, az, av, au, an, bf, bj, bi, he, ?_⟩
   have a7 := hk.blk a7 (by simp)
   have a0 := hk.blk a0 (by simp)
   have ac := hk.blk ac (by simp)
   refine ⟨⟨ac.celli 0 rfl rfl, ac.celli 1 rfl rfl, ac.celli 2 rfl rfl, ac.celli 3 rfl rfl, ac.celli 4 rfl rfl, ac.celli 5 rfl rfl, trivial⟩, ?_⟩
   refine h.mono fun i1 ee h => ?_
   obtain ⟨am, he, hk, h⟩ := h
   refine ⟨am, he, ?_⟩
   have a7 := hk.blk a7 (by simp)
   have a0 := hk.blk a0 (by simp)
   have ac := hk.blk ac (by simp)
   refine bif_of (fun dp => ?_) (fun dp => ?_)
   ·have h := h.1 (not_t dp)
    exact h
   have h := h.2 (not_f dp)
   rotate_left
   refine Q01 fun gx en => ?_
   have ac := Blk.of_new en
   have g3 := ((Ext.refl no b1)).size
   have cp := Nat.ne_of_lt a7.lt
   have a7 := a7.x_alloc en
   have c9 := Nat.ne_of_lt a0.lt
   have a0 := a0.x_alloc en
   have cm := Nat.ne_of_lt ai.lt
   have ai := ai.x_alloc en
   have d3 := (Ext.refl no b1).x_alloc en
   refine ⟨(d3).cell et id, Q0Z (d3) fb, (d3).cell fv id, ?_⟩
   have h := h gx [b1.heap.size] d3 (Priv.cons g3 ac.lt Priv.nil)
   refine h.mono fun k0 ew h => ?_
   obtain ⟨a5, ab, a2, a6, a1, a3, a4, a9, aa, a8, ap, cc, he, hkL, hk, h⟩ := h
   refine ⟨a5, ab, a2, a6, a1, a3, a4, a9, aa, a8, ap, cc, he, ?_⟩
   have ac := hkL.blk ac (by simp)
   have a7 := hk.blk a7 (by simp)
   have a0 := hk.blk a0 (by simp)
   have ai := hk.blk ai (by simp)
   refine Q0g (k := 0) (j := 0) ac (Nat.le_of_ble_eq_true rfl) fun dg cu gw => ?_
   have dk := (Ext.refl (fun b => b ∈ ([b1.heap.size] : List Nat)) ew).x_puts cu (.inl (by simp))
   have a7 := a7.x_puts cu cp
   have a0 := a0.x_puts cu c9
   have ai := ai.x_puts cu cm
   have ac : Blk dg b1.heap.size 67 [.int .i64 a5, .int .i64 ab, .int .u64 a2, .int .i64 a6, .slice a1 a3 a4, .slice a9 aa a8] := gw
   unfold Q00.J10
   refine Q01 fun bk cb => ?_
   have bm := dk.x_drew cb
   have a7 := a7.x_drew cb
   have a0 := a0.x_drew cb
   have ai := ai.x_drew cb
   have ac := ac.x_drew cb
   refine bif_of (fun dl => ?_) (fun dl => ?_)
   ·have h := h.1 (bne_t dl)
    have h := h bk bm
    exact h
   have h := h.2 (bne_f dl)
   refine bif_of (fun dx => ?_) (fun dx => ?_)
   ·have h := h.1 (bne_t dx)
    have h := h bk bm
    exact h
   have h := h.2 (bne_f dx)
   refine ⟨d0, eb, bx, c7, c3, bs, c0, cy, cx, d1, ⟨ai.celli 0 rfl rfl, ai.celli 1 rfl rfl, ai.celli 2 rfl rfl, ai.celli 3 rfl rfl, ai.celli 4 rfl rfl, ai.celli 5 rfl rfl, trivial⟩, ?_⟩
   refine ⟨a5, ab, a2, a6, a1, a3, a4, a9, aa, a8, ⟨ac.celli 0 rfl rfl, ac.celli 1 rfl rfl, ac.celli 2 rfl rfl, ac.celli 3 rfl rfl, ac.celli 4 rfl rfl, ac.celli 5 rfl rfl, trivial⟩, ?_⟩
   have h := h bk (b1.heap.size) bm (PrivJ.cons (.inl (by simp)) ac.lt PrivJ.nil)
   refine h.mono fun ig gm h => ?_
   obtain ⟨bh, cd, ar, az, av, au, an, bf, bj, bi, he, hk, h⟩ := h
   refine ⟨bh, cd, ar, az, av, au, an, bf, bj, bi, he, ?_⟩
   have a7 := hk.blk a7 (by simp)
   have a0 := hk.blk a0 (by simp)
   have ac := hk.blk ac (by simp)
   refine ⟨⟨ac.celli 0 rfl rfl, ac.celli 1 rfl rfl, ac.celli 2 rfl rfl, ac.celli 3 rfl rfl, ac.celli 4 rfl rfl, ac.celli 5 rfl rfl, trivial⟩, ?_⟩
   refine h.mono fun i1 ee h => ?_
   obtain ⟨am, he, hk, h⟩ := h
   refine ⟨am, he, ?_⟩
   have a7 := hk.blk a7 (by simp)
   have a0 := hk.blk a0 (by simp)
   have ac := hk.blk ac (by simp)
   refine bif_of (fun dp => ?_) (fun dp => ?_)
   ·have h := h.1 (not_t dp)
    exact h
   have h := h.2 (not_f dp)
   rotate_left
  rotate_left 2
  all_goals
   unfold Q00.J9
   refine bif_of (fun ju => ?_) (fun ju => ?_)
   ·have h := h.1 (bne_t ju)
    exact h
   have h := h.2 (bne_f ju)
   unfold Q00.J8
   refine ⟨a5, ab, a2, a6, a1, a3, a4, a9, aa, a8, ⟨ac.celli 0 rfl rfl, ac.celli 1 rfl rfl, ac.celli 2 rfl rfl, ac.celli 3 rfl rfl, ac.celli 4 rfl rfl, ac.celli 5 rfl rfl, trivial⟩, ?_⟩
   have k3 : Ext (fun b => b = cq.heap.size) ee ee := ((Ext.refl no ee)).none
   refine Q0g (k := 0) (j := 0) a0 (Nat.le_of_ble_eq_true rfl) fun iy kr kz => ?_
   have kd := k3.x_puts kr (.inl rfl)
   have a7 := a7.x_puts kr gh
   have a0 : Blk iy cq.heap.size 67 [.int .i64 a5, .int .i64 ab, .int .u64 a2, .int .i64 a6, .slice a1 a3 a4, .slice a9 aa a8] := kz
   refine Q03 al ?_
   have h := h iy kd
   obtain ⟨hcs, hof, h⟩ := h
   refine ⟨hcs, Q01 fun js k4 => ?_⟩
   replace h := Q0f h k4
   have a7 := a7.off (by rw [Q0a]; exact hof _ (by simp)) k4
   have a0 := a0.off (by rw [Q0a]; exact hof _ (by simp)) k4
   unfold Q00.J7
   refine Q01 fun dy jw => ?_
   have fw := (Ext.refl no js).x_drew jw
   have a7 := a7.x_drew jw
   have a0 := a0.x_drew jw
   refine Q03 al ?_
   obtain ⟨ja, ji, j9, eq, iq, h⟩ := h
   refine ⟨ja, ji, j9, eq, Q0Z (fw) iq, ?_⟩
   refine ⟨a5, ab, a2, a6, a1, a3, a4, a9, aa, a8, ⟨a0.celli 0 rfl rfl, a0.celli 1 rfl rfl, a0.celli 2 rfl rfl, a0.celli 3 rfl rfl, a0.celli 4 rfl rfl, a0.celli 5 rfl rfl, trivial⟩, ?_⟩
   obtain ⟨h0', h1'⟩ := h
   refine ⟨?_, ?_⟩
   focus
    have h := h0'
    have h := h dy [] fw Priv.nil
    refine h.mono fun kv e2 h => ?_
    obtain ⟨i5, j5, fk, ge, er, eu, f0, gk, gr, gv, he, hkL, hk, h⟩ := h
    refine ⟨i5, j5, fk, ge, er, eu, f0, gk, gr, gv, he, ?_⟩
    have a7 := hk.blk a7 (by simp)
    have a0 := hk.blk a0 (by simp)
    obtain ⟨k8, h⟩ := h
    refine ⟨k8, ?_⟩
    obtain ⟨h0', h1'⟩ := h
    refine ⟨?_, ?_⟩
    focus
     have h := h0'
     have h := h e2 [] (Ext.refl (fun b => b ∈ ([] : List Nat)) e2) PrivJ.nil
     refine h.mono fun kq e4 h => ?_
     obtain ⟨ga, g8, fy, c6, ff, he, hkL, hk, h⟩ := h
     refine ⟨ga, g8, fy, c6, ff, he, ?_⟩
     have a7 := hk.blk a7 (by simp)
     have a0 := hk.blk a0 (by simp)
     refine Q01 fun gg g9 => ?_
     have ae := Blk.of_new g9
     have ij := ((Ext.refl (fun b => b ∈ ([] : List Nat)) e4)).size
     have d5 := Nat.ne_of_lt a7.lt
     have a7 := a7.x_alloc g9
     have dc := Nat.ne_of_lt a0.lt
     have a0 := a0.x_alloc g9
     have j3 := (Ext.refl (fun b => b ∈ ([] : List Nat)) e4).x_alloc g9
     refine Q0g (k := 0) (j := 0) ae (Nat.le_of_ble_eq_true rfl) fun ft dj i9 => ?_
     have f1 := j3.x_puts dj (.inr ij)
     have a7 := a7.x_puts dj d5
     have a0 := a0.x_puts dj dc
     have ae : Blk ft e4.heap.size 43 [.slice ga g8 fy, .int .i64 c6] := i9
     unfold Q00.J6
     refine Q01 fun ag cz => ?_
     have fr := f1.x_drew cz
     have a7 := a7.x_drew cz
     have a0 := a0.x_drew cz
     have ae := ae.x_drew cz
     refine Q03 al ?_
     have h := h ag (e4.heap.size) fr (PrivJ.cons (.inr ij) ae.lt PrivJ.nil)
     obtain ⟨e0, e1, dq, c4, de, h⟩ := h
     refine ⟨e0, e1, dq, c4, de, ?_⟩
     refine ⟨a5, ab, a2, a6, a1, a3, a4, a9, aa, a8, ⟨a0.celli 0 rfl rfl, a0.celli 1 rfl rfl, a0.celli 2 rfl rfl, a0.celli 3 rfl rfl, a0.celli 4 rfl rfl, a0.celli 5 rfl rfl, trivial⟩, ?_⟩
     refine ⟨?_, ?_⟩
     focus
      have h := h ag [] (Ext.refl no ag) Priv.nil
      refine h.mono fun jh bv h => ?_
      obtain ⟨ck, cn, cg, aq, cl, he, hkL, hk, h⟩ := h
      refine ⟨ck, cn, cg, aq, cl, he, ?_⟩
      have a7 := hk.blk a7 (by simp)
      have a0 := hk.blk a0 (by simp)
      have ae := hk.blk ae (by simp)
      refine Q01 fun bc ci => ?_
      have ak := Blk.of_new ci
      have ec := ((Ext.refl (fun b => b ∈ ([] : List Nat)) bv)).size
      have b6 := Nat.ne_of_lt a7.lt
      have a7 := a7.x_alloc ci
      have ba := Nat.ne_of_lt a0.lt
      have a0 := a0.x_alloc ci
      have b7 := Nat.ne_of_lt ae.lt
      have ae := ae.x_alloc ci
      have fe := (Ext.refl (fun b => b ∈ ([] : List Nat)) bv).x_alloc ci
      refine Q0g (k := 0) (j := 0) ak (Nat.le_of_ble_eq_true rfl) fun ad b0 dh => ?_
      have af := fe.x_puts b0 (.inr ec)
      have a7 := a7.x_puts b0 b6
      have a0 := a0.x_puts b0 ba
      have ae := ae.x_puts b0 b7
      have ak : Blk ad bv.heap.size 46 [.slice ck cn cg, .int .i64 aq] := dh
      unfold Q00.J5
      refine bif_of (fun be => ?_) (fun be => ?_)
      ·have h := h.1 (bne_t be)
       have h := h ad af
       exact h
      have h := h.2 (bne_f be)
      unfold Q00.J4
      refine bif_of (fun ay => ?_) (fun ay => ?_)
      have h := h.1 (beq_t ay)
      refine ⟨ga, g8, fy, c6, ⟨ae.celli 0 rfl rfl, ae.celli 1 rfl rfl, trivial⟩, ?_⟩
      refine Q03 al ?_
      have h := h ad (bv.heap.size) af (PrivJ.cons (.inr ec) ak.lt PrivJ.nil)
      obtain ⟨hcs, hof, h⟩ := h
      refine ⟨hcs, Q01 fun ev bp => ?_⟩
      replace h := Q0f h bp
      have a0 := a0.off (by rw [Q0a]; exact hof _ (by simp)) bp
      have ak := ak.off (by rw [Q0a]; exact hof _ (by simp)) bp
      obtain ⟨hcs, h⟩ := h
      refine ⟨hcs, Q01 fun d7 ao => ?_⟩
      replace h := Q0f h ao
      have a0 := a0.off (by rw [Q0a]; exact hof _ (by simp)) ao
      have ak := ak.off (by rw [Q0a]; exact hof _ (by simp)) ao
      refine ⟨ck, cn, cg, aq, ⟨ak.celli 0 rfl rfl, ak.celli 1 rfl rfl, trivial⟩, ?_⟩
      refine Q03 al ?_
      obtain ⟨hcs, hof, h⟩ := h
      refine ⟨hcs, Q01 fun d6 ax => ?_⟩
      replace h := Q0f h ax
      have a0 := a0.off (by rw [Q0a]; exact hof _ (by simp)) ax
      obtain ⟨hcs, h⟩ := h
      refine ⟨hcs, Q01 fun d8 b5 => ?_⟩
      replace h := Q0f h b5
      have a0 := a0.off (by rw [Q0a]; exact hof _ (by simp)) b5
      unfold Q00.J3
      refine ⟨a5, a0.celli 0 rfl rfl, ?_⟩
      refine bif_of (fun bo => ?_) (fun bo => ?_)
      ·have h := h.1 (bne_t bo)
       exact h
      have h := h.2 (bne_f bo)
      refine bif_ff (cong1 (r := false) (fun z => z != 0) (beq_t ay) (by decide)) ?_
      unfold Q00.J2
      obtain ⟨I1, ds, h0, h⟩ := h
      refine ⟨fun k vs ww => Blk ww cq.heap.size 67 [.int .i64 a5, .int .i64 ab, .int .u64 a2, .int .i64 a6, .slice a1 a3 a4, .slice a9 aa a8] ∧ I1 k vs ww, ds, ⟨a0, h0⟩, fun ce ah dz hI => ?_⟩
      obtain ⟨a0, hI⟩ := hI
      have h := h ce ah dz hI
      refine bif_fo (fun bd => ?_) (fun bd => ?_)
      ·have h := h.2 (Int.not_lt.1 (of_decide_eq_false bd))
       exact h
      have h := h.1 (of_decide_eq_true bd)
      rotate_left
      have h := h.2 (beq_f ay)
      unfold Q00.J3
      refine ⟨a5, a0.celli 0 rfl rfl, ?_⟩
      refine bif_of (fun bg => ?_) (fun bg => ?_)
      ·have h := h.1 (bne_t bg)
       have h := h ad af
       exact h
      have h := h.2 (bne_f bg)
      refine bif_of (fun bl => ?_) (fun bl => ?_)
      ·have h := h.1 (bne_t bl)
       refine ⟨3, a7.celli 0 rfl rfl, ?_⟩
       refine bif_tt (by decide) ?_
       have h := h ad af
       exact h
      have h := h.2 (bne_f bl)
      unfold Q00.J2
      have h := h ad af
      obtain ⟨I1, di, h0, h⟩ := h
      refine ⟨fun k vs ww => Blk ww cq.heap.size 67 [.int .i64 a5, .int .i64 ab, .int .u64 a2, .int .i64 a6, .slice a1 a3 a4, .slice a9 aa a8] ∧ I1 k vs ww, di, ⟨a0, h0⟩, fun co ah dr hI => ?_⟩
      obtain ⟨a0, hI⟩ := hI
      have h := h co ah dr hI
      refine bif_fo (fun bn => ?_) (fun bn => ?_)
      ·have h := h.2 (Int.not_lt.1 (of_decide_eq_false bn))
       exact h
      have h := h.1 (of_decide_eq_true bn)
      rotate_left
     rotate_left 2
     focus
      refine Q01 fun fg c8 => ?_
      have ak := Blk.of_new c8
      have ec := ((Ext.refl no ag)).size
      have b6 := Nat.ne_of_lt a7.lt
      have a7 := a7.x_alloc c8
      have ba := Nat.ne_of_lt a0.lt
      have a0 := a0.x_alloc c8
      have b7 := Nat.ne_of_lt ae.lt
      have ae := ae.x_alloc c8
      have dd := (Ext.refl no ag).x_alloc c8
      refine ⟨⟨a0.celli 0 rfl rfl, a0.celli 1 rfl rfl, a0.celli 2 rfl rfl, a0.celli 3 rfl rfl, a0.celli 4 rfl rfl, a0.celli 5 rfl rfl, trivial⟩, Q0Z (dd) de, ?_⟩
      have h := h fg [ag.heap.size] dd (Priv.cons ec ak.lt Priv.nil)
      refine h.mono fun gj bc h => ?_
      obtain ⟨b2, bb, b8, aj, b3, he, hkL, hk, h⟩ := h
      refine ⟨b2, bb, b8, aj, b3, he, ?_⟩
      have ak := hkL.blk ak (by simp)
      have a7 := hk.blk a7 (by simp)
      have a0 := hk.blk a0 (by simp)
      have ae := hk.blk ae (by simp)
      refine Q0g (k := 0) (j := 0) ak (Nat.le_of_ble_eq_true rfl) fun ad b0 dh => ?_
      have af := (Ext.refl (fun b => b ∈ ([ag.heap.size] : List Nat)) bc).x_puts b0 (.inl (by simp))
      have a7 := a7.x_puts b0 b6
      have a0 := a0.x_puts b0 ba
      have ae := ae.x_puts b0 b7
      have ak : Blk ad ag.heap.size 46 [.slice b2 bb b8, .int .i64 aj] := dh
      unfold Q00.J5
      refine bif_of (fun be => ?_) (fun be => ?_)
      ·have h := h.1 (bne_t be)
       have h := h ad af
       exact h
      have h := h.2 (bne_f be)
      unfold Q00.J4
      refine bif_of (fun ay => ?_) (fun ay => ?_)
      have h := h.1 (beq_t ay)
      refine ⟨ga, g8, fy, c6, ⟨ae.celli 0 rfl rfl, ae.celli 1 rfl rfl, trivial⟩, ?_⟩
      refine Q03 al ?_
      have h := h ad (ag.heap.size) af (PrivJ.cons (.inl (by simp)) ak.lt PrivJ.nil)
      obtain ⟨hcs, hof, h⟩ := h
      refine ⟨hcs, Q01 fun ev bp => ?_⟩
      replace h := Q0f h bp
      have a0 := a0.off (by rw [Q0a]; exact hof _ (by simp)) bp
      have ak := ak.off (by rw [Q0a]; exact hof _ (by simp)) bp
      obtain ⟨hcs, h⟩ := h
      refine ⟨hcs, Q01 fun d7 ao => ?_⟩
      replace h := Q0f h ao
      have a0 := a0.off (by rw [Q0a]; exact hof _ (by simp)) ao
      have ak := ak.off (by rw [Q0a]; exact hof _ (by simp)) ao
      refine ⟨b2, bb, b8, aj, ⟨ak.celli 0 rfl rfl, ak.celli 1 rfl rfl, trivial⟩, ?_⟩
      refine Q03 al ?_
      obtain ⟨hcs, hof, h⟩ := h
      refine ⟨hcs, Q01 fun d6 ax => ?_⟩
      replace h := Q0f h ax
      have a0 := a0.off (by rw [Q0a]; exact hof _ (by simp)) ax
      obtain ⟨hcs, h⟩ := h
      refine ⟨hcs, Q01 fun d8 b5 => ?_⟩
      replace h := Q0f h b5
      have a0 := a0.off (by rw [Q0a]; exact hof _ (by simp)) b5
      unfold Q00.J3
      refine ⟨a5, a0.celli 0 rfl rfl, ?_⟩
      refine bif_of (fun bo => ?_) (fun bo => ?_)
      ·have h := h.1 (bne_t bo)
       exact h
      have h := h.2 (bne_f bo)
      refine bif_ff (cong1 (r := false) (fun z => z != 0) (beq_t ay) (by decide)) ?_
      unfold Q00.J2
      obtain ⟨I1, ds, h0, h⟩ := h
      refine ⟨fun k vs ww => Blk ww cq.heap.size 67 [.int .i64 a5, .int .i64 ab, .int .u64 a2, .int .i64 a6, .slice a1 a3 a4, .slice a9 aa a8] ∧ I1 k vs ww, ds, ⟨a0, h0⟩, fun ce ah dz hI => ?_⟩
      obtain ⟨a0, hI⟩ := hI
      have h := h ce ah dz hI
      refine bif_fo (fun bd => ?_) (fun bd => ?_)
      ·have h := h.2 (Int.not_lt.1 (of_decide_eq_false bd))
       exact h
      have h := h.1 (of_decide_eq_true bd)
      rotate_left
      have h := h.2 (beq_f ay)
      unfold Q00.J3
      refine ⟨a5, a0.celli 0 rfl rfl, ?_⟩
      refine bif_of (fun bg => ?_) (fun bg => ?_)
      ·have h := h.1 (bne_t bg)
       have h := h ad af
       exact h
      have h := h.2 (bne_f bg)
      refine bif_of (fun bl => ?_) (fun bl => ?_)
      ·have h := h.1 (bne_t bl)
       refine ⟨3, a7.celli 0 rfl rfl, ?_⟩
       refine bif_tt (by decide) ?_
       have h := h ad af
       exact h
      have h := h.2 (bne_f bl)
      unfold Q00.J2
      have h := h ad af
      obtain ⟨I1, di, h0, h⟩ := h
      refine ⟨fun k vs ww => Blk ww cq.heap.size 67 [.int .i64 a5, .int .i64 ab, .int .u64 a2, .int .i64 a6, .slice a1 a3 a4, .slice a9 aa a8] ∧ I1 k vs ww, di, ⟨a0, h0⟩, fun co ah dr hI => ?_⟩
      obtain ⟨a0, hI⟩ := hI
      have h := h co ah dr hI
      refine bif_fo (fun bn => ?_) (fun bn => ?_)
      ·have h := h.2 (Int.not_lt.1 (of_decide_eq_false bn))
       exact h
      have h := h.1 (of_decide_eq_true bn)
      rotate_left
     rotate_left 2
    rotate_left 4
    focus
     have h := h1'
     refine Q01 fun i2 jm => ?_
     have ae := Blk.of_new jm
     have ij := ((Ext.refl (fun b => b ∈ ([] : List Nat)) e2)).size
     have d5 := Nat.ne_of_lt a7.lt
     have a7 := a7.x_alloc jm
     have dc := Nat.ne_of_lt a0.lt
     have a0 := a0.x_alloc jm
     have jx := (Ext.refl (fun b => b ∈ ([] : List Nat)) e2).x_alloc jm
     have h := h i2 (e2.heap.size) jx (PrivJ.cons (.inr ij) ae.lt PrivJ.nil)
     obtain ⟨jp, h⟩ := h
     refine ⟨jp, ?_⟩
     have h := h i2 [] (Ext.refl no i2) Priv.nil
     refine h.mono fun kn ag h => ?_
     obtain ⟨e5, e3, ea, bq, fo, he, hkL, hk, h⟩ := h
     refine ⟨e5, e3, ea, bq, fo, he, ?_⟩
     have a7 := hk.blk a7 (by simp)
     have a0 := hk.blk a0 (by simp)
     have ae := hk.blk ae (by simp)
     have h := h ag (Ext.refl (fun b => b ∈ ([] : List Nat)) ag)
     have j4 : Ext (fun b => b = e2.heap.size) ag ag := ((Ext.refl no ag)).none
     refine Q0g (k := 0) (j := 0) ae (Nat.le_of_ble_eq_true rfl) fun j2 i0 k2 => ?_
     have ix := j4.x_puts i0 (.inl rfl)
     have a7 := a7.x_puts i0 d5
     have a0 := a0.x_puts i0 dc
     have ae : Blk j2 e2.heap.size 43 [.slice e5 e3 ea, .int .i64 bq] := k2
     unfold Q00.J6
     refine Q01 fun br fx => ?_
     have ik := ix.x_drew fx
     have a7 := a7.x_drew fx
     have a0 := a0.x_drew fx
     have ae := ae.x_drew fx
     refine Q03 al ?_
     have h := h br ik
     obtain ⟨gy, ii, gl, eh, gf, h⟩ := h
     refine ⟨gy, ii, gl, eh, gf, ?_⟩
     refine ⟨a5, ab, a2, a6, a1, a3, a4, a9, aa, a8, ⟨a0.celli 0 rfl rfl, a0.celli 1 rfl rfl, a0.celli 2 rfl rfl, a0.celli 3 rfl rfl, a0.celli 4 rfl rfl, a0.celli 5 rfl rfl, trivial⟩, ?_⟩
     refine ⟨?_, ?_⟩
     focus
      have h := h br [] (Ext.refl no br) Priv.nil
      refine h.mono fun gj bc h => ?_
      obtain ⟨b2, bb, b8, aj, b3, he, hkL, hk, h⟩ := h
      refine ⟨b2, bb, b8, aj, b3, he, ?_⟩
      have a7 := hk.blk a7 (by simp)
      have a0 := hk.blk a0 (by simp)
      have ae := hk.blk ae (by simp)
      refine Q01 fun ad fd => ?_
      have ak := Blk.of_new fd
      have ec := ((Ext.refl (fun b => b ∈ ([] : List Nat)) bc)).size
      have b6 := Nat.ne_of_lt a7.lt
      have a7 := a7.x_alloc fd
      have ba := Nat.ne_of_lt a0.lt
      have a0 := a0.x_alloc fd
      have b7 := Nat.ne_of_lt ae.lt
      have ae := ae.x_alloc fd
      have af := (Ext.refl (fun b => b ∈ ([] : List Nat)) bc).x_alloc fd
      refine Q0g (k := 0) (j := 0) ak (Nat.le_of_ble_eq_true rfl) fun aw d4 ic => ?_
      have b4 := af.x_puts d4 (.inr ec)
      have a7 := a7.x_puts d4 b6
      have a0 := a0.x_puts d4 ba
      have ae := ae.x_puts d4 b7
      have ak : Blk aw bc.heap.size 46 [.slice b2 bb b8, .int .i64 aj] := ic
      unfold Q00.J5
      refine bif_of (fun dv => ?_) (fun dv => ?_)
      ·have h := h.1 (bne_t dv)
       have h := h aw b4
       exact h
      have h := h.2 (bne_f dv)
      unfold Q00.J4
      refine bif_of (fun cv => ?_) (fun cv => ?_)
      have h := h.1 (beq_t cv)
      refine ⟨e5, e3, ea, bq, ⟨ae.celli 0 rfl rfl, ae.celli 1 rfl rfl, trivial⟩, ?_⟩
      refine Q03 al ?_
      have h := h aw (bc.heap.size) b4 (PrivJ.cons (.inr ec) ak.lt PrivJ.nil)
      obtain ⟨hcs, hof, h⟩ := h
      refine ⟨hcs, Q01 fun d7 ao => ?_⟩
      replace h := Q0f h ao
      have a0 := a0.off (by rw [Q0a]; exact hof _ (by simp)) ao
      have ak := ak.off (by rw [Q0a]; exact hof _ (by simp)) ao
      obtain ⟨hcs, h⟩ := h
      refine ⟨hcs, Q01 fun d6 ax => ?_⟩
      replace h := Q0f h ax
      have a0 := a0.off (by rw [Q0a]; exact hof _ (by simp)) ax
      have ak := ak.off (by rw [Q0a]; exact hof _ (by simp)) ax
      refine ⟨b2, bb, b8, aj, ⟨ak.celli 0 rfl rfl, ak.celli 1 rfl rfl, trivial⟩, ?_⟩
      refine Q03 al ?_
      obtain ⟨hcs, hof, h⟩ := h
      refine ⟨hcs, Q01 fun d8 b5 => ?_⟩
      replace h := Q0f h b5
      have a0 := a0.off (by rw [Q0a]; exact hof _ (by simp)) b5
      obtain ⟨hcs, h⟩ := h
      refine ⟨hcs, Q01 fun iz f3 => ?_⟩
      replace h := Q0f h f3
      have a0 := a0.off (by rw [Q0a]; exact hof _ (by simp)) f3
      unfold Q00.J3
      refine ⟨a5, a0.celli 0 rfl rfl, ?_⟩
      refine bif_of (fun du => ?_) (fun du => ?_)
      ·have h := h.1 (bne_t du)
       exact h
      have h := h.2 (bne_f du)
      refine bif_ff (cong1 (r := false) (fun z => z != 0) (beq_t cv) (by decide)) ?_
      unfold Q00.J2
      obtain ⟨I1, ce, h0, h⟩ := h
      refine ⟨fun k vs ww => Blk ww cq.heap.size 67 [.int .i64 a5, .int .i64 ab, .int .u64 a2, .int .i64 a6, .slice a1 a3 a4, .slice a9 aa a8] ∧ I1 k vs ww, ce, ⟨a0, h0⟩, fun i3 ah i7 hI => ?_⟩
      obtain ⟨a0, hI⟩ := hI
      have h := h i3 ah i7 hI
      refine bif_fo (fun df => ?_) (fun df => ?_)
      ·have h := h.2 (Int.not_lt.1 (of_decide_eq_false df))
       exact h
      have h := h.1 (of_decide_eq_true df)
      rotate_left
      have h := h.2 (beq_f cv)
      unfold Q00.J3
      refine ⟨a5, a0.celli 0 rfl rfl, ?_⟩
      refine bif_of (fun dw => ?_) (fun dw => ?_)
      ·have h := h.1 (bne_t dw)
       have h := h aw b4
       exact h
      have h := h.2 (bne_f dw)
      refine bif_of (fun dn => ?_) (fun dn => ?_)
      ·have h := h.1 (bne_t dn)
       refine ⟨3, a7.celli 0 rfl rfl, ?_⟩
       refine bif_tt (by decide) ?_
       have h := h aw b4
       exact h
      have h := h.2 (bne_f dn)
      unfold Q00.J2
      have h := h aw b4
      obtain ⟨I1, co, h0, h⟩ := h
      refine ⟨fun k vs ww => Blk ww cq.heap.size 67 [.int .i64 a5, .int .i64 ab, .int .u64 a2, .int .i64 a6, .slice a1 a3 a4, .slice a9 aa a8] ∧ I1 k vs ww, co, ⟨a0, h0⟩, fun ih ah ia hI => ?_⟩
      obtain ⟨a0, hI⟩ := hI
      have h := h ih ah ia hI
      refine bif_fo (fun dm => ?_) (fun dm => ?_)
      ·have h := h.2 (Int.not_lt.1 (of_decide_eq_false dm))
       exact h
      have h := h.1 (of_decide_eq_true dm)
      rotate_left
     rotate_left 2
     focus
      refine Q01 fun il ez => ?_
      have ak := Blk.of_new ez
      have ec := ((Ext.refl no br)).size
      have b6 := Nat.ne_of_lt a7.lt
      have a7 := a7.x_alloc ez
      have ba := Nat.ne_of_lt a0.lt
      have a0 := a0.x_alloc ez
      have b7 := Nat.ne_of_lt ae.lt
      have ae := ae.x_alloc ez
      have gi := (Ext.refl no br).x_alloc ez
      refine ⟨⟨a0.celli 0 rfl rfl, a0.celli 1 rfl rfl, a0.celli 2 rfl rfl, a0.celli 3 rfl rfl, a0.celli 4 rfl rfl, a0.celli 5 rfl rfl, trivial⟩, Q0Z (gi) gf, ?_⟩
      have h := h il [br.heap.size] gi (Priv.cons ec ak.lt Priv.nil)
      refine h.mono fun kg ad h => ?_
      obtain ⟨f2, eo, fm, cj, fl, he, hkL, hk, h⟩ := h
      refine ⟨f2, eo, fm, cj, fl, he, ?_⟩
      have ak := hkL.blk ak (by simp)
      have a7 := hk.blk a7 (by simp)
      have a0 := hk.blk a0 (by simp)
      have ae := hk.blk ae (by simp)
      refine Q0g (k := 0) (j := 0) ak (Nat.le_of_ble_eq_true rfl) fun aw d4 ic => ?_
      have b4 := (Ext.refl (fun b => b ∈ ([br.heap.size] : List Nat)) ad).x_puts d4 (.inl (by simp))
      have a7 := a7.x_puts d4 b6
      have a0 := a0.x_puts d4 ba
      have ae := ae.x_puts d4 b7
      have ak : Blk aw br.heap.size 46 [.slice f2 eo fm, .int .i64 cj] := ic
      unfold Q00.J5
      refine bif_of (fun dv => ?_) (fun dv => ?_)
      ·have h := h.1 (bne_t dv)
       have h := h aw b4
       exact h
      have h := h.2 (bne_f dv)
      unfold Q00.J4
      refine bif_of (fun cv => ?_) (fun cv => ?_)
      have h := h.1 (beq_t cv)
      refine ⟨e5, e3, ea, bq, ⟨ae.celli 0 rfl rfl, ae.celli 1 rfl rfl, trivial⟩, ?_⟩
      refine Q03 al ?_
      have h := h aw (br.heap.size) b4 (PrivJ.cons (.inl (by simp)) ak.lt PrivJ.nil)
      obtain ⟨hcs, hof, h⟩ := h
      refine ⟨hcs, Q01 fun d7 ao => ?_⟩
      replace h := Q0f h ao
      have a0 := a0.off (by rw [Q0a]; exact hof _ (by simp)) ao
      have ak := ak.off (by rw [Q0a]; exact hof _ (by simp)) ao
      obtain ⟨hcs, h⟩ := h
      refine ⟨hcs, Q01 fun d6 ax => ?_⟩
      replace h := Q0f h ax
      have a0 := a0.off (by rw [Q0a]; exact hof _ (by simp)) ax
      have ak := ak.off (by rw [Q0a]; exact hof _ (by simp)) ax
      refine ⟨f2, eo, fm, cj, ⟨ak.celli 0 rfl rfl, ak.celli 1 rfl rfl, trivial⟩, ?_⟩
      refine Q03 al ?_
      obtain ⟨hcs, hof, h⟩ := h
      refine ⟨hcs, Q01 fun d8 b5 => ?_⟩
      replace h := Q0f h b5
      have a0 := a0.off (by rw [Q0a]; exact hof _ (by simp)) b5
      obtain ⟨hcs, h⟩ := h
      refine ⟨hcs, Q01 fun iz f3 => ?_⟩
      replace h := Q0f h f3
      have a0 := a0.off (by rw [Q0a]; exact hof _ (by simp)) f3
      unfold Q00.J3
      refine ⟨a5, a0.celli 0 rfl rfl, ?_⟩
      refine bif_of (fun du => ?_) (fun du => ?_)
      ·have h := h.1 (bne_t du)
       exact h
      have h := h.2 (bne_f du)
      refine bif_ff (cong1 (r := false) (fun z => z != 0) (beq_t cv) (by decide)) ?_
      unfold Q00.J2
      obtain ⟨I1, ce, h0, h⟩ := h
      refine ⟨fun k vs ww => Blk ww cq.heap.size 67 [.int .i64 a5, .int .i64 ab, .int .u64 a2, .int .i64 a6, .slice a1 a3 a4, .slice a9 aa a8] ∧ I1 k vs ww, ce, ⟨a0, h0⟩, fun i3 ah i7 hI => ?_⟩
      obtain ⟨a0, hI⟩ := hI
      have h := h i3 ah i7 hI
      refine bif_fo (fun df => ?_) (fun df => ?_)
      ·have h := h.2 (Int.not_lt.1 (of_decide_eq_false df))
       exact h
      have h := h.1 (of_decide_eq_true df)
      rotate_left
      have h := h.2 (beq_f cv)
      unfold Q00.J3
      refine ⟨a5, a0.celli 0 rfl rfl, ?_⟩
      refine bif_of (fun dw => ?_) (fun dw => ?_)
      ·have h := h.1 (bne_t dw)
       have h := h aw b4
       exact h
      have h := h.2 (bne_f dw)
      refine bif_of (fun dn => ?_) (fun dn => ?_)
      ·have h := h.1 (bne_t dn)
       refine ⟨3, a7.celli 0 rfl rfl, ?_⟩
       refine bif_tt (by decide) ?_
       have h := h aw b4
       exact h
      have h := h.2 (bne_f dn)
      unfold Q00.J2
      have h := h aw b4
      obtain ⟨I1, co, h0, h⟩ := h
      refine ⟨fun k vs ww => Blk ww cq.heap.size 67 [.int .i64 a5, .int .i64 ab, .int .u64 a2, .int .i64 a6, .slice a1 a3 a4, .slice a9 aa a8] ∧ I1 k vs ww, co, ⟨a0, h0⟩, fun ih ah ia hI => ?_⟩
      obtain ⟨a0, hI⟩ := hI
      have h := h ih ah ia hI
      refine bif_fo (fun dm => ?_) (fun dm => ?_)
      ·have h := h.2 (Int.not_lt.1 (of_decide_eq_false dm))
       exact h
      have h := h.1 (of_decide_eq_true dm)
      rotate_left
     rotate_left 2
    rotate_left 4
   rotate_left 8
   focus
    have h := h1'
    refine Q01 fun k7 jl => ?_
    have ae := Blk.of_new jl
    have ij := (fw).size
    have d5 := Nat.ne_of_lt a7.lt
    have a7 := a7.x_alloc jl
    have dc := Nat.ne_of_lt a0.lt
    have a0 := a0.x_alloc jl
    have im := fw.x_alloc jl
    refine ⟨⟨a0.celli 0 rfl rfl, a0.celli 1 rfl rfl, a0.celli 2 rfl rfl, a0.celli 3 rfl rfl, a0.celli 4 rfl rfl, a0.celli 5 rfl rfl, trivial⟩, Q0Z (im) iq, ?_⟩
    have h := h k7 [dy.heap.size] im (Priv.cons ij ae.lt Priv.nil)
    refine h.mono fun l2 jb h => ?_
    obtain ⟨i4, j8, fu, g7, f9, f8, es, gt, gz, i6, he, hkL, hk, h⟩ := h
    refine ⟨i4, j8, fu, g7, f9, f8, es, gt, gz, i6, he, ?_⟩
    have ae := hkL.blk ae (by simp)
    have a7 := hk.blk a7 (by simp)
    have a0 := hk.blk a0 (by simp)
    obtain ⟨jy, h⟩ := h
    refine ⟨jy, ?_⟩
    have h := h jb [dy.heap.size] (Ext.refl (fun b => b ∈ ([dy.heap.size] : List Nat)) jb) (PrivJ.cons (.inl (by simp)) ae.lt PrivJ.nil)
    refine h.mono fun kl gg h => ?_
    obtain ⟨g6, gc, gd, bu, fq, he, hkL, hk, h⟩ := h
    refine ⟨g6, gc, gd, bu, fq, he, ?_⟩
    have ae := hkL.blk ae (by simp)
    have a7 := hk.blk a7 (by simp)
    have a0 := hk.blk a0 (by simp)
    refine Q0g (k := 0) (j := 0) ae (Nat.le_of_ble_eq_true rfl) fun ft dj i9 => ?_
    have f1 := (Ext.refl (fun b => b ∈ ([dy.heap.size] : List Nat)) gg).x_puts dj (.inl (by simp))
    have a7 := a7.x_puts dj d5
    have a0 := a0.x_puts dj dc
    have ae : Blk ft dy.heap.size 43 [.slice g6 gc gd, .int .i64 bu] := i9
    unfold Q00.J6
    refine Q01 fun ag cz => ?_
    have fr := f1.x_drew cz
    have a7 := a7.x_drew cz
    have a0 := a0.x_drew cz
    have ae := ae.x_drew cz
    refine Q03 al ?_
    have h := h ag (dy.heap.size) fr (PrivJ.cons (.inl (by simp)) ae.lt PrivJ.nil)
    obtain ⟨e0, e1, dq, c4, de, h⟩ := h
    refine ⟨e0, e1, dq, c4, de, ?_⟩
    refine ⟨a5, ab, a2, a6, a1, a3, a4, a9, aa, a8, ⟨a0.celli 0 rfl rfl, a0.celli 1 rfl rfl, a0.celli 2 rfl rfl, a0.celli 3 rfl rfl, a0.celli 4 rfl rfl, a0.celli 5 rfl rfl, trivial⟩, ?_⟩
    refine ⟨?_, ?_⟩
    focus
     have h := h ag [] (Ext.refl no ag) Priv.nil
     refine h.mono fun jh bv h => ?_
     obtain ⟨ck, cn, cg, aq, cl, he, hkL, hk, h⟩ := h
     refine ⟨ck, cn, cg, aq, cl, he, ?_⟩
     have a7 := hk.blk a7 (by simp)
     have a0 := hk.blk a0 (by simp)
     have ae := hk.blk ae (by simp)
     refine Q01 fun bc ci => ?_
     have ak := Blk.of_new ci
     have ec := ((Ext.refl (fun b => b ∈ ([] : List Nat)) bv)).size
     have b6 := Nat.ne_of_lt a7.lt
     have a7 := a7.x_alloc ci
     have ba := Nat.ne_of_lt a0.lt
     have a0 := a0.x_alloc ci
     have b7 := Nat.ne_of_lt ae.lt
     have ae := ae.x_alloc ci
     have fe := (Ext.refl (fun b => b ∈ ([] : List Nat)) bv).x_alloc ci
     refine Q0g (k := 0) (j := 0) ak (Nat.le_of_ble_eq_true rfl) fun ad b0 dh => ?_
     have af := fe.x_puts b0 (.inr ec)
     have a7 := a7.x_puts b0 b6
     have a0 := a0.x_puts b0 ba
     have ae := ae.x_puts b0 b7
     have ak : Blk ad bv.heap.size 46 [.slice ck cn cg, .int .i64 aq] := dh
     unfold Q00.J5
     refine bif_of (fun be => ?_) (fun be => ?_)
     ·have h := h.1 (bne_t be)
      have h := h ad af
      exact h
     have h := h.2 (bne_f be)
     unfold Q00.J4
     refine bif_of (fun ay => ?_) (fun ay => ?_)
     have h := h.1 (beq_t ay)
     refine ⟨g6, gc, gd, bu, ⟨ae.celli 0 rfl rfl, ae.celli 1 rfl rfl, trivial⟩, ?_⟩
     refine Q03 al ?_
     have h := h ad (bv.heap.size) af (PrivJ.cons (.inr ec) ak.lt PrivJ.nil)
     obtain ⟨hcs, hof, h⟩ := h
     refine ⟨hcs, Q01 fun ev bp => ?_⟩
     replace h := Q0f h bp
     have a0 := a0.off (by rw [Q0a]; exact hof _ (by simp)) bp
     have ak := ak.off (by rw [Q0a]; exact hof _ (by simp)) bp
     obtain ⟨hcs, h⟩ := h
     refine ⟨hcs, Q01 fun d7 ao => ?_⟩
     replace h := Q0f h ao
     have a0 := a0.off (by rw [Q0a]; exact hof _ (by simp)) ao
     have ak := ak.off (by rw [Q0a]; exact hof _ (by simp)) ao
     refine ⟨ck, cn, cg, aq, ⟨ak.celli 0 rfl rfl, ak.celli 1 rfl rfl, trivial⟩, ?_⟩
     refine Q03 al ?_
     obtain ⟨hcs, hof, h⟩ := h
     refine ⟨hcs, Q01 fun d6 ax => ?_⟩
     replace h := Q0f h ax
     have a0 := a0.off (by rw [Q0a]; exact hof _ (by simp)) ax
     obtain ⟨hcs, h⟩ := h
     refine ⟨hcs, Q01 fun d8 b5 => ?_⟩
     replace h := Q0f h b5
     have a0 := a0.off (by rw [Q0a]; exact hof _ (by simp)) b5
     unfold Q00.J3
     refine ⟨a5, a0.celli 0 rfl rfl, ?_⟩
     refine bif_of (fun bo => ?_) (fun bo => ?_)
     ·have h := h.1 (bne_t bo)
      exact h
     have h := h.2 (bne_f bo)
     refine bif_ff (cong1 (r := false) (fun z => z != 0) (beq_t ay) (by decide)) ?_
     unfold Q00.J2
     obtain ⟨I1, ds, h0, h⟩ := h
     refine ⟨fun k vs ww => Blk ww cq.heap.size 67 [.int .i64 a5, .int .i64 ab, .int .u64 a2, .int .i64 a6, .slice a1 a3 a4, .slice a9 aa a8] ∧ I1 k vs ww, ds, ⟨a0, h0⟩, fun ce ah dz hI => ?_⟩
     obtain ⟨a0, hI⟩ := hI
     have h := h ce ah dz hI
     refine bif_fo (fun bd => ?_) (fun bd => ?_)
     ·have h := h.2 (Int.not_lt.1 (of_decide_eq_false bd))
      exact h
     have h := h.1 (of_decide_eq_true bd)
     rotate_left
     have h := h.2 (beq_f ay)
     unfold Q00.J3
     refine ⟨a5, a0.celli 0 rfl rfl, ?_⟩
     refine bif_of (fun bg => ?_) (fun bg => ?_)
     ·have h := h.1 (bne_t bg)
      have h := h ad af
      exact h
     have h := h.2 (bne_f bg)
     refine bif_of (fun bl => ?_) (fun bl => ?_)
     ·have h := h.1 (bne_t bl)
      refine ⟨3, a7.celli 0 rfl rfl, ?_⟩
      refine bif_tt (by decide) ?_
      have h := h ad af
      exact h
     have h := h.2 (bne_f bl)
     unfold Q00.J2
     have h := h ad af
     obtain ⟨I1, di, h0, h⟩ := h
     refine ⟨fun k vs ww => Blk ww cq.heap.size 67 [.int .i64 a5, .int .i64 ab, .int .u64 a2, .int .i64 a6, .slice a1 a3 a4, .slice a9 aa a8] ∧ I1 k vs ww, di, ⟨a0, h0⟩, fun co ah dr hI => ?_⟩
     obtain ⟨a0, hI⟩ := hI
     have h := h co ah dr hI
     refine bif_fo (fun bn => ?_) (fun bn => ?_)
     ·have h := h.2 (Int.not_lt.1 (of_decide_eq_false bn))
      exact h
     have h := h.1 (of_decide_eq_true bn)
     rotate_left
    rotate_left 2
    focus
     refine Q01 fun fg c8 => ?_
     have ak := Blk.of_new c8
     have ec := ((Ext.refl no ag)).size
     have b6 := Nat.ne_of_lt a7.lt
     have a7 := a7.x_alloc c8
     have ba := Nat.ne_of_lt a0.lt
     have a0 := a0.x_alloc c8
     have b7 := Nat.ne_of_lt ae.lt
     have ae := ae.x_alloc c8
     have dd := (Ext.refl no ag).x_alloc c8
     refine ⟨⟨a0.celli 0 rfl rfl, a0.celli 1 rfl rfl, a0.celli 2 rfl rfl, a0.celli 3 rfl rfl, a0.celli 4 rfl rfl, a0.celli 5 rfl rfl, trivial⟩, Q0Z (dd) de, ?_⟩
     have h := h fg [ag.heap.size] dd (Priv.cons ec ak.lt Priv.nil)
     refine h.mono fun gj bc h => ?_
     obtain ⟨b2, bb, b8, aj, b3, he, hkL, hk, h⟩ := h
     refine ⟨b2, bb, b8, aj, b3, he, ?_⟩
     have ak := hkL.blk ak (by simp)
     have a7 := hk.blk a7 (by simp)
     have a0 := hk.blk a0 (by simp)
     have ae := hk.blk ae (by simp)
     refine Q0g (k := 0) (j := 0) ak (Nat.le_of_ble_eq_true rfl) fun ad b0 dh => ?_
     have af := (Ext.refl (fun b => b ∈ ([ag.heap.size] : List Nat)) bc).x_puts b0 (.inl (by simp))
     have a7 := a7.x_puts b0 b6
     have a0 := a0.x_puts b0 ba
     have ae := ae.x_puts b0 b7
     have ak : Blk ad ag.heap.size 46 [.slice b2 bb b8, .int .i64 aj] := dh
     unfold Q00.J5
     refine bif_of (fun be => ?_) (fun be => ?_)
     ·have h := h.1 (bne_t be)
      have h := h ad af
      exact h
     have h := h.2 (bne_f be)
     unfold Q00.J4
     refine bif_of (fun ay => ?_) (fun ay => ?_)
     have h := h.1 (beq_t ay)
     refine ⟨g6, gc, gd, bu, ⟨ae.celli 0 rfl rfl, ae.celli 1 rfl rfl, trivial⟩, ?_⟩
     refine Q03 al ?_
     have h := h ad (ag.heap.size) af (PrivJ.cons (.inl (by simp)) ak.lt PrivJ.nil)
     obtain ⟨hcs, hof, h⟩ := h
     refine ⟨hcs, Q01 fun ev bp => ?_⟩
     replace h := Q0f h bp
     have a0 := a0.off (by rw [Q0a]; exact hof _ (by simp)) bp
     have ak := ak.off (by rw [Q0a]; exact hof _ (by simp)) bp
     obtain ⟨hcs, h⟩ := h
     refine ⟨hcs, Q01 fun d7 ao => ?_⟩
     replace h := Q0f h ao
     have a0 := a0.off (by rw [Q0a]; exact hof _ (by simp)) ao
     have ak := ak.off (by rw [Q0a]; exact hof _ (by simp)) ao
     refine ⟨b2, bb, b8, aj, ⟨ak.celli 0 rfl rfl, ak.celli 1 rfl rfl, trivial⟩, ?_⟩
     refine Q03 al ?_
     obtain ⟨hcs, hof, h⟩ := h
     refine ⟨hcs, Q01 fun d6 ax => ?_⟩
     replace h := Q0f h ax
     have a0 := a0.off (by rw [Q0a]; exact hof _ (by simp)) ax
     obtain ⟨hcs, h⟩ := h
     refine ⟨hcs, Q01 fun d8 b5 => ?_⟩
     replace h := Q0f h b5
     have a0 := a0.off (by rw [Q0a]; exact hof _ (by simp)) b5
     unfold Q00.J3
     refine ⟨a5, a0.celli 0 rfl rfl, ?_⟩
     refine bif_of (fun bo => ?_) (fun bo => ?_)
     ·have h := h.1 (bne_t bo)
      exact h
     have h := h.2 (bne_f bo)
     refine bif_ff (cong1 (r := false) (fun z => z != 0) (beq_t ay) (by decide)) ?_
     unfold Q00.J2
     obtain ⟨I1, ds, h0, h⟩ := h
     refine ⟨fun k vs ww => Blk ww cq.heap.size 67 [.int .i64 a5, .int .i64 ab, .int .u64 a2, .int .i64 a6, .slice a1 a3 a4, .slice a9 aa a8] ∧ I1 k vs ww, ds, ⟨a0, h0⟩, fun ce ah dz hI => ?_⟩
     obtain ⟨a0, hI⟩ := hI
     have h := h ce ah dz hI
     refine bif_fo (fun bd => ?_) (fun bd => ?_)
     ·have h := h.2 (Int.not_lt.1 (of_decide_eq_false bd))
      exact h
     have h := h.1 (of_decide_eq_true bd)
     rotate_left
     have h := h.2 (beq_f ay)
     unfold Q00.J3
     refine ⟨a5, a0.celli 0 rfl rfl, ?_⟩
     refine bif_of (fun bg => ?_) (fun bg => ?_)
     ·have h := h.1 (bne_t bg)
      have h := h ad af
      exact h
     have h := h.2 (bne_f bg)
     refine bif_of (fun bl => ?_) (fun bl => ?_)
     ·have h := h.1 (bne_t bl)
      refine ⟨3, a7.celli 0 rfl rfl, ?_⟩
      refine bif_tt (by decide) ?_
      have h := h ad af
      exact h
     have h := h.2 (bne_f bl)
     unfold Q00.J2
     have h := h ad af
     obtain ⟨I1, di, h0, h⟩ := h
     refine ⟨fun k vs ww => Blk ww cq.heap.size 67 [.int .i64 a5, .int .i64 ab, .int .u64 a2, .int .i64 a6, .slice a1 a3 a4, .slice a9 aa a8] ∧ I1 k vs ww, di, ⟨a0, h0⟩, fun co ah dr hI => ?_⟩
     obtain ⟨a0, hI⟩ := hI
     have h := h co ah dr hI
     refine bif_fo (fun bn => ?_) (fun bn => ?_)
     ·have h := h.2 (Int.not_lt.1 (of_decide_eq_false bn))
      exact h
     have h := h.1 (of_decide_eq_true bn)
     rotate_left
    rotate_left 2
   rotate_left 4
   all_goals
    unfold Q00.J1
    refine Q01 fun io j7 => ?_
    have e6 := (Ext.refl no ah).x_drew j7
    have a0 := a0.x_drew j7
    refine Q03 al ?_
    obtain ⟨kb, k5, h⟩ := h
    refine ⟨kb, k5, ?_⟩
    obtain ⟨ke, jd, h⟩ := h
    refine ⟨ke, (e6).cell jd id, ?_⟩
    refine ⟨a5, ab, a2, a6, a1, a3, a4, a9, aa, a8, ⟨a0.celli 0 rfl rfl, a0.celli 1 rfl rfl, a0.celli 2 rfl rfl, a0.celli 3 rfl rfl, a0.celli 4 rfl rfl, a0.celli 5 rfl rfl, trivial⟩, ?_⟩
    refine Q03 al ?_
    obtain ⟨kb, k5, h⟩ := h
    refine ⟨kb, k5, ?_⟩
    obtain ⟨ka, jg, h⟩ := h
    refine ⟨ka, (e6).cell jg id, ?_⟩
    refine Q03 al ?_
    obtain ⟨k1, ir, h⟩ := h
    refine ⟨k1, (e6).cell ir id, ?_⟩
    refine ⟨a5, ab, a2, a6, a1, a3, a4, a9, aa, a8, ⟨a0.celli 0 rfl rfl, a0.celli 1 rfl rfl, a0.celli 2 rfl rfl, a0.celli 3 rfl rfl, a0.celli 4 rfl rfl, a0.celli 5 rfl rfl, trivial⟩, ?_⟩
    have h := h io e6
    refine h.mono fun km kf h => ?_
    obtain ⟨fz, ie, ef, f6, eg, ej, ei, gb, g4, g1, he, hk, h⟩ := h
    refine ⟨fz, ie, ef, f6, eg, ej, ei, gb, g4, g1, he, ?_⟩
    have a0 := hk.blk a0 (by simp)
    obtain ⟨jc, ip, iu, h⟩ := h
    refine ⟨⟨a0.celli 0 rfl rfl, a0.celli 1 rfl rfl, a0.celli 2 rfl rfl, a0.celli 3 rfl rfl, a0.celli 4 rfl rfl, a0.celli 5 rfl rfl, trivial⟩, jc, ip, iu, ?_⟩
    refine h.mono fun kp kj h => ?_
    obtain ⟨fi, he, hk, h⟩ := h
    refine ⟨fi, he, ?_⟩
    have a0 := hk.blk a0 (by simp)
    obtain ⟨j1, jf, h⟩ := h
    refine ⟨⟨a0.celli 0 rfl rfl, a0.celli 1 rfl rfl, a0.celli 2 rfl rfl, a0.celli 3 rfl rfl, a0.celli 4 rfl rfl, a0.celli 5 rfl rfl, trivial⟩, j1, jf, ?_⟩
    refine h.mono fun ki ks h => ?_
    obtain ⟨f4, he, hk, h⟩ := h
    refine ⟨f4, he, ?_⟩
    have a0 := hk.blk a0 (by simp)
    refine bif_of (fun ib => ?_) (fun ib => ?_)
    ·have h := h.1 (bne_t ib)
     exact h
    have h := h.2 (bne_f ib)
    obtain ⟨l3, l1, h⟩ := h
    try rw [w64 l3 l1]
    obtain ⟨jr, hk, h⟩ := h
    exact ⟨jr, hk, a0, h⟩

theorem do3.go (a8 : Option Addr) (a7 a1 : Int) (a0 : Option Addr) (a3 a2 : Nat) (a4 : Option Addr) (a5 a6 : Nat) {R : RW} {w : World} (h : do3.N a8 a7 a1 a0 a3 a2 a4 a5 a6 R w) : Calls Try.prog 7 #[.pointer a8, .agg #[.int .i64 3, .int .i64 a7, .int .u64 a1, .slice a0 a3 a2, .slice a4 a5 a6]] w fun e w' => ∃ v, e = .returned v ∧ R v w' := Q00.ok a8 3 a7 a1 a0 a3 a2 a4 a5 a6 (do3.up a8 a7 a1 a0 a3 a2 a4 a5 a6 h)
abbrev Q06.J1 (ap : Addr) (au : Int) (I0 : Nat → List Value → World → Prop) (aj : Option Addr) (a6 : Int) (ax : Nat) (R : RW) (al : World) : Prop :=
 ∃ (I2 : Nat → List Value → World → Prop) (az : Nat), I2 az [.int .i64 0] al ∧ ∀ (aq : Nat) (a4 : World) (a9 : Int), I2 aq [.int .i64 a9] a4 →
 ∃ (a7 : Option Addr) (a1 ab : Nat), a4.cell? (ap.add 4) = some (.slice a7 a1 ab) ∧
 bif decide (a9 < (a1 : Int)) then (
 thenW (a4.drew) fun a5 =>
 aj.elim False fun ay =>
 ∃ (ar : Option Addr), a5.cell? (ay.add 0) = some (.pointer ar) ∧
 aj.elim False fun b1 =>
 0 ≤ (a6 : Int) ∧ (a6 : Int) < (4 : Int) ∧
 ∃ (aw : Int), a5.cell? ((b1.add 18).add (Int.toNat a6 * 1)) = some (.int .u64 aw) ∧
 ∃ (a3 : Option Addr) (a0 a8 : Nat), a5.cell? (ap.add 4) = some (.slice a3 a0 a8) ∧
 a3.elim False fun b2 =>
 0 ≤ (a9 : Int) ∧ (a9 : Int) < (a0 : Int) ∧
 ∃ (af : Option Addr) (ag ae : Nat), a5.cell? ((b2.add (Int.toNat a9 * 2)).add 1) = some (.slice af ag ae) ∧
 Calls Try.prog 12 #[.pointer ar, .int .u64 aw, .slice af ag ae] a5 fun an ad => ∃ (aa a2 : Int), an = .returned (.tuple #[.int .u64 aa, .int .i64 a2]) ∧
 bif a2 != 11 then (
 R (.bool false) ad) else (
 ∃ ak, ak < aq ∧ I2 ak [.int .i64 (IntKind.i64.wrap (a9 + 1))] ad)) else (
 aj.elim False fun b0 =>
 0 ≤ (a6 : Int) ∧ (a6 : Int) < (4 : Int) ∧
 ∃ (av : Option Addr), a4.cell? ((b0.add 6).add (Int.toNat a6 * 1)) = some (.pointer av) ∧
 Calls Try.prog 8 #[.pointer av, .int .i64 (IntKind.i64.wrap (au + 1))] a4 fun ao ah => ∃ (ai ac : Int), ao = .returned (.tuple #[.int .u64 ai, .int .i64 ac]) ∧
 bif ac != 11 then (
 R (.bool false) ah) else (
 ∃ am, am < ax ∧ I0 am [.int .i64 (IntKind.i64.wrap (au + 1))] ah))

abbrev Q06.J2 (ay : Addr) (ax : Int) (ar : Addr) (aw : Int) (I0 : Nat → List Value → World → Prop) (ai : Option Addr) (aj : Int) (au : Nat) (R : RW) (ae : World) : Prop :=
 ∃ (ac : Option Addr) (ag af : Nat) (a5 : Int), cellsAt ae ay [.slice ac ag af, .int .i64 a5] 0 ∧
 ai.elim False fun ah =>
 Q07 ae ((ah.add 14).add 0) ∧
 thenW (ae.setCell ((ah.add 14).add 0) (.slice ac ag af)) fun ak =>
 Q07 ak ((ah.add 14).add 1) ∧
 thenW (ak.setCell ((ah.add 14).add 1) (.int .i64 a5)) fun al =>
 ai.elim False fun aq =>
 Q07 al ((aq.add 22).add 0) ∧
 thenW (al.setCell ((aq.add 22).add 0) (.int .u64 ax)) fun ap =>
 thenW (ap.drew) fun ad =>
 ai.elim False fun av =>
 0 ≤ (aj : Int) ∧ (aj : Int) < (4 : Int) ∧
 ∃ (ao : Option Addr), ad.cell? ((av.add 6).add (Int.toNat aj * 1)) = some (.pointer ao) ∧
 ∃ (a7 ab a2 a4 : Int) (a1 : Option Addr) (a0 a3 : Nat) (aa : Option Addr) (a6 a9 : Nat), cellsAt ad ar [.int .i64 a7, .int .i64 ab, .int .u64 a2, .int .i64 a4, .slice a1 a0 a3, .slice aa a6 a9] 0 ∧
 Calls Try.prog 11 #[.pointer ao, .agg #[.int .i64 a7, .int .i64 ab, .int .u64 a2, .int .i64 a4, .slice a1 a0 a3, .slice aa a6 a9]] ad fun an am => ∃ (a8 : Int), an = .returned (.int .i64 a8) ∧
 bif a8 != 11 then (
 R (.bool false) am) else (
 Q06.J1 ar aw I0 ai aj au R am)

abbrev Q06.J3 (a6 : Int) (a8 : Addr) (a7 a1 : Int) (a4 : Addr) (a9 : Int) (I0 : Nat → List Value → World → Prop) (a3 : Int) (aa : Option Addr) (a2 : Int) (a5 : Nat) (R : RW) (a0 : World) : Prop :=
 bif a7 != 0 then (
 R (.bool false) a0) else (
 bif a6 != 0 then (
 R (.bool false) a0) else (
 bif a1 == a3 then (
 R (.bool false) a0) else (
 Q06.J2 a8 a1 a4 a9 I0 aa a2 a5 R a0)))

abbrev Q06.J4 (b4 b2 : Int) (al : Addr) (b1 : Int) (I0 : Nat → List Value → World → Prop) (ay : Int) (au : Option Addr) (b3 : Int) (av : Nat) (R : RW) (b7 : World) : Prop :=
 thenW (b7.drew) fun ab =>
 au.elim False fun ax =>
 ∃ (ac : Option Addr) (ad ae : Nat) (a4 : Int), cellsAt ab (ax.add 14) [.slice ac ad ae, .int .i64 a4] 0 ∧
 ∃ (a7 aa a2 a5 : Int) (a3 : Option Addr) (a0 a1 : Nat) (a8 : Option Addr) (a6 a9 : Nat), cellsAt ab al [.int .i64 a7, .int .i64 aa, .int .u64 a2, .int .i64 a5, .slice a3 a0 a1, .slice a8 a6 a9] 0 ∧
 (Calls Try.prog 10 #[.agg #[.slice ac ad ae, .int .i64 a4], .agg #[.int .i64 a7, .int .i64 aa, .int .u64 a2, .int .i64 a5, .slice a3 a0 a1, .slice a8 a6 a9]] ab fun b8 ak => ∃ (aq : Option Addr) (ar an : Nat) (ah ai : Int), b8 = .returned (.tuple #[.agg #[.slice aq ar an, .int .i64 ah], .int .i64 ai]) ∧
 thenW (ak.alloc (.cells #[.slice none 0 0, .int .i64 0] 43)) fun b5 =>
 putsK b5 (blk ak.heap.size) [.slice aq ar an, .int .i64 ah] 0 fun az =>
 Q06.J3 ai (blk ak.heap.size) b4 b2 al b1 I0 ay au b3 av R az) ∧
 (thenW (ab.alloc (.cells #[.slice none 0 0, .int .i64 0] 43)) fun aj =>
 cellsAt aj al [.int .i64 a7, .int .i64 aa, .int .u64 a2, .int .i64 a5, .slice a3 a0 a1, .slice a8 a6 a9] 0 ∧
 cellsAt aj (ax.add 14) [.slice ac ad ae, .int .i64 a4] 0 ∧
 Calls Try.prog 10 #[.agg #[.slice ac ad ae, .int .i64 a4], .agg #[.int .i64 a7, .int .i64 aa, .int .u64 a2, .int .i64 a5, .slice a3 a0 a1, .slice a8 a6 a9]] aj fun b6 b0 => ∃ (ap : Option Addr) (am ao : Nat) (ag af : Int), b6 = .returned (.tuple #[.agg #[.slice ap am ao, .int .i64 ag], .int .i64 af]) ∧
 putsK b0 (blk ab.heap.size) [.slice ap am ao, .int .i64 ag] 0 fun aw =>
 Q06.J3 af (blk ab.heap.size) b4 b2 al b1 I0 ay au b3 av R aw)

abbrev Q06.J5 (b7 : Int) (I0 : Nat → List Value → World → Prop) (b3 : Int) (ax : Option Addr) (b4 : Int) (b0 : Nat) (R : RW) (b1 : World) : Prop :=
 thenW (b1.drew) fun a2 =>
 ax.elim False fun b6 =>
 ∃ (az : Option Addr), a2.cell? (b6.add 0) = some (.pointer az) ∧
 ax.elim False fun bc =>
 ∃ (af : Option Addr) (ag ah : Nat) (a0 : Int), cellsAt a2 (bc.add 14) [.slice af ag ah, .int .i64 a0] 0 ∧
 ax.elim False fun ba =>
 ∃ (a1 : Int), a2.cell? (ba.add 22) = some (.int .u64 a1) ∧
 (Calls Try.prog 9 #[.pointer az, .agg #[.slice af ag ah, .int .i64 a0], .int .u64 a1] a2 fun bd ay => ∃ (au aw ac ai : Int) (ae : Option Addr) (ab a4 : Nat) (aq : Option Addr) (ao ak : Nat) (a7 ad : Int), bd = .returned (.tuple #[.agg #[.int .i64 au, .int .i64 aw, .int .u64 ac, .int .i64 ai, .slice ae ab a4, .slice aq ao ak], .int .u64 a7, .int .i64 ad]) ∧
 thenW (ay.alloc (.cells #[.int .i64 0, .int .i64 0, .int .u64 0, .int .i64 0, .slice none 0 0, .slice none 0 0] 52)) fun b2 =>
 putsK b2 (blk ay.heap.size) [.int .i64 au, .int .i64 aw, .int .u64 ac, .int .i64 ai, .slice ae ab a4, .slice aq ao ak] 0 fun b5 =>
 Q06.J4 ad a7 (blk ay.heap.size) b7 I0 b3 ax b4 b0 R b5) ∧
 (thenW (a2.alloc (.cells #[.int .i64 0, .int .i64 0, .int .u64 0, .int .i64 0, .slice none 0 0, .slice none 0 0] 52)) fun al =>
 al.cell? (ba.add 22) = some (.int .u64 a1) ∧
 cellsAt al (bc.add 14) [.slice af ag ah, .int .i64 a0] 0 ∧
 al.cell? (b6.add 0) = some (.pointer az) ∧
 Calls Try.prog 9 #[.pointer az, .agg #[.slice af ag ah, .int .i64 a0], .int .u64 a1] al fun b9 bb => ∃ (ap av a8 aj : Int) (a9 : Option Addr) (a5 aa : Nat) (am : Option Addr) (ar an : Nat) (a3 a6 : Int), b9 = .returned (.tuple #[.agg #[.int .i64 ap, .int .i64 av, .int .u64 a8, .int .i64 aj, .slice a9 a5 aa, .slice am ar an], .int .u64 a3, .int .i64 a6]) ∧
 putsK bb (blk a2.heap.size) [.int .i64 ap, .int .i64 av, .int .u64 a8, .int .i64 aj, .slice a9 a5 aa, .slice am ar an] 0 fun b8 =>
 Q06.J4 a6 a3 (blk a2.heap.size) b7 I0 b3 ax b4 b0 R b8)

abbrev Q06.J6 (a7 : Int) (ac : Option Addr) (a5 af : Int) (R : RW) (ad : World) : Prop :=
 ∃ (I0 : Nat → List Value → World → Prop) (ah : Nat), I0 ah [.int .i64 0] ad ∧ ∀ (aa : Nat) (a1 : World) (a6 : Int), I0 aa [.int .i64 a6] a1 →
 bif decide (a6 < af) then (
 Q06.J5 a6 I0 a7 ac a5 aa R a1) else (
 ac.elim False fun ag =>
 0 ≤ (a5 : Int) ∧ (a5 : Int) < (4 : Int) ∧
 ∃ (ab : Option Addr), a1.cell? ((ag.add 6).add (Int.toNat a5 * 1)) = some (.pointer ab) ∧
 Calls Try.prog 8 #[.pointer ab, .int .i64 0] a1 fun a8 a4 => ∃ (a2 a3 : Int), a8 = .returned (.tuple #[.int .u64 a2, .int .i64 a3]) ∧
 bif a3 == 0 then (
 bif a2 == a7 then (
 Calls Try.prog 5 #[] a4 fun ae a9 => ∃ (a0 : Bool), ae = .returned (.bool a0) ∧
 R (.bool a0) a9) else (
 R (.bool false) a4)) else (
 R (.bool false) a4))

abbrev Q06.J7 (ac : Option Addr) (a0 ab : Int) (R : RW) (a6 : World) : Prop :=
 ac.elim False fun aa =>
 0 ≤ (a0 : Int) ∧ (a0 : Int) < (4 : Int) ∧
 ∃ (a7 : Option Addr), a6.cell? ((aa.add 6).add (Int.toNat a0 * 1)) = some (.pointer a7) ∧
 Calls Try.prog 8 #[.pointer a7, .int .i64 0] a6 fun a9 a4 => ∃ (a3 a2 : Int), a9 = .returned (.tuple #[.int .u64 a3, .int .i64 a2]) ∧
 bif a2 != 0 then (
 R (.bool false) a4) else (
 Calls Try.prog 7 #[.pointer ac, .agg #[.int .i64 2, .int .i64 a0, .int .u64 0, .slice none 0 0, .slice none 0 0]] a4 fun a8 a5 => ∃ (a1 : Bool), a8 = .returned (.bool a1) ∧
 bif !a1 then (
 R (.bool false) a5) else (
 Q06.J6 a3 ac a0 ab R a5))

abbrev Q06.J8 (ac : Option Addr) (ab ae : Nat) (aa ad : Int) (R : RW) (a8 : World) : Prop :=
 Calls Try.prog 6 #[.slice ac ab ae] a8 fun a6 a3 => ∃ (a0 : Option Addr), a6 = .returned (.pointer a0) ∧
 bif Option.isNone a0 then (
 R (.bool false) a3) else (
 Calls Try.prog 7 #[.pointer a0, .agg #[.int .i64 0, .int .i64 aa, .int .u64 0, .slice none 0 0, .slice none 0 0]] a3 fun a9 a5 => ∃ (a1 : Bool), a9 = .returned (.bool a1) ∧
 bif !a1 then (
 R (.bool false) a5) else (
 Calls Try.prog 7 #[.pointer a0, .agg #[.int .i64 3, .int .i64 0, .int .u64 0, .slice none 0 0, .slice none 0 0]] a5 fun a7 a4 => ∃ (a2 : Bool), a7 = .returned (.bool a2) ∧
 bif !a2 then (
 R (.bool false) a4) else (
 Q06.J7 a0 aa ad R a4)))

def Q06.M (a8 : Option Addr) (a0 a7 : Nat) (a9 a4 : Int) (R : RW) (w : World) : Prop :=
 bif decide ((a0 : Int) > 50) then (
 Calls Try.prog 5 #[] w fun ag ai => ∃ (a6 : Bool), ag = .returned (.bool a6) ∧
 R (.bool a6) ai) else (
 bif decide (a9 < 1) then (
 Calls Try.prog 5 #[] w fun aj ah => ∃ (a5 : Bool), aj = .returned (.bool a5) ∧
 R (.bool a5) ah) else (
 bif decide (a9 > 3) then (
 Calls Try.prog 5 #[] w fun ad ae => ∃ (a2 : Bool), ad = .returned (.bool a2) ∧
 R (.bool a2) ae) else (
 bif decide (a4 < 0) then (
 Calls Try.prog 5 #[] w fun ac ab => ∃ (a3 : Bool), ac = .returned (.bool a3) ∧
 R (.bool a3) ab) else (
 bif decide (a4 > 6) then (
 Calls Try.prog 5 #[] w fun af aa => ∃ (a1 : Bool), af = .returned (.bool a1) ∧
 R (.bool a1) aa) else (
 Q06.J8 a8 a0 a7 a9 a4 R w)))))

theorem Q06.ok (a2 : Option Addr) (a1 a0 : Nat) (a4 a3 : Int) {R : RW} {w : World} (h : Q06.M a2 a1 a0 a4 a3 R w) : Calls Try.prog 3 #[.slice a2 a1 a0, .int .i64 a4, .int .i64 a3] w fun e w' => ∃ v, e = .returned v ∧ R v w' :=
  Q0l follows (H := [(0, [1, 2, 7, 8], [(10, (.one (.int .i64)))]), (2, [1, 2, 7, 8, 10, 11], [(16, (.one (.int .i64)))])]) (args := [.slice a2 a1 a0, .int .i64 a4, .int .i64 a3]) (cast (by kernel_rfl) h)

def Q06.N (bh : Option Addr) (ae bk : Nat) (a1 ab : Int) (R : RW) (w : World) : Prop :=
 ((ae : Int) > 50 →
 Calls Try.prog 5 #[] w fun de dd => ∃ (bb : Bool), de = .returned (.bool bb) ∧
 R (.bool bb) dd) ∧
 ((ae : Int) ≤ 50 →
 (a1 < 1 →
 Calls Try.prog 5 #[] w fun d0 d7 => ∃ (b4 : Bool), d0 = .returned (.bool b4) ∧
 R (.bool b4) d7) ∧
 ((1 : Int) ≤ a1 →
 (a1 > 3 →
 Calls Try.prog 5 #[] w fun d8 cy => ∃ (ay : Bool), d8 = .returned (.bool ay) ∧
 R (.bool ay) cy) ∧
 (a1 ≤ 3 →
 (ab < 0 →
 Calls Try.prog 5 #[] w fun d2 d1 => ∃ (aw : Bool), d2 = .returned (.bool aw) ∧
 R (.bool aw) d1) ∧
 ((0 : Int) ≤ ab →
 (ab > 6 →
 Calls Try.prog 5 #[] w fun cw d5 => ∃ (ax : Bool), cw = .returned (.bool ax) ∧
 R (.bool ax) d5) ∧
 (ab ≤ 6 →
 Calls Try.prog 6 #[.slice bh ae bk] w fun d9 cs => ∃ (a0 : Option Addr), d9 = .returned (.pointer a0) ∧
 (a0 = none →
 R (.bool false) cs) ∧
 (a0 ≠ none →
 Calls Try.prog 7 #[.pointer a0, .agg #[.int .i64 0, .int .i64 a1, .int .u64 0, .slice none 0 0, .slice none 0 0]] cs fun cx cm => ∃ (bc : Bool), cx = .returned (.bool bc) ∧
 (bc = false →
 R (.bool false) cm) ∧
 (bc = true →
 Calls Try.prog 7 #[.pointer a0, .agg #[.int .i64 3, .int .i64 0, .int .u64 0, .slice none 0 0, .slice none 0 0]] cm fun d3 c0 => ∃ (ba : Bool), d3 = .returned (.bool ba) ∧
 (ba = false →
 R (.bool false) c0) ∧
 (ba = true →
 ∃ ad : Addr, a0 = some ad ∧
 0 ≤ (a1 : Int) ∧ (a1 : Int) < (4 : Int) ∧
 ∃ (db : Option Addr), c0.cell? ((ad.add 6).add (Int.toNat a1 * 1)) = some (.pointer db) ∧
 Calls Try.prog 8 #[.pointer db, .int .i64 0] c0 fun cz c8 => ∃ (ai bf : Int), cz = .returned (.tuple #[.int .u64 ai, .int .i64 bf]) ∧
 (bf ≠ 0 →
 R (.bool false) c8) ∧
 (bf = 0 →
 Calls Try.prog 7 #[.pointer a0, .agg #[.int .i64 2, .int .i64 a1, .int .u64 0, .slice none 0 0, .slice none 0 0]] c8 fun d4 cf => ∃ (be : Bool), d4 = .returned (.bool be) ∧
 (be = false →
 R (.bool false) cf) ∧
 (be = true →
 ∃ (I0 : Nat → List Value → World → Prop) (df : Nat), I0 df [.int .i64 0] cf ∧ ∀ (dc : Nat) (am : World) (bj : Int), I0 dc [.int .i64 bj] am →
 (bj < ab →
 ∃ (da : Option Addr), am.cell? (ad.add 0) = some (.pointer da) ∧
 ∃ (bv : Option Addr) (bl bm : Nat) (al : Int), cellsAt am (ad.add 14) [.slice bv bl bm, .int .i64 al] 0 ∧
 ∃ (b3 : Int), am.cell? (ad.add 22) = some (.int .u64 b3) ∧
 ∀ (bi : World) (ct : List Nat), Ext no am bi → Priv am bi ct →
 Calls Try.prog 9 #[.pointer da, .agg #[.slice bv bl bm, .int .i64 al], .int .u64 b3] bi fun cu bz => ∃ (aq b2 a6 ag : Int) (a4 : Option Addr) (a2 aa : Nat) (au : Option Addr) (ap av : Nat) (a3 a7 : Int), cu = .returned (.tuple #[.agg #[.int .i64 aq, .int .i64 b2, .int .u64 a6, .int .i64 ag, .slice a4 a2 aa, .slice au ap av], .int .u64 a3, .int .i64 a7]) ∧
 Keep ct bi bz ∧
 ∀ (ah : World) (c2 : Nat), Ext (fun b => b ∈ ct) bz ah → PrivJ ct bz ah [c2] →
 ∃ (bs : Option Addr) (bn bu : Nat) (aj : Int), cellsAt ah (ad.add 14) [.slice bs bn bu, .int .i64 aj] 0 ∧
 ∀ (bg : World) (c1 : List Nat), Ext no ah bg → Priv ah bg c1 →
 Calls Try.prog 10 #[.agg #[.slice bs bn bu, .int .i64 aj], .agg #[.int .i64 aq, .int .i64 b2, .int .u64 a6, .int .i64 ag, .slice a4 a2 aa, .slice au ap av]] bg fun d6 b1 => ∃ (cb : Option Addr) (cq cr : Nat) (az af : Int), d6 = .returned (.tuple #[.agg #[.slice cb cq cr, .int .i64 az], .int .i64 af]) ∧
 Keep c1 bg b1 ∧
 Keep [c2] bg b1 ∧
 (a7 ≠ 0 →
 ∀ (ck : World), Ext (fun b => b ∈ c1) b1 ck →
 R (.bool false) ck) ∧
 (a7 = 0 →
 (af ≠ 0 →
 ∀ (cp : World), Ext (fun b => b ∈ c1) b1 cp →
 R (.bool false) cp) ∧
 (af = 0 →
 (a3 = ai →
 ∀ (ci : World), Ext (fun b => b ∈ c1) b1 ci →
 R (.bool false) ci) ∧
 (a3 ≠ ai →
 ∀ (b5 : World), Ext (fun b => b ∈ c1) b1 b5 →
 Q07 b5 ((ad.add 14).add 0) ∧
 (∀ p ∈ [c2], p ≠ Addr.block (ad.add 14)) ∧
 thenW (b5.setCell ((ad.add 14).add 0) (.slice cb cq cr)) fun ca =>
 Q07 ca ((ad.add 14).add 1) ∧
 thenW (ca.setCell ((ad.add 14).add 1) (.int .i64 az)) fun bt =>
 Q07 bt ((ad.add 22).add 0) ∧
 (∀ p ∈ [c2], p ≠ Addr.block (ad.add 22)) ∧
 thenW (bt.setCell ((ad.add 22).add 0) (.int .u64 a3)) fun bw =>
 0 ≤ (a1 : Int) ∧ (a1 : Int) < (4 : Int) ∧
 ∃ (c9 : Option Addr), bw.cell? ((ad.add 6).add (Int.toNat a1 * 1)) = some (.pointer c9) ∧
 ∀ (b8 : World), Ext no bw b8 →
 Calls Try.prog 11 #[.pointer c9, .agg #[.int .i64 aq, .int .i64 b2, .int .u64 a6, .int .i64 ag, .slice a4 a2 aa, .slice au ap av]] b8 fun cg b7 => ∃ (a9 : Int), cg = .returned (.int .i64 a9) ∧
 Keep [c2] b8 b7 ∧
 (a9 ≠ 11 →
 R (.bool false) b7) ∧
 (a9 = 11 →
 ∃ (I2 : Nat → List Value → World → Prop) (cv : Nat), I2 cv [.int .i64 0] b7 ∧ ∀ (cd : Nat) (a8 : World) (ac : Int), I2 cd [.int .i64 ac] a8 →
 (ac < (a2 : Int) →
 ∃ (cc : Option Addr), a8.cell? (ad.add 0) = some (.pointer cc) ∧
 0 ≤ (a1 : Int) ∧ (a1 : Int) < (4 : Int) ∧
 ∃ (c6 : Int), a8.cell? ((ad.add 18).add (Int.toNat a1 * 1)) = some (.int .u64 c6) ∧
 ∃ cl : Addr, a4 = some cl ∧
 0 ≤ (ac : Int) ∧ (ac : Int) < (a2 : Int) ∧
 ∃ (bq : Option Addr) (br bo : Nat), a8.cell? ((cl.add (Int.toNat ac * 2)).add 1) = some (.slice bq br bo) ∧
 ∀ (b6 : World), Ext no a8 b6 →
 Calls Try.prog 12 #[.pointer cc, .int .u64 c6, .slice bq br bo] b6 fun c5 bd => ∃ (b0 a5 : Int), c5 = .returned (.tuple #[.int .u64 b0, .int .i64 a5]) ∧
 Keep [c2] b6 bd ∧
 (a5 ≠ 11 →
 R (.bool false) bd) ∧
 (a5 = 11 →
 (-9223372036854775808 : Int) ≤ (ac + 1) ∧ (ac + 1) < 9223372036854775808 ∧
 ∃ co, co < cd ∧ I2 co [.int .i64 (ac + 1)] bd)) ∧
 ((a2 : Int) ≤ ac →
 0 ≤ (a1 : Int) ∧ (a1 : Int) < (4 : Int) ∧
 ∃ (cn : Option Addr), a8.cell? ((ad.add 6).add (Int.toNat a1 * 1)) = some (.pointer cn) ∧
 (-9223372036854775808 : Int) ≤ (bj + 1) ∧ (bj + 1) < 9223372036854775808 ∧
 Calls Try.prog 8 #[.pointer cn, .int .i64 (bj + 1)] a8 fun cj bp => ∃ (bx ar : Int), cj = .returned (.tuple #[.int .u64 bx, .int .i64 ar]) ∧
 (ar ≠ 11 →
 R (.bool false) bp) ∧
 (ar = 11 →
 (-9223372036854775808 : Int) ≤ (bj + 1) ∧ (bj + 1) < 9223372036854775808 ∧
 ∃ ce, ce < dc ∧ I0 ce [.int .i64 (bj + 1)] bp))))))) ∧
 (ab ≤ bj →
 0 ≤ (a1 : Int) ∧ (a1 : Int) < (4 : Int) ∧
 ∃ (ch : Option Addr), am.cell? ((ad.add 6).add (Int.toNat a1 * 1)) = some (.pointer ch) ∧
 Calls Try.prog 8 #[.pointer ch, .int .i64 0] am fun c4 b9 => ∃ (an ao : Int), c4 = .returned (.tuple #[.int .u64 an, .int .i64 ao]) ∧
 (ao = 0 →
 (an = ai →
 Calls Try.prog 5 #[] b9 fun c7 c3 => ∃ (ak : Bool), c7 = .returned (.bool ak) ∧
 R (.bool ak) c3) ∧
 (an ≠ ai →
 R (.bool false) b9)) ∧
 (ao ≠ 0 →
 R (.bool false) b9))))))))))))

theorem Q06.up (bh : Option Addr) (bi bj : Nat) (dm cn : Int) {R : RW} {w : World} (h : Q06.N bh bi bj dm cn R w) : Q06.M bh bi bj dm cn R w := by
  unfold Q06.M
  unfold Q06.N at h
  refine bif_of (fun c4 => ?_) (fun c4 => ?_)
  ·have h := h.1 (of_decide_eq_true c4)
   refine h.mono fun fm fl h => ?_
   obtain ⟨dc, he, h⟩ := h
   refine ⟨dc, he, ?_⟩
   exact h
  have h := h.2 (Int.not_lt.1 (of_decide_eq_false c4))
  refine bif_of (fun c8 => ?_) (fun c8 => ?_)
  ·have h := h.1 (of_decide_eq_true c8)
   refine h.mono fun f3 fd h => ?_
   obtain ⟨d7, he, h⟩ := h
   refine ⟨d7, he, ?_⟩
   exact h
  have h := h.2 (Int.not_lt.1 (of_decide_eq_false c8))
  refine bif_of (fun ed => ?_) (fun ed => ?_)
  ·have h := h.1 (of_decide_eq_true ed)
   refine h.mono fun ff f0 h => ?_
   obtain ⟨cm, he, h⟩ := h
   refine ⟨cm, he, ?_⟩
   exact h
  have h := h.2 (Int.not_lt.1 (of_decide_eq_false ed))
  refine bif_of (fun e6 => ?_) (fun e6 => ?_)
  ·have h := h.1 (of_decide_eq_true e6)
   refine h.mono fun f5 f4 h => ?_
   obtain ⟨cj, he, h⟩ := h
   refine ⟨cj, he, ?_⟩
   exact h
  have h := h.2 (Int.not_lt.1 (of_decide_eq_false e6))
  refine bif_of (fun em => ?_) (fun em => ?_)
  ·have h := h.1 (of_decide_eq_true em)
   refine h.mono fun ey fa h => ?_
   obtain ⟨ck, he, h⟩ := h
   refine ⟨ck, he, ?_⟩
   exact h
  have h := h.2 (Int.not_lt.1 (of_decide_eq_false em))
  unfold Q06.J8
  refine h.mono fun fk fj h => ?_
  obtain ⟨bc, he, h⟩ := h
  refine ⟨bc, he, ?_⟩
  refine bif_of (fun eh => ?_) (fun eh => ?_)
  ·have h := h.1 (Q1z eh)
   exact h
  have h := h.2 (Q1A eh)
  refine h.mono fun ez fc h => ?_
  obtain ⟨dy, he, h⟩ := h
  refine ⟨dy, he, ?_⟩
  refine bif_of (fun eb => ?_) (fun eb => ?_)
  ·have h := h.1 (not_t eb)
   exact h
  have h := h.2 (not_f eb)
  refine h.mono fun f6 fe h => ?_
  obtain ⟨dt, he, h⟩ := h
  refine ⟨dt, he, ?_⟩
  refine bif_of (fun ej => ?_) (fun ej => ?_)
  ·have h := h.1 (not_t ej)
   exact h
  have h := h.2 (not_f ej)
  unfold Q06.J7
  obtain ⟨fo, a8, h⟩ := h
  refine Q03 a8 ?_
  obtain ⟨b2, b4, h⟩ := h
  refine ⟨b2, b4, ?_⟩
  obtain ⟨fg, el, h⟩ := h
  refine ⟨fg, el, ?_⟩
  refine h.mono fun f2 ex h => ?_
  obtain ⟨dl, e3, he, h⟩ := h
  refine ⟨dl, e3, he, ?_⟩
  refine bif_of (fun eo => ?_) (fun eo => ?_)
  ·have h := h.1 (bne_t eo)
   exact h
  have h := h.2 (bne_f eo)
  refine h.mono fun f9 f7 h => ?_
  obtain ⟨e2, he, h⟩ := h
  refine ⟨e2, he, ?_⟩
  refine bif_of (fun en => ?_) (fun en => ?_)
  ·have h := h.1 (not_t en)
   exact h
  have h := h.2 (not_f en)
  unfold Q06.J6
  obtain ⟨I0, f8, h0, h⟩ := h
  refine ⟨I0, f8, h0, fun fh e1 fi hI => ?_⟩
  have h := h fh e1 fi hI
  refine bif_fo (fun ei => ?_) (fun ei => ?_)
  ·have h := h.2 (Int.not_lt.1 (of_decide_eq_false ei))
   refine Q03 a8 ?_
   obtain ⟨b2, b4, h⟩ := h
   refine ⟨b2, b4, ?_⟩
   obtain ⟨ee, dg, h⟩ := h
   refine ⟨ee, dg, ?_⟩
   refine h.mono fun er eu h => ?_
   obtain ⟨ct, d3, he, h⟩ := h
   refine ⟨ct, d3, he, ?_⟩
   refine bif_fo (fun d5 => ?_) (fun d5 => ?_)
   ·have h := h.2 (beq_f d5)
    exact h
   have h := h.1 (beq_t d5)
   refine bif_fo (fun cu => ?_) (fun cu => ?_)
   ·have h := h.2 (beq_f cu)
    exact h
   have h := h.1 (beq_t cu)
   refine h.mono fun es eq h => ?_
   obtain ⟨cb, he, h⟩ := h
   refine ⟨cb, he, ?_⟩
   exact h
  have h := h.1 (of_decide_eq_true ei)
  unfold Q06.J5
  refine Q01 fun bk fb => ?_
  have bl := (Ext.refl no e1).x_drew fb
  refine Q03 a8 ?_
  obtain ⟨ev, dk, h⟩ := h
  refine ⟨ev, (bl).cell dk id, ?_⟩
  refine Q03 a8 ?_
  obtain ⟨dv, dh, di, cc, dn, h⟩ := h
  refine ⟨dv, dh, di, cc, Q0Z (bl) dn, ?_⟩
  refine Q03 a8 ?_
  obtain ⟨cr, e0, h⟩ := h
  refine ⟨cr, (bl).cell e0 id, ?_⟩
  refine ⟨?_, ?_⟩
  ·have h := h bk [] bl Priv.nil
   refine h.mono fun ew bv h => ?_
   obtain ⟨ap, b5, a9, af, a5, a2, a6, aw, ao, ay, c5, an, he, hkL, h⟩ := h
   refine ⟨ap, b5, a9, af, a5, a2, a6, aw, ao, ay, c5, an, he, ?_⟩
   refine Q01 fun dx et => ?_
   have a0 := Blk.of_new et
   have e5 := ((Ext.refl (fun b => b ∈ ([] : List Nat)) bv)).size
   have ec := (Ext.refl (fun b => b ∈ ([] : List Nat)) bv).x_alloc et
   refine Q0g (k := 0) (j := 0) a0 (Nat.le_of_ble_eq_true rfl) fun cw ek ea => ?_
   have d9 := ec.x_puts ek (.inr e5)
   have a0 : Blk cw bv.heap.size 52 [.int .i64 ap, .int .i64 b5, .int .u64 a9, .int .i64 af, .slice a5 a2 a6, .slice aw ao ay] := ea
   unfold Q06.J4
   refine Q01 fun aa ds => ?_
   have co := d9.x_drew ds
   have a0 := a0.x_drew ds
   refine Q03 a8 ?_
   have h := h aa (bv.heap.size) co (PrivJ.cons (.inr e5) a0.lt PrivJ.nil)
   obtain ⟨c2, bp, c6, aq, bm, h⟩ := h
   refine ⟨c2, bp, c6, aq, bm, ?_⟩
   refine ⟨ap, b5, a9, af, a5, a2, a6, aw, ao, ay, ⟨a0.celli 0 rfl rfl, a0.celli 1 rfl rfl, a0.celli 2 rfl rfl, a0.celli 3 rfl rfl, a0.celli 4 rfl rfl, a0.celli 5 rfl rfl, trivial⟩, ?_⟩
   refine ⟨?_, ?_⟩
   have h := h aa [] (Ext.refl no aa) Priv.nil
   refine h.mono fun ef be h => ?_
   obtain ⟨ah, aj, ak, a1, b3, he, hkL, hk, h⟩ := h
   refine ⟨ah, aj, ak, a1, b3, he, ?_⟩
   have a0 := hk.blk a0 (by simp)
   refine Q01 fun c9 cp => ?_
   have b0 := Blk.of_new cp
   have d4 := ((Ext.refl (fun b => b ∈ ([] : List Nat)) be)).size
   have al := Nat.ne_of_lt a0.lt
   have a0 := a0.x_alloc cp
   have d8 := (Ext.refl (fun b => b ∈ ([] : List Nat)) be).x_alloc cp
   refine Q0g (k := 0) (j := 0) b0 (Nat.le_of_ble_eq_true rfl) fun ac bo df => ?_
   have ax := d8.x_puts bo (.inr d4)
   have a0 := a0.x_puts bo al
   have b0 : Blk ac be.heap.size 43 [.slice ah aj ak, .int .i64 a1] := df
   rotate_left
   refine Q01 fun d2 d6 => ?_
   have b0 := Blk.of_new d6
   have d4 := ((Ext.refl no aa)).size
   have al := Nat.ne_of_lt a0.lt
   have a0 := a0.x_alloc d6
   have bq := (Ext.refl no aa).x_alloc d6
   refine ⟨⟨a0.celli 0 rfl rfl, a0.celli 1 rfl rfl, a0.celli 2 rfl rfl, a0.celli 3 rfl rfl, a0.celli 4 rfl rfl, a0.celli 5 rfl rfl, trivial⟩, Q0Z (bq) bm, ?_⟩
   have h := h d2 [aa.heap.size] bq (Priv.cons d4 b0.lt Priv.nil)
   refine h.mono fun e7 c9 h => ?_
   obtain ⟨ah, aj, ak, a1, b1, he, hkL, hk, h⟩ := h
   refine ⟨ah, aj, ak, a1, b1, he, ?_⟩
   have b0 := hkL.blk b0 (by simp)
   have a0 := hk.blk a0 (by simp)
   refine Q0g (k := 0) (j := 0) b0 (Nat.le_of_ble_eq_true rfl) fun ac bo df => ?_
   have ax := (Ext.refl (fun b => b ∈ ([aa.heap.size] : List Nat)) c9).x_puts bo (.inl (by simp))
   have a0 := a0.x_puts bo al
   have b0 : Blk ac aa.heap.size 43 [.slice ah aj ak, .int .i64 a1] := df
   rotate_left
   all_goals
    unfold Q06.J3
    refine bif_of (fun cv => ?_) (fun cv => ?_)
    ·have h := h.1 (bne_t cv)
     have h := h ac ax
     exact h
    have h := h.2 (bne_f cv)
    refine bif_of (fun cz => ?_) (fun cz => ?_)
    ·have h := h.1 (bne_t cz)
     have h := h ac ax
     exact h
    have h := h.2 (bne_f cz)
    refine bif_of (fun d0 => ?_) (fun d0 => ?_)
    ·have h := h.1 (beq_t d0)
     have h := h ac ax
     exact h
    have h := h.2 (beq_f d0)
    unfold Q06.J2
    refine ⟨ah, aj, ak, a1, ⟨b0.celli 0 rfl rfl, b0.celli 1 rfl rfl, trivial⟩, ?_⟩
    refine Q03 a8 ?_
    have h := h ac ax
    obtain ⟨hcs, hof, h⟩ := h
    refine ⟨hcs, Q01 fun e9 e4 => ?_⟩
    replace h := Q0f h e4
    have a0 := a0.off (by rw [Q0a]; exact hof _ (by simp)) e4
    obtain ⟨hcs, h⟩ := h
    refine ⟨hcs, Q01 fun dr cf => ?_⟩
    replace h := Q0f h cf
    have a0 := a0.off (by rw [Q0a]; exact hof _ (by simp)) cf
    refine Q03 a8 ?_
    obtain ⟨hcs, hof, h⟩ := h
    refine ⟨hcs, Q01 fun ci cd => ?_⟩
    replace h := Q0f h cd
    have a0 := a0.off (by rw [Q0a]; exact hof _ (by simp)) cd
    refine Q01 fun c3 bx => ?_
    have b6 := (Ext.refl no ci).x_drew bx
    have a0 := a0.x_drew bx
    refine Q03 a8 ?_
    obtain ⟨b2, b4, h⟩ := h
    refine ⟨b2, b4, ?_⟩
    obtain ⟨cy, ca, h⟩ := h
    refine ⟨cy, (b6).cell ca id, ?_⟩
    refine ⟨ap, b5, a9, af, a5, a2, a6, aw, ao, ay, ⟨a0.celli 0 rfl rfl, a0.celli 1 rfl rfl, a0.celli 2 rfl rfl, a0.celli 3 rfl rfl, a0.celli 4 rfl rfl, a0.celli 5 rfl rfl, trivial⟩, ?_⟩
    have h := h c3 b6
    refine h.mono fun du dq h => ?_
    obtain ⟨ar, he, hk, h⟩ := h
    refine ⟨ar, he, ?_⟩
    have a0 := hk.blk a0 (by simp)
    refine bif_of (fun bb => ?_) (fun bb => ?_)
    ·have h := h.1 (bne_t bb)
     exact h
    have h := h.2 (bne_f bb)
    unfold Q06.J1
    obtain ⟨I2, cx, h0, h⟩ := h
    refine ⟨fun k vs ww => Blk ww bv.heap.size 52 [.int .i64 ap, .int .i64 b5, .int .u64 a9, .int .i64 af, .slice a5 a2 a6, .slice aw ao ay] ∧ I2 k vs ww, cx, ⟨a0, h0⟩, fun da b7 cq hI => ?_⟩
    obtain ⟨a0, hI⟩ := hI
    have h := h da b7 cq hI
    refine ⟨a5, a2, a6, a0.celli 4 rfl rfl, ?_⟩
    refine bif_fo (fun bf => ?_) (fun bf => ?_)
    ·have h := h.2 (Int.not_lt.1 (of_decide_eq_false bf))
     refine Q03 a8 ?_
     obtain ⟨b2, b4, h⟩ := h
     refine ⟨b2, b4, ?_⟩
     obtain ⟨dd, bt, h⟩ := h
     refine ⟨dd, bt, ?_⟩
     obtain ⟨ch, bz, h⟩ := h
     try rw [w64 ch bz]
     refine h.mono fun dw dp h => ?_
     obtain ⟨b9, bd, he, h⟩ := h
     refine ⟨b9, bd, he, ?_⟩
     refine bif_of (fun ba => ?_) (fun ba => ?_)
     ·have h := h.1 (bne_t ba)
      exact h
     have h := h.2 (bne_f ba)
     obtain ⟨ch, bz, h⟩ := h
     try rw [w64 ch bz]
     obtain ⟨db, hk, h⟩ := h
     exact ⟨db, hk, h⟩
    have h := h.1 (of_decide_eq_true bf)
    refine Q01 fun bw c1 => ?_
    have ae := (Ext.refl no b7).x_drew c1
    have a0 := a0.x_drew c1
    refine Q03 a8 ?_
    obtain ⟨d1, bs, h⟩ := h
    refine ⟨d1, (ae).cell bs id, ?_⟩
    refine Q03 a8 ?_
    obtain ⟨b2, b4, h⟩ := h
    refine ⟨b2, b4, ?_⟩
    obtain ⟨cs, c7, h⟩ := h
    refine ⟨cs, (ae).cell c7 id, ?_⟩
    refine ⟨a5, a2, a6, a0.celli 4 rfl rfl, ?_⟩
    obtain ⟨eg, bn, h⟩ := h
    refine Q03 bn ?_
    obtain ⟨b2, b4, h⟩ := h
    refine ⟨b2, b4, ?_⟩
    obtain ⟨bu, c0, br, ce, h⟩ := h
    refine ⟨bu, c0, br, (ae).cell ce id, ?_⟩
    have h := h bw ae
    refine h.mono fun dj dz h => ?_
    obtain ⟨ag, ai, he, hk, h⟩ := h
    refine ⟨ag, ai, he, ?_⟩
    have a0 := hk.blk a0 (by simp)
    refine bif_of (fun bg => ?_) (fun bg => ?_)
    ·have h := h.1 (bne_t bg)
     exact h
    have h := h.2 (bne_f bg)
    obtain ⟨ch, bz, h⟩ := h
    try rw [w64 ch bz]
    obtain ⟨de, hk, h⟩ := h
    exact ⟨de, hk, a0, h⟩
  refine Q01 fun e8 ep => ?_
  have a0 := Blk.of_new ep
  have e5 := (bl).size
  have cl := bl.x_alloc ep
  refine ⟨(cl).cell e0 id, Q0Z (cl) dn, (cl).cell dk id, ?_⟩
  have h := h e8 [bk.heap.size] cl (Priv.cons e5 a0.lt Priv.nil)
  refine h.mono fun f1 dx h => ?_
  obtain ⟨am, b8, ab, ad, a3, a7, a4, az, au, av, an, cg, he, hkL, h⟩ := h
  refine ⟨am, b8, ab, ad, a3, a7, a4, az, au, av, an, cg, he, ?_⟩
  have a0 := hkL.blk a0 (by simp)
  refine Q0g (k := 0) (j := 0) a0 (Nat.le_of_ble_eq_true rfl) fun cw ek ea => ?_
  have d9 := (Ext.refl (fun b => b ∈ ([bk.heap.size] : List Nat)) dx).x_puts ek (.inl (by simp))
  have a0 : Blk cw bk.heap.size 52 [.int .i64 am, .int .i64 b8, .int .u64 ab, .int .i64 ad, .slice a3 a7 a4, .slice az au av] := ea
  unfold Q06.J4
  refine Q01 fun aa ds => ?_
  have co := d9.x_drew ds
  have a0 := a0.x_drew ds
  refine Q03 a8 ?_
  have h := h aa (bk.heap.size) co (PrivJ.cons (.inl (by simp)) a0.lt PrivJ.nil)
  obtain ⟨c2, bp, c6, aq, bm, h⟩ := h
  refine ⟨c2, bp, c6, aq, bm, ?_⟩
  refine ⟨am, b8, ab, ad, a3, a7, a4, az, au, av, ⟨a0.celli 0 rfl rfl, a0.celli 1 rfl rfl, a0.celli 2 rfl rfl, a0.celli 3 rfl rfl, a0.celli 4 rfl rfl, a0.celli 5 rfl rfl, trivial⟩, ?_⟩
  refine ⟨?_, ?_⟩
  have h := h aa [] (Ext.refl no aa) Priv.nil
  refine h.mono fun ef be h => ?_
  obtain ⟨ah, aj, ak, a1, b3, he, hkL, hk, h⟩ := h
  refine ⟨ah, aj, ak, a1, b3, he, ?_⟩
  have a0 := hk.blk a0 (by simp)
  refine Q01 fun c9 cp => ?_
  have b0 := Blk.of_new cp
  have d4 := ((Ext.refl (fun b => b ∈ ([] : List Nat)) be)).size
  have al := Nat.ne_of_lt a0.lt
  have a0 := a0.x_alloc cp
  have d8 := (Ext.refl (fun b => b ∈ ([] : List Nat)) be).x_alloc cp
  refine Q0g (k := 0) (j := 0) b0 (Nat.le_of_ble_eq_true rfl) fun ac bo df => ?_
  have ax := d8.x_puts bo (.inr d4)
  have a0 := a0.x_puts bo al
  have b0 : Blk ac be.heap.size 43 [.slice ah aj ak, .int .i64 a1] := df
  rotate_left
  refine Q01 fun d2 d6 => ?_
  have b0 := Blk.of_new d6
  have d4 := ((Ext.refl no aa)).size
  have al := Nat.ne_of_lt a0.lt
  have a0 := a0.x_alloc d6
  have bq := (Ext.refl no aa).x_alloc d6
  refine ⟨⟨a0.celli 0 rfl rfl, a0.celli 1 rfl rfl, a0.celli 2 rfl rfl, a0.celli 3 rfl rfl, a0.celli 4 rfl rfl, a0.celli 5 rfl rfl, trivial⟩, Q0Z (bq) bm, ?_⟩
  have h := h d2 [aa.heap.size] bq (Priv.cons d4 b0.lt Priv.nil)
  refine h.mono fun e7 c9 h => ?_
  obtain ⟨ah, aj, ak, a1, b1, he, hkL, hk, h⟩ := h
  refine ⟨ah, aj, ak, a1, b1, he, ?_⟩
  have b0 := hkL.blk b0 (by simp)
  have a0 := hk.blk a0 (by simp)
  refine Q0g (k := 0) (j := 0) b0 (Nat.le_of_ble_eq_true rfl) fun ac bo df => ?_
  have ax := (Ext.refl (fun b => b ∈ ([aa.heap.size] : List Nat)) c9).x_puts bo (.inl (by simp))
  have a0 := a0.x_puts bo al
  have b0 : Blk ac aa.heap.size 43 [.slice ah aj ak, .int .i64 a1] := df
  rotate_left
  all_goals
   unfold Q06.J3
   refine bif_of (fun cv => ?_) (fun cv => ?_)
   ·have h := h.1 (bne_t cv)
    have h := h ac ax
    exact h
   have h := h.2 (bne_f cv)
   refine bif_of (fun cz => ?_) (fun cz => ?_)
   ·have h := h.1 (bne_t cz)
    have h := h ac ax
    exact h
   have h := h.2 (bne_f cz)
   refine bif_of (fun d0 => ?_) (fun d0 => ?_)
   ·have h := h.1 (beq_t d0)
    have h := h ac ax
    exact h
   have h := h.2 (beq_f d0)
   unfold Q06.J2
   refine ⟨ah, aj, ak, a1, ⟨b0.celli 0 rfl rfl, b0.celli 1 rfl rfl, trivial⟩, ?_⟩
   refine Q03 a8 ?_
   have h := h ac ax
   obtain ⟨hcs, hof, h⟩ := h
   refine ⟨hcs, Q01 fun e9 e4 => ?_⟩
   replace h := Q0f h e4
   have a0 := a0.off (by rw [Q0a]; exact hof _ (by simp)) e4
   obtain ⟨hcs, h⟩ := h
   refine ⟨hcs, Q01 fun dr cf => ?_⟩
   replace h := Q0f h cf
   have a0 := a0.off (by rw [Q0a]; exact hof _ (by simp)) cf
   refine Q03 a8 ?_
   obtain ⟨hcs, hof, h⟩ := h
   refine ⟨hcs, Q01 fun ci cd => ?_⟩
   replace h := Q0f h cd
   have a0 := a0.off (by rw [Q0a]; exact hof _ (by simp)) cd
   refine Q01 fun c3 bx => ?_
   have b6 := (Ext.refl no ci).x_drew bx
   have a0 := a0.x_drew bx
   refine Q03 a8 ?_
   obtain ⟨b2, b4, h⟩ := h
   refine ⟨b2, b4, ?_⟩
   obtain ⟨cy, ca, h⟩ := h
   refine ⟨cy, (b6).cell ca id, ?_⟩
   refine ⟨am, b8, ab, ad, a3, a7, a4, az, au, av, ⟨a0.celli 0 rfl rfl, a0.celli 1 rfl rfl, a0.celli 2 rfl rfl, a0.celli 3 rfl rfl, a0.celli 4 rfl rfl, a0.celli 5 rfl rfl, trivial⟩, ?_⟩
   have h := h c3 b6
   refine h.mono fun du dq h => ?_
   obtain ⟨ar, he, hk, h⟩ := h
   refine ⟨ar, he, ?_⟩
   have a0 := hk.blk a0 (by simp)
   refine bif_of (fun bb => ?_) (fun bb => ?_)
   ·have h := h.1 (bne_t bb)
    exact h
   have h := h.2 (bne_f bb)
   unfold Q06.J1
   obtain ⟨I2, cx, h0, h⟩ := h
   refine ⟨fun k vs ww => Blk ww bk.heap.size 52 [.int .i64 am, .int .i64 b8, .int .u64 ab, .int .i64 ad, .slice a3 a7 a4, .slice az au av] ∧ I2 k vs ww, cx, ⟨a0, h0⟩, fun da b7 cq hI => ?_⟩
   obtain ⟨a0, hI⟩ := hI
   have h := h da b7 cq hI
   refine ⟨a3, a7, a4, a0.celli 4 rfl rfl, ?_⟩
   refine bif_fo (fun bf => ?_) (fun bf => ?_)
   ·have h := h.2 (Int.not_lt.1 (of_decide_eq_false bf))
    refine Q03 a8 ?_
    obtain ⟨b2, b4, h⟩ := h
    refine ⟨b2, b4, ?_⟩
    obtain ⟨dd, bt, h⟩ := h
    refine ⟨dd, bt, ?_⟩
    obtain ⟨ch, bz, h⟩ := h
    try rw [w64 ch bz]
    refine h.mono fun dw dp h => ?_
    obtain ⟨b9, bd, he, h⟩ := h
    refine ⟨b9, bd, he, ?_⟩
    refine bif_of (fun ba => ?_) (fun ba => ?_)
    ·have h := h.1 (bne_t ba)
     exact h
    have h := h.2 (bne_f ba)
    obtain ⟨ch, bz, h⟩ := h
    try rw [w64 ch bz]
    obtain ⟨db, hk, h⟩ := h
    exact ⟨db, hk, h⟩
   have h := h.1 (of_decide_eq_true bf)
   refine Q01 fun bw c1 => ?_
   have ae := (Ext.refl no b7).x_drew c1
   have a0 := a0.x_drew c1
   refine Q03 a8 ?_
   obtain ⟨d1, bs, h⟩ := h
   refine ⟨d1, (ae).cell bs id, ?_⟩
   refine Q03 a8 ?_
   obtain ⟨b2, b4, h⟩ := h
   refine ⟨b2, b4, ?_⟩
   obtain ⟨cs, c7, h⟩ := h
   refine ⟨cs, (ae).cell c7 id, ?_⟩
   refine ⟨a3, a7, a4, a0.celli 4 rfl rfl, ?_⟩
   obtain ⟨eg, bn, h⟩ := h
   refine Q03 bn ?_
   obtain ⟨b2, b4, h⟩ := h
   refine ⟨b2, b4, ?_⟩
   obtain ⟨bu, c0, br, ce, h⟩ := h
   refine ⟨bu, c0, br, (ae).cell ce id, ?_⟩
   have h := h bw ae
   refine h.mono fun dj dz h => ?_
   obtain ⟨ag, ai, he, hk, h⟩ := h
   refine ⟨ag, ai, he, ?_⟩
   have a0 := hk.blk a0 (by simp)
   refine bif_of (fun bg => ?_) (fun bg => ?_)
   ·have h := h.1 (bne_t bg)
    exact h
   have h := h.2 (bne_f bg)
   obtain ⟨ch, bz, h⟩ := h
   try rw [w64 ch bz]
   obtain ⟨de, hk, h⟩ := h
   exact ⟨de, hk, a0, h⟩

theorem Q06.go (a2 : Option Addr) (a1 a0 : Nat) (a4 a3 : Int) {R : RW} {w : World} (h : Q06.N a2 a1 a0 a4 a3 R w) : Calls Try.prog 3 #[.slice a2 a1 a0, .int .i64 a4, .int .i64 a3] w fun e w' => ∃ v, e = .returned v ∧ R v w' := Q06.ok a2 a1 a0 a4 a3 (Q06.up a2 a1 a0 a4 a3 h)
set_option maxRecDepth 20000
def d3Tail (q : Nat) (Kind56 Who57 Public58 Limit59 : Int) (Wraps60a : Option Addr) (Wraps60n Wraps60c : Nat) (Old61a : Option Addr) (Old61n Old61c p44 p45 p127 : Nat) (La : Option Addr) (Ln Lc : Nat) (E1 ap : Int) (R : RW) (ww226 : World) : Prop :=
  ∃ (tL129a : Option Addr) (tL129n tL129c : Nat) (tEpoch130 : Int), cellsAt ww226 ((blk q).add 16) [.slice tL129a tL129n tL129c, .int .i64 tEpoch130] 0 ∧
  ∀ (ww132 : World) (L131 : List Nat), Ext no ww226 ww132 → Priv ww226 ww132 L131 →
  Calls Try.prog 14 #[.agg #[.slice tL129a tL129n tL129c, .int .i64 tEpoch130], .agg #[.int .i64 Kind56, .int .i64 Who57, .int .u64 Public58, .int .i64 Limit59, .slice Wraps60a Wraps60n Wraps60c, .slice Old61a Old61n Old61c]] ww132 fun ee136 ww137 => ∃ (L133a : Option Addr) (L133n L133c : Nat) (Epoch134 apply135 : Int), ee136 = .returned (.tuple #[.agg #[.slice L133a L133n L133c, .int .i64 Epoch134], .int .i64 apply135]) ∧
  Keep L131 ww132 ww137 ∧
  Keep [p44, p45, p127] ww132 ww137 ∧
  (ap ≠ apply135 →
    ∀ (ww143 : World), Ext (fun b => b ∈ L131) ww137 ww143 →
    R (.bool false) ww143) ∧
  (ap = apply135 →
    (apply135 = 0 →
      ∀ (ww184 : World) (p145 : Nat), Ext (fun b => b ∈ L131) ww137 ww184 → PrivJ L131 ww137 ww184 [p145] →
      Q07 ww184 (((blk q).add 14).add 0) ∧
      (∀ p ∈ [p45, p145], p ≠ Addr.block ((blk q).add 14)) ∧
      thenW (ww184.setCell (((blk q).add 14).add 0) (.slice La Ln Lc)) fun ww146 =>
      Q07 ww146 (((blk q).add 14).add 1) ∧
      thenW (ww146.setCell (((blk q).add 14).add 1) (.int .i64 E1)) fun ww147 =>
      Q07 ww147 (((blk q).add 16).add 0) ∧
      (∀ p ∈ [p45], p ≠ Addr.block ((blk q).add 16)) ∧
      thenW (ww147.setCell (((blk q).add 16).add 0) (.slice L133a L133n L133c)) fun ww148 =>
      Q07 ww148 (((blk q).add 16).add 1) ∧
      thenW (ww148.setCell (((blk q).add 16).add 1) (.int .i64 Epoch134)) fun ww149 =>
      (Kind56 ≠ 3 →
        R (.bool true) ww149) ∧
      (Kind56 = 3 →
        ∃ (I1 : Nat → List Value → World → Prop) (m152 : Nat), I1 m152 [.int .i64 0] ww149 ∧ ∀ (m153 : Nat) (ww154 : World) (n151 : Int), I1 m153 [.int .i64 n151] ww154 →
        (n151 < 4 →
          0 ≤ (n151 : Int) ∧ (n151 : Int) < (4 : Int) ∧
          ∃ (x158 : Option Addr), ww154.cell? (((blk q).add 6).add (Int.toNat n151 * 1)) = some (.pointer x158) ∧
          0 ≤ (n151 : Int) ∧ (n151 : Int) < (4 : Int) ∧
          ∃ (x160 : Option Addr), ww154.cell? (((blk q).add 10).add (Int.toNat n151 * 1)) = some (.pointer x160) ∧
          ∃ (m162 : Option Addr), ww154.cell? ((blk q).add 1) = some (.pointer m162) ∧
          ∀ (ww156 : World), Ext no ww154 ww156 →
          Calls Try.prog 26 #[.agg #[.int .i64 Kind56, .int .i64 Who57, .int .u64 Public58, .int .i64 Limit59, .slice Wraps60a Wraps60n Wraps60c, .slice Old61a Old61n Old61c]] ww156 fun ee169 ww170 => ∃ (Kind163 Who164 Public165 Limit166 : Int) (Wraps167a : Option Addr) (Wraps167n Wraps167c : Nat) (Old168a : Option Addr) (Old168n Old168c : Nat), ee169 = .returned (.agg #[.int .i64 Kind163, .int .i64 Who164, .int .u64 Public165, .int .i64 Limit166, .slice Wraps167a Wraps167n Wraps167c, .slice Old168a Old168n Old168c]) ∧
          Keep [p45] ww156 ww170 ∧
          ww170.cell? ((blk q).add 1) = some (.pointer m162) ∧
          ww170.cell? (((blk q).add 10).add (Int.toNat n151 * 1)) = some (.pointer x160) ∧
          ww170.cell? (((blk q).add 6).add (Int.toNat n151 * 1)) = some (.pointer x158) ∧
          Calls Try.prog 11 #[.pointer x158, .agg #[.int .i64 Kind163, .int .i64 Who164, .int .u64 Public165, .int .i64 Limit166, .slice Wraps167a Wraps167n Wraps167c, .slice Old168a Old168n Old168c]] ww170 fun ee175 ww176 => ∃ (learn174 : Int), ee175 = .returned (.int .i64 learn174) ∧
          Keep [p45] ww170 ww176 ∧
          ww176.cell? ((blk q).add 1) = some (.pointer m162) ∧
          ww176.cell? (((blk q).add 10).add (Int.toNat n151 * 1)) = some (.pointer x160) ∧
          Calls Try.prog 27 #[.pointer x160, .pointer m162, .agg #[.int .i64 Kind56, .int .i64 Who57, .int .u64 Public58, .int .i64 Limit59, .slice Wraps60a Wraps60n Wraps60c, .slice Old61a Old61n Old61c]] ww176 fun ee180 ww181 => ∃ (learn179 : Int), ee180 = .returned (.int .i64 learn179) ∧
          Keep [p45] ww176 ww181 ∧
          (learn174 ≠ learn179 →
            R (.bool false) ww181) ∧
          (learn174 = learn179 →
            (-9223372036854775808 : Int) ≤ (n151 + 1) ∧ (n151 + 1) < 9223372036854775808 ∧
            ∃ m183, m183 < m153 ∧ I1 m183 [.int .i64 (n151 + 1)] ww181)) ∧
        ((4 : Int) ≤ n151 →
          R (.bool true) ww154))) ∧
    (apply135 ≠ 0 →
      (Kind56 ≠ 3 →
        ∀ (ww187 : World), Ext (fun b => b ∈ L131) ww137 ww187 →
        R (.bool true) ww187) ∧
      (Kind56 = 3 →
        (apply135 ≠ 0 →
          ∀ (ww190 : World), Ext (fun b => b ∈ L131) ww137 ww190 →
          R (.bool true) ww190) ∧
        (apply135 = 0 →
          ∀ (ww225 : World), Ext (fun b => b ∈ L131) ww137 ww225 →
          ∃ (I1 : Nat → List Value → World → Prop) (m193 : Nat), I1 m193 [.int .i64 0] ww225 ∧ ∀ (m194 : Nat) (ww195 : World) (n192 : Int), I1 m194 [.int .i64 n192] ww195 →
          (n192 < 4 →
            0 ≤ (n192 : Int) ∧ (n192 : Int) < (4 : Int) ∧
            ∃ (x199 : Option Addr), ww195.cell? (((blk q).add 6).add (Int.toNat n192 * 1)) = some (.pointer x199) ∧
            0 ≤ (n192 : Int) ∧ (n192 : Int) < (4 : Int) ∧
            ∃ (x201 : Option Addr), ww195.cell? (((blk q).add 10).add (Int.toNat n192 * 1)) = some (.pointer x201) ∧
            ∃ (m203 : Option Addr), ww195.cell? ((blk q).add 1) = some (.pointer m203) ∧
            ∀ (ww197 : World), Ext no ww195 ww197 →
            Calls Try.prog 26 #[.agg #[.int .i64 Kind56, .int .i64 Who57, .int .u64 Public58, .int .i64 Limit59, .slice Wraps60a Wraps60n Wraps60c, .slice Old61a Old61n Old61c]] ww197 fun ee210 ww211 => ∃ (Kind204 Who205 Public206 Limit207 : Int) (Wraps208a : Option Addr) (Wraps208n Wraps208c : Nat) (Old209a : Option Addr) (Old209n Old209c : Nat), ee210 = .returned (.agg #[.int .i64 Kind204, .int .i64 Who205, .int .u64 Public206, .int .i64 Limit207, .slice Wraps208a Wraps208n Wraps208c, .slice Old209a Old209n Old209c]) ∧
            Keep [p45] ww197 ww211 ∧
            ww211.cell? ((blk q).add 1) = some (.pointer m203) ∧
            ww211.cell? (((blk q).add 10).add (Int.toNat n192 * 1)) = some (.pointer x201) ∧
            ww211.cell? (((blk q).add 6).add (Int.toNat n192 * 1)) = some (.pointer x199) ∧
            Calls Try.prog 11 #[.pointer x199, .agg #[.int .i64 Kind204, .int .i64 Who205, .int .u64 Public206, .int .i64 Limit207, .slice Wraps208a Wraps208n Wraps208c, .slice Old209a Old209n Old209c]] ww211 fun ee216 ww217 => ∃ (learn215 : Int), ee216 = .returned (.int .i64 learn215) ∧
            Keep [p45] ww211 ww217 ∧
            ww217.cell? ((blk q).add 1) = some (.pointer m203) ∧
            ww217.cell? (((blk q).add 10).add (Int.toNat n192 * 1)) = some (.pointer x201) ∧
            Calls Try.prog 27 #[.pointer x201, .pointer m203, .agg #[.int .i64 Kind56, .int .i64 Who57, .int .u64 Public58, .int .i64 Limit59, .slice Wraps60a Wraps60n Wraps60c, .slice Old61a Old61n Old61c]] ww217 fun ee221 ww222 => ∃ (learn220 : Int), ee221 = .returned (.int .i64 learn220) ∧
            Keep [p45] ww217 ww222 ∧
            (learn215 ≠ learn220 →
              R (.bool false) ww222) ∧
            (learn215 = learn220 →
              (-9223372036854775808 : Int) ≤ (n192 + 1) ∧ (n192 + 1) < 9223372036854775808 ∧
              ∃ m224, m224 < m194 ∧ I1 m224 [.int .i64 (n192 + 1)] ww222)) ∧
          ((4 : Int) ≤ n192 →
            R (.bool true) ww195)))))
def d3Mid (q : Nat) (Kind56 Who57 Public58 Limit59 : Int) (Wraps60a : Option Addr) (Wraps60n Wraps60c : Nat) (Old61a : Option Addr) (Old61n Old61c p44 p45 : Nat) (R : RW) (ww100 : World) : Prop :=
  ∃ (sL103a : Option Addr) (sL103n sL103c : Nat) (sEpoch104 : Int), cellsAt ww100 ((blk q).add 14) [.slice sL103a sL103n sL103c, .int .i64 sEpoch104] 0 ∧
  (∀ (ww106 : World) (L105 : List Nat), Ext no ww100 ww106 → Priv ww100 ww106 L105 →
  Calls Try.prog 26 #[.agg #[.int .i64 Kind56, .int .i64 Who57, .int .u64 Public58, .int .i64 Limit59, .slice Wraps60a Wraps60n Wraps60c, .slice Old61a Old61n Old61c]] ww106 fun ee113 ww114 => ∃ (Kind107 Who108 Public109 Limit110 : Int) (Wraps111a : Option Addr) (Wraps111n Wraps111c : Nat) (Old112a : Option Addr) (Old112n Old112c : Nat), ee113 = .returned (.agg #[.int .i64 Kind107, .int .i64 Who108, .int .u64 Public109, .int .i64 Limit110, .slice Wraps111a Wraps111n Wraps111c, .slice Old112a Old112n Old112c]) ∧
  Keep L105 ww106 ww114 ∧
  Keep [p44, p45] ww106 ww114 ∧
  cellsAt ww114 ((blk q).add 14) [.slice sL103a sL103n sL103c, .int .i64 sEpoch104] 0 ∧
  (∀ (ww117 : World) (L116 : List Nat), Ext (fun b => b ∈ L105) ww114 ww117 → PrivJ L105 ww114 ww117 L116 →
  Calls Try.prog 10 #[.agg #[.slice sL103a sL103n sL103c, .int .i64 sEpoch104], .agg #[.int .i64 Kind107, .int .i64 Who108, .int .u64 Public109, .int .i64 Limit110, .slice Wraps111a Wraps111n Wraps111c, .slice Old112a Old112n Old112c]] ww117 fun ee121 ww122 => ∃ (L118a : Option Addr) (L118n L118c : Nat) (Epoch119 apply120 : Int), ee121 = .returned (.tuple #[.agg #[.slice L118a L118n L118c, .int .i64 Epoch119], .int .i64 apply120]) ∧
  Keep L116 ww117 ww122 ∧
  Keep [p44, p45] ww117 ww122 ∧
  ∀ (ww226 : World) (p127 : Nat), Ext (fun b => b ∈ L116) ww122 ww226 → PrivJ L116 ww122 ww226 [p127] →
  d3Tail q Kind56 Who57 Public58 Limit59 Wraps60a Wraps60n Wraps60c Old61a Old61n Old61c p44 p45 p127 L118a L118n L118c Epoch119 apply120 R ww226) ∧
  (∀ (ww228 : World) (p117 : Nat), Ext (fun b => b ∈ L105) ww114 ww228 → PrivJ L105 ww114 ww228 [p117] →
  cellsAt ww228 ((blk q).add 14) [.slice sL103a sL103n sL103c, .int .i64 sEpoch104] 0 ∧
  ∀ (ww120 : World) (L119 : List Nat), Ext no ww228 ww120 → Priv ww228 ww120 L119 →
  Calls Try.prog 10 #[.agg #[.slice sL103a sL103n sL103c, .int .i64 sEpoch104], .agg #[.int .i64 Kind107, .int .i64 Who108, .int .u64 Public109, .int .i64 Limit110, .slice Wraps111a Wraps111n Wraps111c, .slice Old112a Old112n Old112c]] ww120 fun ee124 ww125 => ∃ (L121a : Option Addr) (L121n L121c : Nat) (Epoch122 apply123 : Int), ee124 = .returned (.tuple #[.agg #[.slice L121a L121n L121c, .int .i64 Epoch122], .int .i64 apply123]) ∧
  Keep L119 ww120 ww125 ∧
  Keep [p44, p45, p117] ww120 ww125 ∧
  ∀ (ww227 : World), Ext (fun b => b ∈ L119) ww125 ww227 →
  ∀ (ww128 : World), Ext (fun b => b = p117) ww227 ww128 →
  d3Tail q Kind56 Who57 Public58 Limit59 Wraps60a Wraps60n Wraps60c Old61a Old61n Old61c p44 p45 p117 L121a L121n L121c Epoch122 apply123 R ww128)) ∧
  (∀ (ww107 : World) (L106 : List Nat), Ext no ww100 ww107 → Priv ww100 ww107 L106 →
  Calls Try.prog 26 #[.agg #[.int .i64 Kind56, .int .i64 Who57, .int .u64 Public58, .int .i64 Limit59, .slice Wraps60a Wraps60n Wraps60c, .slice Old61a Old61n Old61c]] ww107 fun ee114 ww115 => ∃ (Kind108 Who109 Public110 Limit111 : Int) (Wraps112a : Option Addr) (Wraps112n Wraps112c : Nat) (Old113a : Option Addr) (Old113n Old113c : Nat), ee114 = .returned (.agg #[.int .i64 Kind108, .int .i64 Who109, .int .u64 Public110, .int .i64 Limit111, .slice Wraps112a Wraps112n Wraps112c, .slice Old113a Old113n Old113c]) ∧
  Keep L106 ww107 ww115 ∧
  Keep [p44, p45] ww107 ww115 ∧
  cellsAt ww115 ((blk q).add 14) [.slice sL103a sL103n sL103c, .int .i64 sEpoch104] 0 ∧
  ∀ (ww118 : World) (L117 : List Nat), Ext (fun b => b ∈ L106) ww115 ww118 → PrivJ L106 ww115 ww118 L117 →
  Calls Try.prog 10 #[.agg #[.slice sL103a sL103n sL103c, .int .i64 sEpoch104], .agg #[.int .i64 Kind108, .int .i64 Who109, .int .u64 Public110, .int .i64 Limit111, .slice Wraps112a Wraps112n Wraps112c, .slice Old113a Old113n Old113c]] ww118 fun ee122 ww123 => ∃ (L119a : Option Addr) (L119n L119c : Nat) (Epoch120 apply121 : Int), ee122 = .returned (.tuple #[.agg #[.slice L119a L119n L119c, .int .i64 Epoch120], .int .i64 apply121]) ∧
  Keep L117 ww118 ww123 ∧
  Keep [p44, p45] ww118 ww123 ∧
  ∀ (ww226 : World) (p127 : Nat), Ext (fun b => b ∈ L117) ww123 ww226 → PrivJ L117 ww123 ww226 [p127] →
  d3Tail q Kind56 Who57 Public58 Limit59 Wraps60a Wraps60n Wraps60c Old61a Old61n Old61c p44 p45 p127 L119a L119n L119c Epoch120 apply121 R ww226)
section
variable {w w' w1 w2 : World} {o o' o1 : Own} {q k p N m n i b : Nat} {K : Nat → Prop} {X : WD} {S T : OS} {R M : Nat → RS}
theorem All.modelCell (A : All w o q X S T n R M) (hi : i < 4) {r : Nat} (hr : X.mq i = some r) : w.cell? (((blk q).add 10).add (Int.toNat (i : Int) * 1)) = some (.pointer (some (blk r))) := by
  have h := A.wd.at (adr q 10 i) fun sa sc ta tc => V_model hi sa sc ta tc
  rw [hr] at h; exact h
theorem All.jCell (A : All w o q X S T n R M) : w.cell? ((blk q).add 1) = some (.pointer (some (blk X.j))) := A.wd.at (i := 1) rfl fun _ _ _ _ => rfl
theorem Q2A (S : OS) (R : RS) (c : Chg) : (learnK S R c).1.who = R.who := by
  unfold learnK; split
  · rfl
  · split <;> rfl
def D3I (w : World) (o : Own) (q : Nat) (X2 : WD) (S' : OS) (nn : Nat) (R : Nat → RS) (cg : Chg) (wa : Option Addr) (wc : Nat) (l : List Wr) (oa : Option Addr) (oc p45 m : Nat) (vs : List Value) (w' : World) : Prop :=
  ∃ (t : Nat) (o' : Own) (R' : Nat → RS), vs = [.int .i64 t] ∧ m + t = 4 ∧ Step allK w o w' o' ∧ All w' o' q X2 S' S' nn R' R' ∧ (∀ i, R' i = if i < t then (learnK S' (R i) cg).1 else R i) ∧ CH w' o' cg wa wc l oa oc ∧ Mine [p45] w' o'
theorem Q5Y {K : List Int} {O : List (List UInt8)} (P : PI X S R K O) (hl : S.used.length < 10000000) (hep : X.sm.ep + 1 < 20) (hnz : ∀ i, i < 4 → ∀ x ∈ (R i).keys, x ≠ 0) {wa oa : Option Addr} {wc oc : Nat} {l : List Wr} {nn : Nat} (hnn : nn < 1000000)
    (A : All w o q { X with last := (beginK S X.sm X.last).2.1 } (beginK S X.sm X.last).2.2 (beginK S X.sm X.last).2.2 nn R R) (ok : Tags w o) (hC : CH w o (beginK S X.sm X.last).1 wa wc l oa oc) (hoc : (beginK S X.sm X.last).1.old.length ≤ oc) {La : Option Addr} {Lc : Nat}
    (hrow : Row w o La (X.sm.ml.flatMap Mem.C)) {p1 p2 p3 : Nat} (hM : Mine [p1, p2, p3] w o) (u : Under q X N) (h1 : N ≤ p1) (h2 : N ≤ p2) (h3 : N ≤ p3) (hN : N ≤ w.heap.size) {Φ : RW}
    (hR : ∀ w' o' R', Step allK w o w' o' → All w' o' q { X with last := (beginK S X.sm X.last).2.1, sm := ⟨X.sm.ml, X.sm.ep + 1⟩, tm := ⟨X.sm.ml, X.sm.ep + 1⟩ } (beginK S X.sm X.last).2.2 (beginK S X.sm X.last).2.2 nn R' R' → (∀ i, i < 4 → R' i = (learnK (beginK S X.sm X.last).2.2 (R i) (beginK S X.sm X.last).1).1) → Φ (.bool true) w') :
    d3Tail q (beginK S X.sm X.last).1.kd (beginK S X.sm X.last).1.who (beginK S X.sm X.last).1.pub (beginK S X.sm X.last).1.lim wa (beginK S X.sm X.last).1.ws.length wc oa (beginK S X.sm X.last).1.old.length oc p1 p2 p3 La X.sm.ml.length Lc (X.sm.ep + 1) 0 Φ w := by
  have B := P.begin hl
  have happ : applyM X.sm (beginK S X.sm X.last).1 = (⟨X.sm.ml, X.sm.ep + 1⟩, 0) := by rw [B.app, if_neg (by omega)]
  have hsh := B.ki.sh
  have hkd := B.kd
  have hst := P.st
  have hsok := P.ok
  have hPr := P.ring
  have hOl := P.ch.len
  have hshort := P.ch.short
  have hKe := P.ep
  have hqN := u.q
  unfold d3Tail
  generalize (beginK S X.sm X.last).2.1 = key at *
  generalize (beginK S X.sm X.last).2.2 = S' at *
  generalize (beginK S X.sm X.last).1 = cg at *
  have u2 : Under q { X with last := key } N := ⟨u.q, u.k, u.j, u.r, u.m⟩
  obtain ⟨ta, tc, hct, htr, htc⟩ := A.wd.t
  have hst2 : ({ X with last := key } : WD).tm = X.sm := hst
  rw [hst2] at hct htr htc
  refine ⟨ta, _, tc, _, hct, fun w132 L131 X132 hp132 => ?_⟩
  obtain ⟨s132, M132⟩ := Step.priv X132 hp132 ok
  have C132 := hC.step s132
  refine (Q38 (htr.step s132) s132.ok hsok htc C132.ws C132.m C132.n C132.ol).mono fun x w137 ⟨o137, a137, c137, he, s137, r137, hc137⟩ => ?_
  rw [happ] at he r137 hc137
  have hM2 : Mine [p1, p2, p3] w132 _ := hM.step s132
  refine ⟨_, _, _, _, _, he, M132.keep s137 (fun _ _ => id), hM2.keep s137 (fun _ _ => id), fun h => absurd rfl h, fun _ => ⟨fun _ w184 p145 X184 hp184 => ?_, fun h => absurd rfl h⟩⟩
  have hL : ∀ j, j ∈ L131 → N ≤ j := fun j hj => by have := (hp132 j hj).1; omega
  obtain ⟨s184, M184⟩ := Step.join X184 s137.ok (M132.step s137) hp184
  have A184 := ((A.no s132).no s137).far u2 s184 hL
  have h145 : N ≤ p145 := by
    rcases (hp184 p145 (by simp)).1 with h | h
    · exact hL _ h
    · have := s132.size; have := s137.size; omega
  refine ⟨A184.wd.can (i := 14) rfl (by omega), fun p hp e => ?_, Q01 fun w146 e146 => ?_⟩
  · rw [show Addr.block ((blk q).add 14) = q from rfl] at e; subst e
    simp at hp; omega
  have hr184 := (((hrow.step s132).step s137).step s184)
  refine ⟨(A184.wd.setS s184.ok (s := ⟨X.sm.ml, X.sm.ep + 1⟩) hr184 e146 rfl).1, Q01 fun w147 e147 => ?_⟩
  obtain ⟨_, s147, W147⟩ := A184.wd.setS s184.ok (s := ⟨X.sm.ml, X.sm.ep + 1⟩) hr184 e146 e147
  have A147 := A184.toWd s147 (X' := { X with last := key, sm := ⟨X.sm.ml, X.sm.ep + 1⟩ }) rfl rfl rfl rfl W147
  have hr147 := (r137.step s184).step s147
  refine ⟨A147.wd.can (i := 16) rfl (by omega), fun p hp e => ?_, Q01 fun w148 e148 => ?_⟩
  · rw [show Addr.block ((blk q).add 16) = q from rfl] at e; subst e
    simp at hp; omega
  refine ⟨(A147.wd.setT s147.ok (s := ⟨X.sm.ml, X.sm.ep + 1⟩) hr147 hc137 e148 rfl).1, Q01 fun w149 e149 => ?_⟩
  obtain ⟨_, s149, W149⟩ := A147.wd.setT s147.ok (s := ⟨X.sm.ml, X.sm.ep + 1⟩) hr147 hc137 e148 e149
  have A149 := A147.toWd s149 (X' := { X with last := key, sm := ⟨X.sm.ml, X.sm.ep + 1⟩, tm := ⟨X.sm.ml, X.sm.ep + 1⟩ }) rfl rfl rfl rfl W149
  have sP : Step allK w o w149 _ := ((((sTop s132).trans (sTop s137)).trans (sTop s184)).trans (sTop s147)).trans (sTop s149)
  have hM5 : Mine [p2] w149 _ := (hM.step sP).sub (M := [p2]) (by simp)
  refine ⟨fun h => absurd hkd h, fun _ => ⟨D3I w149 _ q { X with last := key, sm := ⟨X.sm.ml, X.sm.ep + 1⟩, tm := ⟨X.sm.ml, X.sm.ep + 1⟩ } S' nn R cg wa wc l oa oc p2, 4, ⟨0, _, R, rfl, rfl, Step.refl _ s149.ok, A149, fun i => by rw [if_neg (Nat.not_lt_zero _)], hC.step sP, hM5⟩, ?_⟩⟩
  rintro m153 w154 n151 ⟨t, o154, R', hv, hm, s154, A154, hR', C154, M154⟩
  cases hv
  refine ⟨fun ht => ?_, fun ht => ?_⟩
  · have ht : t < 4 := by omega
    have hRt : R' t = R t := by rw [hR' t, if_neg (Nat.lt_irrefl _)]
    obtain ⟨r1, r2, r3, m0, hm0, r4⟩ := hPr t ht
    have hlk : (R t).keys.length = K.length := by rw [r4, Q1r]
    obtain ⟨r, er, g, hw⟩ := A154.ring t ht
    obtain ⟨mm, em, gm, hwm⟩ := A154.model t ht
    refine ⟨by omega, by omega, _, A154.ringCell ht er, by omega, by omega, _, A154.modelCell ht em, _, A154.jCell, fun w156 X156 => ?_⟩
    have s156 := Step.of_no X156 s154.ok
    have C156 := C154.step s156
    refine (Q2p s156.ok C156.ws C156.m.symm C156.n).mono fun x w170 ⟨o170, wa', wc', he, s170, r170, hwc⟩ => ⟨_, _, _, _, _, _, _, _, _, _, he, (M154.step s156).keep s170 (fun _ _ => id), ?_⟩
    have A170 := (A154.no s156).no s170
    have C170 := C156.step s170
    have D170 : CH w170 o170 cg wa' wc' l oa oc := ⟨r170, C170.m, C170.bs, C170.old, C170.ol, C170.n⟩
    refine ⟨A170.jCell, A170.modelCell ht em, A170.ringCell ht er, ?_⟩
    obtain ⟨r', e', g', hw'⟩ := A170.ring t ht
    rw [show ({ X with last := key, sm := ⟨X.sm.ml, X.sm.ep + 1⟩, tm := ⟨X.sm.ml, X.sm.ep + 1⟩ } : WD).rq t = some r from er] at e'
    cases e'
    have hrk : r ≠ X.k := by
      obtain ⟨_, b1⟩ := g'.typ
      obtain ⟨_, b2⟩ := A170.orc.typ
      exact Blk.apart b1 b2 (by decide)
    have hrN := u.r t ht r er
    refine (Q2w g' A170.orc s170.ok hrk hsh (by rw [hRt, hlk, r3]; exact hOl.symm) (by rw [hRt, hlk]; omega) (by rw [hRt, r3]; exact hshort) D170).mono fun x w176 ⟨he, o176, s176, E176⟩ => ⟨_, he, ((M154.step s156).step s170).keep s176 (fun p hp hk => by simp at hp; omega), ?_⟩
    have A176 := A170.toRing ht er s176 (by rw [Q2A]; exact hw') E176
    refine ⟨A176.jCell, A176.modelCell ht em, ?_⟩
    obtain ⟨m', em', gm', hwm'⟩ := A176.model t ht
    rw [show ({ X with last := key, sm := ⟨X.sm.ml, X.sm.ep + 1⟩, tm := ⟨X.sm.ml, X.sm.ep + 1⟩ } : WD).mq t = some mm from em] at em'
    cases em'
    have hmj : mm ≠ X.j := by
      obtain ⟨_, b1⟩ := gm'.typ
      obtain ⟨_, b2⟩ := A176.rof.typ
      exact Blk.apart b1 b2 (by decide)
    have hmN := u.m t ht mm em
    refine (Q4K gm' A176.rof hnn hmj (by rw [hRt, hlk, r3]; exact hOl.symm) (by rw [hRt, hlk]; omega) (by rw [hRt]; exact hnz t ht) (C170.step s176) hoc).mono fun x w181 ⟨he, o181, s181, E181⟩ => ⟨_, he, (((M154.step s156).step s170).step s176).keep s181 (fun p hp hk => by simp at hp; omega), fun h => absurd rfl h, fun _ => ⟨by omega, by omega, m153 - 1, by omega, ?_⟩⟩
    have A181 := A176.toModel ht em s181 (by rw [Q2A]; exact hwm') E181
    refine ⟨t + 1, o181, _, rfl, by omega, (((s154.trans (sTop s156)).trans (sTop s170)).trans (sTop s176)).trans (sTop s181), A181, fun i => ?_, ((C170.step s176).step s181), ((((M154.step s156).step s170).step s176).step s181)⟩
    by_cases hit : i = t
    · subst hit; rw [Q1c, hRt, if_pos (by omega)]
    · rw [updF_ne _ _ hit, hR' i]
      by_cases h : i < t
      · rw [if_pos h, if_pos (by omega)]
      · rw [if_neg h, if_neg (by omega)]
  · obtain rfl : t = 4 := by omega
    exact hR _ _ R' (sP.trans s154) A154 fun i hi => by rw [hR' i, if_pos hi]
end
section
variable {w w' w1 w2 : World} {o o' o1 : Own} {q k p N m n i b : Nat} {K : Nat → Prop} {X : WD} {S T : OS} {R M : Nat → RS}
theorem Q6k {K : List Int} {O : List (List UInt8)} (P : PI X S R K O) (hl : S.used.length < 10000000) (hep : X.sm.ep + 1 < 20) (hnz : ∀ i, i < 4 → ∀ x ∈ (R i).keys, x ≠ 0) {wa oa : Option Addr} {wc oc : Nat} {l : List Wr} {nn : Nat} (hnn : nn < 1000000)
    (A : All w o q { X with last := (beginK S X.sm X.last).2.1 } (beginK S X.sm X.last).2.2 (beginK S X.sm X.last).2.2 nn R R) (ok : Tags w o) (hC : CH w o (beginK S X.sm X.last).1 wa wc l oa oc) (hoc : (beginK S X.sm X.last).1.old.length ≤ oc)
    {p1 p2 : Nat} (hM : Mine [p1, p2] w o) (u : Under q X N) (h1 : N ≤ p1) (h2 : N ≤ p2) (hN : N ≤ w.heap.size) {Φ : RW}
    (hR : ∀ w' o' R', Step allK w o w' o' → All w' o' q { X with last := (beginK S X.sm X.last).2.1, sm := ⟨X.sm.ml, X.sm.ep + 1⟩, tm := ⟨X.sm.ml, X.sm.ep + 1⟩ } (beginK S X.sm X.last).2.2 (beginK S X.sm X.last).2.2 nn R' R' → (∀ i, i < 4 → R' i = (learnK (beginK S X.sm X.last).2.2 (R i) (beginK S X.sm X.last).1).1) → Φ (.bool true) w') :
    d3Mid q (beginK S X.sm X.last).1.kd (beginK S X.sm X.last).1.who (beginK S X.sm X.last).1.pub (beginK S X.sm X.last).1.lim wa (beginK S X.sm X.last).1.ws.length wc oa (beginK S X.sm X.last).1.old.length oc p1 p2 Φ w := by
  have B := P.begin hl
  have happ : applyM X.sm (beginK S X.sm X.last).1 = (⟨X.sm.ml, X.sm.ep + 1⟩, 0) := by rw [B.app, if_neg (by omega)]
  have u2 : Under q { X with last := (beginK S X.sm X.last).2.1 } N := ⟨u.q, u.k, u.j, u.r, u.m⟩
  have hqN := u.q
  obtain ⟨sa, sc, hcs, hsr⟩ := A.wd.s
  have tail : ∀ {w2 : World} {o2 : Own} {La : Option Addr} {Lc p3 : Nat}, Step (fun j => N ≤ j) w o w2 o2 → Mine [p3] w2 o2 → N ≤ p3 → Row w2 o2 La (X.sm.ml.flatMap Mem.C) →
      d3Tail q (beginK S X.sm X.last).1.kd (beginK S X.sm X.last).1.who (beginK S X.sm X.last).1.pub (beginK S X.sm X.last).1.lim wa (beginK S X.sm X.last).1.ws.length wc oa (beginK S X.sm X.last).1.old.length oc p1 p2 p3 La X.sm.ml.length Lc (X.sm.ep + 1) 0 Φ w2 := fun {w2 o2 La Lc p3} s M3 h3 r =>
    Q5Y P hl hep hnz hnn (A.far u2 s fun _ h => h) s.ok (hC.step s) hoc r (fun p hp => by
      rcases List.mem_cons.1 hp with rfl | hp
      · exact (hM.step s) _ (by simp)
      · rcases List.mem_cons.1 hp with rfl | hp
        · exact (hM.step s) _ (by simp)
        · exact M3 _ hp) u h1 h2 h3 (by have := s.size; omega) fun w' o' R' s' => hR w' o' R' ((sTop s).trans s')
  unfold d3Mid
  refine ⟨sa, _, sc, _, hcs, fun w106 L105 X106 hp106 => ?_, fun w107 L106 X107 hp107 => ?_⟩
  · obtain ⟨s106, M106⟩ := Step.priv X106 hp106 ok
    have A106 := A.no s106
    have hL : ∀ j, j ∈ L105 → N ≤ j := fun j hj => by have := (hp106 j hj).1; omega
    have C106 := hC.step s106
    refine (Q2p s106.ok C106.ws C106.m.symm C106.n).mono fun x w114 ⟨o114, wa', wc', he, s114, r114, hwc⟩ => ⟨_, _, _, _, _, _, _, _, _, _, he, M106.keep s114 (fun _ _ => id), ((hM.step s106).keep s114 fun _ _ => id), A106.wd.cells s114 id (A.wd.cells s106 id hcs), fun w117 L116 X117 hp117 => ?_, fun w228 p117 X228 hp228 => ?_⟩
    · obtain ⟨s117, M117⟩ := Step.join X117 s114.ok (M106.step s114) hp117
      have hL116 : ∀ j, j ∈ L116 → N ≤ j := fun j hj => by
        rcases (hp117 j hj).1 with h | h
        · exact hL _ h
        · have := s106.size; have := s114.size; omega
      have sA : Step (fun j => N ≤ j) w o w117 _ := ((Step.anyK s106).trans' s114 fun j h => h.elim).trans' s117 fun j h => .inl (hL j h)
      refine (Q1s (s := X.sm) (cg := (beginK S X.sm X.last).1) (hsr.step sA) s117.ok P.ok (r114.step s117) hC.m hC.n hC.ol).mono fun x w122 ⟨o122, a122, c122, he, s122, r122, hc122⟩ => ?_
      rw [happ] at he r122 hc122
      refine ⟨_, _, _, _, _, he, M117.keep s122 (fun _ _ => id), (hM.step sA).keep s122 (fun _ _ => id), fun w226 p127 X226 hp226 => ?_⟩
      obtain ⟨s226, M226⟩ := Step.join X226 s122.ok (M117.step s122) hp226
      have sB : Step (fun j => N ≤ j) w o w226 _ := (sA.trans' s122 fun j h => h.elim).trans' s226 fun j h => .inl (hL116 j h)
      have h127 : N ≤ p127 := by
        rcases (hp226 p127 (by simp)).1 with h | h
        · exact hL116 _ h
        · have := sA.size; have := s122.size; omega
      exact tail sB M226 h127 (r122.step s226)
    · obtain ⟨s228, M228⟩ := Step.join X228 s114.ok (M106.step s114) hp228
      have sA : Step (fun j => N ≤ j) w o w228 _ := ((Step.anyK s106).trans' s114 fun j h => h.elim).trans' s228 fun j h => .inl (hL j h)
      have h117 : N ≤ p117 := by
        rcases (hp228 p117 (by simp)).1 with h | h
        · exact hL _ h
        · have := s106.size; have := s114.size; omega
      refine ⟨(A106.no s114).wd.cells s228 (fun h => by have := hL _ h; omega) (A106.wd.cells s114 id (A.wd.cells s106 id hcs)), fun w120 L119 X120 hp120 => ?_⟩
      obtain ⟨s120, M120⟩ := Step.priv X120 hp120 s228.ok
      have hL119 : ∀ j, j ∈ L119 → N ≤ j := fun j hj => by have := (hp120 j hj).1; have := sA.size; omega
      have sA2 : Step (fun j => N ≤ j) w o w120 _ := sA.trans' s120 fun j h => h.elim
      refine (Q1s (s := X.sm) (cg := (beginK S X.sm X.last).1) (hsr.step sA2) s120.ok P.ok ((r114.step s228).step s120) hC.m hC.n hC.ol).mono fun x w125 ⟨o125, a125, c125, he, s125, r125, hc125⟩ => ?_
      rw [happ] at he r125 hc125
      have M3 : Mine [p1, p2, p117] w120 _ := fun p hp => by
        rcases List.mem_cons.1 hp with rfl | hp
        · exact (hM.step sA2) _ (by simp)
        · rcases List.mem_cons.1 hp with rfl | hp
          · exact (hM.step sA2) _ (by simp)
          · exact (M228.step s120) _ hp
      refine ⟨_, _, _, _, _, he, M120.keep s125 (fun _ _ => id), M3.keep s125 (fun _ _ => id), fun w227 X227 w128 X128 => ?_⟩
      have s227 := Step.joins X227 s125.ok (M120.step s125)
      have M4 : Mine [p117] w227 _ := ((M3.step s125).step s227).sub (M := [p117]) (by simp)
      have s128 : Step (fun j => j ∈ [p117]) w227 _ w128 _ := Step.stores X128 s227.ok M4 (fun b hb => by simp [hb])
      have sB : Step (fun j => N ≤ j) w o w128 _ := ((sA2.trans' s125 fun j h => h.elim).trans' s227 fun j h => .inl (hL119 j h)).trans' s128 fun j hj => .inl (by simp at hj; rw [hj]; exact h117)
      exact tail sB (M4.step s128) h117 ((r125.step s227).step s128)
  · obtain ⟨s107, M107⟩ := Step.priv X107 hp107 ok
    have A107 := A.no s107
    have hL : ∀ j, j ∈ L106 → N ≤ j := fun j hj => by have := (hp107 j hj).1; omega
    have C107 := hC.step s107
    refine (Q2p s107.ok C107.ws C107.m.symm C107.n).mono fun x w115 ⟨o115, wa', wc', he, s115, r115, hwc⟩ => ⟨_, _, _, _, _, _, _, _, _, _, he, M107.keep s115 (fun _ _ => id), ((hM.step s107).keep s115 fun _ _ => id), A107.wd.cells s115 id (A.wd.cells s107 id hcs), fun w118 L117 X118 hp118 => ?_⟩
    obtain ⟨s118, M118⟩ := Step.join X118 s115.ok (M107.step s115) hp118
    have hL117 : ∀ j, j ∈ L117 → N ≤ j := fun j hj => by
      rcases (hp118 j hj).1 with h | h
      · exact hL _ h
      · have := s107.size; have := s115.size; omega
    have sA : Step (fun j => N ≤ j) w o w118 _ := ((Step.anyK s107).trans' s115 fun j h => h.elim).trans' s118 fun j h => .inl (hL j h)
    refine (Q1s (s := X.sm) (cg := (beginK S X.sm X.last).1) (hsr.step sA) s118.ok P.ok (r115.step s118) hC.m hC.n hC.ol).mono fun x w123 ⟨o123, a123, c123, he, s123, r123, hc123⟩ => ?_
    rw [happ] at he r123 hc123
    refine ⟨_, _, _, _, _, he, M118.keep s123 (fun _ _ => id), (hM.step sA).keep s123 (fun _ _ => id), fun w226 p127 X226 hp226 => ?_⟩
    obtain ⟨s226, M226⟩ := Step.join X226 s123.ok (M118.step s123) hp226
    have sB : Step (fun j => N ≤ j) w o w226 _ := (sA.trans' s123 fun j h => h.elim).trans' s226 fun j h => .inl (hL117 j h)
    have h127 : N ≤ p127 := by
      rcases (hp226 p127 (by simp)).1 with h | h
      · exact hL117 _ h
      · have := sA.size; have := s123.size; omega
    exact tail sB M226 h127 (r123.step s226)
theorem Q6a {K : List Int} {O : List (List UInt8)} (P : PI X S R K O) (hl : S.used.length + 20 < 1000000) (hep : X.sm.ep + 1 < 20) (hnz : ∀ i, i < 4 → ∀ x ∈ (R i).keys, x ≠ 0) {nn : Nat} (hnn : nn + 20 < 1000000)
    (A : All w o q X S S nn R R) (ok : Tags w o) {who pub : Int} {xa ya : Option Addr} {xn xc yn yc : Nat} :
    Calls Try.prog 7 #[.pointer (some (blk q)), .agg #[.int .i64 3, .int .i64 who, .int .u64 pub, .slice xa xn xc, .slice ya yn yc]] w (fun x w' => ∃ o' R', x = .returned (.bool true) ∧ Step allK w o w' o' ∧
      All w' o' q { X with last := (beginK S X.sm X.last).2.1, sm := ⟨X.sm.ml, X.sm.ep + 1⟩, tm := ⟨X.sm.ml, X.sm.ep + 1⟩ } (beginK S X.sm X.last).2.2 (beginK S X.sm X.last).2.2 (nn + 10) R' R' ∧ ∀ i, i < 4 → R' i = (learnK (beginK S X.sm X.last).2.2 (R i) (beginK S X.sm X.last).1).1) := by
  refine (do3.go (some (blk q)) who pub xa xn xc ya yn yc (R := fun v w' => ∃ o' R', v = .bool true ∧ Step allK w o w' o' ∧
      All w' o' q { X with last := (beginK S X.sm X.last).2.1, sm := ⟨X.sm.ml, X.sm.ep + 1⟩, tm := ⟨X.sm.ml, X.sm.ep + 1⟩ } (beginK S X.sm X.last).2.2 (beginK S X.sm X.last).2.2 (nn + 10) R' R' ∧ ∀ i, i < 4 → R' i = (learnK (beginK S X.sm X.last).2.2 (R i) (beginK S X.sm X.last).1).1) ?_).mono fun x w' ⟨v, he, o', R', hv, h⟩ => ⟨o', R', by rw [he, hv], h⟩
  unfold do3.N
  have hul : S.used.length < 10000000 := by omega
  have B := P.begin hul
  have hlr := P.last_rng
  have u := A.under
  have hqN := u.q
  obtain ⟨sa, sc, hcs, hsr⟩ := A.wd.s
  refine ⟨_, rfl, _, A.wd.at (i := 0) rfl fun _ _ _ _ => rfl, sa, _, sc, _, hcs, X.last, A.wd.at (i := 22) rfl fun _ _ _ _ => rfl, fun w25 L24 X25 hp25 => ?_⟩
  obtain ⟨s25, M25⟩ := Step.priv X25 hp25 ok
  have A25 := A.no s25
  have hL : ∀ j, j ∈ L24 → w.heap.size ≤ j := fun j hj => (hp25 j hj).1
  have hkN := u.k
  have hjN := u.j
  refine (Q2v A25.orc s25.ok P.ki.inv.ok hl (hsr.step s25) P.ok hlr.1 hlr.2 P.known P.ne).mono fun x w35 ⟨o35, wa, wc, ba, bc, ws, he, s35, P35, C35, hwc, hbc⟩ => ⟨_, _, _, _, _, _, _, _, _, _, _, _, he, M25.keep s35 (fun p hp e => by have := hL p hp; omega), fun w230 p44 p45 p46 X230 hp230 => ?_⟩
  have A35 := A25.toOrc s35 P35
  obtain ⟨s230, M230⟩ := Step.join X230 s35.ok (M25.step s35) hp230
  have A230 := A35.far u s230 hL
  have z25 := s25.size
  have z35 := s35.size
  have z230 := s230.size
  have hge : ∀ p, p ∈ [p44, p45, p46] → w.heap.size ≤ p := fun p hp => by
    rcases (hp230 p hp).1 with h | h
    · exact hL _ h
    · omega
  obtain ⟨ta, tc, hct, htr, htc⟩ := A230.wd.t
  rw [P.st] at hct htr htc
  refine ⟨_, A230.jCell, ta, _, tc, _, hct, X.last, A230.wd.at (i := 22) rfl fun _ _ _ _ => rfl, fun w55 L54 X55 hp55 => ?_⟩
  obtain ⟨s55, M55⟩ := Step.priv X55 hp55 s230.ok
  have A55 := A230.no s55
  have hL54 : ∀ j, j ∈ L54 → w.heap.size ≤ j := fun j hj => by have := (hp55 j hj).1; omega
  refine (Q4I A55.rof P.ki.inv.ok hnn (htr.step s55) P.ok hlr.1 hlr.2 P.known P.ne).mono fun x w65 ⟨o65, wa2, wc2, ba2, bc2, ws2, he, s65, Q65, C65, hwc2, hbc2⟩ => ⟨_, _, _, _, _, _, _, _, _, _, _, _, he, M55.keep s65 (fun p hp e => by have := hL54 p hp; omega), ((M230.step s55).keep s65 fun p hp e => by have := hge p hp; omega), fun h => absurd rfl h, fun _ => ⟨fun h => absurd rfl h, fun _ w229 p80 X229 hp229 => ?_⟩⟩
  have A65 := A55.toRof s65 Q65
  obtain ⟨s229, M229⟩ := Step.join X229 s65.ok (M55.step s65) hp229
  have A229 := A65.far u s229 hL54
  have z55 := s55.size
  have z65 := s65.size
  have z229 := s229.size
  have h80 : w.heap.size ≤ p80 := by
    rcases (hp229 p80 (by simp)).1 with h | h
    · exact hL54 _ h
    · omega
  have C35' := (((C35.step s230).step s55).step s65).step s229
  have C229 := C65.step s229
  have M3 : Mine [p44, p45, p80] w229 _ := fun p hp => by
    rcases List.mem_cons.1 hp with rfl | hp
    · exact (((M230.step s55).step s65).step s229) _ (by simp)
    · rcases List.mem_cons.1 hp with rfl | hp
      · exact (((M230.step s55).step s65).step s229) _ (by simp)
      · exact M229 _ hp
  refine (Q5S s229.ok C35'.ws C35'.m.symm C35'.n).mono fun x w88 ⟨o88, wa', wc', he, s88, r88, hwc'⟩ => ⟨_, _, _, _, _, _, _, _, _, _, he, M3.keep s88 (fun _ _ => id), ?_⟩
  have C88 := C35'.step s88
  have D88 := C229.step s88
  have e1 : (CR.cg ⟨(beginK S X.sm X.last).1.kd, (beginK S X.sm X.last).1.who, (beginK S X.sm X.last).1.pub, (beginK S X.sm X.last).1.lim, wa', wc', ws, ba, bc, (beginK S X.sm X.last).1.old⟩) = (beginK S X.sm X.last).1 := by
    unfold CR.cg; rw [C88.m]
  have e2 : (CR.cg ⟨(beginK S X.sm X.last).1.kd, (beginK S X.sm X.last).1.who, (beginK S X.sm X.last).1.pub, (beginK S X.sm X.last).1.lim, wa2, wc2, ws2, ba2, bc2, (beginK S X.sm X.last).1.old⟩) = (beginK S X.sm X.last).1 := by
    unfold CR.cg; rw [D88.m]
  have hch := Q4f (w := w88) (x := ⟨(beginK S X.sm X.last).1.kd, (beginK S X.sm X.last).1.who, (beginK S X.sm X.last).1.pub, (beginK S X.sm X.last).1.lim, wa', wc', ws, ba, bc, (beginK S X.sm X.last).1.old⟩)
    (y := ⟨(beginK S X.sm X.last).1.kd, (beginK S X.sm X.last).1.who, (beginK S X.sm X.last).1.pub, (beginK S X.sm X.last).1.lim, wa2, wc2, ws2, ba2, bc2, (beginK S X.sm X.last).1.old⟩)
    ⟨r88.1, fun y hy => (C88.bs y hy).1.1, C88.old.1⟩ ⟨D88.ws.1, fun y hy => (D88.bs y hy).1.1, D88.old.1⟩ C88.n (fun y hy => (C88.bs y hy).2.2) C88.ol
  rw [e1, e2] at hch
  refine hch.mono fun x w91 ⟨r, he, hr, X91⟩ => ⟨r, he, X91.kept, fun hf => ?_, fun _ => ⟨fun h => absurd rfl h, fun _ w99 X99 => ?_⟩⟩
  · rw [hr.2 rfl] at hf; cases hf
  have s91 := Step.of_no X91 s88.ok
  have M91 := (M3.step s88).step s91
  have s99 : Step (fun j => j ∈ [p45]) w91 _ w99 _ := Step.stores X99 s91.ok (M91.sub (M := [p45]) (by simp)) (fun b hb => by simp [hb])
  have A99 := ((A229.no s88).no s91).far u s99 fun j hj => by simp at hj; rw [hj]; exact hge _ (by simp)
  refine ⟨A99.wd.can (i := 22) rfl (by omega), fun p hp e => ?_, Q01 fun w100 e100 => ?_⟩
  · rw [show Addr.block ((blk q).add 22) = q from rfl] at e; subst e
    have h44 := hge p44 (by simp)
    have h45 := hge p45 (by simp)
    simp at hp; omega
  obtain ⟨s100, W100⟩ := A99.wd.set s99.ok (i := 22) rfl (X' := { X with last := (beginK S X.sm X.last).2.1 }) rfl rfl (fun sa sc ta tc => S_last _ sa sc ta tc) e100
  have A100 := A99.toWd s100 (X' := { X with last := (beginK S X.sm X.last).2.1 }) rfl rfl rfl rfl W100
  have D100 := ((D88.step s91).step s99).step s100
  have M100 : Mine [p44, p45] w100 _ := ((M91.step s99).step s100).sub (M := [p44, p45]) (by simp)
  have sP : Step allK w o w100 _ := (((((((((sTop s25).trans (sTop s35)).trans (sTop s230)).trans (sTop s55)).trans (sTop s65)).trans (sTop s229)).trans (sTop s88)).trans (sTop s91)).trans (sTop s99)).trans (sTop s100)
  exact Q6k (Φ := fun v w' => ∃ o' R', v = .bool true ∧ Step allK w o w' o' ∧
      All w' o' q { X with last := (beginK S X.sm X.last).2.1, sm := ⟨X.sm.ml, X.sm.ep + 1⟩, tm := ⟨X.sm.ml, X.sm.ep + 1⟩ } (beginK S X.sm X.last).2.2 (beginK S X.sm X.last).2.2 (nn + 10) R' R' ∧ ∀ i, i < 4 → R' i = (learnK (beginK S X.sm X.last).2.2 (R i) (beginK S X.sm X.last).1).1)
    P hul hep hnz (by omega) A100 s100.ok D100 hbc2 M100 u (hge _ (by simp)) (hge _ (by simp)) (by have := sP.size; omega) fun w' o' R' s' A' hR' => ⟨o', R', rfl, sP.trans s', A', hR'⟩
end
set_option maxRecDepth 100000
set_option maxRecDepth 20000
section
variable {w w' w1 w2 : World} {o o' o1 : Own} {q k p N m n i b : Nat} {K : Nat → Prop} {X X' : WD} {S T : OS} {R M : Nat → RS}
theorem topE {K : Nat → Prop} {W w : World} {o : Own} (s : Step K W (fun _ => none) w o) : Ext no W w := s.ext.mono fun b ⟨_, h, _⟩ _ => by cases h
end
theorem gone_in {p pub : Int} {i : Nat} (h1 : 1 ≤ i) (h4 : i < 4) (hp : pub ≠ 0) : applyM (newM p) ⟨1, i, pub, 0, [], []⟩ = (⟨[⟨0, p, 0, -1, 0⟩, ⟨i, pub, 0, -1, 0⟩], -1⟩, 0) := by
  have : i = 1 ∨ i = 2 ∨ i = 3 := by omega
  rcases this with rfl | rfl | rfl <;> simp [applyM, rightM, boxesP, boxesGo, inviteM, isAt, findI, newM, hp]
theorem Q6l {s : MS} (hs : s.ok) {i : Nat} (h1 : 1 ≤ i) (h4 : i < 4) (h0 : 0 ≤ s.ep) {m : Mem} (hm : m ∈ nowM s.ml) (hw : m.who = i) :
    (applyM s ⟨2, i, 0, 0, [], []⟩).2 = 0 ∧ (applyM s ⟨2, i, 0, 0, [], []⟩).1.ep = s.ep ∧ ∀ x ∈ nowM (applyM s ⟨2, i, 0, 0, [], []⟩).1.ml, x.who ≠ i := by
  obtain ⟨hml, hto⟩ := Q28 hm
  have hf := Q23 hs.sorted hml
  rw [hw] at hf
  have hat : isAt s.ml i = true := by
    cases h : isAt s.ml i with
    | true => rfl
    | false => unfold findM at hf; rw [h] at hf; cases hf
  obtain ⟨m', hm', hw'⟩ := Q1X hat
  have hmm : m' = m := by
    unfold findM at hf
    rw [if_pos hat, hm'] at hf
    cases hf; rfl
  subst hmm
  have hr : rightM ⟨2, i, 0, 0, [], []⟩ = true := by
    have : i = 1 ∨ i = 2 ∨ i = 3 := by omega
    rcases this with rfl | rfl | rfl <;> simp [rightM, boxesP, boxesGo]
  have hE : applyM s ⟨2, i, 0, 0, [], []⟩ = (⟨s.ml.set (findI s.ml i) { m' with to_ := if s.ep < 0 then -2 else s.ep, lim := 0 }, s.ep⟩, 0) := by
    unfold applyM
    rw [if_pos hr]
    show (if (2 : Int) = 1 then _ else if (2 : Int) = 2 then revokeM s ⟨2, i, 0, 0, [], []⟩ else _) = _
    rw [if_neg (by decide), if_pos rfl]
    unfold revokeM
    show (if isAt s.ml (i : Int) = true then (match s.ml[findI s.ml (i : Int)]? with | some m => _ | none => _) else _) = _
    rw [if_pos hat, hm']
    show (if m'.to_ = -1 then _ else _) = _
    rw [if_pos hto]
  have hok := Q35 (c := ⟨2, i, 0, 0, [], []⟩) hs (by rw [hE])
  rw [hE] at hok ⊢
  refine ⟨rfl, rfl, fun x hx hxw => ?_⟩
  obtain ⟨hx1, hx2⟩ := Q28 hx
  have hlt := (List.getElem?_eq_some_iff.1 hm').1
  have hin : ({ m' with to_ := if s.ep < 0 then -2 else s.ep, lim := 0 } : Mem) ∈ s.ml.set (findI s.ml i) { m' with to_ := if s.ep < 0 then -2 else s.ep, lim := 0 } := List.mem_of_getElem? (List.getElem?_set_self hlt)
  obtain ⟨m2, hm2⟩ : ∃ m2, m2 = ({ m' with to_ := if s.ep < 0 then -2 else s.ep, lim := 0 } : Mem) := ⟨_, rfl⟩
  have w2 : m2.who = i := by rw [hm2]; exact hw'
  have t2 : m2.to_ = s.ep := by rw [hm2]; exact if_neg (by omega)
  rw [← hm2] at hin
  have f1 := Q23 hok.sorted hx1
  have f2 := Q23 (l := s.ml.set (findI s.ml (i : Int)) { m' with to_ := if s.ep < 0 then -2 else s.ep, lim := 0 }) hok.sorted (by rw [← hm2]; exact hin)
  rw [hxw] at f1
  rw [w2] at f2
  have e := (Prod.mk.inj (f1.symm.trans f2)).1
  rw [e, t2] at hx2
  omega
theorem PI.out_keys {X : WD} {S : OS} {R : Nat → RS} {K : List Int} {O : List (List UInt8)} (h : PI X S R K O) (hl : S.used.length < 10000000) (hep : X.sm.ep + 1 < 20) {i : Nat} (hi : i < 4) (hm : ∀ m ∈ nowM X.sm.ml, m.who ≠ i) :
    (learnK (beginK S X.sm X.last).2.2 (R i) (beginK S X.sm X.last).1).1.keys = (R i).keys ++ [0] := by
  have B := h.begin hl
  obtain ⟨r1, r2, r3, m, hm', r4⟩ := h.ring i hi
  have hkl : (R i).keys.length = K.length := by rw [r4, Q1r]
  have ht := B.other (R := R i) (by rw [r1]; exact hm)
  unfold learnK
  rw [if_neg (by rw [B.kd, B.right]; simp), if_neg (by have := h.ep; omega), ht, hkl, r3, r4]
  dsimp only
  rw [Q5c K m hm' (beginK S X.sm X.last).2.1]
  cases hK : K.length with
  | zero => rfl
  | succ e =>
    unfold backK
    rw [if_neg]
    rintro ⟨⟨h1, _⟩, _⟩
    rw [mkK_get (by simp; omega), if_neg (by omega)] at h1
    exact h1 rfl
theorem Q6f {R R' : RS} (hk : R'.keys = R.keys ++ [0]) (h : 0 < R.keys.length) : keyK R' 0 = keyK R 0 := by
  have c1 : ¬ ((0 : Int) < 0 ∨ ((R.keys ++ [0]).length : Int) ≤ 0) := by rw [List.length_append, List.length_singleton]; omega
  have c2 : ¬ ((0 : Int) < 0 ∨ ((R.keys.length : Nat) : Int) ≤ 0) := by omega
  unfold keyK
  rw [hk, if_neg c1, if_neg c2, Int.toNat_zero, List.getElem?_append_left h]
theorem BK.unwrap {S : OS} {s : MS} {last : Int} (h : BK S s last) {p : Int × List UInt8} (hp : p ∈ (beginK S s last).1.ws) {x : Int} (hx : ∀ m ∈ nowM s.ml, (alook S.publics m.pub).getD 0 ≠ x) : (Q11 (beginK S s last).2.2 x p.2).2 = 11 := by
  obtain ⟨m, hm, e1, e2, e3⟩ := h.box p hp
  unfold Q11
  rw [e3]
  show (if _ then _ else if _ then _ else _ : Int × Int).2 = _
  rw [if_neg (by rw [e2]; exact fun h => h rfl), if_pos (by rw [h.le.pb]; exact hx m hm)]
section
variable {w w' w1 w2 : World} {o o' o1 : Own} {q k p N m n i b : Nat} {X X' : WD} {S T : OS} {R M : Nat → RS}
theorem tm_same {Y : WD} (h : Y.tm = Y.sm) : ({ Y with tm := Y.sm } : WD) = Y := by
  obtain ⟨a, b, c, d, e, f, g, h2, i⟩ := Y
  have h : g = f := h
  subst h; rfl
theorem All.secCell (A : All w o q X S T n R M) (hi : i < 4) : w.cell? (((blk q).add 18).add (Int.toNat (i : Int) * 1)) = some (.int .u64 (X.sec i)) := A.wd.at (adr q 18 i) fun sa sc ta tc => V_sec hi sa sc ta tc
def GoL (W : World) (i : Nat) (key39 : Int) (q many m : Nat) (vs : List Value) (w' : World) : Prop :=
  ∃ (t : Nat) (X : WD) (S T : OS) (nn : Nat) (R Rv M : Nat → RS) (K : List Int) (O : List (List UInt8)) (o' : Own), vs = [.int .i64 t] ∧ m + t = many ∧ Step allK W (fun _ => none) w' o' ∧ All w' o' q X S T nn R M ∧ PI { X with tm := X.sm } S Rv K O ∧ R i = Rv i ∧ K.length = t + 1 ∧
    (∀ m ∈ nowM X.sm.ml, m.who ≠ i) ∧ key39 ∈ S.used ∧ keyK (R i) 0 = (key39, 0) ∧ 0 < (R i).keys.length ∧ (∀ a b, a < 4 → b < 4 → a ≠ b → X.sec a ≠ X.sec b) ∧ S.used.length ≤ 18 + 10 * t
theorem EpochsGone_walk (W : World) (a0 : Option Addr) (len0 cap0 : Nat) (n1 n2 : Int) (o0 : IntsQ .u64 W [.slice a0 len0 cap0]) (w1 : (Lit.int .i64 n1).wf = true) (w2 : (Lit.int .i64 n2).wf = true) :
    Calls Try.prog 3 #[.slice a0 len0 cap0, .int .i64 n1, .int .i64 n2] W (Gives (.bool true) fun w' => Ext no W w') := by
  obtain ⟨_, _, d, e, hdc, _, hd, hdw⟩ := o0
  cases e
  have tg0 : Tags W fun _ => none := fun b j _ h => by cases h
  have hd0 : Row W (fun _ => none) a0 (d.map u64V) := ⟨hd, fun _ _ _ => rfl⟩
  refine (Q06.go a0 d.length cap0 n1 n2 (R := fun v w' => v = .bool true ∧ Ext no W w') ?_).mono fun x w' ⟨v, he, hv, X⟩ => ⟨by rw [he, hv], X⟩
  unfold Q06.N
  have live : ∀ {w2 : World} {o2 : Own}, Step allK W (fun _ => none) w2 o2 → Calls Try.prog 5 #[] w2 fun ee ww => ∃ (al : Bool), ee = .returned (.bool al) ∧ (Value.bool al = .bool true ∧ Ext no W ww) := fun s =>
    (alive13 s.ok).mono fun x ww ⟨o2, he, s2⟩ => ⟨true, he, rfl, topE (s.trans (sTop s2))⟩
  have s0 : Step allK W (fun _ => none) W (fun _ => none) := Step.refl _ tg0
  refine ⟨fun _ => live s0, fun hd50 => ⟨fun _ => live s0, fun h1 => ⟨fun _ => live s0, fun h3 => ⟨fun _ => live s0, fun hm0 => ⟨fun _ => live s0, fun hm6 => ?_⟩⟩⟩⟩⟩
  obtain ⟨i, rfl⟩ := Int.eq_ofNat_of_zero_le (show 0 ≤ n1 by omega)
  obtain ⟨many, rfl⟩ := Int.eq_ofNat_of_zero_le hm0
  have hi : i < 4 := by omega
  have hi1 : 1 ≤ i := by omega
  refine (Q49 tg0 hd0 hdc (fun x hx => wf_u64 (hdw x hx)) (by omega)).mono fun x w26 ⟨q, o26, X, S, R, he, s26, NW⟩ => ⟨_, he, fun h => (by cases h), fun _ => ?_⟩
  have P0 := NW.pi
  refine (Q6e NW.all s26.ok P0.st P0.ok hi).mono fun x w30 ⟨o30, he, s30, A30⟩ => ⟨true, he, fun h => (by cases h), fun _ => ?_⟩
  have P1 := P0.doX0 hi
  have hpn : X.pub i ≠ 0 := NW.inv.nz _ (NW.inv.pu _ _ (NW.pub i hi))
  have hX1 : doX X ⟨1, i, X.pub i, 0, [], []⟩ = { X with sm := ⟨[⟨0, X.pub 0, 0, -1, 0⟩, ⟨i, X.pub i, 0, -1, 0⟩], -1⟩, tm := ⟨[⟨0, X.pub 0, 0, -1, 0⟩, ⟨i, X.pub i, 0, -1, 0⟩], -1⟩ } := by
    unfold doX
    rw [NW.sm, gone_in hi1 hi hpn, if_pos rfl]
  have hsm1 : (doX X ⟨1, i, X.pub i, 0, [], []⟩).sm = ⟨[⟨0, X.pub 0, 0, -1, 0⟩, ⟨i, X.pub i, 0, -1, 0⟩], -1⟩ := by rw [hX1]
  have hsec1 : (doX X ⟨1, i, X.pub i, 0, [], []⟩).sec = X.sec := by rw [hX1]
  generalize doX X ⟨1, i, X.pub i, 0, [], []⟩ = X1 at *
  have hnow1 : ∃ m ∈ nowM X1.sm.ml, m.who = i := by rw [hsm1]; exact ⟨⟨i, X.pub i, 0, -1, 0⟩, by unfold nowM; simp, rfl⟩
  have hep1 : X1.sm.ep = -1 := by rw [hsm1]
  have hus := NW.used
  have hul : S.used.length < 10000000 := by omega
  refine (Q6a P1 (by omega) (by omega) (fun j hj x hx => by rw [NW.ring j hj] at hx; cases hx) (by decide) A30 s30.ok).mono fun x w34 ⟨o34, R2, he, s34, A34, hR2⟩ => ⟨true, he, fun h => (by cases h), fun _ => ⟨_, rfl, by omega, by omega, ?_⟩⟩
  have B1 := P1.begin hul
  have hold : (beginK S X1.sm X1.last).1.old.length < 1000000 := by
    unfold beginK
    rw [if_neg (by omega)]; show ([] : List UInt8).length < _; decide
  have P2 := P1.next hul hold (by omega) hR2
  have hin := P1.in_ hul hold (by omega) hi hnow1
  have hR2i : R2 i = { R i with keys := [(beginK S X1.sm X1.last).2.1], olds := [(beginK S X1.sm X1.last).1.old] } := by rw [hR2 i hi, hin]; rfl
  have hkey : keyK (R2 i) 0 = ((beginK S X1.sm X1.last).2.1, 0) := by
    have := Q60 (R := R2 i) (K := [(beginK S X1.sm X1.last).2.1]) (e := 0) (by rw [hR2i]) (Nat.zero_lt_one) P2.ch.nz
    exact this
  have hus2 := B1.len
  have hkin := B1.us
  have hlen2 : 0 < (R2 i).keys.length := by rw [hR2i]; show 0 < 1; decide
  generalize (beginK S X1.sm X1.last).2.1 = key at *
  generalize (beginK S X1.sm X1.last).2.2 = S2 at *
  generalize (beginK S X1.sm X1.last).1 = cg at *
  obtain ⟨r, er, g, hw⟩ := A34.ring i hi
  refine ⟨_, A34.ringCell hi er, (Q2k g 0).mono fun x w42 ⟨he, hww⟩ => ⟨_, _, he, ?_⟩⟩
  subst hww
  rw [hkey]
  refine ⟨fun h => absurd rfl h, fun _ => ?_⟩
  refine (Q6u A34 s34.ok P2.st P2.ok).mono fun x w46 ⟨o46, he, s46, A46⟩ => ⟨true, he, fun h => (by cases h), fun _ => ?_⟩
  have P3 := P2.doX2 i
  obtain ⟨m1, hm1, hm1w⟩ := hnow1
  obtain ⟨g1, g2, g3⟩ := Q6l P2.ok hi1 hi (show 0 ≤ X1.sm.ep + 1 by omega) (m := m1) hm1 hm1w
  have hnot : ∀ m ∈ nowM (doX { X1 with last := key, sm := ⟨X1.sm.ml, X1.sm.ep + 1⟩, tm := ⟨X1.sm.ml, X1.sm.ep + 1⟩ } ⟨2, i, 0, 0, [], []⟩).sm.ml, m.who ≠ i := by
    unfold doX
    rw [if_pos g1]; exact g3
  have hsec3 : (doX { X1 with last := key, sm := ⟨X1.sm.ml, X1.sm.ep + 1⟩, tm := ⟨X1.sm.ml, X1.sm.ep + 1⟩ } ⟨2, i, 0, 0, [], []⟩).sec = X.sec := by
    unfold doX
    rw [if_pos g1]; exact hsec1
  generalize doX { X1 with last := key, sm := ⟨X1.sm.ml, X1.sm.ep + 1⟩, tm := ⟨X1.sm.ml, X1.sm.ep + 1⟩ } ⟨2, i, 0, 0, [], []⟩ = X3 at *
  have hX3 : ({ X3 with tm := X3.sm } : WD) = X3 := tm_same P3.st
  have s3 : Step allK W (fun _ => none) w46 o46 := (((sTop s26).trans (sTop s30)).trans s34).trans (sTop s46)
  refine ⟨GoL W i key q many, many, ⟨0, X3, S2, S2, 18, R2, R2, R2, [key], [cg.old], o46, rfl, by omega, s3, A46, by rw [hX3]; exact P3, rfl, rfl, hnot, hkin, hkey, hlen2, fun a b ha hb hab => by rw [hsec3]; exact NW.secs a b ha hb hab, by omega⟩, ?_⟩
  clear P3 P2 P1 P0 NW A46 A34 A30 hR2 hR2i hin B1 hnot hX3 s3 s46 s34 s30 s26 g1 g2 g3
  rintro m50 w51 i48 ⟨t, X, S, T, nn, R, Rv, M, K, O, o51, hv, hm, s51, A51, P, hRv, hKt, hnot, hkS, hk0, hkl, hsecs, hus⟩
  cases hv
  obtain ⟨r, er, g, hw⟩ := A51.ring i hi
  refine ⟨fun ht => ?_, fun ht => ⟨by omega, by omega, _, A51.ringCell hi er, (Q2k g 0).mono fun x w149 ⟨he, hww⟩ => ⟨_, _, he, ?_⟩⟩⟩
  · have ht : t < many := by omega
    have hul : S.used.length < 10000000 := by omega
    have B : BK S X.sm X.last := P.begin hul
    have hlr := P.last_rng
    have hep := P.ep
    have hepX : X.sm.ep = t := by
      have : ((K.length : Nat) : Int) = X.sm.ep + 1 := hep
      omega
    have happ : applyM X.sm (beginK S X.sm X.last).1 = (⟨X.sm.ml, X.sm.ep + 1⟩, 0) := by rw [B.app, if_neg (by omega)]
    obtain ⟨m1, hm1, hout⟩ := P.out_ hul (show X.sm.ep + 1 < 20 by omega) hi hnot
    have houtk := P.out_keys hul (show X.sm.ep + 1 < 20 by omega) hi hnot
    have hkne : (beginK S X.sm X.last).2.1 ≠ key := fun e => B.new (by rw [e]; exact hkS)
    have u := A51.under
    have hqN := u.q
    obtain ⟨sa, sc, hcs, hsr⟩ := A51.wd.s
    refine ⟨_, A51.wd.at (i := 0) rfl fun _ _ _ _ => rfl, sa, _, sc, _, hcs, X.last, A51.wd.at (i := 22) rfl fun _ _ _ _ => rfl, fun w62 L61 X62 hp62 => ?_⟩
    obtain ⟨s62, M62⟩ := Step.priv X62 hp62 s51.ok
    have A62 := A51.no s62
    have hL : ∀ j, j ∈ L61 → w51.heap.size ≤ j := fun j hj => (hp62 j hj).1
    have hkN := u.k
    refine (Q2v (s := X.sm) (last := X.last) A62.orc s62.ok P.ki.inv.ok (by omega) (hsr.step s62) P.ok hlr.1 hlr.2 P.known P.ne).mono fun x w72 ⟨o72, wa, wc, ba, bc, ws, he, s72, P72, C72, hwc, hbc⟩ => ⟨_, _, _, _, _, _, _, _, _, _, _, _, he, M62.keep s72 (fun p hp e => by have := hL p hp; omega), fun w143 p81 X143 hp143 => ?_⟩
    have A72 := A62.toOrc s72 P72
    obtain ⟨s143, M143⟩ := Step.join X143 s72.ok (M62.step s72) hp143
    have A143 := A72.far u s143 hL
    have z62 := s62.size
    have z72 := s72.size
    have z143 := s143.size
    have h81 : w51.heap.size ≤ p81 := by
      rcases (hp143 p81 (by simp)).1 with h | h
      · exact hL _ h
      · omega
    obtain ⟨sa2, sc2, hcs2, hsr2⟩ := A143.wd.s
    refine ⟨sa2, _, sc2, _, hcs2, fun w86 L85 X86 hp86 => ?_⟩
    obtain ⟨s86, M86⟩ := Step.priv X86 hp86 s143.ok
    have A86 := A143.no s86
    have hL85 : ∀ j, j ∈ L85 → w51.heap.size ≤ j := fun j hj => by have := (hp86 j hj).1; omega
    have C86 := (C72.step s143).step s86
    refine (Q1s (s := X.sm) (cg := (beginK S X.sm X.last).1) (hsr2.step s86) s86.ok P.ok C86.ws C86.m C86.n C86.ol).mono fun x w91 ⟨o91, a91, c91, he, s91, r91, hc91⟩ => ?_
    rw [happ] at he r91 hc91
    refine ⟨_, _, _, _, _, he, M86.keep s91 (fun _ _ => id), (M143.step s86).keep s91 (fun _ _ => id), fun h => absurd rfl h, fun _ => ⟨fun h => absurd rfl h, fun _ => ⟨fun h => absurd h hkne, fun _ w142 X142 => ?_⟩⟩⟩
    have s142 := Step.joins X142 s91.ok (M86.step s91)
    have A142 := (A86.no s91).far u s142 hL85
    refine ⟨A142.wd.can (i := 14) rfl (by omega), fun p hp e => ?_, Q01 fun w105 e105 => ?_⟩
    · rw [show Addr.block ((blk q).add 14) = q from rfl] at e; subst e
      simp at hp; omega
    have r142 := r91.step s142
    refine ⟨(A142.wd.setS s142.ok (s := ⟨X.sm.ml, X.sm.ep + 1⟩) r142 e105 rfl).1, Q01 fun w106 e106 => ?_⟩
    obtain ⟨_, s106, W106⟩ := A142.wd.setS s142.ok (s := ⟨X.sm.ml, X.sm.ep + 1⟩) r142 e105 e106
    have A106 := A142.toWd s106 (X' := { X with sm := ⟨X.sm.ml, X.sm.ep + 1⟩ }) rfl rfl rfl rfl W106
    refine ⟨A106.wd.can (i := 22) rfl (by omega), fun p hp e => ?_, Q01 fun w107 e107 => ⟨by omega, by omega, ?_⟩⟩
    · rw [show Addr.block ((blk q).add 22) = q from rfl] at e; subst e
      simp at hp; omega
    obtain ⟨s107, W107⟩ := A106.wd.set s106.ok (i := 22) rfl (X' := { X with sm := ⟨X.sm.ml, X.sm.ep + 1⟩, last := (beginK S X.sm X.last).2.1 }) rfl rfl (fun sa sc ta tc => S_last _ sa sc ta tc) e107
    have A107 := A106.toWd s107 (X' := { X with sm := ⟨X.sm.ml, X.sm.ep + 1⟩, last := (beginK S X.sm X.last).2.1 }) rfl rfl rfl rfl W107
    have M107 := (((((M143.step s86).step s91).step s142).step s106).step s107)
    have C107 := ((((C86.step s91).step s142).step s106).step s107)
    refine ⟨_, A107.ringCell hi er, fun w108 X108 => ?_⟩
    have s108 := Step.of_no X108 s107.ok
    have A108 := A107.no s108
    obtain ⟨r', er', g', hw'⟩ := A108.ring i hi
    rw [show ({ X with sm := ⟨X.sm.ml, X.sm.ep + 1⟩, last := (beginK S X.sm X.last).2.1 } : WD).rq i = some r from er] at er'
    cases er'
    have hrk : r ≠ X.k := by
      obtain ⟨_, b1⟩ := g'.typ
      obtain ⟨_, b2⟩ := A108.orc.typ
      exact Blk.apart b1 b2 (by decide)
    have hrN := u.r i hi r er
    obtain ⟨q1, q2, q3, m0, hm0', q4⟩ := P.ring i hi
    have hlk : (R i).keys.length = K.length := by rw [hRv, q4, Q1r]
    refine (Q2w g' A108.orc s108.ok hrk B.ki.sh (by rw [hlk, hRv, q3]; exact P.ch.len.symm) (by rw [hlk]; omega) (by rw [hRv, q3]; exact P.ch.short) (C107.step s108)).mono fun x w113 ⟨he, o113, s113, E113⟩ => ⟨_, he, (M107.step s108).keep s113 (fun p hp hk => by simp at hp; omega), fun h => ?_, fun _ => ?_⟩
    · rw [hRv] at h
      exact absurd (congrArg Prod.snd hout) h
    have A113 := A108.toRing hi er s113 (by rw [Q2A]; exact hw') E113
    have M113 := (M107.step s108).step s113
    have C113 := (C107.step s108).step s113
    have hwl : (beginK S X.sm X.last).1.ws.length = ws.length := by rw [← C72.m, List.length_map]
    refine ⟨fun m vs w1 => ∃ (j : Nat) (o1 : Own), vs = [.int .i64 j] ∧ m + j = ws.length ∧ Step allK w113 o113 w1 o1 ∧ All w1 o1 q { X with sm := ⟨X.sm.ml, X.sm.ep + 1⟩, last := (beginK S X.sm X.last).2.1 } (beginK S X.sm X.last).2.2 T nn (updF R i (learnK (beginK S X.sm X.last).2.2 (R i) (beginK S X.sm X.last).1).1) M ∧ CH w1 o1 (beginK S X.sm X.last).1 wa wc ws ba bc ∧ Mine [p81] w1 o1, ws.length, ⟨0, o113, rfl, rfl, Step.refl _ s113.ok, A113, C113, M113⟩, ?_⟩
    rintro m117 w118 j115 ⟨j, o118, hv, hmj, s118, A118, C118, M118⟩
    cases hv
    refine ⟨fun hj => ?_, fun hj => ?_⟩
    · have hj : j < ws.length := by omega
      have hwn := C72.n
      have hgj : ws[j]? = some ws[j] := List.getElem?_eq_getElem hj
      have hmem := List.getElem_mem hj
      generalize ws[j] = y at *
      obtain ⟨ad, had⟩ := C118.ws.1.faddr Wr.len (by decide) hj
      have cB := (had ▸ C118.ws.1).fcell Wr.len hgj 1 (v := .slice y.a y.b.length y.c) rfl
      refine ⟨_, A118.wd.at (i := 0) rfl fun _ _ _ _ => rfl, by omega, by omega, _, A118.secCell hi, ad, had, by omega, by omega, _, _, _, by rw [Int.toNat_natCast]; exact cB, fun w120 X120 => ?_⟩
      have s120 := Step.of_no X120 s118.ok
      have A120 := A118.no s120
      have C120 := C118.step s120
      obtain ⟨y1, y2, y3⟩ := C120.bs y hmem
      refine (UnwrapO A120.orc (X.sec i) y1.1 y3 y2).mono fun x w131 ⟨he, X131⟩ => ⟨_, _, he, X131.kept, fun h => ?_, fun _ => ⟨by omega, by omega, m117 - 1, by omega, ?_⟩⟩
      · refine absurd (B.unwrap (p := y.p) (by rw [← C118.m]; exact List.mem_map_of_mem hmem) (x := X.sec i) fun m hm => ?_) h
        obtain ⟨dd, hdd, e1, e2⟩ := P.mem m (Q28 hm).1
        have e2 : m.pub = X.pub dd := e2
        rw [e2, P.pub dd hdd]
        refine hsecs dd i hdd hi fun e => hnot m hm (by rw [e1, e])
      · have s131 := Step.of_no X131 s120.ok
        exact ⟨j + 1, _, rfl, by omega, (s118.trans (sTop s120)).trans (sTop s131), A120.no s131, C120.step s131, (M118.step s120).step s131⟩
    · obtain ⟨r2, er2, gg, hw2⟩ := A118.ring i hi
      rw [Q1c] at gg
      have hlast : keyK (learnK (beginK S X.sm X.last).2.2 (R i) (beginK S X.sm X.last).1).1 ((t : Int) + 1) = (0, 11) := by
        rw [hRv, show ((t : Int) + 1) = ((K.length : Nat) : Int) by omega]
        have hout' : (learnK (beginK S X.sm X.last).2.2 (Rv i) (beginK S X.sm X.last).1).1.keys = mkK (K ++ [(beginK S X.sm X.last).2.1]) m1 (K.length + 1) := congrArg (fun z => z.1.keys) hout
        exact Q5X hout' hm1 (by simp)
      refine ⟨by omega, by omega, _, A118.ringCell hi er2, by omega, by omega, (Q2k gg ((t : Int) + 1)).mono fun x w139 ⟨he, hww⟩ => ⟨_, _, he, ?_⟩⟩
      subst hww
      rw [hlast]
      refine ⟨fun h => absurd rfl h, fun _ => ⟨by omega, by omega, m50 - 1, by omega, ?_⟩⟩
      have hkeys : (learnK (beginK S X.sm X.last).2.2 (R i) (beginK S X.sm X.last).1).1.keys = (R i).keys ++ [0] := by rw [hRv]; exact houtk
      have PN := P.next hul C72.ol (show X.sm.ep + 1 < 20 by omega) (R' := fun j => (learnK (beginK S X.sm X.last).2.2 (Rv j) (beginK S X.sm X.last).1).1) fun j hj => rfl
      refine ⟨t + 1, _, _, T, nn, _, _, M, _, _, _, rfl, by omega, ((((((((((s51.trans (sTop s62)).trans (sTop s72)).trans (sTop s143)).trans (sTop s86)).trans (sTop s91)).trans (sTop s142)).trans (sTop s106)).trans (sTop s107)).trans (sTop s108)).trans (sTop s113)).trans s118, A118, PN, ?_, by simp [hKt], hnot, B.le.us _ hkS, ?_, ?_, hsecs, by have := B.len; omega⟩
      · rw [Q1c, hRv]
      · rw [Q1c, Q6f hkeys hkl]; exact hk0
      · rw [Q1c, hkeys, List.length_append]; omega
  · subst hww
    rw [hk0]
    exact ⟨fun _ => ⟨fun _ => live s51, fun h => absurd rfl h⟩, fun h => absurd rfl h⟩
end
end Go.Proofs.Ytaifegpikhjiiaa