/- The reference's oracle: one list of all that was handed out. -/
import Derived.Test.YtgeakpldocfccaaZC
import Derived.Test.YtgeakpldocfccaaZA
import Derived.Deep.AppendSrc
set_option linter.unusedVariables false
set_option linter.unusedSimpArgs false
set_option maxRecDepth 20000
namespace Go.Proofs.Ytgeakpldocfccaa
open Go Go.Mx Go.Proofs
def Q0t.M (o1 : Option Addr) (h2 : Int) (R : RW) (w : World) : Prop :=
 ∃ (I0 : Nat → List Value → World → Prop) (m4 : Nat), I0 m4 [.int .i64 0] w ∧ ∀ (m5 : Nat) (a0 : World) (i3 : Int), I0 m5 [.int .i64 i3] a0 →
 o1.elim False fun a7 =>
 ∃ (ab : Option Addr) (a4 aa : Nat), a0.cell? (a7.add 1) = some (.slice ab a4 aa) ∧
 bif decide (i3 < (a4 : Int)) then (
 o1.elim False fun a9 =>
 ∃ (a1 : Option Addr) (a2 a3 : Nat), a0.cell? (a9.add 1) = some (.slice a1 a2 a3) ∧
 a1.elim False fun a8 =>
 0 ≤ (i3 : Int) ∧ (i3 : Int) < (a2 : Int) ∧
 ∃ (a5 : Int), a0.cell? ((a8.add (Int.toNat i3 * 6)).add 0) = some (.int .u64 a5) ∧
 bif a5 == h2 then (
 R (.int .i64 i3) a0) else (
 ∃ a6, a6 < m5 ∧ I0 a6 [.int .i64 (IntKind.i64.wrap (i3 + 1))] a0)) else (
 R (.int .i64 (-1)) a0)

theorem Q0t.ok (o1 : Option Addr) (h2 : Int) {R : RW} {w : World} (h : Q0t.M o1 h2 R w) : Calls Try.prog 73 #[.pointer o1, .int .u64 h2] w fun e w' => ∃ v, e = .returned v ∧ R v w' :=
  Q0i follows (H := [(0, [0, 1], [(5, (.one (.int .i64)))])]) (args := [.pointer o1, .int .u64 h2]) (cast (by kernel_rfl) h)

def Q0t.N (o1 : Option Addr) (h2 : Int) (R : RW) (w : World) : Prop :=
 ∃ (I0 : Nat → List Value → World → Prop) (m4 : Nat), I0 m4 [.int .i64 0] w ∧ ∀ (m5 : Nat) (a0 : World) (i3 : Int), I0 m5 [.int .i64 i3] a0 →
 ∃ a7 : Addr, o1 = some a7 ∧
 ∃ (aa : Option Addr) (a3 a9 : Nat), a0.cell? (a7.add 1) = some (.slice aa a3 a9) ∧
 (i3 < (a3 : Int) →
 ∃ (a1 : Option Addr) (a2 a5 : Nat), a0.cell? (a7.add 1) = some (.slice a1 a2 a5) ∧
 ∃ a8 : Addr, a1 = some a8 ∧
 0 ≤ (i3 : Int) ∧ (i3 : Int) < (a2 : Int) ∧
 ∃ (a4 : Int), a0.cell? ((a8.add (Int.toNat i3 * 6)).add 0) = some (.int .u64 a4) ∧
 (a4 = h2 →
 R (.int .i64 i3) a0) ∧
 (a4 ≠ h2 →
 (-9223372036854775808 : Int) ≤ (i3 + 1) ∧ (i3 + 1) < 9223372036854775808 ∧
 ∃ a6, a6 < m5 ∧ I0 a6 [.int .i64 (i3 + 1)] a0)) ∧
 ((a3 : Int) ≤ i3 →
 R (.int .i64 (-1)) a0)

theorem Q0t.up (o1 : Option Addr) (h2 : Int) {R : RW} {w : World} (h : Q0t.N o1 h2 R w) : Q0t.M o1 h2 R w := by
  unfold Q0t.M
  unfold Q0t.N at h
  obtain ⟨I0, m4, h0, h⟩ := h
  refine ⟨I0, m4, h0, fun m5 ad i3 hI => ?_⟩
  have h := h m5 ad i3 hI
  obtain ⟨a7, a9, h⟩ := h
  refine Q05 a9 ?_
  obtain ⟨aa, ae, ac, aj, h⟩ := h
  refine ⟨aa, ae, ac, aj, ?_⟩
  refine bif_fo (fun a1 => ?_) (fun a1 => ?_)
  ·have h := h.2 (Int.not_lt.1 (of_decide_eq_false a1))
   exact h
  have h := h.1 (of_decide_eq_true a1)
  refine Q05 a9 ?_
  obtain ⟨a0, a8, a2, a5, h⟩ := h
  refine ⟨a0, a8, a2, a5, ?_⟩
  obtain ⟨al, a3, h⟩ := h
  refine Q05 a3 ?_
  obtain ⟨ak, ab, h⟩ := h
  refine ⟨ak, ab, ?_⟩
  obtain ⟨af, a6, h⟩ := h
  refine ⟨af, a6, ?_⟩
  refine bif_of (fun a4 => ?_) (fun a4 => ?_)
  ·have h := h.1 (beq_t a4)
   exact h
  have h := h.2 (beq_f a4)
  obtain ⟨ai, ag, h⟩ := h
  try rw [w64 ai ag]
  obtain ⟨ah, hk, h⟩ := h
  exact ⟨ah, hk, h⟩

theorem Q0t.go (o1 : Option Addr) (h2 : Int) {R : RW} {w : World} (h : Q0t.N o1 h2 R w) : Calls Try.prog 73 #[.pointer o1, .int .u64 h2] w fun e w' => ∃ v, e = .returned v ∧ R v w' := Q0t.ok o1 h2 (Q0t.up o1 h2 h)
theorem Q0t.run (o1 : Option Addr) (h2 : Int) {V : Value} {Q : World → Prop} {w : World} (h : Q0t.N o1 h2 (fun v w' => v = V ∧ Q w') w) : Calls Try.prog 73 #[.pointer o1, .int .u64 h2] w (Ret V Q) := (Q0t.go o1 h2 h).mono fun e w' ⟨v, he, hv, hq⟩ => ⟨by rw [he, hv], hq⟩

abbrev Q0b.J1 (ap : Int) (ao : Option Addr) (am : Addr) (R : RW) (ai : World) : Prop :=
 Q0d ai ((am.add 0).add 0) ∧
 thenW (ai.setCell ((am.add 0).add 0) (.int .u64 ap)) fun al =>
 thenW (al.drew) fun a1 =>
 ao.elim False fun aq =>
 ∃ (a9 : Option Addr) (ab aa : Nat), a1.cell? (aq.add 1) = some (.slice a9 ab aa) ∧
 ∃ (ad a0 : Int) (a3 : Option Addr) (a7 a6 : Nat) (a2 : Option Addr) (a5 a4 : Nat) (ac aj : Int), cellsAt a1 am [.int .u64 ad, .int .i64 a0, .slice a3 a7 a6, .slice a2 a5 a4, .int .u64 ac, .int .u64 aj] 0 ∧
 thenW (a1.alloc (.cells #[.int .u64 ad, .int .i64 a0, .slice a3 a7 a6, .slice a2 a5 a4, .int .u64 ac, .int .u64 aj] 106)) fun ag =>
 ag.cell? (aq.add 1) = some (.slice a9 ab aa) ∧
 ∃ (ae : Option Addr) (af ah : Nat) (a8 : World), (Builtin.append_ #[52, 52] 52 #[.slice a9 ab aa, .slice (some (blk a1.heap.size)) 1 1]).run Try.prog ag = .ok (.slice ae af ah) a8 ∧
 ao.elim False fun an =>
 Q0d a8 ((an.add 1).add 0) ∧
 thenW (a8.setCell ((an.add 1).add 0) (.slice ae af ah)) fun ak =>
 R (.int .u64 ap) ak

abbrev Q0b.J2 (ap : Int) (ao : Option Addr) (am : Addr) (R : RW) (al : World) : Prop :=
 Q0d al ((am.add 0).add 0) ∧
 thenW (al.setCell ((am.add 0).add 0) (.int .u64 ap)) fun an =>
 thenW (an.drew) fun a8 =>
 ao.elim False fun aq =>
 ∃ (af : Option Addr) (ah ag : Nat), a8.cell? (aq.add 1) = some (.slice af ah ag) ∧
 ∃ (aj a0 : Int) (a5 : Option Addr) (a2 a4 : Nat) (a6 : Option Addr) (a3 a7 : Nat) (aa ae : Int), cellsAt a8 am [.int .u64 aj, .int .i64 a0, .slice a5 a2 a4, .slice a6 a3 a7, .int .u64 aa, .int .u64 ae] 0 ∧
 thenW (a8.alloc (.cells #[.int .u64 aj, .int .i64 a0, .slice a5 a2 a4, .slice a6 a3 a7, .int .u64 aa, .int .u64 ae] 106)) fun ac =>
 ac.cell? (aq.add 1) = some (.slice af ah ag) ∧
 ∃ (ad : Option Addr) (a9 ab : Nat) (a1 : World), (Builtin.append_ #[52, 52] 52 #[.slice af ah ag, .slice (some (blk a8.heap.size)) 1 1]).run Try.prog ac = .ok (.slice ad a9 ab) a1 ∧
 ao.elim False fun ai =>
 Q0d a1 ((ai.add 1).add 0) ∧
 thenW (a1.setCell ((ai.add 1).add 0) (.slice ad a9 ab)) fun ak =>
 R (.int .u64 ap) ak

def Q0b.M (o1 : Option Addr) (c8 au : Int) (bk : Option Addr) (bd bh : Nat) (be : Option Addr) (bj bn : Nat) (cf cc : Int) (R : RW) (w : World) : Prop :=
 thenW (w.alloc (.cells #[.int .u64 c8, .int .i64 au, .slice bk bd bh, .slice be bj bn, .int .u64 cf, .int .u64 cc] 106)) fun c2 =>
 ∃ (I0 : Nat → List Value → World → Prop) (c5 : Nat), I0 c5 [.int .u64 0] c2 ∧ ∀ (bf : Nat) (a6 : World) (h9 : Int), I0 bf [.int .u64 h9] a6 →
 o1.elim False fun cd =>
 ∃ (ad : Option Addr) (a7 ah : Nat), a6.cell? (cd.add 0) = some (.slice ad a7 ah) ∧
 bif decide ((a7 : Int) > 0) then (
 bif h9 == 0 then (
 o1.elim False fun ce =>
 ∃ (ab : Option Addr) (a8 ag : Nat), a6.cell? (ce.add 0) = some (.slice ab a8 ag) ∧
 ab.elim False fun c9 =>
 0 ≤ (0 : Int) ∧ (0 : Int) < (a8 : Int) ∧
 ∃ (bu : Int), a6.cell? (c9.add (Int.toNat 0 * 1)) = some (.int .u64 bu) ∧
 o1.elim False fun c7 =>
 ∃ (a0 : Option Addr) (a2 a5 : Nat), a6.cell? (c7.add 0) = some (.slice a0 a2 a5) ∧
 (0 : Int) ≤ (1 : Int) ∧ (1 : Int) ≤ (a2 : Int) ∧
 o1.elim False fun bz =>
 Q0d a6 ((bz.add 0).add 0) ∧
 thenW (a6.setCell ((bz.add 0).add 0) (.slice (if a5 = Int.toNat 1 then a0 else Option.map (fun z : Addr => z.add ((Int.toNat 1) * 1)) a0) (a2 - (Int.toNat 1)) (a5 - (Int.toNat 1)))) fun ba =>
 ∃ bw, bw < bf ∧ I0 bw [.int .u64 bu] ba) else (
 Calls Try.prog 73 #[.pointer o1, .int .u64 h9] a6 fun bb ac => ∃ (an : Int), bb = .returned (.int .i64 an) ∧
 bif decide (an ≥ 0) then (
 o1.elim False fun ca =>
 ∃ (a9 : Option Addr) (aa ae : Nat), ac.cell? (ca.add 0) = some (.slice a9 aa ae) ∧
 a9.elim False fun c1 =>
 0 ≤ (0 : Int) ∧ (0 : Int) < (aa : Int) ∧
 ∃ (br : Int), ac.cell? (c1.add (Int.toNat 0 * 1)) = some (.int .u64 br) ∧
 o1.elim False fun c3 =>
 ∃ (a1 : Option Addr) (a3 a4 : Nat), ac.cell? (c3.add 0) = some (.slice a1 a3 a4) ∧
 (0 : Int) ≤ (1 : Int) ∧ (1 : Int) ≤ (a3 : Int) ∧
 o1.elim False fun bx =>
 Q0d ac ((bx.add 0).add 0) ∧
 thenW (ac.setCell ((bx.add 0).add 0) (.slice (if a4 = Int.toNat 1 then a1 else Option.map (fun z : Addr => z.add ((Int.toNat 1) * 1)) a1) (a3 - (Int.toNat 1)) (a4 - (Int.toNat 1)))) fun bl =>
 ∃ bt, bt < bf ∧ I0 bt [.int .u64 br] bl) else (
 bif h9 == 0 then (
 ∃ (I2 : Nat → List Value → World → Prop) (c4 : Nat), I2 c4 [.int .u64 1] ac ∧ ∀ (c0 : Nat) (az : World) (b8 : Int), I2 c0 [.int .u64 b8] az →
 Calls Try.prog 73 #[.pointer o1, .int .u64 b8] az fun bi b4 => ∃ (ao : Int), bi = .returned (.int .i64 ao) ∧
 bif decide (ao ≥ 0) then (
 ∃ bq, bq < c0 ∧ I2 bq [.int .u64 (IntKind.u64.wrap (b8 + 1))] b4) else (
 Q0b.J1 b8 o1 (blk w.heap.size) R b4)) else (
 Calls Try.prog 73 #[.pointer o1, .int .u64 h9] ac fun bg av => ∃ (aq : Int), bg = .returned (.int .i64 aq) ∧
 bif decide (aq ≥ 0) then (
 ∃ (I2 : Nat → List Value → World → Prop) (c6 : Nat), I2 c6 [.int .u64 1] av ∧ ∀ (bo : Nat) (b5 : World) (b6 : Int), I2 bo [.int .u64 b6] b5 →
 Calls Try.prog 73 #[.pointer o1, .int .u64 b6] b5 fun bm b0 => ∃ (ap : Int), bm = .returned (.int .i64 ap) ∧
 bif decide (ap ≥ 0) then (
 ∃ bp, bp < bo ∧ I2 bp [.int .u64 (IntKind.u64.wrap (b6 + 1))] b0) else (
 Q0b.J1 b6 o1 (blk w.heap.size) R b0)) else (
 Q0b.J1 h9 o1 (blk w.heap.size) R av))))) else (
 bif h9 == 0 then (
 ∃ (I2 : Nat → List Value → World → Prop) (cb : Nat), I2 cb [.int .u64 1] a6 ∧ ∀ (bs : Nat) (ay : World) (b7 : Int), I2 bs [.int .u64 b7] ay →
 Calls Try.prog 73 #[.pointer o1, .int .u64 b7] ay fun bc ax => ∃ (al : Int), bc = .returned (.int .i64 al) ∧
 bif decide (al ≥ 0) then (
 ∃ bv, bv < bs ∧ I2 bv [.int .u64 (IntKind.u64.wrap (b7 + 1))] ax) else (
 Q0b.J2 b7 o1 (blk w.heap.size) R ax)) else (
 Calls Try.prog 73 #[.pointer o1, .int .u64 h9] a6 fun aw ar => ∃ (af : Int), aw = .returned (.int .i64 af) ∧
 bif decide (af ≥ 0) then (
 ∃ (I2 : Nat → List Value → World → Prop) (b9 : Nat), I2 b9 [.int .u64 1] ar ∧ ∀ (b3 : Nat) (am : World) (aj : Int), I2 b3 [.int .u64 aj] am →
 Calls Try.prog 73 #[.pointer o1, .int .u64 aj] am fun b2 ak => ∃ (ai : Int), b2 = .returned (.int .i64 ai) ∧
 bif decide (ai ≥ 0) then (
 ∃ b1, b1 < b3 ∧ I2 b1 [.int .u64 (IntKind.u64.wrap (aj + 1))] ak) else (
 Q0b.J2 aj o1 (blk w.heap.size) R ak)) else (
 Q0b.J2 h9 o1 (blk w.heap.size) R ar)))

theorem Q0b.ok (o1 : Option Addr) (a7 a0 : Int) (a3 : Option Addr) (a2 a4 : Nat) (a5 : Option Addr) (a1 a6 : Nat) (a8 a9 : Int) {R : RW} {w : World} (h : Q0b.M o1 a7 a0 a3 a2 a4 a5 a1 a6 a8 a9 R w) : Calls Try.prog 38 #[.pointer o1, .agg #[.int .u64 a7, .int .i64 a0, .slice a3 a2 a4, .slice a5 a1 a6, .int .u64 a8, .int .u64 a9]] w fun e w' => ∃ v, e = .returned v ∧ R v w' :=
  Q0i follows (H := [(0, [0, 3], [(5, (.one (.int .u64)))]), (2, [0, 3], [(5, (.one (.int .u64)))])]) (args := [.pointer o1, .agg #[.int .u64 a7, .int .i64 a0, .slice a3 a2 a4, .slice a5 a1 a6, .int .u64 a8, .int .u64 a9]]) (cast (by kernel_rfl) h)

def Q0b.N (o1 : Option Addr) (el d1 : Int) (e8 : Option Addr) (dw e6 : Nat) (e2 : Option Addr) (e7 e9 : Nat) (eo em : Int) (R : RW) (w : World) : Prop :=
 ∀ (dq : World) (p9 : Nat), Ext no w dq → Priv w dq [p9] →
 ∃ (I0 : Nat → List Value → World → Prop) (ep : Nat), I0 ep [.int .u64 0, .int .u64 el, .int .i64 d1, .slice e8 dw e6, .slice e2 e7 e9, .int .u64 eo, .int .u64 em] dq ∧ ∀ (dr : Nat) (a2 : World) (ay d4 a0 : Int) (al : Option Addr) (a9 ab : Nat) (ak : Option Addr) (aj ag : Nat) (c7 c1 : Int), I0 dr [.int .u64 ay, .int .u64 d4, .int .i64 a0, .slice al a9 ab, .slice ak aj ag, .int .u64 c7, .int .u64 c1] a2 →
 ∃ a1 : Addr, o1 = some a1 ∧
 ∃ (b7 : Option Addr) (a3 b1 : Nat), a2.cell? (a1.add 0) = some (.slice b7 a3 b1) ∧
 ((a3 : Int) > 0 →
 (ay = 0 →
 ∃ (ac : Option Addr) (ao bg : Nat), a2.cell? (a1.add 0) = some (.slice ac ao bg) ∧
 ∃ ec : Addr, ac = some ec ∧
 (0 : Int) < (ao : Int) ∧
 ∃ (ed : Int), a2.cell? (ec.add (Int.toNat 0 * 1)) = some (.int .u64 ed) ∧
 ∃ (am : Option Addr) (a6 a4 : Nat), a2.cell? (a1.add 0) = some (.slice am a6 a4) ∧
 (1 : Int) ≤ (a6 : Int) ∧ 
 Q0d a2 ((a1.add 0).add 0) ∧
 (∀ p ∈ [p9], p ≠ Addr.block (a1.add 0)) ∧
 thenW (a2.setCell ((a1.add 0).add 0) (.slice (cutA am a4 1 1) (a6 - 1) (a4 - 1))) fun e4 =>
 ∃ ei, ei < dr ∧ I0 ei [.int .u64 ed, .int .u64 d4, .int .i64 a0, .slice al a9 ab, .slice ak aj ag, .int .u64 c7, .int .u64 c1] e4) ∧
 (ay ≠ 0 →
 Calls Try.prog 73 #[.pointer o1, .int .u64 ay] a2 fun dx ae => ∃ (b5 : Int), dx = .returned (.int .i64 b5) ∧
 Keep [p9] a2 ae ∧
 (b5 ≥ 0 →
 ∃ (af : Option Addr) (ai bl : Nat), ae.cell? (a1.add 0) = some (.slice af ai bl) ∧
 ∃ eg : Addr, af = some eg ∧
 (0 : Int) < (ai : Int) ∧
 ∃ (ek : Int), ae.cell? (eg.add (Int.toNat 0 * 1)) = some (.int .u64 ek) ∧
 ∃ (an : Option Addr) (a7 a5 : Nat), ae.cell? (a1.add 0) = some (.slice an a7 a5) ∧
 (1 : Int) ≤ (a7 : Int) ∧ 
 Q0d ae ((a1.add 0).add 0) ∧
 (∀ p ∈ [p9], p ≠ Addr.block (a1.add 0)) ∧
 thenW (ae.setCell ((a1.add 0).add 0) (.slice (cutA an a5 1 1) (a7 - 1) (a5 - 1))) fun du =>
 ∃ ej, ej < dr ∧ I0 ej [.int .u64 ek, .int .u64 d4, .int .i64 a0, .slice al a9 ab, .slice ak aj ag, .int .u64 c7, .int .u64 c1] du) ∧
 (b5 < 0 →
 Calls Try.prog 73 #[.pointer o1, .int .u64 ay] ae fun dt ci => ∃ (bk : Int), dt = .returned (.int .i64 bk) ∧
 Keep [p9] ae ci ∧
 (bk ≥ 0 →
 ∃ (I2 : Nat → List Value → World → Prop) (en : Nat), I2 en [.int .u64 1, .int .u64 d4, .int .i64 a0, .slice al a9 ab, .slice ak aj ag, .int .u64 c7, .int .u64 c1] ci ∧ ∀ (eb : Nat) (cp : World) (dh eh au : Int) (cd : Option Addr) (cy cm : Nat) (cu : Option Addr) (ch d3 : Nat) (ds dz : Int), I2 eb [.int .u64 dh, .int .u64 eh, .int .i64 au, .slice cd cy cm, .slice cu ch d3, .int .u64 ds, .int .u64 dz] cp →
 Calls Try.prog 73 #[.pointer o1, .int .u64 dh] cp fun e0 cx => ∃ (be : Int), e0 = .returned (.int .i64 be) ∧
 Keep [p9] cp cx ∧
 (be ≥ 0 →
 ∃ ea, ea < eb ∧ I2 ea [.int .u64 (IntKind.u64.wrap (dh + 1)), .int .u64 eh, .int .i64 au, .slice cd cy cm, .slice cu ch d3, .int .u64 ds, .int .u64 dz] cx) ∧
 (be < 0 →
 ∀ (bz : World), Ext (fun b => b = p9) cx bz →
 ∃ (cr : Option Addr) (cv d2 : Nat), bz.cell? (a1.add 1) = some (.slice cr cv d2) ∧
 ∀ (bi : World) (dn : Nat), Ext no bz bi → Blk bi dn 106 [.int .u64 dh, .int .i64 au, .slice cd cy cm, .slice cu ch d3, .int .u64 ds, .int .u64 dz] → bz.heap.size ≤ dn → dn < bi.heap.size →
 bi.cell? (a1.add 1) = some (.slice cr cv d2) ∧
 ∃ (d5 : Option Addr) (df da : Nat) (cw : World), (Builtin.append_ #[52, 52] 52 #[.slice cr cv d2, .slice (some (blk dn)) 1 1]).run Try.prog bi = .ok (.slice d5 df da) cw ∧
 Q0d cw ((a1.add 1).add 0) ∧
 thenW (cw.setCell ((a1.add 1).add 0) (.slice d5 df da)) fun dv =>
 R (.int .u64 dh) dv)) ∧
 (bk < 0 →
 ∀ (c0 : World), Ext (fun b => b = p9) ci c0 →
 ∃ (ck : Option Addr) (cl cn : Nat), c0.cell? (a1.add 1) = some (.slice ck cl cn) ∧
 ∀ (bt : World) (dm : Nat), Ext no c0 bt → Blk bt dm 106 [.int .u64 ay, .int .i64 a0, .slice al a9 ab, .slice ak aj ag, .int .u64 c7, .int .u64 c1] → c0.heap.size ≤ dm → dm < bt.heap.size →
 bt.cell? (a1.add 1) = some (.slice ck cl cn) ∧
 ∃ (dj : Option Addr) (dl db : Nat) (cj : World), (Builtin.append_ #[52, 52] 52 #[.slice ck cl cn, .slice (some (blk dm)) 1 1]).run Try.prog bt = .ok (.slice dj dl db) cj ∧
 Q0d cj ((a1.add 1).add 0) ∧
 thenW (cj.setCell ((a1.add 1).add 0) (.slice dj dl db)) fun dp =>
 R (.int .u64 ay) dp)))) ∧
 ((a3 : Int) ≤ 0 →
 (ay = 0 →
 ∃ (I2 : Nat → List Value → World → Prop) (eq : Nat), I2 eq [.int .u64 1, .int .u64 d4, .int .i64 a0, .slice al a9 ab, .slice ak aj ag, .int .u64 c7, .int .u64 c1] a2 ∧ ∀ (ef : Nat) (cz : World) (dc ee ap : Int) (d0 : Option Addr) (cq cf : Nat) (ce : Option Addr) (cc co : Nat) (e1 dy : Int), I2 ef [.int .u64 dc, .int .u64 ee, .int .i64 ap, .slice d0 cq cf, .slice ce cc co, .int .u64 e1, .int .u64 dy] cz →
 Calls Try.prog 73 #[.pointer o1, .int .u64 dc] cz fun e5 cs => ∃ (b4 : Int), e5 = .returned (.int .i64 b4) ∧
 Keep [p9] cz cs ∧
 (b4 ≥ 0 →
 ∃ d9, d9 < ef ∧ I2 d9 [.int .u64 (IntKind.u64.wrap (dc + 1)), .int .u64 ee, .int .i64 ap, .slice d0 cq cf, .slice ce cc co, .int .u64 e1, .int .u64 dy] cs) ∧
 (b4 < 0 →
 ∀ (ax : World), Ext (fun b => b = p9) cs ax →
 ∃ (br : Option Addr) (bm bb : Nat), ax.cell? (a1.add 1) = some (.slice br bm bb) ∧
 ∀ (aa : World) (bx : Nat), Ext no ax aa → Blk aa bx 106 [.int .u64 dc, .int .i64 ap, .slice d0 cq cf, .slice ce cc co, .int .u64 e1, .int .u64 dy] → ax.heap.size ≤ bx → bx < aa.heap.size →
 aa.cell? (a1.add 1) = some (.slice br bm bb) ∧
 ∃ (c4 : Option Addr) (ca c8 : Nat) (b9 : World), (Builtin.append_ #[52, 52] 52 #[.slice br bm bb, .slice (some (blk bx)) 1 1]).run Try.prog aa = .ok (.slice c4 ca c8) b9 ∧
 Q0d b9 ((a1.add 1).add 0) ∧
 thenW (b9.setCell ((a1.add 1).add 0) (.slice c4 ca c8)) fun dk =>
 R (.int .u64 dc) dk)) ∧
 (ay ≠ 0 →
 Calls Try.prog 73 #[.pointer o1, .int .u64 ay] a2 fun dd bh => ∃ (ar : Int), dd = .returned (.int .i64 ar) ∧
 Keep [p9] a2 bh ∧
 (ar ≥ 0 →
 ∃ (I2 : Nat → List Value → World → Prop) (e3 : Nat), I2 e3 [.int .u64 1, .int .u64 d4, .int .i64 a0, .slice al a9 ab, .slice ak aj ag, .int .u64 c7, .int .u64 c1] bh ∧ ∀ (d8 : Nat) (b8 : World) (bo d6 a8 : Int) (bf : Option Addr) (b0 bc : Nat) (bq : Option Addr) (bd bj : Nat) (cg ct : Int), I2 d8 [.int .u64 bo, .int .u64 d6, .int .i64 a8, .slice bf b0 bc, .slice bq bd bj, .int .u64 cg, .int .u64 ct] b8 →
 Calls Try.prog 73 #[.pointer o1, .int .u64 bo] b8 fun di bs => ∃ (aq : Int), di = .returned (.int .i64 aq) ∧
 Keep [p9] b8 bs ∧
 (aq ≥ 0 →
 ∃ de, de < d8 ∧ I2 de [.int .u64 (IntKind.u64.wrap (bo + 1)), .int .u64 d6, .int .i64 a8, .slice bf b0 bc, .slice bq bd bj, .int .u64 cg, .int .u64 ct] bs) ∧
 (aq < 0 →
 ∀ (aw : World), Ext (fun b => b = p9) bs aw →
 ∃ (bp : Option Addr) (b6 bn : Nat), aw.cell? (a1.add 1) = some (.slice bp b6 bn) ∧
 ∀ (ah : World) (bv : Nat), Ext no aw ah → Blk ah bv 106 [.int .u64 bo, .int .i64 a8, .slice bf b0 bc, .slice bq bd bj, .int .u64 cg, .int .u64 ct] → aw.heap.size ≤ bv → bv < ah.heap.size →
 ah.cell? (a1.add 1) = some (.slice bp b6 bn) ∧
 ∃ (cb : Option Addr) (c9 c5 : Nat) (b2 : World), (Builtin.append_ #[52, 52] 52 #[.slice bp b6 bn, .slice (some (blk bv)) 1 1]).run Try.prog ah = .ok (.slice cb c9 c5) b2 ∧
 Q0d b2 ((a1.add 1).add 0) ∧
 thenW (b2.setCell ((a1.add 1).add 0) (.slice cb c9 c5)) fun d7 =>
 R (.int .u64 bo) d7)) ∧
 (ar < 0 →
 ∀ (av : World), Ext (fun b => b = p9) bh av →
 ∃ (ba : Option Addr) (b3 az : Nat), av.cell? (a1.add 1) = some (.slice ba b3 az) ∧
 ∀ (ad : World) (bw : Nat), Ext no av ad → Blk ad bw 106 [.int .u64 ay, .int .i64 a0, .slice al a9 ab, .slice ak aj ag, .int .u64 c7, .int .u64 c1] → av.heap.size ≤ bw → bw < ad.heap.size →
 ad.cell? (a1.add 1) = some (.slice ba b3 az) ∧
 ∃ (c3 : Option Addr) (c6 c2 : Nat) (bu : World), (Builtin.append_ #[52, 52] 52 #[.slice ba b3 az, .slice (some (blk bw)) 1 1]).run Try.prog ad = .ok (.slice c3 c6 c2) bu ∧
 Q0d bu ((a1.add 1).add 0) ∧
 thenW (bu.setCell ((a1.add 1).add 0) (.slice c3 c6 c2)) fun dg =>
 R (.int .u64 ay) dg)))

theorem Q0b.up (o1 : Option Addr) (cy ai : Int) (bj : Option Addr) (bb bf : Nat) (bd : Option Addr) (bh bm : Nat) (dl da : Int) {R : RW} {w : World} (h : Q0b.N o1 cy ai bj bb bf bd bh bm dl da R w) : Q0b.M o1 cy ai bj bb bf bd bh bm dl da R w := by
  unfold Q0b.M
  unfold Q0b.N at h
  refine Q01 fun eb e8 => ?_
  have a1 := Blk.of_new e8
  have ef := ((Ext.refl no w)).size
  have ex := (Ext.refl no w).x_alloc e8
  have h := h eb (w.heap.size) ex (Priv.cons ef a1.lt Priv.nil)
  obtain ⟨I0, eu, h0, h⟩ := h
  refine ⟨fun k vs ww => ∃ (b6 a2 : Int) (af : Option Addr) (a9 aa : Nat) (ae : Option Addr) (ad ab : Nat) (al ak : Int), Blk ww w.heap.size 106 [.int .u64 b6, .int .i64 a2, .slice af a9 aa, .slice ae ad ab, .int .u64 al, .int .u64 ak] ∧ I0 k (vs ++ [.int .u64 b6, .int .i64 a2, .slice af a9 aa, .slice ae ad ab, .int .u64 al, .int .u64 ak]) ww, eu, ⟨cy, ai, bj, bb, bf, bd, bh, bm, dl, da, a1, h0⟩, fun ec ds c7 hI => ?_⟩
  obtain ⟨b6, a2, af, a9, aa, ae, ad, ab, al, ak, a1, hI⟩ := hI
  have h := h ec ds c7 b6 a2 af a9 aa ae ad ab al ak hI
  obtain ⟨ez, ac, h⟩ := h
  refine Q05 ac ?_
  obtain ⟨ap, aq, am, ck, h⟩ := h
  refine ⟨ap, aq, am, ck, ?_⟩
  refine bif_of (fun cn => ?_) (fun cn => ?_)
  have h := h.1 (of_decide_eq_true cn)
  refine bif_of (fun cc => ?_) (fun cc => ?_)
  ·have h := h.1 (beq_t cc)
   refine Q05 ac ?_
   obtain ⟨an, b5, au, ch, h⟩ := h
   refine ⟨an, b5, au, ch, ?_⟩
   obtain ⟨ey, ct, h⟩ := h
   refine Q05 ct ?_
   obtain ⟨ce, h⟩ := h
   refine ⟨by decide, ce, ?_⟩
   obtain ⟨ek, d7, h⟩ := h
   refine ⟨ek, d7, ?_⟩
   refine Q05 ac ?_
   obtain ⟨b3, b1, ar, d6, h⟩ := h
   refine ⟨b3, b1, ar, d6, ?_⟩
   obtain ⟨dj, h⟩ := h
   refine ⟨by decide, dj, ?_⟩
   refine Q05 ac ?_
   obtain ⟨hcs, hof, h⟩ := h
   refine ⟨hcs, Q01 fun et e5 => ?_⟩
   replace h := Q1d h e5
   have a1 := a1.off (by rw [Q1a]; exact hof _ (by simp)) e5
   obtain ⟨eq, hk, h⟩ := h
   exact ⟨eq, hk, b6, a2, af, a9, aa, ae, ad, ab, al, ak, a1, h⟩
  have h := h.2 (beq_f cc)
  refine h.mono fun em ed h => ?_
  obtain ⟨bu, he, hk, h⟩ := h
  refine ⟨bu, he, ?_⟩
  have a1 := hk.blk a1 (by simp)
  refine bif_of (fun cg => ?_) (fun cg => ?_)
  ·have h := h.1 (of_decide_eq_true cg)
   refine Q05 ac ?_
   obtain ⟨aw, ay, az, dv, h⟩ := h
   refine ⟨aw, ay, az, dv, ?_⟩
   obtain ⟨f0, dg, h⟩ := h
   refine Q05 dg ?_
   obtain ⟨ce, h⟩ := h
   refine ⟨by decide, ce, ?_⟩
   obtain ⟨es, cv, h⟩ := h
   refine ⟨es, cv, ?_⟩
   refine Q05 ac ?_
   obtain ⟨b4, b2, ax, cj, h⟩ := h
   refine ⟨b4, b2, ax, cj, ?_⟩
   obtain ⟨dj, h⟩ := h
   refine ⟨by decide, dj, ?_⟩
   refine Q05 ac ?_
   obtain ⟨hcs, hof, h⟩ := h
   refine ⟨hcs, Q01 fun ej e2 => ?_⟩
   replace h := Q1d h e2
   have a1 := a1.off (by rw [Q1a]; exact hof _ (by simp)) e2
   obtain ⟨er, hk, h⟩ := h
   exact ⟨er, hk, b6, a2, af, a9, aa, ae, ad, ab, al, ak, a1, h⟩
  have h := h.2 (Int.not_le.1 (of_decide_eq_false cg))
  refine bif_ff cc ?_
  refine h.mono fun ei ba h => ?_
  obtain ⟨c4, he, hk, h⟩ := h
  refine ⟨c4, he, ?_⟩
  have a1 := hk.blk a1 (by simp)
  refine bif_fo (fun cd => ?_) (fun cd => ?_)
  ·have h := h.2 (Int.not_le.1 (of_decide_eq_false cd))
   first | unfold Q0b.J1 | unfold Q0b.J2
   have dm : Ext (fun b => b = w.heap.size) ba ba := ((Ext.refl no ba)).none
   refine ⟨a1.cani 0 rfl rfl, Q01 fun d1 e3 => ?_⟩
   have cp := dm.x_set (q := w.heap.size) (i := 0) rfl (.inl rfl) e3
   have a1 : Blk d1 w.heap.size 106 [.int .u64 c7, .int .i64 a2, .slice af a9 aa, .slice ae ad ab, .int .u64 al, .int .u64 ak] := a1.seti 0 rfl e3
   refine Q01 fun b8 e7 => ?_
   have du := cp.x_drew e7
   have a1 := a1.x_drew e7
   refine Q05 ac ?_
   have h := h b8 du
   obtain ⟨cx, d0, d4, dq, h⟩ := h
   refine ⟨cx, d0, d4, dq, ?_⟩
   refine ⟨c7, a2, af, a9, aa, ae, ad, ab, al, ak, ⟨a1.celli 0 rfl rfl, a1.celli 1 rfl rfl, a1.celli 2 rfl rfl, a1.celli 3 rfl rfl, a1.celli 4 rfl rfl, a1.celli 5 rfl rfl, trivial⟩, ?_⟩
   refine Q01 fun dx cw => ?_
   have h := h dx b8.heap.size ((Ext.refl no b8).x_alloc cw) (Blk.of_new cw) ((Ext.refl no b8)).size (Q0x cw)
   obtain ⟨df, h⟩ := h
   refine ⟨df, ?_⟩
   obtain ⟨dw, dy, cu, cs, hr, h⟩ := h
   refine ⟨dw, dy, cu, cs, hr, ?_⟩
   refine Q05 ac ?_
   obtain ⟨hcs, h⟩ := h
   refine ⟨hcs, Q01 fun ea eg => ?_⟩
   replace h := Q1d h eg
   exact h
  have h := h.1 (of_decide_eq_true cd)
  obtain ⟨I2, ep, h0, h⟩ := h
  refine ⟨fun k vs ww => ∃ (c5 a0 : Int) (a3 : Option Addr) (a7 a5 : Nat) (a6 : Option Addr) (a4 a8 : Nat) (ag ah : Int), Blk ww w.heap.size 106 [.int .u64 c5, .int .i64 a0, .slice a3 a7 a5, .slice a6 a4 a8, .int .u64 ag, .int .u64 ah] ∧ I2 k (vs ++ [.int .u64 c5, .int .i64 a0, .slice a3 a7 a5, .slice a6 a4 a8, .int .u64 ag, .int .u64 ah]) ww, ep, ⟨b6, a2, af, a9, aa, ae, ad, ab, al, ak, a1, h0⟩, fun eh d9 bg hI => ?_⟩
  obtain ⟨c5, a0, a3, a7, a5, a6, a4, a8, ag, ah, a1, hI⟩ := hI
  have h := h eh d9 bg c5 a0 a3 a7 a5 a6 a4 a8 ag ah hI
  refine h.mono fun eo b0 h => ?_
  obtain ⟨bz, he, hk, h⟩ := h
  refine ⟨bz, he, ?_⟩
  have a1 := hk.blk a1 (by simp)
  refine bif_of (fun d2 => ?_) (fun d2 => ?_)
  ·have h := h.1 (of_decide_eq_true d2)
   obtain ⟨ee, hk, h⟩ := h
   exact ⟨ee, hk, c5, a0, a3, a7, a5, a6, a4, a8, ag, ah, a1, h⟩
  have h := h.2 (Int.not_le.1 (of_decide_eq_false d2))
  rotate_left
  focus
   have h := h.2 (Int.not_lt.1 (of_decide_eq_false cn))
   refine bif_of (fun d8 => ?_) (fun d8 => ?_)
   have h := h.1 (beq_t d8)
   obtain ⟨I2, ew, h0, h⟩ := h
   refine ⟨fun k vs ww => ∃ (c3 a0 : Int) (a3 : Option Addr) (a7 a5 : Nat) (a6 : Option Addr) (a4 a8 : Nat) (ag ah : Int), Blk ww w.heap.size 106 [.int .u64 c3, .int .i64 a0, .slice a3 a7 a5, .slice a6 a4 a8, .int .u64 ag, .int .u64 ah] ∧ I2 k (vs ++ [.int .u64 c3, .int .i64 a0, .slice a3 a7 a5, .slice a6 a4 a8, .int .u64 ag, .int .u64 ah]) ww, ew, ⟨b6, a2, af, a9, aa, ae, ad, ab, al, ak, a1, h0⟩, fun en dp bg hI => ?_⟩
   obtain ⟨c3, a0, a3, a7, a5, a6, a4, a8, ag, ah, a1, hI⟩ := hI
   have h := h en dp bg c3 a0 a3 a7 a5 a6 a4 a8 ag ah hI
   refine h.mono fun ev b0 h => ?_
   obtain ⟨bs, he, hk, h⟩ := h
   refine ⟨bs, he, ?_⟩
   have a1 := hk.blk a1 (by simp)
   refine bif_of (fun bk => ?_) (fun bk => ?_)
   ·have h := h.1 (of_decide_eq_true bk)
    obtain ⟨cq, hk, h⟩ := h
    exact ⟨cq, hk, c3, a0, a3, a7, a5, a6, a4, a8, ag, ah, a1, h⟩
   have h := h.2 (Int.not_le.1 (of_decide_eq_false bk))
   rotate_left
   have h := h.2 (beq_f d8)
   refine h.mono fun e0 av h => ?_
   obtain ⟨be, he, hk, h⟩ := h
   refine ⟨be, he, ?_⟩
   have a1 := hk.blk a1 (by simp)
   refine bif_fo (fun bi => ?_) (fun bi => ?_)
   ·have h := h.2 (Int.not_le.1 (of_decide_eq_false bi))
    first | unfold Q0b.J1 | unfold Q0b.J2
    have ca : Ext (fun b => b = w.heap.size) av av := ((Ext.refl no av)).none
    refine ⟨a1.cani 0 rfl rfl, Q01 fun c6 c2 => ?_⟩
    have c0 := ca.x_set (q := w.heap.size) (i := 0) rfl (.inl rfl) c2
    have a1 : Blk c6 w.heap.size 106 [.int .u64 c7, .int .i64 a2, .slice af a9 aa, .slice ae ad ab, .int .u64 al, .int .u64 ak] := a1.seti 0 rfl c2
    refine Q01 fun aj c8 => ?_
    have c9 := c0.x_drew c8
    have a1 := a1.x_drew c8
    refine Q05 ac ?_
    have h := h aj c9
    obtain ⟨bx, bq, bn, bo, h⟩ := h
    refine ⟨bx, bq, bn, bo, ?_⟩
    refine ⟨c7, a2, af, a9, aa, ae, ad, ab, al, ak, ⟨a1.celli 0 rfl rfl, a1.celli 1 rfl rfl, a1.celli 2 rfl rfl, a1.celli 3 rfl rfl, a1.celli 4 rfl rfl, a1.celli 5 rfl rfl, trivial⟩, ?_⟩
    refine Q01 fun bv b9 => ?_
    have h := h bv aj.heap.size ((Ext.refl no aj).x_alloc b9) (Blk.of_new b9) ((Ext.refl no aj)).size (Q0x b9)
    obtain ⟨br, h⟩ := h
    refine ⟨br, ?_⟩
    obtain ⟨bt, c1, bp, cb, hr, h⟩ := h
    refine ⟨bt, c1, bp, cb, hr, ?_⟩
    refine Q05 ac ?_
    obtain ⟨hcs, h⟩ := h
    refine ⟨hcs, Q01 fun e4 co => ?_⟩
    replace h := Q1d h co
    exact h
   have h := h.1 (of_decide_eq_true bi)
   obtain ⟨I2, dk, h0, h⟩ := h
   refine ⟨fun k vs ww => ∃ (ao a0 : Int) (a3 : Option Addr) (a7 a5 : Nat) (a6 : Option Addr) (a4 a8 : Nat) (ag ah : Int), Blk ww w.heap.size 106 [.int .u64 ao, .int .i64 a0, .slice a3 a7 a5, .slice a6 a4 a8, .int .u64 ag, .int .u64 ah] ∧ I2 k (vs ++ [.int .u64 ao, .int .i64 a0, .slice a3 a7 a5, .slice a6 a4 a8, .int .u64 ag, .int .u64 ah]) ww, dk, ⟨b6, a2, af, a9, aa, ae, ad, ab, al, ak, a1, h0⟩, fun cl bw bg hI => ?_⟩
   obtain ⟨ao, a0, a3, a7, a5, a6, a4, a8, ag, ah, a1, hI⟩ := hI
   have h := h cl bw bg ao a0 a3 a7 a5 a6 a4 a8 ag ah hI
   refine h.mono fun e6 b0 h => ?_
   obtain ⟨bc, he, hk, h⟩ := h
   refine ⟨bc, he, ?_⟩
   have a1 := hk.blk a1 (by simp)
   refine bif_of (fun bl => ?_) (fun bl => ?_)
   ·have h := h.1 (of_decide_eq_true bl)
    obtain ⟨d5, hk, h⟩ := h
    exact ⟨d5, hk, ao, a0, a3, a7, a5, a6, a4, a8, ag, ah, a1, h⟩
   have h := h.2 (Int.not_le.1 (of_decide_eq_false bl))
   rotate_left
  rotate_left 2
  all_goals
   first | unfold Q0b.J1 | unfold Q0b.J2
   have db : Ext (fun b => b = w.heap.size) b0 b0 := ((Ext.refl no b0)).none
   refine ⟨a1.cani 0 rfl rfl, Q01 fun dc e1 => ?_⟩
   have cm := db.x_set (q := w.heap.size) (i := 0) rfl (.inl rfl) e1
   have a1 : Blk dc w.heap.size 106 [.int .u64 bg, .int .i64 a0, .slice a3 a7 a5, .slice a6 a4 a8, .int .u64 ag, .int .u64 ah] := a1.seti 0 rfl e1
   refine Q01 fun b7 dz => ?_
   have cf := cm.x_drew dz
   have a1 := a1.x_drew dz
   refine Q05 ac ?_
   have h := h b7 cf
   obtain ⟨dd, dh, dt, d3, h⟩ := h
   refine ⟨dd, dh, dt, d3, ?_⟩
   refine ⟨bg, a0, a3, a7, a5, a6, a4, a8, ag, ah, ⟨a1.celli 0 rfl rfl, a1.celli 1 rfl rfl, a1.celli 2 rfl rfl, a1.celli 3 rfl rfl, a1.celli 4 rfl rfl, a1.celli 5 rfl rfl, trivial⟩, ?_⟩
   refine Q01 fun cz de => ?_
   have h := h cz b7.heap.size ((Ext.refl no b7).x_alloc de) (Blk.of_new de) ((Ext.refl no b7)).size (Q0x de)
   obtain ⟨dr, h⟩ := h
   refine ⟨dr, ?_⟩
   obtain ⟨ci, dn, cr, di, hr, h⟩ := h
   refine ⟨ci, dn, cr, di, hr, ?_⟩
   refine Q05 ac ?_
   obtain ⟨hcs, h⟩ := h
   refine ⟨hcs, Q01 fun el e9 => ?_⟩
   replace h := Q1d h e9
   exact h

theorem Q0b.go (o1 : Option Addr) (a7 a0 : Int) (a3 : Option Addr) (a2 a4 : Nat) (a5 : Option Addr) (a1 a6 : Nat) (a8 a9 : Int) {R : RW} {w : World} (h : Q0b.N o1 a7 a0 a3 a2 a4 a5 a1 a6 a8 a9 R w) : Calls Try.prog 38 #[.pointer o1, .agg #[.int .u64 a7, .int .i64 a0, .slice a3 a2 a4, .slice a5 a1 a6, .int .u64 a8, .int .u64 a9]] w fun e w' => ∃ v, e = .returned v ∧ R v w' := Q0b.ok o1 a7 a0 a3 a2 a4 a5 a1 a6 a8 a9 (Q0b.up o1 a7 a0 a3 a2 a4 a5 a1 a6 a8 a9 h)
def Q0I.M (o1 : Option Addr) (h2 bi : Int) (R : RW) (w : World) : Prop :=
 thenW (w.alloc (.cells #[.int .u64 0, .int .i64 0, .slice none 0 0, .slice none 0 0, .int .u64 0, .int .u64 0] 106)) fun bz =>
 Calls Try.prog 73 #[.pointer o1, .int .u64 h2] bz fun c1 az => ∃ (a3 : Int), c1 = .returned (.int .i64 a3) ∧
 bif decide (a3 < 0) then (
 Q0d az ((blk w.heap.size).add 0) ∧
 thenW (az.setCell ((blk w.heap.size).add 0) (.int .u64 0)) fun bw =>
 Q0d bw ((blk w.heap.size).add 1) ∧
 thenW (bw.setCell ((blk w.heap.size).add 1) (.int .i64 0)) fun bx =>
 Q0d bx ((blk w.heap.size).add 2) ∧
 thenW (bx.setCell ((blk w.heap.size).add 2) (.slice none 0 0)) fun bf =>
 Q0d bf ((blk w.heap.size).add 3) ∧
 thenW (bf.setCell ((blk w.heap.size).add 3) (.slice none 0 0)) fun bj =>
 Q0d bj ((blk w.heap.size).add 4) ∧
 thenW (bj.setCell ((blk w.heap.size).add 4) (.int .u64 0)) fun bm =>
 Q0d bm ((blk w.heap.size).add 5) ∧
 thenW (bm.setCell ((blk w.heap.size).add 5) (.int .u64 0)) fun ba =>
 ∃ (av a1 : Int) (af : Option Addr) (ag a9 : Nat) (ah : Option Addr) (ak a4 : Nat) (ax an : Int), cellsAt ba (blk w.heap.size) [.int .u64 av, .int .i64 a1, .slice af ag a9, .slice ah ak a4, .int .u64 ax, .int .u64 an] 0 ∧
 R (.tuple #[.agg #[.int .u64 av, .int .i64 a1, .slice af ag a9, .slice ah ak a4, .int .u64 ax, .int .u64 an], .bool false]) ba) else (
 o1.elim False fun c2 =>
 ∃ (b6 : Option Addr) (bk bu : Nat), az.cell? (c2.add 1) = some (.slice b6 bk bu) ∧
 b6.elim False fun c4 =>
 0 ≤ (a3 : Int) ∧ (a3 : Int) < (bk : Int) ∧
 ∃ (ar : Int), az.cell? ((c4.add (Int.toNat a3 * 6)).add 1) = some (.int .i64 ar) ∧
 bif ar != bi then (
 Q0d az ((blk w.heap.size).add 0) ∧
 thenW (az.setCell ((blk w.heap.size).add 0) (.int .u64 0)) fun bt =>
 Q0d bt ((blk w.heap.size).add 1) ∧
 thenW (bt.setCell ((blk w.heap.size).add 1) (.int .i64 0)) fun bd =>
 Q0d bd ((blk w.heap.size).add 2) ∧
 thenW (bd.setCell ((blk w.heap.size).add 2) (.slice none 0 0)) fun bq =>
 Q0d bq ((blk w.heap.size).add 3) ∧
 thenW (bq.setCell ((blk w.heap.size).add 3) (.slice none 0 0)) fun bg =>
 Q0d bg ((blk w.heap.size).add 4) ∧
 thenW (bg.setCell ((blk w.heap.size).add 4) (.int .u64 0)) fun bl =>
 Q0d bl ((blk w.heap.size).add 5) ∧
 thenW (bl.setCell ((blk w.heap.size).add 5) (.int .u64 0)) fun be =>
 ∃ (ay a2 : Int) (aa : Option Addr) (ae aj : Nat) (ad : Option Addr) (a8 ab : Nat) (ap aq : Int), cellsAt be (blk w.heap.size) [.int .u64 ay, .int .i64 a2, .slice aa ae aj, .slice ad a8 ab, .int .u64 ap, .int .u64 aq] 0 ∧
 R (.tuple #[.agg #[.int .u64 ay, .int .i64 a2, .slice aa ae aj, .slice ad a8 ab, .int .u64 ap, .int .u64 aq], .bool false]) be) else (
 o1.elim False fun c0 =>
 ∃ (bp : Option Addr) (bs bv : Nat), az.cell? (c0.add 1) = some (.slice bp bs bv) ∧
 bp.elim False fun c3 =>
 0 ≤ (a3 : Int) ∧ (a3 : Int) < (bs : Int) ∧
 ∃ (bc a5 : Int) (b4 : Option Addr) (b5 b1 : Nat) (b3 : Option Addr) (b0 b2 : Nat) (b7 bb : Int), cellsAt az (c3.add (Int.toNat a3 * 6)) [.int .u64 bc, .int .i64 a5, .slice b4 b5 b1, .slice b3 b0 b2, .int .u64 b7, .int .u64 bb] 0 ∧
 Q0d az ((blk w.heap.size).add 0) ∧
 thenW (az.setCell ((blk w.heap.size).add 0) (.int .u64 bc)) fun bh =>
 Q0d bh ((blk w.heap.size).add 1) ∧
 thenW (bh.setCell ((blk w.heap.size).add 1) (.int .i64 a5)) fun bn =>
 Q0d bn ((blk w.heap.size).add 2) ∧
 thenW (bn.setCell ((blk w.heap.size).add 2) (.slice b4 b5 b1)) fun b9 =>
 Q0d b9 ((blk w.heap.size).add 3) ∧
 thenW (b9.setCell ((blk w.heap.size).add 3) (.slice b3 b0 b2)) fun bo =>
 Q0d bo ((blk w.heap.size).add 4) ∧
 thenW (bo.setCell ((blk w.heap.size).add 4) (.int .u64 b7)) fun br =>
 Q0d br ((blk w.heap.size).add 5) ∧
 thenW (br.setCell ((blk w.heap.size).add 5) (.int .u64 bb)) fun b8 =>
 ∃ (aw a0 : Int) (ac : Option Addr) (ai am : Nat) (a7 : Option Addr) (a6 al : Nat) (au ao : Int), cellsAt b8 (blk w.heap.size) [.int .u64 aw, .int .i64 a0, .slice ac ai am, .slice a7 a6 al, .int .u64 au, .int .u64 ao] 0 ∧
 R (.tuple #[.agg #[.int .u64 aw, .int .i64 a0, .slice ac ai am, .slice a7 a6 al, .int .u64 au, .int .u64 ao], .bool true]) b8))

theorem Q0I.ok (o1 : Option Addr) (h2 a0 : Int) {R : RW} {w : World} (h : Q0I.M o1 h2 a0 R w) : Calls Try.prog 75 #[.pointer o1, .int .u64 h2, .int .i64 a0] w fun e w' => ∃ v, e = .returned v ∧ R v w' :=
  Q0i follows (H := []) (args := [.pointer o1, .int .u64 h2, .int .i64 a0]) (cast (by kernel_rfl) h)

def Q0I.N (o1 : Option Addr) (h2 a9 : Int) (R : RW) (w : World) : Prop :=
 ∀ (al : World) (p5 : Nat), Ext no w al → Priv w al [p5] →
 Calls Try.prog 73 #[.pointer o1, .int .u64 h2] al fun ar a8 => ∃ (a0 : Int), ar = .returned (.int .i64 a0) ∧
 Keep [p5] al a8 ∧
 (a0 < 0 →
 ∀ (ag : World), Ext (fun b => b = p5) a8 ag →
 R (.tuple #[.agg #[.int .u64 0, .int .i64 0, .slice none 0 0, .slice none 0 0, .int .u64 0, .int .u64 0], .bool false]) ag) ∧
 ((0 : Int) ≤ a0 →
 ∃ am : Addr, o1 = some am ∧
 ∃ (af : Option Addr) (ak an : Nat), a8.cell? (am.add 1) = some (.slice af ak an) ∧
 ∃ ap : Addr, af = some ap ∧
 0 ≤ (a0 : Int) ∧ (a0 : Int) < (ak : Int) ∧
 ∃ (a1 : Int), a8.cell? ((ap.add (Int.toNat a0 * 6)).add 1) = some (.int .i64 a1) ∧
 (a1 ≠ a9 →
 ∀ (ah : World), Ext (fun b => b = p5) a8 ah →
 R (.tuple #[.agg #[.int .u64 0, .int .i64 0, .slice none 0 0, .slice none 0 0, .int .u64 0, .int .u64 0], .bool false]) ah) ∧
 (a1 = a9 →
 ∃ (aj : Option Addr) (ae ao : Nat), a8.cell? (am.add 1) = some (.slice aj ae ao) ∧
 ∃ aq : Addr, aj = some aq ∧
 0 ≤ (a0 : Int) ∧ (a0 : Int) < (ae : Int) ∧
 ∃ (ad a2 : Int) (a3 : Option Addr) (a4 a7 : Nat) (aa : Option Addr) (a5 a6 : Nat) (ab ai : Int), cellsAt a8 (aq.add (Int.toNat a0 * 6)) [.int .u64 ad, .int .i64 a2, .slice a3 a4 a7, .slice aa a5 a6, .int .u64 ab, .int .u64 ai] 0 ∧
 ∀ (ac : World), Ext (fun b => b = p5) a8 ac →
 R (.tuple #[.agg #[.int .u64 ad, .int .i64 a2, .slice a3 a4 a7, .slice aa a5 a6, .int .u64 ab, .int .u64 ai], .bool true]) ac))

theorem Q0I.up (o1 : Option Addr) (h2 ab : Int) {R : RW} {w : World} (h : Q0I.N o1 h2 ab R w) : Q0I.M o1 h2 ab R w := by
  unfold Q0I.M
  unfold Q0I.N at h
  refine Q01 fun ck e4 => ?_
  have a0 := Blk.of_new e4
  have cl := ((Ext.refl no w)).size
  have cm := (Ext.refl no w).x_alloc e4
  have h := h ck (w.heap.size) cm (Priv.cons cl a0.lt Priv.nil)
  refine h.mono fun cp a9 h => ?_
  obtain ⟨bj, he, hk, h⟩ := h
  refine ⟨bj, he, ?_⟩
  have a0 := hk.blk a0 (by simp)
  refine bif_of (fun c9 => ?_) (fun c9 => ?_)
  ·have h := h.1 (of_decide_eq_true c9)
   have c0 : Ext (fun b => b = w.heap.size) a9 a9 := ((Ext.refl no a9)).none
   refine ⟨a0.cani 0 rfl rfl, Q01 fun br cj => ?_⟩
   have b6 := c0.x_set (q := w.heap.size) (i := 0) rfl (.inl rfl) cj
   have a0 : Blk br w.heap.size 106 [.int .u64 0, .int .i64 0, .slice none 0 0, .slice none 0 0, .int .u64 0, .int .u64 0] := a0.seti 0 rfl cj
   refine ⟨a0.cani 1 rfl rfl, Q01 fun bf cd => ?_⟩
   have b7 := b6.x_set (q := w.heap.size) (i := 1) rfl (.inl rfl) cd
   have a0 : Blk bf w.heap.size 106 [.int .u64 0, .int .i64 0, .slice none 0 0, .slice none 0 0, .int .u64 0, .int .u64 0] := a0.seti 1 rfl cd
   refine ⟨a0.cani 2 rfl rfl, Q01 fun bh ce => ?_⟩
   have bv := b7.x_set (q := w.heap.size) (i := 2) rfl (.inl rfl) ce
   have a0 : Blk bh w.heap.size 106 [.int .u64 0, .int .i64 0, .slice none 0 0, .slice none 0 0, .int .u64 0, .int .u64 0] := a0.seti 2 rfl ce
   refine ⟨a0.cani 3 rfl rfl, Q01 fun al c8 => ?_⟩
   have b1 := bv.x_set (q := w.heap.size) (i := 3) rfl (.inl rfl) c8
   have a0 : Blk al w.heap.size 106 [.int .u64 0, .int .i64 0, .slice none 0 0, .slice none 0 0, .int .u64 0, .int .u64 0] := a0.seti 3 rfl c8
   refine ⟨a0.cani 4 rfl rfl, Q01 fun ap cb => ?_⟩
   have b8 := b1.x_set (q := w.heap.size) (i := 4) rfl (.inl rfl) cb
   have a0 : Blk ap w.heap.size 106 [.int .u64 0, .int .i64 0, .slice none 0 0, .slice none 0 0, .int .u64 0, .int .u64 0] := a0.seti 4 rfl cb
   refine ⟨a0.cani 5 rfl rfl, Q01 fun af c7 => ?_⟩
   have b0 := b8.x_set (q := w.heap.size) (i := 5) rfl (.inl rfl) c7
   have a0 : Blk af w.heap.size 106 [.int .u64 0, .int .i64 0, .slice none 0 0, .slice none 0 0, .int .u64 0, .int .u64 0] := a0.seti 5 rfl c7
   refine ⟨0, 0, none, 0, 0, none, 0, 0, 0, 0, ⟨a0.celli 0 rfl rfl, a0.celli 1 rfl rfl, a0.celli 2 rfl rfl, a0.celli 3 rfl rfl, a0.celli 4 rfl rfl, a0.celli 5 rfl rfl, trivial⟩, ?_⟩
   have h := h af b0
   exact h
  have h := h.2 (Int.not_lt.1 (of_decide_eq_false c9))
  obtain ⟨cq, ae, h⟩ := h
  refine Q05 ae ?_
  obtain ⟨bw, bk, bd, be, h⟩ := h
  refine ⟨bw, bk, bd, be, ?_⟩
  obtain ⟨co, az, h⟩ := h
  refine Q05 az ?_
  obtain ⟨bm, am, h⟩ := h
  refine ⟨bm, am, ?_⟩
  obtain ⟨ad, bx, h⟩ := h
  refine ⟨ad, bx, ?_⟩
  refine bif_of (fun bl => ?_) (fun bl => ?_)
  ·have h := h.1 (bne_t bl)
   have bb : Ext (fun b => b = w.heap.size) a9 a9 := ((Ext.refl no a9)).none
   refine ⟨a0.cani 0 rfl rfl, Q01 fun bz ch => ?_⟩
   have bc := bb.x_set (q := w.heap.size) (i := 0) rfl (.inl rfl) ch
   have a0 : Blk bz w.heap.size 106 [.int .u64 0, .int .i64 0, .slice none 0 0, .slice none 0 0, .int .u64 0, .int .u64 0] := a0.seti 0 rfl ch
   refine ⟨a0.cani 1 rfl rfl, Q01 fun bn c2 => ?_⟩
   have aw := bc.x_set (q := w.heap.size) (i := 1) rfl (.inl rfl) c2
   have a0 : Blk bn w.heap.size 106 [.int .u64 0, .int .i64 0, .slice none 0 0, .slice none 0 0, .int .u64 0, .int .u64 0] := a0.seti 1 rfl c2
   refine ⟨a0.cani 2 rfl rfl, Q01 fun bq c4 => ?_⟩
   have b3 := aw.x_set (q := w.heap.size) (i := 2) rfl (.inl rfl) c4
   have a0 : Blk bq w.heap.size 106 [.int .u64 0, .int .i64 0, .slice none 0 0, .slice none 0 0, .int .u64 0, .int .u64 0] := a0.seti 2 rfl c4
   refine ⟨a0.cani 3 rfl rfl, Q01 fun ay ca => ?_⟩
   have aj := b3.x_set (q := w.heap.size) (i := 3) rfl (.inl rfl) ca
   have a0 : Blk ay w.heap.size 106 [.int .u64 0, .int .i64 0, .slice none 0 0, .slice none 0 0, .int .u64 0, .int .u64 0] := a0.seti 3 rfl ca
   refine ⟨a0.cani 4 rfl rfl, Q01 fun bs cf => ?_⟩
   have bp := aj.x_set (q := w.heap.size) (i := 4) rfl (.inl rfl) cf
   have a0 : Blk bs w.heap.size 106 [.int .u64 0, .int .i64 0, .slice none 0 0, .slice none 0 0, .int .u64 0, .int .u64 0] := a0.seti 4 rfl cf
   refine ⟨a0.cani 5 rfl rfl, Q01 fun ag ci => ?_⟩
   have ai := bp.x_set (q := w.heap.size) (i := 5) rfl (.inl rfl) ci
   have a0 : Blk ag w.heap.size 106 [.int .u64 0, .int .i64 0, .slice none 0 0, .slice none 0 0, .int .u64 0, .int .u64 0] := a0.seti 5 rfl ci
   refine ⟨0, 0, none, 0, 0, none, 0, 0, 0, 0, ⟨a0.celli 0 rfl rfl, a0.celli 1 rfl rfl, a0.celli 2 rfl rfl, a0.celli 3 rfl rfl, a0.celli 4 rfl rfl, a0.celli 5 rfl rfl, trivial⟩, ?_⟩
   have h := h ag ai
   exact h
  have h := h.2 (bne_f bl)
  refine Q05 ae ?_
  obtain ⟨bi, au, b9, ar, h⟩ := h
  refine ⟨bi, au, b9, ar, ?_⟩
  obtain ⟨cn, ax, h⟩ := h
  refine Q05 ax ?_
  obtain ⟨bm, am, h⟩ := h
  refine ⟨bm, am, ?_⟩
  obtain ⟨a8, a1, a2, a4, a3, a6, a7, a5, aa, ac, aq, h⟩ := h
  refine ⟨a8, a1, a2, a4, a3, a6, a7, a5, aa, ac, aq, ?_⟩
  have bt : Ext (fun b => b = w.heap.size) a9 a9 := ((Ext.refl no a9)).none
  refine ⟨a0.cani 0 rfl rfl, Q01 fun b2 c1 => ?_⟩
  have ak := bt.x_set (q := w.heap.size) (i := 0) rfl (.inl rfl) c1
  have a0 : Blk b2 w.heap.size 106 [.int .u64 a8, .int .i64 0, .slice none 0 0, .slice none 0 0, .int .u64 0, .int .u64 0] := a0.seti 0 rfl c1
  refine ⟨a0.cani 1 rfl rfl, Q01 fun av c5 => ?_⟩
  have bo := ak.x_set (q := w.heap.size) (i := 1) rfl (.inl rfl) c5
  have a0 : Blk av w.heap.size 106 [.int .u64 a8, .int .i64 a1, .slice none 0 0, .slice none 0 0, .int .u64 0, .int .u64 0] := a0.seti 1 rfl c5
  refine ⟨a0.cani 2 rfl rfl, Q01 fun b4 c6 => ?_⟩
  have bg := bo.x_set (q := w.heap.size) (i := 2) rfl (.inl rfl) c6
  have a0 : Blk b4 w.heap.size 106 [.int .u64 a8, .int .i64 a1, .slice a2 a4 a3, .slice none 0 0, .int .u64 0, .int .u64 0] := a0.seti 2 rfl c6
  refine ⟨a0.cani 3 rfl rfl, Q01 fun bu cg => ?_⟩
  have ao := bg.x_set (q := w.heap.size) (i := 3) rfl (.inl rfl) cg
  have a0 : Blk bu w.heap.size 106 [.int .u64 a8, .int .i64 a1, .slice a2 a4 a3, .slice a6 a7 a5, .int .u64 0, .int .u64 0] := a0.seti 3 rfl cg
  refine ⟨a0.cani 4 rfl rfl, Q01 fun ba cc => ?_⟩
  have b5 := ao.x_set (q := w.heap.size) (i := 4) rfl (.inl rfl) cc
  have a0 : Blk ba w.heap.size 106 [.int .u64 a8, .int .i64 a1, .slice a2 a4 a3, .slice a6 a7 a5, .int .u64 aa, .int .u64 0] := a0.seti 4 rfl cc
  refine ⟨a0.cani 5 rfl rfl, Q01 fun ah c3 => ?_⟩
  have an := b5.x_set (q := w.heap.size) (i := 5) rfl (.inl rfl) c3
  have a0 : Blk ah w.heap.size 106 [.int .u64 a8, .int .i64 a1, .slice a2 a4 a3, .slice a6 a7 a5, .int .u64 aa, .int .u64 ac] := a0.seti 5 rfl c3
  refine ⟨a8, a1, a2, a4, a3, a6, a7, a5, aa, ac, ⟨a0.celli 0 rfl rfl, a0.celli 1 rfl rfl, a0.celli 2 rfl rfl, a0.celli 3 rfl rfl, a0.celli 4 rfl rfl, a0.celli 5 rfl rfl, trivial⟩, ?_⟩
  have h := h ah an
  exact h

theorem Q0I.go (o1 : Option Addr) (h2 a0 : Int) {R : RW} {w : World} (h : Q0I.N o1 h2 a0 R w) : Calls Try.prog 75 #[.pointer o1, .int .u64 h2, .int .i64 a0] w fun e w' => ∃ v, e = .returned v ∧ R v w' := Q0I.ok o1 h2 a0 (Q0I.up o1 h2 a0 h)
theorem inf106 : (Try.prog.info? 106).map (fun i => (i.zero, i.size, i.bytes)) = some (some (.agg #[.int .u64 0, .int .i64 0, .slice none 0 0, .slice none 0 0, .int .u64 0, .int .u64 0]), 6, 80) := by kernel_rfl
structure RRow where
  h : Int
  kind : Int
  A : List UInt8
  B : List UInt8
  n : Int
  m : Int
structure PR where
  r : RRow
  aA : Option Addr
  cA : Nat
  aB : Option Addr
  cB : Nat
def PR.C (x : PR) : List Value := [.int .u64 x.r.h, .int .i64 x.r.kind, .slice x.aA x.r.A.length x.cA, .slice x.aB x.r.B.length x.cB, .int .u64 x.r.n, .int .u64 x.r.m]
def PR.ok (w : World) (o : Own) (x : PR) : Prop := Row w o x.aA (bytesV x.r.A) ∧ Row w o x.aB (bytesV x.r.B) ∧ x.r.A.length ≤ x.cA ∧ x.r.B.length ≤ x.cB
def PR.Cs (R : List PR) : List Value := R.flatMap PR.C
structure ROrcP (w : World) (o : Own) (k : Nat) (d : List Int) (R : List PR) : Prop where
  tk : o k = some k
  at_ : ∃ da dc la lc, Blk w k 54 [.slice da d.length dc, .slice la R.length lc] ∧ d.length ≤ dc ∧ Row w o da (d.map u64V) ∧ Grows 106 6 w o k la R.length lc (PR.Cs R) ∧ (∀ ad, la = some ad → ad.block ≠ k)
  rows : ∀ x ∈ R, x.ok w o
def ROrc (w : World) (o : Own) (k : Nat) (d : List Int) (L : List RRow) : Prop := ∃ R, L = R.map PR.r ∧ ROrcP w o k d R
theorem PR.Cs_length (R : List PR) : (PR.Cs R).length = R.length * 6 := by
  induction R with
  | nil => rfl
  | cons x r ih => simp only [PR.Cs, List.flatMap_cons, List.length_append, List.length_cons] at ih ⊢; rw [ih]; simp [PR.C]; omega
theorem PR.Cs_get : ∀ {R : List PR} {i : Nat} {x : PR}, R[i]? = some x → ∀ j, j < 6 → (PR.Cs R)[i * 6 + j]? = x.C[j]?
  | [], i, x, hi, j, hj => by simp at hi
  | a :: r, 0, x, hi, j, hj => by
    simp only [List.getElem?_cons_zero, Option.some.injEq] at hi
    subst hi
    simp only [PR.Cs, List.flatMap_cons, Nat.zero_mul, Nat.zero_add]
    rw [List.getElem?_append_left (by simp [PR.C]; omega)]
  | a :: r, i + 1, x, hi, j, hj => by
    simp only [List.getElem?_cons_succ] at hi
    have := PR.Cs_get hi j hj
    simp only [PR.Cs, List.flatMap_cons] at this ⊢
    rw [List.getElem?_append_right (by simp [PR.C]; omega), show (i + 1) * 6 + j - a.C.length = i * 6 + j by simp [PR.C]; omega]
    exact this
theorem PR.one (x : PR) : ∀ u ∈ x.C, u.oneCell' = true := fun u hu => by
  simp only [PR.C, List.mem_cons, List.not_mem_nil, or_false] at hu
  rcases hu with rfl | rfl | rfl | rfl | rfl | rfl <;> rfl
section
variable {w w' : World} {o o' : Own} {k : Nat} {K : Nat → Prop} {d : List Int} {R : List PR} {L : List RRow}
theorem PR.ok.step {x : PR} (h : x.ok w o) (s : Step K w o w' o') : x.ok w' o' := ⟨h.1.step s, h.2.1.step s, h.2.2⟩
theorem ROrcP.lt (h : ROrcP w o k d R) : k < w.heap.size := by obtain ⟨da, dc, la, lc, hb, _⟩ := h.at_; exact hb.lt
theorem ROrcP.step (h : ROrcP w o k d R) (s : Step K w o w' o') (hk : ¬ K k) : ROrcP w' o' k d R := by
  obtain ⟨da, dc, la, lc, h1, h2, h3, h4, h5⟩ := h.at_
  exact ⟨by rw [s.own h.lt]; exact h.tk, ⟨da, dc, la, lc, s.blk h1 h.tk hk, h2, h3.step s, h4.step s hk, h5⟩, fun x hx => (h.rows x hx).step s⟩
theorem ROrc.step (h : ROrc w o k d L) (s : Step K w o w' o') (hk : ¬ K k) : ROrc w' o' k d L := by
  obtain ⟨R, h1, h2⟩ := h; exact ⟨R, h1, h2.step s hk⟩
theorem ROrc.lt (h : ROrc w o k d L) : k < w.heap.size := by obtain ⟨R, _, h⟩ := h; exact h.lt
def atI (L : List RRow) (h : Int) : Int := match L.findIdx? (fun r => r.h == h) with | some i => i | none => -1
theorem Q1M {la : Option Addr} {ad : Addr} (hr : RowAt w la (PR.Cs R)) (ha : la = some ad) {i : Nat} {x : PR} (hi : R[i]? = some x) {j : Nat} {v : Value} (hv : x.C[j]? = some v) : w.cell? ((ad.add (i * 6)).add j) = some v := by
  have hj : j < 6 := by have := (List.getElem?_eq_some_iff.1 hv).1; simpa [PR.C] using this
  subst ha
  rw [add_add]
  exact hr.at_ ((PR.Cs_get hi j hj).trans hv)
theorem Cs_ne (h : R ≠ []) : PR.Cs R ≠ [] := fun e => by
  have := PR.Cs_length R
  rw [e] at this
  simp at this
  exact h (List.eq_nil_of_length_eq_zero (by omega))
theorem at_spec (h : ROrcP w o k d R) (hl : R.length < 1000000) (x : Int) :
    Calls Try.prog 73 #[.pointer (some (blk k)), .int .u64 x] w (Ret (.int .i64 (atI (R.map PR.r) x)) fun w' => w' = w) := by
  refine Q0t.run _ _ ?_
  unfold Q0t.N
  obtain ⟨da, dc, la, lc, h1, h2, h3, h4, h5⟩ := h.at_
  refine ⟨fun q vs w1 => ∃ t : Nat, vs = [.int .i64 t] ∧ q + t = R.length ∧ (∀ y ∈ R.take t, y.r.h ≠ x) ∧ w1 = w, R.length, ⟨0, rfl, rfl, by simp, rfl⟩, ?_⟩
  rintro q w1 i ⟨t, hi, hq, hn, rfl⟩
  simp only [List.cons.injEq, Value.int.injEq, true_and, and_true] at hi
  subst hi
  refine ⟨_, rfl, la, R.length, lc, h1.cella (i := 1) rfl, fun ht => ?_, fun ht => ?_⟩
  · have htl : t < R.length := by omega
    have hne : R ≠ [] := by intro e; subst e; simp at htl
    obtain ⟨ad, ha⟩ := h4.row.addr (Cs_ne hne)
    have hg : R[t]? = some R[t] := List.getElem?_eq_getElem htl
    refine ⟨la, R.length, lc, h1.cella (i := 1) rfl, ad, ha, by omega, by omega, R[t].r.h, by rw [Int.toNat_natCast]; exact Q1M h4.row ha hg (j := 0) rfl, fun he => ?_, fun he => ?_⟩
    · refine ⟨?_, rfl⟩
      have : (R.map PR.r).findIdx? (fun r => r.h == x) = some t := by
        rw [List.findIdx?_eq_some_iff_getElem]
        refine ⟨by simpa using htl, by simpa using he, fun j hj => ?_⟩
        have := hn R[j] (List.mem_take_iff_getElem.2 ⟨j, by omega, rfl⟩)
        simpa using this
      unfold atI
      rw [this]
    · refine ⟨by omega, by omega, q - 1, by omega, t + 1, rfl, by omega, fun y hy => ?_, rfl⟩
      rw [List.take_add_one, hg] at hy
      rcases List.mem_append.1 hy with hy | hy
      · exact hn y hy
      · simp at hy; rw [hy]; exact he
  · obtain rfl : t = R.length := by omega
    rw [List.take_length] at hn
    refine ⟨?_, rfl⟩
    have : (R.map PR.r).findIdx? (fun r => r.h == x) = none := by
      rw [List.findIdx?_eq_none_iff]
      intro r hr
      obtain ⟨y, hy, rfl⟩ := List.mem_map.1 hr
      simpa using hn y hy
    unfold atI
    rw [this]
theorem atI_mem (L : List RRow) (x : Int) : 0 ≤ atI L x ↔ x ∈ L.map RRow.h := by
  unfold atI
  cases h : L.findIdx? (fun r => r.h == x) with
  | some i =>
    rw [List.findIdx?_eq_some_iff_getElem] at h
    obtain ⟨h1, h2, _⟩ := h
    simp only [Int.natCast_nonneg, true_iff]
    exact List.mem_map.2 ⟨L[i], List.getElem_mem h1, by simpa using h2⟩
  | none =>
    rw [List.findIdx?_eq_none_iff] at h
    constructor
    · intro h; exact absurd h (by show ¬ (0 : Int) ≤ -1; decide)
    · intro hm
      obtain ⟨r, hr, rfl⟩ := List.mem_map.1 hm
      have := h r hr
      simp at this
def freshR (d used : List Int) : Int × List Int := match pickD d used with | some q => q | none => (pickN used (used.length + 1) 1, [])
def putTail (RR : RW) (w : World) (p : Nat) (a : Addr) (h kind : Int) (aA : Option Addr) (nA cA : Nat) (aB : Option Addr) (nB cB : Nat) (n m : Int) : Prop :=
  ∀ (w67 : World), Ext (fun b => b = p) w w67 →
  ∃ (La : Option Addr) (Ln Lc : Nat), w67.cell? (a.add 1) = some (.slice La Ln Lc) ∧
  ∀ (w70 : World) (q : Nat), Ext no w67 w70 → Blk w70 q 106 [.int .u64 h, .int .i64 kind, .slice aA nA cA, .slice aB nB cB, .int .u64 n, .int .u64 m] → w67.heap.size ≤ q → q < w70.heap.size →
  w70.cell? (a.add 1) = some (.slice La Ln Lc) ∧
  ∃ (a73a : Option Addr) (a73n a73c : Nat) (w74 : World), (Builtin.append_ #[52, 52] 52 #[.slice La Ln Lc, .slice (some (blk q)) 1 1]).run Try.prog w70 = .ok (.slice a73a a73n a73c) w74 ∧
  Q0d w74 ((a.add 1).add 0) ∧
  thenW (w74.setCell ((a.add 1).add 0) (.slice a73a a73n a73c)) fun w75 =>
  RR (.int .u64 h) w75
theorem tail_ok {w0 : World} {o0 : Own} {p : Nat} (h : ROrcP w o k d R) (s : Step (fun j => j = k) w0 o0 w o) (hl : R.length < 1000000) (hp : w0.heap.size ≤ p) (hp' : o p = some p) (hpk : p ≠ k) (x : PR) (hx : x.ok w o) :
    putTail (fun v w' => ∃ o', v = .int .u64 x.r.h ∧ Step (fun j => j = k) w0 o0 w' o' ∧ ROrc w' o' k d (R.map PR.r ++ [x.r])) w p (blk k) x.r.h x.r.kind x.aA x.r.A.length x.cA x.aB x.r.B.length x.cB x.r.n x.r.m := by
  intro w67 X67
  obtain ⟨o67, s67⟩ := Step.store1 X67 s.ok hp'
  have h67 := h.step s67 (fun e => hpk e.symm)
  have s067 := s.trans' s67 fun j hj => .inr (by omega)
  have hx67 := hx.step s67
  obtain ⟨da, dc, la, lc, h1, h2, h3, h4, h5⟩ := h67.at_
  refine ⟨la, R.length, lc, h1.cella (i := 1) rfl, fun w70 q X70 hq hq1 hq2 => ?_⟩
  have s70 := Step.of_no X70 s067.ok
  have h70 := h67.step s70 id
  have s070 := s067.trans s70.none
  have hx70 := hx67.step s70
  obtain ⟨i, hi, hz, hsz, hby⟩ := info_of inf106
  have hb70 := s70.blk h1 h67.tk id
  obtain ⟨a', c', w74, o74, hr, s74, g74, hkeep, hblk⟩ := (h4.step s70 id).push (ty := 52) Try.underlying52 hi hz hsz hby rfl (by decide) s070.ok h70.lt (xa := some (blk q)) (m := 1) (xc := 1) (news := x.C) rfl (RowAt.of_blk hq) x.one (by omega) (by omega)
  have hb74 : Blk w74 k 54 [.slice da d.length dc, .slice la R.length lc] := by
    unfold Blk at hb70 ⊢
    rw [hkeep k h70.lt fun ad ha e => h5 ad ha e.symm]; exact hb70
  have s074 := s070.trans s74
  refine ⟨hb70.cella (i := 1) rfl, a', _, c', w74, hr, hb74.cana (i := 1) rfl, Q01 fun w75 e75 => ?_⟩
  have X75 : Ext (fun b => b = k) w74 w75 := (Ext.refl (fun b => b = k) w74).x_set (q := k) (i := 1) rfl (.inl rfl) e75
  have tk74 : o74 k = some k := (s74.own h70.lt).trans h70.tk
  obtain ⟨o75, s75⟩ := Step.store1 X75 s74.ok tk74
  have hk74 : k < w74.heap.size := Nat.lt_of_lt_of_le h70.lt s74.size
  have hne : ∀ ad, a' = some ad → ad.block ≠ k := fun ad ha e => by
    rcases hblk ad ha with ⟨b, hb1, hb2⟩ | hq
    · exact h5 b hb1 (by omega)
    · have := h70.lt; omega
  refine ⟨o75, rfl, s074.trans s75, R ++ [x], by simp, ⟨(s75.own hk74).trans tk74, ⟨da, dc, a', c', ?_, h2, ((h3.step s70).step s74).step s75, ?_, hne⟩, fun y hy => ?_⟩⟩
  · have := hb74.seti 1 rfl e75
    rw [List.length_append]; exact this
  · have := g74.keep X75 (fun ad ha => hne ad ha) (o' := o75) fun b hb => s75.own hb
    rw [List.length_append, show PR.Cs (R ++ [x]) = PR.Cs R ++ x.C by simp [PR.Cs]]; exact this
  · rcases List.mem_append.1 hy with hy | hy
    · exact ((h70.rows y hy).step s74).step s75
    · simp at hy; subst hy; exact (hx70.step s74).step s75
def putLoop (RR : RW) (w : World) (p : Nat) (op : Option Addr) (a : Addr) (rh kind : Int) (aA : Option Addr) (nA cA : Nat) (aB : Option Addr) (nB cB : Nat) (n m : Int) : Prop :=
  ∃ (I2 : Nat → List Value → World → Prop) (m58 : Nat), I2 m58 [.int .u64 1, .int .u64 rh, .int .i64 kind, .slice aA nA cA, .slice aB nB cB, .int .u64 n, .int .u64 m] w ∧ ∀ (m59 : Nat) (ww60 : World) (h51 H52 Kind53 : Int) (A54a : Option Addr) (A54n A54c : Nat) (B55a : Option Addr) (B55n B55c : Nat) (N56 M57 : Int), I2 m59 [.int .u64 h51, .int .u64 H52, .int .i64 Kind53, .slice A54a A54n A54c, .slice B55a B55n B55c, .int .u64 N56, .int .u64 M57] ww60 →
    Calls Try.prog 73 #[.pointer op, .int .u64 h51] ww60 fun ee62 ww63 => ∃ (atv61 : Int), ee62 = .returned (.int .i64 atv61) ∧
    Keep [p] ww60 ww63 ∧
    (atv61 ≥ 0 →
      ∃ m65, m65 < m59 ∧ I2 m65 [.int .u64 (IntKind.u64.wrap (h51 + 1)), .int .u64 H52, .int .i64 Kind53, .slice A54a A54n A54c, .slice B55a B55n B55c, .int .u64 N56, .int .u64 M57] ww63) ∧
    (atv61 < 0 → putTail RR ww63 p a h51 Kind53 A54a A54n A54c B55a B55n B55c N56 M57)
theorem loop_ok {w0 : World} {o0 : Own} {p : Nat} (h : ROrcP w o k d R) (s : Step (fun j => j = k) w0 o0 w o) (hl : R.length < 1000000) (hp : w0.heap.size ≤ p) (hp' : o p = some p) (hpk : p ≠ k) (x : PR) (hx : x.ok w o) :
    putLoop (fun v w' => ∃ o', v = .int .u64 (pickN (R.map fun y => y.r.h) (R.length + 1) 1) ∧ Step (fun j => j = k) w0 o0 w' o' ∧ ROrc w' o' k d (R.map PR.r ++ [{ x.r with h := pickN (R.map fun y => y.r.h) (R.length + 1) 1 }])) w p (some (blk k)) (blk k) x.r.h x.r.kind x.aA x.r.A.length x.cA x.aB x.r.B.length x.cB x.r.n x.r.m := by
  obtain ⟨a1, a2, a3, a4, a5⟩ := Q1q (R.map fun y => y.r.h) (R.length + 1) 1 (Int.le_refl _) (gap _ _ _ (by simp))
  generalize pickN (R.map fun y => y.r.h) (R.length + 1) 1 = z at *
  refine ⟨fun q vs w1 => ∃ t : Int, 1 ≤ t ∧ t ≤ z ∧ q = (z - t).toNat ∧ vs = [.int .u64 t, .int .u64 x.r.h, .int .i64 x.r.kind, .slice x.aA x.r.A.length x.cA, .slice x.aB x.r.B.length x.cB, .int .u64 x.r.n, .int .u64 x.r.m] ∧ w1 = w, (z - 1).toNat, ⟨1, Int.le_refl _, a1, rfl, rfl, rfl⟩, ?_⟩
  rintro q w1 t H Kd Aa An Ac Ba Bn Bc Nn Mm ⟨t', ht1, ht2, rfl, hvs, rfl⟩
  simp only [List.cons.injEq, Value.int.injEq, Value.slice.injEq, true_and, and_true] at hvs
  obtain ⟨rfl, rfl, rfl, ⟨rfl, rfl, rfl⟩, ⟨rfl, rfl, rfl⟩, rfl, rfl⟩ := hvs
  refine (at_spec h hl t).mono fun e w63 ⟨he, hw⟩ => ⟨_, he, by subst hw; exact Keep.refl _ _, fun hat => ?_, fun hat => ?_⟩
  · subst hw
    have hm := (atI_mem _ _).1 hat
    rw [List.map_map] at hm
    have hne : t ≠ z := fun e => by subst e; exact a3 hm
    refine ⟨(z - (t + 1)).toNat, by omega, t + 1, by omega, by omega, rfl, ?_, rfl⟩
    rw [wu64 (by omega) (by omega)]
  · subst hw
    have hm : ¬ t ∈ R.map fun y => y.r.h := fun e => by
      have := (atI_mem (R.map PR.r) t).2 (by rw [List.map_map]; exact e)
      omega
    have : t = z := Decidable.byContradiction fun hne => hm (a5 t ht1 (by omega))
    subst this
    exact tail_ok h s hl hp hp' hpk { x with r := { x.r with h := t } } hx
def putR (d : List Int) (L : List RRow) (r : RRow) : Int × List Int × List RRow :=
  ((freshR d (L.map RRow.h)).1, (freshR d (L.map RRow.h)).2, L ++ [{ r with h := (freshR d (L.map RRow.h)).1 }])
def pend (h : Int) (d used : List Int) : Option (Int × List Int) := if h ≠ 0 ∧ h ∉ used then some (h, d) else pickD d used
theorem Q2z (h : ROrc w o k d L) (ok : Tags w o) (hd : ∀ x ∈ d, 0 ≤ x ∧ x < 18446744073709551616) (hl : L.length < 1000000) (x : PR) (hx : x.ok w o) :
    Calls Try.prog 38 #[.pointer (some (blk k)), .agg #[.int .u64 x.r.h, .int .i64 x.r.kind, .slice x.aA x.r.A.length x.cA, .slice x.aB x.r.B.length x.cB, .int .u64 x.r.n, .int .u64 x.r.m]] w
      (Gs (fun j => j = k) w o (.int .u64 (putR d L x.r).1) fun w' o' => ROrc w' o' k (putR d L x.r).2.1 (putR d L x.r).2.2) := by
  obtain ⟨R, rfl, h⟩ := h
  rw [List.length_map] at hl
  refine (Q0b.go _ _ _ _ _ _ _ _ _ _ _ (R := fun v w' => ∃ o', v = .int .u64 (putR d (R.map PR.r) x.r).1 ∧ Step (fun j => j = k) w o w' o' ∧ ROrc w' o' k (putR d (R.map PR.r) x.r).2.1 (putR d (R.map PR.r) x.r).2.2) ?_).mono fun e w' ⟨v, he, o', hv, hw⟩ => ⟨o', by rw [he, hv], hw⟩
  unfold Q0b.N
  intro w8 p9 X8 hp
  obtain ⟨o8, s8, tp8⟩ := Step.priv1 X8 hp ok
  have hp := hp.one
  have hkl := h.lt
  have hpk : p9 ≠ k := by omega
  have hU : (R.map PR.r).map RRow.h = R.map fun y => y.r.h := by rw [List.map_map]; rfl
  refine ⟨fun q vs w1 => ∃ (t : Int) (d1 : List Int) (o1 : Own), vs = [.int .u64 t, .int .u64 x.r.h, .int .i64 x.r.kind, .slice x.aA x.r.A.length x.cA, .slice x.aB x.r.B.length x.cB, .int .u64 x.r.n, .int .u64 x.r.m] ∧ q = d1.length ∧ pend t d1 (R.map fun y => y.r.h) = pickD d (R.map fun y => y.r.h) ∧ (∀ y ∈ d1, 0 ≤ y ∧ y < 18446744073709551616) ∧
      Step (fun j => j = k) w o w1 o1 ∧ ROrcP w1 o1 k d1 R ∧ o1 p9 = some p9 ∧ p9 < w1.heap.size, d.length, ⟨0, d, o8, rfl, rfl, by unfold pend; rw [if_neg (fun h => h.1 rfl)], hd, s8.none, h.step s8 id, tp8, hp.2⟩, ?_⟩
  rintro q w1 t H Kd Aa An Ac Ba Bn Bc Nn Mm ⟨t', d1, o1, hvs, rfl, hpd, hd1, s1, h1, tp1, lp1⟩
  simp only [List.cons.injEq, Value.int.injEq, Value.slice.injEq, true_and, and_true] at hvs
  obtain ⟨rfl, rfl, rfl, ⟨rfl, rfl, rfl⟩, ⟨rfl, rfl, rfl⟩, rfl, rfl⟩ := hvs
  have hx1 := hx.step s1
  obtain ⟨da, dc, la, lc, b1, b2, b3, b4, b5⟩ := id h1.at_
  -- a draw is taken
  have draw : ∀ (y : Int) (r : List Int), d1 = y :: r → ∀ w32, w32 = w1.setCell (((blk k).add 0).add 0) (.slice (cutA da dc 1 1) (d1.length - 1) (dc - 1)) → ∃ o32, Step (fun j => j = k) w o w32 o32 ∧ ROrcP w32 o32 k r R ∧ o32 p9 = some p9 ∧ p9 < w32.heap.size := fun y r hy w32 e32 => by
    subst hy
    have X32 : Ext (fun b => b = k) w1 w32 := (Ext.refl (fun b => b = k) w1).x_set (q := k) (i := 0) rfl (.inl rfl) e32
    obtain ⟨o32, s32⟩ := Step.store1 X32 s1.ok h1.tk
    have hb := b1.seti 0 rfl e32
    refine ⟨o32, s1.trans s32, ⟨(s32.own h1.lt).trans h1.tk, ⟨cutA da dc 1 1, dc - 1, la, lc, hb, by simp at b2; omega, ?_, b4.keep X32 (fun ad ha => b5 ad ha) fun b hb => s32.own hb, b5⟩, fun z hz => (h1.rows z hz).step s32⟩, (s32.own lp1).trans tp1, Nat.lt_of_lt_of_le lp1 s32.size⟩
    have hc := b3.1.cut 1 dc (by rw [List.length_map]; exact b2)
    have e1 : List.drop 1 (List.map u64V (y :: r)) = r.map u64V := rfl
    rw [e1] at hc
    have : Row w1 o1 (cutA da dc 1 1) (r.map u64V) := ⟨hc, fun h0 ad ha => by
      obtain ⟨b, hb, hbb⟩ := Q5A ha
      rw [← hbb]; exact b3.2 (by simp) b hb⟩
    exact this.step s32
  have hnone : pickD d (R.map fun y => y.r.h) = none → putR d (R.map PR.r) x.r = (pickN (R.map fun y => y.r.h) (R.length + 1) 1, [], R.map PR.r ++ [{ x.r with h := pickN (R.map fun y => y.r.h) (R.length + 1) 1 }]) := fun hn => by
    unfold putR freshR
    rw [hU, hn, List.length_map]
  have hsome : ∀ z r, pickD d (R.map fun y => y.r.h) = some (z, r) → putR d (R.map PR.r) x.r = (z, r, R.map PR.r ++ [{ x.r with h := z }]) := fun z r hn => by
    unfold putR freshR
    rw [hU, hn]
  have hin : ∀ z, 0 ≤ atI (R.map PR.r) z ↔ z ∈ R.map fun y => y.r.h := fun z => by rw [atI_mem, List.map_map]; rfl
  refine ⟨_, rfl, da, d1.length, dc, b1.cella (i := 0) rfl, fun hpos => ⟨fun h0 => ?_, fun h0 => ?_⟩, fun hneg => ⟨fun h0 => ?_, fun h0 => ?_⟩⟩
  · -- none at hand, and draws are left
    subst h0
    cases d1 with
    | nil => simp at hpos
    | cons y r =>
      obtain ⟨ad, ha⟩ := b3.1.addr (by simp)
      have hy := hd1 y (by simp)
      refine ⟨da, _, dc, b1.cella (i := 0) rfl, ad, ha, by omega, y, by subst ha; exact b3.1.at_ (i := 0) rfl, da, _, dc, b1.cella (i := 0) rfl, by simp only [List.length_cons]; omega, b1.cana (i := 0) rfl, fun z hz => by simp at hz; subst hz; exact hpk, Q01 fun w32 e32 => ?_⟩
      obtain ⟨o32, s32, h32, t32, l32⟩ := draw y r rfl w32 e32
      refine ⟨r.length, by simp, y, r, o32, rfl, rfl, ?_, fun z hz => hd1 z (by simp [hz]), s32, h32, t32, l32⟩
      rw [← hpd, show pend 0 (y :: r) (R.map fun y => y.r.h) = pickD (y :: r) (R.map fun y => y.r.h) from if_neg fun h => h.1 rfl]
      unfold pend
      simp only [pickD]
      by_cases c : y ≠ 0 ∧ y ∉ R.map fun y => y.r.h
      · rw [if_pos c, if_neg (by rintro (h | h); exact c.1 h; exact c.2 h)]
      · rw [if_neg c, if_pos (by by_cases hy0 : y = 0; exact .inl hy0; exact .inr (Decidable.not_not.1 fun h => c ⟨hy0, h⟩))]
  · -- one at hand, and draws are left
    refine (at_spec h1 hl t).mono fun e w36 ⟨he, hw⟩ => ⟨_, he, by subst hw; exact Keep.refl _ _, fun hat => ?_, fun hat => ?_⟩ <;> subst hw
    · have hused := (hin t).1 hat
      cases d1 with
      | nil => simp at hpos
      | cons y r =>
        obtain ⟨ad, ha⟩ := b3.1.addr (by simp)
        refine ⟨da, _, dc, b1.cella (i := 0) rfl, ad, ha, by omega, y, by subst ha; exact b3.1.at_ (i := 0) rfl, da, _, dc, b1.cella (i := 0) rfl, by simp only [List.length_cons]; omega, b1.cana (i := 0) rfl, fun z hz => by simp at hz; subst hz; exact hpk, Q01 fun w45 e45 => ?_⟩
        obtain ⟨o32, s32, h32, t32, l32⟩ := draw y r rfl w45 e45
        refine ⟨r.length, by simp, y, r, o32, rfl, rfl, ?_, fun z hz => hd1 z (by simp [hz]), s32, h32, t32, l32⟩
        rw [← hpd, show pend t (y :: r) (R.map fun y => y.r.h) = pickD (y :: r) (R.map fun y => y.r.h) from if_neg fun h => h.2 hused]
        unfold pend
        simp only [pickD]
        by_cases c : y ≠ 0 ∧ y ∉ R.map fun y => y.r.h
        · rw [if_pos c, if_neg (by rintro (h | h); exact c.1 h; exact c.2 h)]
        · rw [if_neg c, if_pos (by by_cases hy0 : y = 0; exact .inl hy0; exact .inr (Decidable.not_not.1 fun h => c ⟨hy0, h⟩))]
    · have hfree : t ∉ R.map fun y => y.r.h := fun e => by have := (hin t).2 e; omega
      refine (at_spec h1 hl t).mono fun e w49 ⟨he, hw⟩ => ⟨_, he, by subst hw; exact Keep.refl _ _, fun hat2 => absurd hat2 (by omega), fun _ => ?_⟩
      subst hw
      have : pickD d (R.map fun y => y.r.h) = some (t, d1) := by rw [← hpd]; unfold pend; rw [if_pos ⟨h0, hfree⟩]
      rw [hsome _ _ this]
      exact tail_ok h1 s1 hl hp.1 tp1 hpk { x with r := { x.r with h := t } } hx1
  · -- none at hand, none left
    obtain rfl : d1 = [] := List.eq_nil_of_length_eq_zero (by omega)
    subst h0
    have : pickD d (R.map fun y => y.r.h) = none := by rw [← hpd]; unfold pend; rw [if_neg (fun h => h.1 rfl)]; rfl
    rw [hnone this]
    exact loop_ok h1 s1 hl hp.1 tp1 hpk x hx1
  · -- one at hand, none left
    obtain rfl : d1 = [] := List.eq_nil_of_length_eq_zero (by omega)
    refine (at_spec h1 hl t).mono fun e w36 ⟨he, hw⟩ => ⟨_, he, by subst hw; exact Keep.refl _ _, fun hat => ?_, fun hat => ?_⟩ <;> subst hw
    · have hused := (hin t).1 hat
      have : pickD d (R.map fun y => y.r.h) = none := by rw [← hpd]; unfold pend; rw [if_neg (fun h : t ≠ 0 ∧ t ∉ _ => h.2 hused)]; rfl
      rw [hnone this]
      exact loop_ok h1 s1 hl hp.1 tp1 hpk x hx1
    · have hfree : t ∉ R.map fun y => y.r.h := fun e => by have := (hin t).2 e; omega
      have : pickD d (R.map fun y => y.r.h) = some (t, []) := by rw [← hpd]; unfold pend; rw [if_pos ⟨h0, hfree⟩]
      rw [hsome _ _ this]
      exact tail_ok h1 s1 hl hp.1 tp1 hpk { x with r := { x.r with h := t } } hx1
end
def Q0E.M (o1 : Option Addr) (R : RW) (w : World) : Prop :=
 Calls Try.prog 38 #[.pointer o1, .agg #[.int .u64 0, .int .i64 2, .slice none 0 0, .slice none 0 0, .int .u64 0, .int .u64 0]] w fun a2 a1 => ∃ (a0 : Int), a2 = .returned (.int .u64 a0) ∧
 R (.int .u64 a0) a1

theorem Q0E.ok (o1 : Option Addr) {R : RW} {w : World} (h : Q0E.M o1 R w) : Calls Try.prog 44 #[.pointer o1] w fun e w' => ∃ v, e = .returned v ∧ R v w' :=
  Q0i follows (H := []) (args := [.pointer o1]) (cast (by kernel_rfl) h)

def Q0E.N (o1 : Option Addr) (R : RW) (w : World) : Prop :=
 Calls Try.prog 38 #[.pointer o1, .agg #[.int .u64 0, .int .i64 2, .slice none 0 0, .slice none 0 0, .int .u64 0, .int .u64 0]] w fun a2 a1 => ∃ (a0 : Int), a2 = .returned (.int .u64 a0) ∧
 R (.int .u64 a0) a1

theorem Q0E.up (o1 : Option Addr) {R : RW} {w : World} (h : Q0E.N o1 R w) : Q0E.M o1 R w := by
  unfold Q0E.M
  unfold Q0E.N at h
  refine h.mono fun a2 a1 h => ?_
  obtain ⟨a0, he, h⟩ := h
  refine ⟨a0, he, ?_⟩
  exact h

theorem Q0E.go (o1 : Option Addr) {R : RW} {w : World} (h : Q0E.N o1 R w) : Calls Try.prog 44 #[.pointer o1] w fun e w' => ∃ v, e = .returned v ∧ R v w' := Q0E.ok o1 (Q0E.up o1 h)
def Q0C.M (o1 : Option Addr) (R : RW) (w : World) : Prop :=
 Calls Try.prog 38 #[.pointer o1, .agg #[.int .u64 0, .int .i64 3, .slice none 0 0, .slice none 0 0, .int .u64 0, .int .u64 0]] w fun a3 a5 => ∃ (a0 : Int), a3 = .returned (.int .u64 a0) ∧
 Calls Try.prog 38 #[.pointer o1, .agg #[.int .u64 0, .int .i64 4, .slice none 0 0, .slice none 0 0, .int .u64 a0, .int .u64 0]] a5 fun a4 a2 => ∃ (a1 : Int), a4 = .returned (.int .u64 a1) ∧
 R (.tuple #[.int .u64 a0, .int .u64 a1]) a2

theorem Q0C.ok (o1 : Option Addr) {R : RW} {w : World} (h : Q0C.M o1 R w) : Calls Try.prog 17 #[.pointer o1] w fun e w' => ∃ v, e = .returned v ∧ R v w' :=
  Q0i follows (H := []) (args := [.pointer o1]) (cast (by kernel_rfl) h)

def Q0C.N (o1 : Option Addr) (R : RW) (w : World) : Prop :=
 Calls Try.prog 38 #[.pointer o1, .agg #[.int .u64 0, .int .i64 3, .slice none 0 0, .slice none 0 0, .int .u64 0, .int .u64 0]] w fun a3 a5 => ∃ (a0 : Int), a3 = .returned (.int .u64 a0) ∧
 Calls Try.prog 38 #[.pointer o1, .agg #[.int .u64 0, .int .i64 4, .slice none 0 0, .slice none 0 0, .int .u64 a0, .int .u64 0]] a5 fun a4 a2 => ∃ (a1 : Int), a4 = .returned (.int .u64 a1) ∧
 R (.tuple #[.int .u64 a0, .int .u64 a1]) a2

theorem Q0C.up (o1 : Option Addr) {R : RW} {w : World} (h : Q0C.N o1 R w) : Q0C.M o1 R w := by
  unfold Q0C.M
  unfold Q0C.N at h
  refine h.mono fun a3 a5 h => ?_
  obtain ⟨a1, he, h⟩ := h
  refine ⟨a1, he, ?_⟩
  refine h.mono fun a4 a2 h => ?_
  obtain ⟨a0, he, h⟩ := h
  refine ⟨a0, he, ?_⟩
  exact h

theorem Q0C.go (o1 : Option Addr) {R : RW} {w : World} (h : Q0C.N o1 R w) : Calls Try.prog 17 #[.pointer o1] w fun e w' => ∃ v, e = .returned v ∧ R v w' := Q0C.ok o1 (Q0C.up o1 h)
def isR (L : List RRow) (x kind : Int) : Option RRow := (L.find? fun r => r.h == x).bind fun r => if r.kind = kind then some r else none
def keyR (d : List Int) (L : List RRow) : Int × List Int × List RRow := putR d L ⟨0, 2, [], [], 0, 0⟩
def pairR (d : List Int) (L : List RRow) : (Int × Int) × List Int × List RRow :=
  let p := putR d L ⟨0, 3, [], [], 0, 0⟩
  let q := putR p.2.1 p.2.2 ⟨0, 4, [], [], p.1, 0⟩
  ((p.1, q.1), q.2)
def zeroC : Value := .agg #[.int .u64 0, .int .i64 0, .slice none 0 0, .slice none 0 0, .int .u64 0, .int .u64 0]
def PR.V (x : PR) : Value := .agg #[.int .u64 x.r.h, .int .i64 x.r.kind, .slice x.aA x.r.A.length x.cA, .slice x.aB x.r.B.length x.cB, .int .u64 x.r.n, .int .u64 x.r.m]
section
variable {w w' : World} {o o' : Own} {k : Nat} {K : Nat → Prop} {d : List Int} {R : List PR} {L : List RRow}
theorem Q6Q {L : List RRow} {x : Int} {i : Nat} (h : atI L x = i) : ∃ hi : i < L.length, L[i].h = x ∧ L.find? (fun r => r.h == x) = some L[i] := by
  unfold atI at h
  cases hf : L.findIdx? (fun r => r.h == x) with
  | none => rw [hf] at h; simp at h
  | some j =>
    rw [hf] at h
    have : j = i := by simp at h; omega
    subst this
    rw [List.findIdx?_eq_some_iff_getElem] at hf
    obtain ⟨h1, h2, h3⟩ := hf
    refine ⟨h1, by simpa using h2, ?_⟩
    rw [List.find?_eq_some_iff_getElem]
    exact ⟨h2, j, h1, rfl, fun q hq => by simpa using h3 q hq⟩
theorem Q6M {L : List RRow} {x : Int} (h : atI L x < 0) : L.find? (fun r => r.h == x) = none := by
  rw [List.find?_eq_none]
  intro r hr
  have h1 : x ∉ L.map (·.h) := fun hm => by have := (atI_mem L x).2 hm; omega
  intro e
  exact h1 (List.mem_map.2 ⟨r, hr, by simpa using e⟩)
theorem is_spec (h : ROrcP w o k d R) (ht : Tags w o) (hl : R.length < 1000000) (x kind : Int) :
    Calls Try.prog 75 #[.pointer (some (blk k)), .int .u64 x, .int .i64 kind] w (fun e w' => Ext no w w' ∧ ((isR (R.map PR.r) x kind = none ∧ e = .returned (.tuple #[zeroC, .bool false])) ∨ ∃ y ∈ R, isR (R.map PR.r) x kind = some y.r ∧ e = .returned (.tuple #[y.V, .bool true]))) := by
  refine (Q0I.go _ _ _ (R := fun v w' => Ext no w w' ∧ ((isR (R.map PR.r) x kind = none ∧ v = .tuple #[zeroC, .bool false]) ∨ ∃ y ∈ R, isR (R.map PR.r) x kind = some y.r ∧ v = .tuple #[y.V, .bool true])) ?_).mono fun e w' ⟨v, he, hx, hv⟩ => ⟨hx, hv.imp (fun ⟨a, b⟩ => ⟨a, by rw [he, b]⟩) fun ⟨y, a, b, c⟩ => ⟨y, a, b, by rw [he, c]⟩⟩
  unfold Q0I.N
  intro w4 p5 X4 hp
  have hp := hp.one
  have X5 : ∀ {w1}, Ext (fun b => b = p5) w4 w1 → Ext no w w1 := fun h => X4.then h fun b hb => .inr (by omega)
  obtain ⟨da, dc, la, lc, h1, h2, h3, h4, h5⟩ := id h.at_
  have hb4 := h1.ext X4 id
  have hat : Calls Try.prog 73 #[.pointer (some (blk k)), .int .u64 x] w4 (Ret (.int .i64 (atI (R.map PR.r) x)) fun w' => w' = w4) := by
    exact at_spec (h.step (Step.of_no X4 ht) id) hl x
  refine hat.mono fun e w8 ⟨he, hw⟩ => ⟨_, he, by subst hw; exact Keep.refl _ _, fun hn => ?_, fun hn => ?_⟩ <;> subst hw
  · intro w15 X15
    refine ⟨X5 X15, .inl ⟨?_, rfl⟩⟩
    unfold isR
    rw [Q6M hn]; rfl
  · obtain ⟨i, hi⟩ : ∃ i : Nat, atI (R.map PR.r) x = i := ⟨(atI (R.map PR.r) x).toNat, by omega⟩
    obtain ⟨hil, hih, hif⟩ := Q6Q hi
    rw [List.length_map] at hil
    rw [hi]
    have hg : R[i]? = some R[i] := List.getElem?_eq_getElem hil
    rw [List.getElem_map] at hih hif
    have hrow := h4.row.no X4
    obtain ⟨ad, ha⟩ := hrow.addr (Cs_ne (by intro e; subst e; simp at hil))
    refine ⟨_, rfl, la, R.length, lc, hb4.cella (i := 1) rfl, ad, ha, by omega, by omega, R[i].r.kind, by rw [Int.toNat_natCast]; exact Q1M hrow ha hg (j := 1) rfl, fun hk => ?_, fun hk => ?_⟩
    · intro w28 X28
      refine ⟨X5 X28, .inl ⟨?_, rfl⟩⟩
      unfold isR
      rw [hif]
      show (if R[i].r.kind = kind then some R[i].r else none) = none
      rw [if_neg hk]
    · refine ⟨la, R.length, lc, hb4.cella (i := 1) rfl, ad, ha, by omega, by omega, R[i].r.h, R[i].r.kind, R[i].aA, _, R[i].cA, R[i].aB, _, R[i].cB, R[i].r.n, R[i].r.m, ?_, fun w44 X44 => ⟨X5 X44, .inr ⟨R[i], List.getElem_mem hil, ?_, rfl⟩⟩⟩
      · rw [Int.toNat_natCast]
        exact ⟨Q1M hrow ha hg (j := 0) rfl, Q1M hrow ha hg (j := 1) rfl, Q1M hrow ha hg (j := 2) rfl, Q1M hrow ha hg (j := 3) rfl, Q1M hrow ha hg (j := 4) rfl, Q1M hrow ha hg (j := 5) rfl, trivial⟩
      · unfold isR
        rw [hif]
        show (if R[i].r.kind = kind then some R[i].r else none) = _
        rw [if_pos hk]
structure ROk (w : World) (o : Own) (d : List Int) (L : List RRow) : Prop where
  tags : Tags w o
  draws : ∀ x ∈ d, 0 ≤ x ∧ x < 18446744073709551616
  short : L.length < 1000000
  bytes : ∀ r ∈ L, r.A.length < 1000000 ∧ r.B.length < 1000000
theorem Q2N {d used : List Int} (hd : ∀ x ∈ d, 0 ≤ x ∧ x < 18446744073709551616) : ∀ x ∈ (freshR d used).2, 0 ≤ x ∧ x < 18446744073709551616 := fun x hx => by
  unfold freshR at hx
  cases hp : pickD d used with
  | none => rw [hp] at hx; simp at hx
  | some q => obtain ⟨a, b⟩ := q; rw [hp] at hx; exact hd x (Q3G hp x hx)
theorem Q5q (d : List Int) (L : List RRow) (r : RRow) : (putR d L r).2.2.length = L.length + 1 := by simp [putR]
theorem Q5L (h : ROrc w o k d L) (hk : ROk w o d L) (hl : L.length + 1 < 1000000) :
    Calls Try.prog 17 #[.pointer (some (blk k))] w (Gs (fun j => j = k) w o (.tuple #[.int .u64 (pairR d L).1.1, .int .u64 (pairR d L).1.2]) fun w' o' => ROrc w' o' k (pairR d L).2.1 (pairR d L).2.2) := by
  refine (Q0C.go _ (R := fun v w' => ∃ o', v = .tuple #[.int .u64 (pairR d L).1.1, .int .u64 (pairR d L).1.2] ∧ Step (fun j => j = k) w o w' o' ∧ ROrc w' o' k (pairR d L).2.1 (pairR d L).2.2) ?_).mono fun e w' ⟨v, he, o', hv, hw⟩ => ⟨o', by rw [he, hv], hw⟩
  unfold Q0C.N
  have z : ∀ (w : World) (o : Own) (kd n : Int), PR.ok w o ⟨⟨0, kd, [], [], n, 0⟩, none, 0, none, 0⟩ := fun w o kd n => ⟨Row.nil _ _ _, Row.nil _ _ _, Nat.le_refl _, Nat.le_refl _⟩
  refine (Q2z h hk.tags hk.draws hk.short ⟨⟨0, 3, [], [], 0, 0⟩, none, 0, none, 0⟩ (z _ _ _ _)).mono fun e w4 ⟨o4, he, s4, h4⟩ => ⟨_, he, ?_⟩
  refine (Q2z h4 s4.ok (Q2N hk.draws) (by rw [Q5q]; exact hl) ⟨⟨0, 4, [], [], (putR d L ⟨0, 3, [], [], 0, 0⟩).1, 0⟩, none, 0, none, 0⟩ (z _ _ _ _)).mono fun e w7 ⟨o7, he, s7, h7⟩ => ⟨_, he, o7, rfl, s4.trans s7, h7⟩
theorem Q6d (h : ROrc w o k d L) (hk : ROk w o d L) :
    Calls Try.prog 44 #[.pointer (some (blk k))] w (Gs (fun j => j = k) w o (.int .u64 (keyR d L).1) fun w' o' => ROrc w' o' k (keyR d L).2.1 (keyR d L).2.2) := by
  refine (Q0E.go _ (R := fun v w' => ∃ o', v = .int .u64 (keyR d L).1 ∧ Step (fun j => j = k) w o w' o' ∧ ROrc w' o' k (keyR d L).2.1 (keyR d L).2.2) ?_).mono fun e w' ⟨v, he, o', hv, hw⟩ => ⟨o', by rw [he, hv], hw⟩
  unfold Q0E.N
  refine (Q2z h hk.tags hk.draws hk.short ⟨⟨0, 2, [], [], 0, 0⟩, none, 0, none, 0⟩ ⟨Row.nil _ _ _, Row.nil _ _ _, Nat.le_refl _, Nat.le_refl _⟩).mono fun e w4 ⟨o4, he, s4, h4⟩ => ⟨_, he, o4, rfl, s4, h4⟩
end
structure OInv (S : OS) : Prop where
  ok : S.ok
  rng : ∀ x ∈ S.used, 0 < x ∧ (x < 18446744073709551616 ∨ x ≤ 2 * S.used.length)
  hu : ∀ b h, alook S.hashes b = some h → h ∈ S.used
  hi : ∀ b c h, alook S.hashes b = some h → alook S.hashes c = some h → b = c
  sg : ∀ q x, alook S.signs q = some x → alook S.signed x = some q
  gs : ∀ x q, alook S.signed x = some q → alook S.signs q = some x
  su : ∀ x q, alook S.signed x = some q → x ∈ S.used
  pu : ∀ p s, alook S.publics p = some s → p ∈ S.used
  ps : ∀ p s, alook S.publics p = some s → s ∈ S.secrets
  eu : ∀ s ∈ S.secrets, s ∈ S.used
theorem OInv.fit {S : OS} (h : OInv S) (hl : S.used.length < 1000000000) {x : Int} (hx : x ∈ S.used) : 0 ≤ x ∧ x < 18446744073709551616 := by
  have := h.rng x hx
  omega
theorem Q32 {S : OS} (h : S.ok) : 0 < (freshOf S).1 ∧ ((freshOf S).1 < 18446744073709551616 ∨ (freshOf S).1 ≤ 2 * ((S.used.length : Int) + 1)) := by
  obtain ⟨h1, h2, h3, h4⟩ := h
  unfold freshOf
  cases hp : pickD S.draws S.used with
  | some q =>
    obtain ⟨x, r⟩ := q
    obtain ⟨a, b, c⟩ := Q2l hp
    have := h4 x c
    exact ⟨by show 0 < x; omega, .inl this.2⟩
  | none =>
    obtain ⟨a, b, c, d, e⟩ := Q1q S.used (S.used.length + 1) S.next h1 (gap S.used _ _ (by omega))
    exact ⟨by show 0 < pickN _ _ _; omega, .inr (by show pickN _ _ _ ≤ _; omega)⟩
structure OS.le (S S' : OS) : Prop where
  hashes : ∀ b h, alook S.hashes b = some h → alook S'.hashes b = some h
  signs : ∀ q x, alook S.signs q = some x → alook S'.signs q = some x
  signed : ∀ x q, alook S.signed x = some q → alook S'.signed x = some q
  publics : ∀ p s, alook S.publics p = some s → alook S'.publics p = some s
  secrets : ∀ s ∈ S.secrets, s ∈ S'.secrets
  used : ∀ x ∈ S.used, x ∈ S'.used
theorem OInv.init {l : List Int} (hl : ∀ d ∈ l, 0 ≤ d ∧ d < 18446744073709551616) : OInv (OS.init l) :=
  ⟨OS.init_ok l hl, fun x h => by simp [OS.init] at h, fun b h e => by simp [OS.init, alook] at e, fun b c h e => by simp [OS.init, alook] at e, fun q x e => by simp [OS.init, alook] at e, fun x q e => by simp [OS.init, alook] at e,
    fun x q e => by simp [OS.init, alook] at e, fun p s e => by simp [OS.init, alook] at e, fun p s e => by simp [OS.init, alook] at e, fun s h => by simp [OS.init] at h⟩
theorem Q1H {S : OS} (h : OInv S) : OInv (freshOf S).2 ∧ OS.le S (freshOf S).2 ∧ (freshOf S).1 ∉ S.used ∧ (freshOf S).1 ∈ (freshOf S).2.used ∧ (freshOf S).1 ≠ 0 := by
  obtain ⟨a1, a2, a3, a4⟩ := Q1h h.ok
  obtain ⟨c1, c2, c3, c4, c5, c6, c7, c8⟩ := Q0R S
  have hsub : ∀ x ∈ S.used, x ∈ (freshOf S).2.used := fun x hx => by rw [a3]; simp [hx]
  refine ⟨⟨a4, fun x hx => ?_, fun b k e => hsub _ (h.hu b k (by rw [← c1]; exact e)), fun b c k e1 e2 => h.hi b c k (by rw [← c1]; exact e1) (by rw [← c1]; exact e2), fun q x e => ?_, fun x q e => ?_, fun x q e => ?_, fun p s e => ?_, fun p s e => ?_, fun s hs => ?_⟩,
    ⟨fun b k e => by rw [c1]; exact e, fun q x e => by rw [c5]; exact e, fun x q e => by rw [c6]; exact e, fun p s e => by rw [c4]; exact e, fun s hs => by rw [c3]; exact hs, hsub⟩, a2, by rw [a3]; simp, a1⟩
  · have hl : (freshOf S).2.used.length = S.used.length + 1 := by rw [a3]; simp
    rw [hl]
    rw [a3] at hx
    rcases List.mem_append.1 hx with hx | hx
    · have := h.rng x hx; omega
    · simp at hx; rw [hx]; have := Q32 h.ok; omega
  · rw [c5] at e; rw [c6]; exact h.sg q x e
  · rw [c6] at e; rw [c5]; exact h.gs x q e
  · rw [c6] at e; exact hsub _ (h.su x q e)
  · rw [c4] at e; exact hsub _ (h.pu p s e)
  · rw [c4] at e; rw [c3]; exact h.ps p s e
  · rw [c3] at hs; exact hsub _ (h.eu s hs)
theorem Q1I {l : List Int} {x y : Int} : y ∈ badd l x ↔ y ∈ l ∨ y = x := by
  unfold badd
  split
  · constructor
    · exact .inl
    · rintro (h | rfl)
      · exact h
      · assumption
  · simp
theorem Q2k {S : OS} (h : OInv S) : OInv (pairOf S).2 ∧ OS.le S (pairOf S).2 ∧ alook (pairOf S).2.publics (pairOf S).1.2 = some (pairOf S).1.1 ∧ (pairOf S).1.1 ∈ (pairOf S).2.secrets ∧ (pairOf S).1.2 ∉ (pairOf S).2.secrets ∧ (pairOf S).1.1 ∉ S.secrets ∧
    (pairOf S).2.hashes = S.hashes ∧ (pairOf S).2.signs = S.signs ∧ (pairOf S).2.signed = S.signed := by
  obtain ⟨a1, a2, a3, a4, a5, a6, a7, a8, a9, a10, a11, a12, a13, a14⟩ := Q51 h.ok
  obtain ⟨k1, _⟩ := Q2A h.ok
  have hsub : ∀ x ∈ S.used, x ∈ (pairOf S).2.used := fun x hx => by rw [a6]; simp [hx]
  have hl : ∀ c k, alook (pairOf S).2.publics c = some k → ((pairOf S).1.2 = c ∧ k = (pairOf S).1.1) ∨ alook S.publics c = some k := fun c k e => by
    rw [a8, Q1m] at e
    split at e
    · rename_i hbc; cases e; exact .inl ⟨hbc, rfl⟩
    · exact .inr e
  have hall : ∀ x ∈ (pairOf S).2.used, 0 < x ∧ (x < 18446744073709551616 ∨ x ≤ 2 * ((pairOf S).2.used.length : Int)) := fun x hx => by
    have h5 : OS.ok { (freshOf S).2 with secrets := badd S.secrets (freshOf S).1 } := (Q1h h.ok).2.2.2
    have r1 := Q32 h.ok
    have r2 : 0 < (pairOf S).1.2 ∧ ((pairOf S).1.2 < 18446744073709551616 ∨ (pairOf S).1.2 ≤ 2 * (((freshOf S).2.used.length : Int) + 1)) := Q32 h5
    have r3 : (freshOf S).2.used.length = S.used.length + 1 := by rw [(Q1h h.ok).2.2.1]; simp
    have r4 : (pairOf S).2.used.length = S.used.length + 2 := by rw [a6]; simp
    rw [r4]
    rw [a6] at hx
    rcases List.mem_append.1 hx with hx | hx
    · rcases List.mem_append.1 hx with hx | hx
      · have := h.rng x hx; omega
      · simp at hx; rw [hx]; show 0 < (freshOf S).1 ∧ ((freshOf S).1 < _ ∨ (freshOf S).1 ≤ _); omega
    · simp at hx; rw [hx]; omega
  refine ⟨⟨k1, hall, fun b k e => hsub _ (h.hu b k (by rw [← a9]; exact e)), fun b c k e1 e2 => h.hi b c k (by rw [← a9]; exact e1) (by rw [← a9]; exact e2), fun q x e => by rw [a11] at e; rw [a12]; exact h.sg q x e, fun x q e => by rw [a12] at e; rw [a11]; exact h.gs x q e,
    fun x q e => by rw [a12] at e; exact hsub _ (h.su x q e), fun p s e => ?_, fun p s e => ?_, fun s hs => ?_⟩, ⟨fun b k e => by rw [a9]; exact e, fun q x e => by rw [a11]; exact e, fun x q e => by rw [a12]; exact e, fun p s e => ?_, fun s hs => by rw [a7, Q1I]; exact .inl hs, hsub⟩, ?_, by rw [a7, Q1I]; exact .inr rfl, fun hs => ?_, fun hs => a3 (h.eu _ hs), a9, a11, a12⟩
  · rcases hl p s e with ⟨rfl, _⟩ | e
    · rw [a6]; simp
    · exact hsub _ (h.pu p s e)
  · rw [a7, Q1I]
    rcases hl p s e with ⟨_, rfl⟩ | e
    · exact .inr rfl
    · exact .inl (h.ps p s e)
  · rw [a7, Q1I] at hs
    rcases hs with hs | rfl
    · exact hsub _ (h.eu s hs)
    · rw [a6]; simp
  · rw [a8, Q1m, if_neg (fun e' => a4 (by rw [e']; exact h.pu p s e))]; exact e
  · rw [a8, Q1m, if_pos rfl]
  · rw [a7, Q1I] at hs
    rcases hs with hs | hs
    · exact a4 (h.eu _ hs)
    · exact a5 hs.symm
theorem ex_add {L : List RRow} {r0 : RRow} {f : RRow → Prop} : (∃ r ∈ L ++ [r0], f r) ↔ (∃ r ∈ L, f r) ∨ f r0 := by
  constructor
  · rintro ⟨r, hr, h⟩
    rcases List.mem_append.1 hr with hr | hr
    · exact .inl ⟨r, hr, h⟩
    · simp at hr; subst hr; exact .inr h
  · rintro (⟨r, hr, h⟩ | h)
    · exact ⟨r, List.mem_append_left _ hr, h⟩
    · exact ⟨r0, by simp, h⟩
theorem ex_no {L : List RRow} {r0 : RRow} {f : RRow → Prop} (h : ¬ f r0) : (∃ r ∈ L ++ [r0], f r) ↔ ∃ r ∈ L, f r := by
  rw [ex_add]; exact ⟨fun h' => h'.resolve_right h, .inl⟩
theorem Q3b {κ β : Type} [DecidableEq κ] {T : List (κ × β)} {k c : κ} {v y : β} (h : alook T k = none) : alook (aput T k v) c = some y ↔ alook T c = some y ∨ (k = c ∧ v = y) := by
  rw [Q1m]
  by_cases hc : k = c
  · subst hc; rw [if_pos rfl, h]; simp
  · rw [if_neg hc]; simp [hc]
structure Sim (S : OS) (d : List Int) (L : List RRow) : Prop where
  ok : S.ok
  dr : S.draws = d
  us : S.used = L.map RRow.h
  nd : (L.map RRow.h).Nodup
  nz : ∀ r ∈ L, r.h ≠ 0
  hs : ∀ b x, alook S.hashes b = some x ↔ ∃ r ∈ L, r.kind = 1 ∧ r.A = b ∧ r.h = x
  ky : ∀ k, k ∈ S.keys ↔ ∃ r ∈ L, r.kind = 2 ∧ r.h = k
  sc : ∀ s, s ∈ S.secrets ↔ ∃ r ∈ L, r.kind = 3 ∧ r.h = s
  pb : ∀ p s, alook S.publics p = some s ↔ ∃ r ∈ L, r.kind = 4 ∧ r.h = p ∧ r.n = s
  sg : ∀ q x, alook S.signs q = some x ↔ ∃ r ∈ L, r.kind = 5 ∧ (r.n, r.A) = q ∧ r.h = x
  sd : ∀ x q, alook S.signed x = some q ↔ ∃ r ∈ L, r.kind = 5 ∧ (r.n, r.A) = q ∧ r.h = x
  se : ∀ x q, alook S.sealed x = some q ↔ ∃ r ∈ L, r.kind = 6 ∧ r.h = x ∧ q = ⟨r.n, r.A, r.B⟩
  wr : ∀ x q, alook S.wrapped x = some q ↔ ∃ r ∈ L, r.kind = 7 ∧ r.h = x ∧ (r.n, r.m) = q
theorem Sim.init {l : List Int} (hl : ∀ d ∈ l, 0 ≤ d ∧ d < 18446744073709551616) : Sim (OS.init l) l [] := by
  refine ⟨OS.init_ok l hl, rfl, rfl, by simp, by simp, ?_, ?_, ?_, ?_, ?_, ?_, ?_, ?_⟩ <;> simp [OS.init, alook]
section
variable {S : OS} {d : List Int} {L : List RRow}
theorem Sim.mem_used (h : Sim S d L) {r : RRow} (hr : r ∈ L) : r.h ∈ S.used := by rw [h.us]; exact List.mem_map_of_mem hr
theorem uniq : ∀ {L : List RRow}, (L.map RRow.h).Nodup → ∀ {r s : RRow}, r ∈ L → s ∈ L → r.h = s.h → r = s
  | [], _, r, s, hr, _, _ => by cases hr
  | a :: l, hn, r, s, hr, hs, he => by
    simp only [List.map_cons, List.nodup_cons] at hn
    rcases List.mem_cons.1 hr with rfl | hr' <;> rcases List.mem_cons.1 hs with rfl | hs'
    · rfl
    · exact (hn.1 (List.mem_map.2 ⟨s, hs', he.symm⟩)).elim
    · exact (hn.1 (List.mem_map.2 ⟨r, hr', he⟩)).elim
    · exact uniq hn.2 hr' hs' he
theorem Q2f (hn : (L.map RRow.h).Nodup) {x k : Int} {r : RRow} : isR L x k = some r ↔ r ∈ L ∧ r.h = x ∧ r.kind = k := by
  unfold isR
  constructor
  · intro h
    rw [Option.bind_eq_some_iff] at h
    obtain ⟨a, h1, h2⟩ := h
    have m := List.mem_of_find?_eq_some h1
    have e := List.find?_some h1
    split at h2
    · rename_i hk; cases h2; exact ⟨m, by simpa using e, hk⟩
    · cases h2
  · rintro ⟨h1, h2, h3⟩
    cases hf : L.find? (fun r => r.h == x) with
    | none =>
      rw [List.find?_eq_none] at hf
      exact absurd (by simpa using h2) (hf r h1)
    | some a =>
      have m := List.mem_of_find?_eq_some hf
      have e := List.find?_some hf
      obtain rfl : a = r := uniq hn m h1 (by rw [h2]; simpa using e)
      show (if a.kind = k then some a else none) = some a
      rw [if_pos h3]
theorem Q5g (hn : (L.map RRow.h).Nodup) {x k : Int} : isR L x k = none ↔ ¬ ∃ r ∈ L, r.kind = k ∧ r.h = x := by
  constructor
  · rintro h ⟨r, h1, h2, h3⟩
    rw [(Q2f hn).2 ⟨h1, h3, h2⟩] at h; cases h
  · intro h
    cases hi : isR L x k with
    | none => rfl
    | some r => obtain ⟨a, b, c⟩ := (Q2f hn).1 hi; exact absurd ⟨r, a, c, b⟩ h
theorem Sim.fresh (h : Sim S d L) (r : RRow) : (putR d L r).1 = (freshOf S).1 ∧ (putR d L r).2.1 = (freshOf S).2.draws := by
  obtain ⟨h1, h2, h3, h4⟩ := h.ok
  unfold putR freshOf freshR
  rw [← h.us, ← h.dr]
  cases hp : pickD S.draws S.used with
  | some q => exact ⟨rfl, rfl⟩
  | none =>
    refine ⟨?_, rfl⟩
    obtain ⟨a1, a2, a3, a4, a5⟩ := Q1q S.used (S.used.length + 1) S.next h1 (gap S.used _ _ (by omega))
    obtain ⟨b1, b2, b3, b4, b5⟩ := Q1q S.used (S.used.length + 1) 1 (Int.le_refl _) (gap S.used _ _ (by omega))
    show pickN S.used (S.used.length + 1) 1 = pickN S.used (S.used.length + 1) S.next
    generalize pickN S.used (S.used.length + 1) 1 = x at *
    generalize pickN S.used (S.used.length + 1) S.next = y at *
    rcases Int.lt_trichotomy x y with c | c | c
    · exfalso
      by_cases hx : x < S.next
      · exact b3 (h2 x b1 hx)
      · exact b3 (a5 x (by omega) c)
    · exact c
    · exact absurd (b5 y (by omega) c) a3
theorem Sim.put (h : Sim S d L) (r : RRow) : (freshOf S).2.ok ∧ (freshOf S).2.draws = (putR d L r).2.1 ∧ (freshOf S).2.used = (putR d L r).2.2.map RRow.h ∧ ((putR d L r).2.2.map RRow.h).Nodup ∧ (∀ z ∈ (putR d L r).2.2, z.h ≠ 0) ∧
    (putR d L r).2.2 = L ++ [{ r with h := (freshOf S).1 }] ∧ (∀ z ∈ L, z.h ≠ (freshOf S).1) := by
  obtain ⟨a1, a2, a3, a4⟩ := Q1h h.ok
  obtain ⟨b1, b2⟩ := h.fresh r
  have e : (putR d L r).2.2 = L ++ [{ r with h := (freshOf S).1 }] := by rw [← b1]; rfl
  have hne : ∀ z ∈ L, z.h ≠ (freshOf S).1 := fun z hz he => a2 (he ▸ h.mem_used hz)
  refine ⟨a4, b2.symm, by rw [a3, e, h.us]; simp, ?_, ?_, e, hne⟩
  · rw [e, List.map_append, List.nodup_append]
    refine ⟨h.nd, by simp, fun a ha b hb => ?_⟩
    obtain ⟨z, hz, rfl⟩ := List.mem_map.1 ha
    simp at hb; subst hb; exact hne z hz
  · rw [e]
    intro z hz
    rcases List.mem_append.1 hz with hz | hz
    · exact h.nz z hz
    · simp at hz; subst hz; exact a1
theorem Q4b {κ β : Type} [DecidableEq κ] {T : List (κ × β)} {k : κ} (h : ∀ y, ¬ alook T k = some y) : alook T k = none := by
  cases hk : alook T k with
  | none => rfl
  | some y => exact absurd hk (h y)
theorem key_sim (h : Sim S d L) : (keyR d L).1 = (keyOf S).1 ∧ Sim (keyOf S).2 (keyR d L).2.1 (keyR d L).2.2 := by
  unfold keyR keyOf
  obtain ⟨a1, a2, a3, a4, a5, a6, a7⟩ := h.put ⟨0, 2, [], [], 0, 0⟩
  obtain ⟨c1, c2, c3, c4, c5, c6, c7, c8⟩ := Q0R S
  refine ⟨(h.fresh _).1, ⟨a1, a2, a3, a4, a5, fun c x => ?_, fun k => ?_, fun s => ?_, fun p s => ?_, fun q x => ?_, fun x q => ?_, fun x q => ?_, fun x q => ?_⟩⟩ <;> simp only [a6]
  · rw [c1, h.hs, ex_no (by simp)]
  · rw [Q1I, h.ky, ex_add]; simp [eq_comm]
  · rw [c3, h.sc, ex_no (by simp)]
  · rw [c4, h.pb, ex_no (by simp)]
  · rw [c5, h.sg, ex_no (by simp)]
  · rw [c6, h.sd, ex_no (by simp)]
  · rw [c7, h.se, ex_no (by simp)]
  · rw [c8, h.wr, ex_no (by simp)]
theorem sec_sim (h : Sim S d L) : (putR d L ⟨0, 3, [], [], 0, 0⟩).1 = (freshOf S).1 ∧ Sim { (freshOf S).2 with secrets := badd S.secrets (freshOf S).1 } (putR d L ⟨0, 3, [], [], 0, 0⟩).2.1 (putR d L ⟨0, 3, [], [], 0, 0⟩).2.2 := by
  obtain ⟨a1, a2, a3, a4, a5, a6, a7⟩ := h.put ⟨0, 3, [], [], 0, 0⟩
  obtain ⟨c1, c2, c3, c4, c5, c6, c7, c8⟩ := Q0R S
  refine ⟨(h.fresh _).1, ⟨a1, a2, a3, a4, a5, fun c x => ?_, fun k => ?_, fun s => ?_, fun p s => ?_, fun q x => ?_, fun x q => ?_, fun x q => ?_, fun x q => ?_⟩⟩ <;> simp only [a6]
  · rw [c1, h.hs, ex_no (by simp)]
  · rw [c2, h.ky, ex_no (by simp)]
  · rw [Q1I, h.sc, ex_add]; simp [eq_comm]
  · rw [c4, h.pb, ex_no (by simp)]
  · rw [c5, h.sg, ex_no (by simp)]
  · rw [c6, h.sd, ex_no (by simp)]
  · rw [c7, h.se, ex_no (by simp)]
  · rw [c8, h.wr, ex_no (by simp)]
theorem Q6K (h : Sim S d L) : (pairR d L).1 = (pairOf S).1 ∧ Sim (pairOf S).2 (pairR d L).2.1 (pairR d L).2.2 := by
  obtain ⟨e1, h1⟩ := sec_sim h
  unfold pairR pairOf
  simp only []
  rw [e1]
  generalize putR d L ⟨0, 3, [], [], 0, 0⟩ = P at *
  obtain ⟨a1, a2, a3, a4, a5, a6, a7⟩ := h1.put ⟨0, 4, [], [], (freshOf S).1, 0⟩
  obtain ⟨c1, c2, c3, c4, c5, c6, c7, c8⟩ := Q0R S
  obtain ⟨d1, d2, d3, d4, d5, d6, d7, d8⟩ := Q0R { (freshOf S).2 with secrets := badd S.secrets (freshOf S).1 }
  have e2 := (h1.fresh ⟨0, 4, [], [], (freshOf S).1, 0⟩).1
  refine ⟨by rw [e2], ⟨a1, a2, a3, a4, a5, fun c x => ?_, fun k => ?_, fun s => ?_, fun p s => ?_, fun q x => ?_, fun x q => ?_, fun x q => ?_, fun x q => ?_⟩⟩ <;> simp only [a6]
  · rw [d1, h1.hs, ex_no (by simp)]
  · rw [d2, h1.ky, ex_no (by simp)]
  · rw [d3, h1.sc, ex_no (by simp)]
  · have hpb : alook S.publics p = some s ↔ _ := (by rw [congrArg (fun t => alook t p) c4.symm] : alook S.publics p = some s ↔ alook (freshOf S).2.publics p = some s).trans (h1.pb p s)
    rw [Q3b (Q4b fun y hy => ?_), hpb, ex_add]
    · simp
    · have hy := (congrArg (fun t => alook t _) c4).trans hy
      obtain ⟨r, q1, q2, q3, q4⟩ := (h1.pb _ _).1 hy
      exact a7 r q1 q3
  · rw [d5, h1.sg, ex_no (by simp)]
  · rw [d6, h1.sd, ex_no (by simp)]
  · rw [d7, h1.se, ex_no (by simp)]
  · rw [d8, h1.wr, ex_no (by simp)]
theorem pub_is (h : Sim S d L) (p : Int) : (isR L p 4).map RRow.n = alook S.publics p := by
  cases hi : isR L p 4 with
  | none =>
    cases hk : alook S.publics p with
    | none => rfl
    | some s => obtain ⟨r, a, b, c, _⟩ := (h.pb p s).1 hk; exact absurd ⟨r, a, b, c⟩ ((Q5g h.nd).1 hi)
  | some r => obtain ⟨a, b, c⟩ := (Q2f h.nd).1 hi; exact ((h.pb p r.n).2 ⟨r, a, c, b, rfl⟩).symm
end

def roomN (c : Nat) : Int := if (16 * 2 ^ c : Int) - 1 ≥ 128 then (16 * 2 ^ c : Int) - 2 else (16 * 2 ^ c : Int) - 1
def classF (n : Int) : Nat → Nat → Int
  | 0, t => -1
  | k + 1, t => if n ≤ roomN t then (t : Int) else classF n k (t + 1)
def classOf (n : Nat) : Int := classF n 7 0
def sizeN (c : Int) : Nat := if 0 ≤ c ∧ c < 7 then 16 * 2 ^ c.toNat else 0
theorem seven {P : Nat → Prop} {t : Nat} (h : t < 7) (h0 : P 0) (h1 : P 1) (h2 : P 2) (h3 : P 3) (h4 : P 4) (h5 : P 5) (h6 : P 6) : P t := by
  match t, h with
  | 0, _ => exact h0
  | 1, _ => exact h1
  | 2, _ => exact h2
  | 3, _ => exact h3
  | 4, _ => exact h4
  | 5, _ => exact h5
  | 6, _ => exact h6
theorem Q2S (n : Int) : ∀ (k t : Nat), k + t = 7 → -1 ≤ classF n k t ∧ classF n k t < 7
  | 0, t, h => ⟨Int.le_refl _, by show (-1 : Int) < 7; omega⟩
  | k + 1, t, h => by
    simp only [classF]
    split
    · omega
    · exact Q2S n k (t + 1) (by omega)
theorem Q4a (n : Nat) : -1 ≤ classOf n ∧ classOf n < 7 := Q2S _ 7 0 rfl
theorem Q1r (c : Int) : sizeN c ≤ 1024 := by
  unfold sizeN
  split
  · rename_i h
    obtain ⟨t, rfl⟩ : ∃ t : Nat, c = t := ⟨c.toNat, by omega⟩
    have ht : t < 7 := by omega
    rw [Int.toNat_natCast]
    exact seven (P := fun t => 16 * 2 ^ t ≤ 1024) ht (by decide) (by decide) (by decide) (by decide) (by decide) (by decide) (by decide)
  · omega

section
variable {w w' : World} {g : OG} {S : OS}
theorem Q4t (c : Int) : Calls Try.prog 71 #[.int .i64 c] w (Gives (.int .i64 (sizeN c)) fun w' => w' = w) := by
  refine (bsize.ok _ (R := fun v w' => v = .int .i64 (sizeN c) ∧ w' = w) ?_).mono fun e w' ⟨v, he, hv, hw⟩ => ⟨by rw [he, hv], hw⟩
  unfold bsize.M
  by_cases h1 : c < 0
  · rw [decide_eq_true h1]
    have : sizeN c = 0 := by unfold sizeN; rw [if_neg (by omega)]
    rw [this]; exact ⟨rfl, rfl⟩
  rw [decide_eq_false h1, cond_false]
  by_cases h2 : c ≥ 7
  · rw [decide_eq_true h2]
    have : sizeN c = 0 := by unfold sizeN; rw [if_neg (by omega)]
    rw [this]; exact ⟨rfl, rfl⟩
  rw [decide_eq_false h2, cond_false]
  refine ⟨by omega, ?_, rfl⟩
  obtain ⟨t, rfl⟩ : ∃ t : Nat, c = t := ⟨c.toNat, by omega⟩
  have ht : t < 7 := by omega
  clear h1 h2
  exact seven (P := fun t => Value.int IntKind.i64 (IntKind.i64.wrap (16 * 2 ^ min (Int.toNat (t : Int)) (IntKind.bits .i64))) = Value.int IntKind.i64 (sizeN (t : Int))) ht rfl rfl rfl rfl rfl rfl rfl
theorem Q2x (c : Int) : Calls Try.prog 33 #[.int .i64 c] w (Gives (.int .i64 (sizeN c)) fun w' => w' = w) := by
  refine (bSize.ok _ (R := fun v w' => v = .int .i64 (sizeN c) ∧ w' = w) ?_).mono fun e w' ⟨v, he, hv, hw⟩ => ⟨by rw [he, hv], hw⟩
  unfold bSize.M
  exact (Q4t c).mono fun e w4 ⟨he, hw⟩ => ⟨_, he, rfl, hw⟩
theorem Q4K {t : Nat} (ht : t < 7) : Calls Try.prog 34 #[.int .i64 t] w (Gives (.int .i64 (roomN t)) fun w' => w' = w) := by
  refine (broom.ok _ (R := fun v w' => v = .int .i64 (roomN t) ∧ w' = w) ?_).mono fun e w' ⟨v, he, hv, hw⟩ => ⟨by rw [he, hv], hw⟩
  unfold broom.M
  refine (Q4t t).mono fun e w4 ⟨he, hw⟩ => ⟨_, he, ?_⟩
  subst hw
  clear he
  exact seven (P := fun t => bif decide (IntKind.i64.wrap ((sizeN (t : Int) : Int) - 1) ≥ 128) then (Value.int IntKind.i64 (IntKind.i64.wrap (IntKind.i64.wrap ((sizeN (t : Int) : Int) - 1) - 1)) = Value.int IntKind.i64 (roomN t) ∧ w4 = w4) else
    (Value.int IntKind.i64 (IntKind.i64.wrap ((sizeN (t : Int) : Int) - 1)) = Value.int IntKind.i64 (roomN t) ∧ w4 = w4)) ht ⟨rfl, rfl⟩ ⟨rfl, rfl⟩ ⟨rfl, rfl⟩ ⟨rfl, rfl⟩ ⟨rfl, rfl⟩ ⟨rfl, rfl⟩ ⟨rfl, rfl⟩
theorem Q2g (n : Nat) : Calls Try.prog 13 #[.int .i64 n] w (Gives (.int .i64 (classOf n)) fun w' => w' = w) := by
  refine (bClass.ok _ (R := fun v w' => v = .int .i64 (classOf n) ∧ w' = w) ?_).mono fun e w' ⟨v, he, hv, hw⟩ => ⟨by rw [he, hv], hw⟩
  unfold bClass.M
  refine ⟨fun k vs w1 => ∃ t : Nat, vs = [.int .i64 t] ∧ k + t = 7 ∧ classF n k t = classOf n ∧ w1 = w, 7, ⟨0, rfl, rfl, rfl, rfl⟩, ?_⟩
  rintro k w1 i ⟨t, hi, hk, hc, rfl⟩
  simp only [List.cons.injEq, Value.int.injEq, true_and, and_true] at hi
  subst hi
  cases k with
  | zero =>
    obtain rfl : t = 7 := by omega
    exact ⟨by rw [← hc]; rfl, rfl⟩
  | succ k =>
    have ht : t < 7 := by omega
    rw [show decide ((t : Int) < 7) = true by simp; omega, cond_true, show decide ((n : Int) ≥ 0) = true by simp, cond_true]
    refine (Q4K ht).mono fun e w8 ⟨he, hw⟩ => ⟨_, he, ?_⟩
    subst hw
    simp only [classF] at hc
    by_cases hr : (n : Int) ≤ roomN t
    · rw [if_pos hr] at hc
      rw [decide_eq_true hr, cond_true]
      exact ⟨by rw [hc], rfl⟩
    · rw [if_neg hr] at hc
      rw [decide_eq_false hr, cond_false]
      exact ⟨k, by omega, t + 1, by rw [w64 (by omega) (by omega)]; rfl, by omega, hc, rfl⟩
theorem Q5f {h : Nat} (hh : h < 18446744073709551616) {more : Nat} (hm : more ≤ 100000) :
    Calls Try.prog 66 #[.int .u64 h, .int .i64 more] w (fun e w' => ∃ a', e = .returned (.slice a' (boxL h more).length (boxL h more).length) ∧ RowAt w' a' (bytesV (boxL h more)) ∧ Ext no w w' ∧ Fresh w w' a') := by
  refine (oBox.ok _ _ (R := fun v w' => ∃ a', v = .slice a' (boxL h more).length (boxL h more).length ∧ RowAt w' a' (bytesV (boxL h more)) ∧ Ext no w w' ∧ Fresh w w' a') ?_).mono fun e w' ⟨v, he, a', hv, hw⟩ => ⟨a', by rw [he, hv], hw⟩
  unfold oBox.M
  obtain ⟨i, hi, hz, hs, hb⟩ := info_of inf5
  have hmk := run_makeSlice (P := Try.prog) (w := w) 25 5 i _ Try.underlying25 hi hz .i64 .i64 (8 + more) (8 + more) (by omega) (Int.le_refl _) (by rw [hs]; omega) (by rw [hb]; omega) (by omega)
  have e8 : IntKind.i64.wrap ((8 : Int) + more) = 8 + more := w64 (by omega) (by omega)
  rw [e8]
  rw [hs, show ((8 : Int) + more).toNat = 8 + more by omega] at hmk
  have hcells : (madeCells (Value.int .u8 0).cells ((8 + more) * 1)) = (bytesV (boxT h more 0)).toArray := by
    apply Array.ext'
    rw [show (Value.int .u8 0).cells = #[Value.int .u8 0] from rfl, toList_madeCells_one, Nat.mul_one]
    show _ = bytesV (boxT h more 0)
    rw [show boxT h more 0 = List.replicate 8 0 ++ List.replicate more 0 from rfl, List.replicate_append_replicate, bytesV, List.map_replicate]
    rfl
  rw [hcells] at hmk
  refine ⟨_, _, _, _, hmk, ?_⟩
  have hb0 := Blk.new w 5 (bytesV (boxT h more 0))
  refine ⟨fun k vs w1 => ∃ t : Nat, vs = [.int .i64 t] ∧ k + t = 8 ∧ Blk w1 w.heap.size 5 (bytesV (boxT h more t)) ∧ Ext no w w1, 8, ⟨0, rfl, rfl, hb0, (Ext.refl _ _).alloc _⟩, ?_⟩
  rintro k w1 i ⟨t, hi, hk, hbt, hx⟩
  simp only [List.cons.injEq, Value.int.injEq, true_and, and_true] at hi
  subst hi
  cases k with
  | zero =>
    obtain rfl : t = 8 := by omega
    refine ⟨some ⟨w.heap.size, 0, none⟩, ?_, RowAt.of_blk hbt, hx, fun ad ha => ?_⟩
    · rw [Q18]
    · cases ha; exact ⟨Nat.le_refl _, hbt.lt⟩
  | succ k =>
    have ht : t < 8 := by omega
    rw [show decide ((t : Int) < 8) = true by simp; omega, cond_true]
    have e1 : IntKind.i64.wrap ((56 : Int) - IntKind.i64.wrap (8 * (t : Int))) = ((56 - 8 * t : Nat) : Int) := by
      rw [w64 (n := 8 * (t : Int)) (by omega) (by omega), w64 (n := 56 - 8 * (t : Int)) (by omega) (by omega)]; omega
    rw [e1]
    refine ⟨by omega, by omega, by omega, ?_, ?_⟩
    · rw [show ((⟨w.heap.size, 0, none⟩ : Addr).add (Int.toNat (t : Int) * 1)).add 0 = (blk w.heap.size).add t by rw [add_zero, Int.toNat_natCast, Nat.mul_one]]
      exact hbt.cana (v := ((bytesV (boxT h more t))[t]?).getD .nilIface) (by
        rw [List.getElem?_eq_getElem (by rw [Q1o, Q3u]; omega)]; rfl)
    · refine Q01 fun w10 h10 => ⟨k, by omega, t + 1, ?_, by omega, ?_, ?_⟩
      · rw [w64 (by omega) (by omega)]; rfl
      · have hset := hbt.seta t (.int .u8 (IntKind.u8.wrap (Int.fdiv (h : Int) (2 ^ (min (Int.toNat ((56 - 8 * t : Nat) : Int)) (IntKind.bits .u64))))))
        rw [show ((⟨w.heap.size, 0, none⟩ : Addr).add (Int.toNat (t : Int) * 1)).add 0 = (blk w.heap.size).add t by rw [add_zero, Int.toNat_natCast, Nat.mul_one]] at h10
        rw [← h10] at hset
        have hv : IntKind.u8.wrap (Int.fdiv (h : Int) (2 ^ (min (Int.toNat ((56 - 8 * t : Nat) : Int)) (IntKind.bits .u64)))) = ((byteAt h t).toNat : Int) := by
          rw [Q1z, IntKind.wrap_u8, Int.toNat_natCast, show min (56 - 8 * t) (IntKind.bits .u64) = 56 - 8 * t by rw [show IntKind.bits .u64 = 64 from rfl]; omega,
            Int.fdiv_eq_ediv_of_nonneg _ (Int.le_of_lt (Int.pow_pos (by decide))), Int.natCast_emod, Int.natCast_ediv, Int.natCast_pow]
          rfl
        rw [hv] at hset
        have hl : (bytesV (boxT h more t)).set t (.int .u8 ((byteAt h t).toNat : Int)) = bytesV (boxT h more (t + 1)) := by
          clear hset hv h10 e1 hbt hk hmk hcells
          match t, ht with
          | 0, _ => rfl
          | 1, _ => rfl
          | 2, _ => rfl
          | 3, _ => rfl
          | 4, _ => rfl
          | 5, _ => rfl
          | 6, _ => rfl
          | 7, _ => rfl
        rw [hl] at hset
        exact hset
      · rw [h10]; exact hx.setCell (.inr (by rw [Q1a, Q1a]; exact Nat.le_refl _)) _

theorem cf_spec {a : Option Addr} {c : Nat} {bs : List UInt8} (h : RowAt w a (bytesV bs)) (hl : bs.length < 1000000) :
    Calls Try.prog 90 #[.slice a bs.length c, .func (.func 91) #[] #[]] w (Gives (.bool (bs.any fun c => c != 0)) fun w' => w' = w) := by
  refine (bCF.ok _ _ _ _ _ _ (R := fun v w' => v = .bool (bs.any fun c => c != 0) ∧ w' = w) ?_).mono fun e w' ⟨v, he, hv, hw⟩ => ⟨by rw [he, hv], hw⟩
  unfold bCF.M
  refine (bIF.ok _ _ _ _ _ _ (R := fun v w' => (∃ n, v = .int .i64 n ∧ decide (n ≥ 0) = bs.any fun c => c != 0) ∧ w' = w) ?_).mono fun e w' ⟨v, he, ⟨n, hv, hn⟩, hw⟩ => ⟨n, by rw [he, hv], by rw [hn], hw⟩
  unfold bIF.M
  refine ⟨fun k vs w1 => ∃ t : Nat, vs = [.int .i64 t] ∧ k + t = bs.length ∧ (bs.take t).any (fun c => c != 0) = false ∧ w1 = w, bs.length, ⟨0, rfl, rfl, rfl, rfl⟩, ?_⟩
  rintro k w1 i ⟨t, hi, hk, hc, rfl⟩
  simp only [List.cons.injEq, Value.int.injEq, true_and, and_true] at hi
  subst hi
  cases k with
  | zero =>
    obtain rfl : t = bs.length := by omega
    rw [show decide ((bs.length : Int) < bs.length) = false by simp, cond_false]
    rw [List.take_length] at hc
    exact ⟨⟨-1, rfl, by rw [hc]; rfl⟩, rfl⟩
  | succ k =>
    have ht : t < bs.length := by omega
    rw [show decide ((t : Int) < bs.length) = true by simp; omega, cond_true]
    obtain ⟨ad, rfl⟩ := h.addr (by intro e; rw [bytesV, List.map_eq_nil_iff] at e; subst e; simp at ht)
    refine ⟨by omega, by omega, bs[t].toNat, ?_, ?_⟩
    · rw [show Int.toNat (t : Int) * 1 = t by omega]; exact h.at_ (Q1w ht)
    · rw [show enters Try.prog 91 = true by kernel_rfl, cond_true]
      refine (hNz.ok (bs[t].toNat) (R := fun v w' => v = .bool ((bs[t].toNat : Int) != 0) ∧ w' = w1) ⟨rfl, rfl⟩).mono fun e w' ⟨v, he, hv, hw⟩ => ⟨(bs[t].toNat : Int) != 0, by rw [he, hv], ?_⟩
      subst hw
      by_cases hb : bs[t] = 0
      · have hb2 : ((bs[t].toNat : Int) != 0) = false := by simp [hb]
        rw [hb2, cond_false]
        refine ⟨k, by omega, t + 1, by rw [w64 (by omega) (by omega)]; rfl, by omega, ?_, rfl⟩
        rw [List.take_add_one, List.any_append, hc]
        simp [ht, hb]
      · have hb2 : ((bs[t].toNat : Int) != 0) = true := by
          simp only [bne_iff_ne, ne_eq]
          intro e
          exact hb (UInt8.toNat_inj.1 (by show _ = 0; omega))
        rw [hb2, cond_true]
        refine ⟨⟨t, rfl, ?_⟩, rfl⟩
        rw [decide_eq_true (by omega), eq_comm, List.any_eq_true]
        exact ⟨bs[t], List.getElem_mem ht, by simpa using hb⟩

theorem Q1X {a : Option Addr} {c : Nat} {bs : List UInt8} (h : RowAt w a (bytesV bs)) (hl : bs.length < 1000000) (hle : bs.length ≤ c) :
    Calls Try.prog 69 #[.slice a bs.length c] w (Gives (.int .u64 (handL bs)) fun w' => w' = w) := by
  refine (oHandle.ok _ _ _ (R := fun v w' => v = .int .u64 (handL bs) ∧ w' = w) ?_).mono fun e w' ⟨v, he, hv, hw⟩ => ⟨by rw [he, hv], hw⟩
  unfold oHandle.M
  by_cases h8 : bs.length < 8
  · rw [show decide ((bs.length : Int) < 8) = true by simp; omega, cond_true]
    have : handL bs = 0 := by unfold handL; rw [if_pos h8]
    rw [this]; exact ⟨rfl, rfl⟩
  rw [show decide ((bs.length : Int) < 8) = false by simp; omega, cond_false]
  refine ⟨by omega, by omega, ?_⟩
  have hd := h.drop 8 c (fun e => by rw [Q1o]; omega)
  have hdl : (bs.drop 8).length = bs.length - 8 := List.length_drop
  have hcf := cf_spec (c := c - 8) (bs := bs.drop 8) (w := w) (a := if c = 8 then a else a.map (·.add 8)) (by rw [bytesV, List.map_drop]; exact hd) (by omega)
  rw [hdl] at hcf
  refine hcf.mono fun e w4 ⟨he, hw⟩ => ⟨_, he, ?_⟩
  subst hw
  by_cases hz : (bs.drop 8).any (fun c => c != 0) = true
  · rw [hz, cond_true]
    have : handL bs = 0 := by unfold handL; rw [if_neg h8, if_pos hz]
    rw [this]; exact ⟨rfl, rfl⟩
  have hz' : ((bs.drop 8).any fun c => c != 0) = false := by simpa using hz
  rw [hz', cond_false]
  have hv : handL bs = valOf (bs.take 8) := by unfold handL; rw [if_neg h8, if_neg hz]
  refine ⟨by omega, by omega, ?_⟩
  refine ⟨fun k vs w1 => ∃ t : Nat, vs = [.int .u64 (valOf (bs.take t)), .int .i64 t] ∧ k + t = 8 ∧ w1 = w4, 8, ⟨0, rfl, rfl, rfl⟩, ?_⟩
  rintro k w1 n i ⟨t, hi, hk, rfl⟩
  simp only [List.cons.injEq, Value.int.injEq, true_and, and_true] at hi
  obtain ⟨rfl, rfl⟩ := hi
  cases k with
  | zero =>
    obtain rfl : t = 8 := by omega
    exact ⟨by rw [hv], rfl⟩
  | succ k =>
    have ht : t < 8 := by omega
    refine bif_tt (by simp; omega) ?_
    obtain ⟨ad, rfl⟩ := h.addr (by intro e; rw [bytesV, List.map_eq_nil_iff] at e; subst e; simp at h8)
    rw [if_neg (by omega : ¬ c = 0)]
    have htl : t < bs.length := by omega
    refine ⟨by omega, by simp; omega, bs[t].toNat, ?_, by omega, k, by omega, t + 1, ?_, by omega, rfl⟩
    · rw [show ((ad.add (0 * 1)).add (Int.toNat (t : Int) * 1)) = ad.add t by rw [Nat.zero_mul, add_zero, Nat.mul_one, Int.toNat_natCast]]
      exact h.at_ (Q1w htl)
    · have hlt := Q30 t (bs.take t) (by simp; omega)
      have hlt2 : valOf (bs.take t) < 2 ^ 56 := by
        refine Nat.lt_of_lt_of_le hlt ?_
        exact Nat.le_trans (Nat.pow_le_pow_right (by decide) (by omega : t ≤ 7)) (by decide)
      have hx := u8_lt bs[t]
      rw [or_byte hlt2 hx, wu64 (by omega) (by omega), w64 (by omega) (by omega), List.take_add_one, show bs[t]?.toList = [bs[t]] by simp [htl], Q2b]
      simp
theorem Q3B {a b : Option Addr} {c d : Nat} {x y : List UInt8} (ha : RowAt w a (bytesV x)) (hb : RowAt w b (bytesV y)) :
    Calls Try.prog 70 #[.slice a x.length c, .slice b y.length d] w (Gives (.bool (decide (x = y))) fun w' => w' = w) := by
  refine (bEqual.ok _ _ _ _ _ _ (R := fun v w' => v = .bool (decide (x = y)) ∧ w' = w) ?_).mono fun e w' ⟨v, he, hv, hw⟩ => ⟨by rw [he, hv], hw⟩
  unfold bEqual.M
  refine ⟨_, Q4g (P := Try.prog) (c := c) Try.underlying25 Try.underlying5 Try.underlying9 ha, _, Q4g (P := Try.prog) (c := d) Try.underlying25 Try.underlying5 Try.underlying9 hb, ?_, rfl⟩
  rw [← beq_toListBytes, Q6l]
end

def sealOf (S : OS) (k : Int) (b p : List UInt8) : (List UInt8 × Int) × OS :=
  if k ∈ S.keys then
    if classOf p.length < 0 then (([], 3), S)
    else ((boxL (freshOf S).1.toNat (sizeN (classOf p.length)), 0), { (freshOf S).2 with sealed := aput S.sealed (freshOf S).1 ⟨k, b, p⟩ })
  else (([], 11), S)
def openOf (S : OS) (k : Int) (b x : List UInt8) : List UInt8 × Int :=
  match alook S.sealed (handL x) with
  | none => ([], 4)
  | some s => if x.length ≠ 8 + sizeN (classOf s.plain.length) then ([], 4) else if s.key ≠ k then ([], 11) else if s.bound ≠ b then ([], 5) else (s.plain, 0)
def wrapOf (S : OS) (p k : Int) : (List UInt8 × Int) × OS :=
  if (alook S.publics p).isSome then
    if k ∈ S.keys then ((boxL (freshOf S).1.toNat 8, 0), { (freshOf S).2 with wrapped := aput S.wrapped (freshOf S).1 (p, k) })
    else (([], 11), S)
  else (([], 20), S)
def Q12 (S : OS) (s : Int) (x : List UInt8) : Int × Int :=
  match alook S.wrapped (handL x) with
  | none => (0, 4)
  | some q => if x.length ≠ 16 then (0, 4) else if (alook S.publics q.1).getD 0 ≠ s then (0, 11) else (q.2, 0)

def Out8 (w w' : World) (bs : List UInt8) (k : Int) (e : Ending) : Prop := ∃ a c, e = .returned (.tuple #[.slice a bs.length c, .int .i64 k]) ∧ bs.length ≤ c ∧ RowAt w' a (bytesV bs) ∧ Fresh w w' a

theorem Q6s : (Try.prog.info? 134).map (fun i => (i.zero, i.size, i.bytes)) = some (some (.agg #[.int .u64 0, .slice none 0 0, .slice none 0 0]), 3, 56) := by kernel_rfl
theorem Q5D : (Try.prog.info? 144).map (fun i => (i.zero, i.size, i.bytes)) = some (some (.agg #[.int .u64 0, .int .u64 0]), 2, 16) := by kernel_rfl

theorem Q69 {S : OS} (h : S.ok) (p k : Int) : (wrapOf S p k).2.ok ∧ (wrapOf S p k).2.used.length ≤ S.used.length + 1 := by
  unfold wrapOf
  split
  · split
    · obtain ⟨_, _, h3, h4⟩ := Q1h h
      exact ⟨h4, by show (freshOf S).2.used.length ≤ _; rw [h3]; simp⟩
    · exact ⟨h, Nat.le_succ _⟩
  · exact ⟨h, Nat.le_succ _⟩

section
variable {w w' : World} {g : OG} {S : OS}
theorem Fresh.nil {w w' : World} : Fresh w w' none := fun ad ha => by cases ha

theorem Q6c (h : Orc w g S) (hok : S.ok) (hlen : S.used.length < 1000000) (k : Int) {ba pa : Option Addr} {bc pc : Nat} {b p : List UInt8} (hb : RowAt w ba (bytesV b)) (hp : RowAt w pa (bytesV p)) (hbo : bytesV b ≠ [] → Out g.m ba) (hpo : bytesV p ≠ [] → Out g.m pa)
    (hbl : b.length ≤ 1000000) (hpl : p.length ≤ 1000000) :
    Calls Try.prog 29 #[.pointer (some (blk g.p)), .int .u64 k, .slice ba b.length bc, .slice pa p.length pc] w (fun e w' => Out8 w w' (sealOf S k b p).1.1 (sealOf S k b p).1.2 e ∧ Orc w' g (sealOf S k b p).2 ∧ Ext g.m w w') := by
  refine (oSeal.ok _ _ _ _ _ _ _ _ (R := fun v w' => (∃ a c, v = .tuple #[.slice a (sealOf S k b p).1.1.length c, .int .i64 (sealOf S k b p).1.2] ∧ (sealOf S k b p).1.1.length ≤ c ∧ RowAt w' a (bytesV (sealOf S k b p).1.1) ∧ Fresh w w' a) ∧ Orc w' g (sealOf S k b p).2 ∧ Ext g.m w w') ?_).mono fun e w' ⟨v, he, ⟨a, c, hv, hv2⟩, hw⟩ => ⟨⟨a, c, by rw [he, hv], hv2⟩, hw⟩
  unfold oSeal.M
  refine (Q2g p.length).mono fun e w7 ⟨he, hw⟩ => ⟨_, he, ?_⟩
  subst hw
  rw [Option.isNone_some, cond_false]
  refine ⟨some g.keys, h.pCell fun _ _ => rfl, _, Q57 h k, ?_⟩
  by_cases hk' : ¬ k ∈ S.keys
  · have hk := hk'
    have : sealOf S k b p = (([], 11), S) := by unfold sealOf; rw [if_neg hk]
    rw [this, decide_eq_false hk]
    exact ⟨⟨none, 0, rfl, Nat.le_refl _, RowAt.nil _ _, Fresh.nil⟩, h, Ext.refl _ _⟩
  have hk := Decidable.not_not.1 hk'
  rw [decide_eq_true hk, Bool.not_true, cond_false]
  by_cases hc : classOf p.length < 0
  · have : sealOf S k b p = (([], 3), S) := by unfold sealOf; rw [if_pos hk, if_pos hc]
    rw [this, decide_eq_true hc]
    exact ⟨⟨none, 0, rfl, Nat.le_refl _, RowAt.nil _ _, Fresh.nil⟩, h, Ext.refl _ _⟩
  rw [decide_eq_false hc, cond_false]
  have hse : sealOf S k b p = ((boxL (freshOf S).1.toNat (sizeN (classOf p.length)), 0), { (freshOf S).2 with sealed := aput S.sealed (freshOf S).1 ⟨k, b, p⟩ }) := by unfold sealOf; rw [if_pos hk, if_neg hc]
  rw [hse]
  obtain ⟨f1, f2⟩ := Q3t hok hlen
  refine (Q1R h hok hlen).mono fun e w13 ⟨he, hO13, hx13⟩ => ⟨(freshOf S).1, he, Q01 fun w14 h14 => ?_⟩
  have hx14 : Ext no w13 w14 := by subst h14; exact (Ext.refl _ _).drew
  have hO14 := hO13.none hx14
  have hxa := hx13.trans hx14.none
  refine ⟨some g.sealed, hO14.pCell fun _ _ => rfl, ?_⟩
  refine (Q1G (c := bc) (hb.ext' hxa hbo) hbl).mono fun e w19 ⟨ca, cc, he, hcl, hcr, hx19, hcf⟩ => ⟨ca, b.length, cc, he, ?_⟩
  have hO19 := hO14.none hx19
  refine ⟨hO19.pCell fun _ _ => rfl, ?_⟩
  have hxb := hxa.trans hx19.none
  refine (Q1G (c := pc) (hp.ext' hxb hpo) hpl).mono fun e w22 ⟨da, dc, he, hdl, hdr, hx22, hdf⟩ => ⟨da, p.length, dc, he, ?_⟩
  have hO22 := hO19.none hx22
  refine ⟨hO22.pCell fun _ _ => rfl, ?_⟩
  have hxc := hxb.trans hx22.none
  obtain ⟨lv, hm, hsl⟩ := hO22.sealed
  obtain ⟨w23, hu, hm23, hext⟩ := hm.update keysU Try.underlying99 (freshOf S).1 (.agg #[.int .u64 k, .slice ca b.length cc, .slice da p.length dc])
  have hgc : ∀ q, g.M q → q < w14.heap.size := hO14.ltM
  have hgd : ∀ q, g.M q → q < w19.heap.size := hO19.ltM
  have hoc : Out g.M ca := hcf.out fun q hq => .inl (hgc q hq)
  have hod : Out g.M da := hdf.out fun q hq => .inl (hgd q hq)
  have xu := hext (fun q => q = g.sealed) rfl
  have hsub : ∀ q, (fun q => q = g.sealed) q → g.M q := one_sub (by simp [OG.list])
  have hoc1 : Out (fun q => q = g.sealed) ca := fun ad ha hq => hoc ad ha (hsub _ hq)
  have hod1 : Out (fun q => q = g.sealed) da := fun ad ha hq => hod ad ha (hsub _ hq)
  have hnew : SealedV w23 g.M ⟨k, b, p⟩ (.agg #[.int .u64 k, .slice ca b.length cc, .slice da p.length dc]) :=
    ⟨ca, cc, da, dc, rfl, (hcr.no hx22).ext xu hoc1, fun _ => hoc, hdr.ext xu hod1, fun _ => hod⟩
  have hsl23 := hsl.ext xu hsub
  have hO23 := hO22.set_sealed xu hm23 (SealedL.put hnew hsl23)
  rw [show (freshOf S).2.sealed = S.sealed from (Q0R S).2.2.2.2.2.2.1] at hO23
  refine ⟨w23, hu, ?_⟩
  refine (Q2x _).mono fun e w26 ⟨he, hw⟩ => ⟨_, he, ?_⟩
  subst hw
  have hsz := Q1r (classOf p.length)
  have hfn : (freshOf S).1 = (((freshOf S).1.toNat : Nat) : Int) := by omega
  have hbx := Q5f (w := w26) (h := (freshOf S).1.toNat) (by omega) (more := sizeN (classOf p.length)) (by omega)
  rw [← hfn] at hbx
  refine hbx.mono fun e w29 ⟨a', he, hr, hx29, hf⟩ => ⟨a', _, _, he, ?_⟩
  have hxd := hxc.trans (hext g.m Q6L)
  exact ⟨⟨a', _, rfl, Nat.le_refl _, hr, fun ad ha => ⟨Nat.le_trans hxd.size (hf ad ha).1, (hf ad ha).2⟩⟩, hO23.none hx29, hxd.trans hx29.none⟩

theorem Q63 (h : Orc w g S) (k : Int) {ba xa : Option Addr} {bc xc : Nat} {b x : List UInt8} (hb : RowAt w ba (bytesV b)) (hx : RowAt w xa (bytesV x)) (hxl : x.length < 1000000) (hxc : x.length ≤ xc) (hpls : ∀ s, alook S.sealed (handL x) = some s → s.plain.length ≤ 1000000) :
    Calls Try.prog 31 #[.pointer (some (blk g.p)), .int .u64 k, .slice ba b.length bc, .slice xa x.length xc] w (fun e w' => Out8 w w' (openOf S k b x).1 (openOf S k b x).2 e ∧ Ext no w w') := by
  refine (oOpen.ok _ _ _ _ _ _ _ _ (R := fun v w' => (∃ a c, v = .tuple #[.slice a (openOf S k b x).1.length c, .int .i64 (openOf S k b x).2] ∧ (openOf S k b x).1.length ≤ c ∧ RowAt w' a (bytesV (openOf S k b x).1) ∧ Fresh w w' a) ∧ Ext no w w') ?_).mono fun e w' ⟨v, he, ⟨a, c, hv, hv2⟩, hw⟩ => ⟨⟨a, c, by rw [he, hv], hv2⟩, hw⟩
  unfold oOpen.M
  rw [Option.isNone_some, cond_false]
  -- what the table says
  obtain ⟨i, hi, hz, _⟩ := info_of Q6s
  obtain ⟨v, bba, bbc, ppa, ppc, hlk, hval, hrows⟩ : ∃ (v : Option Sealed) (bba : Option Addr) (bbc : Nat) (ppa : Option Addr) (ppc : Nat), alook S.sealed (handL x) = v ∧
      (∀ w1, Ext no w w1 → (Instr.lookup 99 (.map (some g.sealed)) (.int .u64 (handL x)) true).run Try.prog w1 = .ok (.tuple #[.agg #[.int .u64 ((v.map Sealed.key).getD 0), .slice bba ((v.map fun s => s.bound.length).getD 0) bbc, .slice ppa ((v.map fun s => s.plain.length).getD 0) ppc], .bool v.isSome]) w1) ∧
      (∀ s, v = some s → RowAt w bba (bytesV s.bound) ∧ RowAt w ppa (bytesV s.plain)) := by
    obtain ⟨lv, hm, hsl⟩ := h.sealed
    rcases hsl.look (handL x) with ⟨h1, h2⟩ | ⟨s, v, h1, h2, ba1, bc1, pa1, pc1, hv, h3, h4, h5, h6⟩
    · refine ⟨none, none, 0, none, 0, h1, fun w1 e1 => ?_, fun s hs => by cases hs⟩
      have hl := (hm.ext e1 id).lookup keysU Try.underlying99 hi hz (handL x) true
      rw [h2] at hl; exact hl
    · refine ⟨some s, ba1, bc1, pa1, pc1, h1, fun w1 e1 => ?_, fun s' hs => by cases hs; exact ⟨h3, h5⟩⟩
      have hl := (hm.ext e1 id).lookup keysU Try.underlying99 hi hz (handL x) true
      rw [h2] at hl; subst hv; exact hl
  refine Q01 fun w5 h5 => ?_
  have hx5 : Ext no w w5 := by subst h5; exact (Ext.refl _ _).drew
  refine ⟨some g.sealed, (h.none hx5).pCell fun _ _ => rfl, ?_, ?_⟩
  · refine (Q1X (hx.no hx5) hxl hxc).mono fun e w10 ⟨he, hw⟩ => ⟨_, he, ?_⟩
    subst hw
    refine ⟨(h.none hx5).pCell fun _ _ => rfl, _, bba, _, bbc, ppa, _, ppc, v.isSome, hval _ hx5, Q01 fun w15 h15 => ?_⟩
    have hb0 : Blk w15 w10.heap.size 134 [.int .u64 0, .slice none 0 0, .slice none 0 0] := by subst h15; exact Blk.new _ _ _
    have hx15 : Ext no w w15 := by subst h15; exact hx5.alloc _
    refine ⟨hval _ hx15, (h.none hx15).pCell fun _ _ => rfl, hb0.cana (i := 0) rfl, Q01 fun w16 h16 => ?_⟩
    have hb1 := hb0.seta 0 (.int .u64 ((v.map Sealed.key).getD 0))
    rw [← h16] at hb1
    have hx16 : Ext no w w16 := by subst h16; exact hx15.setCell (.inr (by rw [add_zero]; exact hx5.size)) _
    refine ⟨hb1.cana (i := 1) rfl, Q01 fun w17 h17 => ?_⟩
    have hb2 := hb1.seta 1 (.slice bba ((v.map fun s => s.bound.length).getD 0) bbc)
    rw [← h17] at hb2
    have hx17 : Ext no w w17 := by subst h17; exact hx16.setCell (.inr (by rw [add_blk]; exact hx5.size)) _
    refine ⟨hb2.cana (i := 2) rfl, Q01 fun w18 h18 => ?_⟩
    have hb3 := hb2.seta 2 (.slice ppa ((v.map fun s => s.plain.length).getD 0) ppc)
    rw [← h18] at hb3
    have hx18 : Ext no w w18 := by subst h18; exact hx17.setCell (.inr (by rw [add_blk]; exact hx5.size)) _
    clear hx15 hb0 hb1 hb2 hx16 hx17 h15 h16 h17 h18
    have hx15 := hx18
    have hb15 := hb3
    clear hx18 hb3
    have hO15 := h.none hx15
    by_cases hn : v = none
    · subst hn
      rw [show openOf S k b x = ([], 4) by unfold openOf; rw [hlk]]
      exact ⟨⟨none, 0, rfl, Nat.le_refl _, RowAt.nil _ _, Fresh.nil⟩, hx15⟩
    obtain ⟨s, rfl⟩ := Option.ne_none_iff_exists'.1 hn
    obtain ⟨hrb, hrp⟩ := hrows s rfl
    rw [show (some s : Option Sealed).isSome = true from rfl, Bool.not_true, cond_false]
    refine ⟨ppa, s.plain.length, ppc, hb15.cella rfl, ?_⟩
    refine (Q2g s.plain.length).mono fun e w22 ⟨he, hw⟩ => ⟨_, he, ?_⟩
    subst hw
    refine (Q2x _).mono fun e w25 ⟨he, hw⟩ => ⟨_, he, ?_⟩
    subst hw
    have hsz := Q1r (classOf s.plain.length)
    rw [w64 (n := (8 : Int) + (sizeN (classOf s.plain.length) : Int)) (by omega) (by omega)]
    by_cases hl : x.length ≠ 8 + sizeN (classOf s.plain.length)
    · rw [show ((x.length : Int) != 8 + (sizeN (classOf s.plain.length) : Int)) = true by simp; omega]
      rw [show openOf S k b x = ([], 4) by unfold openOf; rw [hlk]; simp only []; rw [if_pos hl]]
      exact ⟨⟨none, 0, rfl, Nat.le_refl _, RowAt.nil _ _, Fresh.nil⟩, hx15⟩
    rw [show ((x.length : Int) != 8 + (sizeN (classOf s.plain.length) : Int)) = false by simp; omega, cond_false]
    refine ⟨s.key, hb15.cella rfl, ?_⟩
    by_cases hky : s.key ≠ k
    · rw [show (s.key != k) = true by simpa using hky]
      rw [show openOf S k b x = ([], 11) by unfold openOf; rw [hlk]; simp only []; rw [if_neg hl, if_pos hky]]
      exact ⟨⟨none, 0, rfl, Nat.le_refl _, RowAt.nil _ _, Fresh.nil⟩, hx15⟩
    rw [show (s.key != k) = false by simpa using hky, cond_false]
    refine ⟨bba, s.bound.length, bbc, hb15.cella rfl, ?_⟩
    refine (Q3B (hrb.no hx15) (hb.no hx15)).mono fun e w30 ⟨he, hw⟩ => ⟨_, he, ?_⟩
    subst hw
    by_cases hbd : s.bound ≠ b
    · rw [decide_eq_false hbd]
      rw [show openOf S k b x = ([], 5) by unfold openOf; rw [hlk]; simp only []; rw [if_neg hl, if_neg hky, if_pos hbd]]
      exact ⟨⟨none, 0, rfl, Nat.le_refl _, RowAt.nil _ _, Fresh.nil⟩, hx15⟩
    rw [decide_eq_true (Decidable.not_not.1 hbd), Bool.not_true, cond_false]
    rw [show openOf S k b x = (s.plain, 0) by unfold openOf; rw [hlk]; simp only []; rw [if_neg hl, if_neg hky, if_neg hbd]]
    refine ⟨ppa, s.plain.length, ppc, hb15.cella rfl, ?_⟩
    refine (Q1G (c := ppc) (hrp.no hx15) (hpls s hlk)).mono fun e w34 ⟨a', c', he, hle, hr, hx34, hf⟩ => ⟨a', _, c', he, ?_⟩
    exact ⟨⟨a', c', rfl, hle, hr, fun ad ha => ⟨Nat.le_trans hx15.size (hf ad ha).1, (hf ad ha).2⟩⟩, hx15.trans hx34⟩
  · refine Q01 fun w35 h35 => ?_
    have hb0 : Blk w35 w5.heap.size 134 [.int .u64 0, .slice none 0 0, .slice none 0 0] := by subst h35; exact Blk.new _ _ _
    have hx35 : Ext no w w35 := by subst h35; exact hx5.alloc _
    refine ⟨(h.none hx35).pCell fun _ _ => rfl, ?_⟩
    refine (Q1X (hx.no hx35) hxl hxc).mono fun e w10 ⟨he, hw⟩ => ⟨_, he, ?_⟩
    subst hw
    refine ⟨(h.none hx35).pCell fun _ _ => rfl, _, bba, _, bbc, ppa, _, ppc, v.isSome, hval _ hx35, hb0.cana (i := 0) rfl, Q01 fun w16 h16 => ?_⟩
    have hb1 := hb0.seta 0 (.int .u64 ((v.map Sealed.key).getD 0))
    rw [← h16] at hb1
    have hx16 : Ext no w w16 := by subst h16; exact hx35.setCell (.inr (by rw [add_zero]; exact hx5.size)) _
    refine ⟨hb1.cana (i := 1) rfl, Q01 fun w17 h17 => ?_⟩
    have hb2 := hb1.seta 1 (.slice bba ((v.map fun s => s.bound.length).getD 0) bbc)
    rw [← h17] at hb2
    have hx17 : Ext no w w17 := by subst h17; exact hx16.setCell (.inr (by rw [add_blk]; exact hx5.size)) _
    refine ⟨hb2.cana (i := 2) rfl, Q01 fun w18 h18 => ?_⟩
    have hb3 := hb2.seta 2 (.slice ppa ((v.map fun s => s.plain.length).getD 0) ppc)
    rw [← h18] at hb3
    have hx18 : Ext no w w18 := by subst h18; exact hx17.setCell (.inr (by rw [add_blk]; exact hx5.size)) _
    clear hb0 hb1 hb2 hx16 hx17 h35 h16 h17 h18 hx35
    have hx15 := hx18
    have hb15 := hb3
    clear hx18 hb3
    have hO15 := h.none hx15
    by_cases hn : v = none
    · subst hn
      rw [show openOf S k b x = ([], 4) by unfold openOf; rw [hlk]]
      exact ⟨⟨none, 0, rfl, Nat.le_refl _, RowAt.nil _ _, Fresh.nil⟩, hx15⟩
    obtain ⟨s, rfl⟩ := Option.ne_none_iff_exists'.1 hn
    obtain ⟨hrb, hrp⟩ := hrows s rfl
    rw [show (some s : Option Sealed).isSome = true from rfl, Bool.not_true, cond_false]
    refine ⟨ppa, s.plain.length, ppc, hb15.cella rfl, ?_⟩
    refine (Q2g s.plain.length).mono fun e w22 ⟨he, hw⟩ => ⟨_, he, ?_⟩
    subst hw
    refine (Q2x _).mono fun e w25 ⟨he, hw⟩ => ⟨_, he, ?_⟩
    subst hw
    have hsz := Q1r (classOf s.plain.length)
    rw [w64 (n := (8 : Int) + (sizeN (classOf s.plain.length) : Int)) (by omega) (by omega)]
    by_cases hl : x.length ≠ 8 + sizeN (classOf s.plain.length)
    · rw [show ((x.length : Int) != 8 + (sizeN (classOf s.plain.length) : Int)) = true by simp; omega]
      rw [show openOf S k b x = ([], 4) by unfold openOf; rw [hlk]; simp only []; rw [if_pos hl]]
      exact ⟨⟨none, 0, rfl, Nat.le_refl _, RowAt.nil _ _, Fresh.nil⟩, hx15⟩
    rw [show ((x.length : Int) != 8 + (sizeN (classOf s.plain.length) : Int)) = false by simp; omega, cond_false]
    refine ⟨s.key, hb15.cella rfl, ?_⟩
    by_cases hky : s.key ≠ k
    · rw [show (s.key != k) = true by simpa using hky]
      rw [show openOf S k b x = ([], 11) by unfold openOf; rw [hlk]; simp only []; rw [if_neg hl, if_pos hky]]
      exact ⟨⟨none, 0, rfl, Nat.le_refl _, RowAt.nil _ _, Fresh.nil⟩, hx15⟩
    rw [show (s.key != k) = false by simpa using hky, cond_false]
    refine ⟨bba, s.bound.length, bbc, hb15.cella rfl, ?_⟩
    refine (Q3B (hrb.no hx15) (hb.no hx15)).mono fun e w30 ⟨he, hw⟩ => ⟨_, he, ?_⟩
    subst hw
    by_cases hbd : s.bound ≠ b
    · rw [decide_eq_false hbd]
      rw [show openOf S k b x = ([], 5) by unfold openOf; rw [hlk]; simp only []; rw [if_neg hl, if_neg hky, if_pos hbd]]
      exact ⟨⟨none, 0, rfl, Nat.le_refl _, RowAt.nil _ _, Fresh.nil⟩, hx15⟩
    rw [decide_eq_true (Decidable.not_not.1 hbd), Bool.not_true, cond_false]
    rw [show openOf S k b x = (s.plain, 0) by unfold openOf; rw [hlk]; simp only []; rw [if_neg hl, if_neg hky, if_neg hbd]]
    refine ⟨ppa, s.plain.length, ppc, hb15.cella rfl, ?_⟩
    refine (Q1G (c := ppc) (hrp.no hx15) (hpls s hlk)).mono fun e w34 ⟨a', c', he, hle, hr, hx34, hf⟩ => ⟨a', _, c', he, ?_⟩
    exact ⟨⟨a', c', rfl, hle, hr, fun ad ha => ⟨Nat.le_trans hx15.size (hf ad ha).1, (hf ad ha).2⟩⟩, hx15.trans hx34⟩
end
section
variable {w w' : World} {g : OG} {S : OS}
theorem Q6e (h : Orc w g S) (hok : S.ok) (hlen : S.used.length < 1000000) (p k : Int) :
    Calls Try.prog 41 #[.pointer (some (blk g.p)), .int .u64 p, .int .u64 k] w (fun e w' => Out8 w w' (wrapOf S p k).1.1 (wrapOf S p k).1.2 e ∧ Orc w' g (wrapOf S p k).2 ∧ Ext g.m w w') := by
  refine (oWrap.ok _ _ _ (R := fun v w' => (∃ a c, v = .tuple #[.slice a (wrapOf S p k).1.1.length c, .int .i64 (wrapOf S p k).1.2] ∧ (wrapOf S p k).1.1.length ≤ c ∧ RowAt w' a (bytesV (wrapOf S p k).1.1) ∧ Fresh w w' a) ∧ Orc w' g (wrapOf S p k).2 ∧ Ext g.m w w') ?_).mono fun e w' ⟨v, he, ⟨a, c, hv, hv2⟩, hw⟩ => ⟨⟨a, c, by rw [he, hv], hv2⟩, hw⟩
  unfold oWrap.M
  rw [Option.isNone_some, cond_false]
  refine ⟨some g.publics, h.pCell fun _ _ => rfl, _, _, Q4X h p, ?_⟩
  by_cases hp : (alook S.publics p).isSome
  · rw [hp, Bool.not_true, cond_false]
    refine ⟨some g.keys, h.pCell fun _ _ => rfl, _, Q57 h k, ?_⟩
    by_cases hk' : ¬ k ∈ S.keys
    · have hk := hk'
      have : wrapOf S p k = (([], 11), S) := by unfold wrapOf; rw [if_pos hp, if_neg hk]
      rw [this, decide_eq_false hk]
      exact ⟨⟨none, 0, rfl, Nat.le_refl _, RowAt.nil _ _, Fresh.nil⟩, h, Ext.refl _ _⟩
    have hk := Decidable.not_not.1 hk'
    rw [decide_eq_true hk, Bool.not_true, cond_false]
    have hwr : wrapOf S p k = ((boxL (freshOf S).1.toNat 8, 0), { (freshOf S).2 with wrapped := aput S.wrapped (freshOf S).1 (p, k) }) := by unfold wrapOf; rw [if_pos hp, if_pos hk]
    rw [hwr]
    obtain ⟨f1, f2⟩ := Q3t hok hlen
    refine (Q1R h hok hlen).mono fun e w13 ⟨he, hO13, hx13⟩ => ⟨(freshOf S).1, he, ?_⟩
    obtain ⟨w16, hu, hm, hext⟩ := hO13.wrapped.update keysU Try.underlying100 (freshOf S).1 (.agg #[.int .u64 p, .int .u64 k])
    have hmm := Q45 (fun q : Int × Int => Value.agg #[.int .u64 q.1, .int .u64 q.2]) (freshOf S).2.wrapped (freshOf S).1 (p, k)
    rw [hmm, (Q0R S).2.2.2.2.2.2.2] at hm
    have hO16 := hO13.set_wrapped (hext _ rfl) hm
    refine ⟨some g.wrapped, hO13.pCell fun _ _ => rfl, w16, hu, ?_⟩
    have hfn : (freshOf S).1 = (((freshOf S).1.toNat : Nat) : Int) := by omega
    have hbx := Q5f (w := w16) (h := (freshOf S).1.toNat) (by omega) (more := 8) (by omega)
    rw [← hfn] at hbx
    refine hbx.mono fun e w29 ⟨a', he, hr, hx29, hf⟩ => ⟨a', _, _, he, ?_⟩
    have hxd := hx13.trans (hext g.m Q68)
    exact ⟨⟨a', _, rfl, Nat.le_refl _, hr, fun ad ha => ⟨Nat.le_trans hxd.size (hf ad ha).1, (hf ad ha).2⟩⟩, hO16.none hx29, hxd.trans hx29.none⟩
  · have : wrapOf S p k = (([], 20), S) := by unfold wrapOf; rw [if_neg hp]
    rw [this, show (alook S.publics p).isSome = false by simpa using hp]
    exact ⟨⟨none, 0, rfl, Nat.le_refl _, RowAt.nil _ _, Fresh.nil⟩, h, Ext.refl _ _⟩

theorem Q2O (h : Orc w g S) (k : Int) : (Instr.lookup 96 (.map (some g.publics)) (.int .u64 k) false).run Try.prog w = .ok (.int .u64 ((alook S.publics k).getD 0)) w := by
  obtain ⟨i, hi, hz, _⟩ := info_of inf36
  have hl := h.publics.lookup keysU Try.underlying96 hi hz k false
  rw [Q2D] at hl
  refine hl.trans ?_
  cases alook S.publics k <;> rfl

theorem Q4Y (h : Orc w g S) (k : Int) {xa : Option Addr} {xc : Nat} {x : List UInt8} (hx : RowAt w xa (bytesV x)) (hxl : x.length < 1000000) (hxc : x.length ≤ xc) :
    Calls Try.prog 59 #[.pointer (some (blk g.p)), .int .u64 k, .slice xa x.length xc] w (Gives (.tuple #[.int .u64 (Q12 S k x).1, .int .i64 (Q12 S k x).2]) fun w' => Ext no w w') := by
  refine (oUnwrap.ok _ _ _ _ _ (R := fun v w' => v = .tuple #[.int .u64 (Q12 S k x).1, .int .i64 (Q12 S k x).2] ∧ Ext no w w') ?_).mono fun e w' ⟨v, he, hv, hw⟩ => ⟨by rw [he, hv], hw⟩
  unfold oUnwrap.M
  rw [Option.isNone_some, cond_false]
  obtain ⟨i, hi, hz, _⟩ := info_of Q5D
  have hval : ∀ w1, Ext no w w1 → (Instr.lookup 100 (.map (some g.wrapped)) (.int .u64 (handL x)) true).run Try.prog w1 = .ok (.tuple #[.agg #[.int .u64 ((alook S.wrapped (handL x)).getD (0, 0)).1, .int .u64 ((alook S.wrapped (handL x)).getD (0, 0)).2], .bool (alook S.wrapped (handL x)).isSome]) w1 := fun w1 e1 => by
    have hl := (h.none e1).wrapped.lookup keysU Try.underlying100 hi hz (handL x) true
    rw [Q2D (fun q : Int × Int => Value.agg #[.int .u64 q.1, .int .u64 q.2])] at hl
    refine hl.trans ?_
    cases alook S.wrapped (handL x) <;> rfl
  refine Q01 fun w5 h5 => ?_
  have hx5 : Ext no w w5 := by subst h5; exact (Ext.refl _ _).drew
  refine ⟨some g.wrapped, (h.none hx5).pCell fun _ _ => rfl, ?_, ?_⟩
  · refine (Q1X (hx.no hx5) hxl hxc).mono fun e w10 ⟨he, hw⟩ => ⟨_, he, ?_⟩
    subst hw
    refine ⟨(h.none hx5).pCell fun _ _ => rfl, _, _, _, hval _ hx5, Q01 fun w15 h15 => ?_⟩
    have hb0 : Blk w15 w10.heap.size 144 [.int .u64 0, .int .u64 0] := by subst h15; exact Blk.new _ _ _
    have hx15 : Ext no w w15 := by subst h15; exact hx5.alloc _
    refine ⟨hval _ hx15, (h.none hx15).pCell fun _ _ => rfl, hb0.cana (i := 0) rfl, Q01 fun w16 h16 => ?_⟩
    have hb1 := hb0.seta 0 (.int .u64 ((alook S.wrapped (handL x)).getD (0, 0)).1)
    rw [← h16] at hb1
    have hx16 : Ext no w w16 := by subst h16; exact hx15.setCell (.inr (by rw [add_zero]; exact hx5.size)) _
    refine ⟨hb1.cana (i := 1) rfl, Q01 fun w17 h17 => ?_⟩
    have hb2 := hb1.seta 1 (.int .u64 ((alook S.wrapped (handL x)).getD (0, 0)).2)
    rw [← h17] at hb2
    have hx17 : Ext no w w17 := by subst h17; exact hx16.setCell (.inr (by rw [add_blk]; exact hx5.size)) _
    clear hx15 hb0 hb1 hx16 h15 h16 h17
    have hx15 := hx17
    have hb15 := hb2
    clear hx17 hb2
    have hO15 := h.none hx15
    cases hlk : alook S.wrapped (handL x) with
    | none =>
      rw [hlk] at hb15
      rw [show Q12 S k x = (0, 4) by unfold Q12; rw [hlk]]
      exact ⟨rfl, hx15⟩
    | some q =>
      rw [hlk] at hb15
      rw [show (some q : Option (Int × Int)).isSome = true from rfl, Bool.not_true, cond_false]
      by_cases hl : x.length ≠ 16
      · rw [show ((x.length : Int) != 16) = true by simp; omega]
        rw [show Q12 S k x = (0, 4) by unfold Q12; rw [hlk]; simp only []; rw [if_pos hl]]
        exact ⟨rfl, hx15⟩
      rw [show ((x.length : Int) != 16) = false by simp; omega, cond_false]
      refine Q01 fun w20 h20 => ?_
      have hx20 : Ext no w w20 := by subst h20; exact hx15.drew
      have hb20 := hb15.drew
      rw [← h20] at hb20
      refine ⟨some g.publics, (h.none hx20).pCell fun _ _ => rfl, _, hb20.cella (i := 0) rfl, _, Q2O (h.none hx20) _, ?_⟩
      rw [show ((some q : Option (Int × Int)).getD (0, 0)) = q from rfl]
      by_cases hs : (alook S.publics q.1).getD 0 ≠ k
      · rw [show ((alook S.publics q.1).getD 0 != k) = true by simpa using hs]
        rw [show Q12 S k x = (0, 11) by unfold Q12; rw [hlk]; simp only []; rw [if_neg hl, if_pos hs]]
        exact ⟨rfl, hx20⟩
      rw [show ((alook S.publics q.1).getD 0 != k) = false by simpa using hs, cond_false]
      rw [show Q12 S k x = (q.2, 0) by unfold Q12; rw [hlk]; simp only []; rw [if_neg hl, if_neg hs]]
      exact ⟨q.2, hb20.cella (i := 1) rfl, rfl, hx20⟩
  · refine Q01 fun w35 h35 => ?_
    have hb0 : Blk w35 w5.heap.size 144 [.int .u64 0, .int .u64 0] := by subst h35; exact Blk.new _ _ _
    have hx35 : Ext no w w35 := by subst h35; exact hx5.alloc _
    refine ⟨(h.none hx35).pCell fun _ _ => rfl, ?_⟩
    refine (Q1X (hx.no hx35) hxl hxc).mono fun e w10 ⟨he, hw⟩ => ⟨_, he, ?_⟩
    subst hw
    refine ⟨(h.none hx35).pCell fun _ _ => rfl, _, _, _, hval _ hx35, hb0.cana (i := 0) rfl, Q01 fun w16 h16 => ?_⟩
    have hb1 := hb0.seta 0 (.int .u64 ((alook S.wrapped (handL x)).getD (0, 0)).1)
    rw [← h16] at hb1
    have hx16 : Ext no w w16 := by subst h16; exact hx35.setCell (.inr (by rw [add_zero]; exact hx5.size)) _
    refine ⟨hb1.cana (i := 1) rfl, Q01 fun w17 h17 => ?_⟩
    have hb2 := hb1.seta 1 (.int .u64 ((alook S.wrapped (handL x)).getD (0, 0)).2)
    rw [← h17] at hb2
    have hx17 : Ext no w w17 := by subst h17; exact hx16.setCell (.inr (by rw [add_blk]; exact hx5.size)) _
    clear hb0 hb1 hx16 h35 h16 h17 hx35
    have hx15 := hx17
    have hb15 := hb2
    clear hx17 hb2
    have hO15 := h.none hx15
    cases hlk : alook S.wrapped (handL x) with
    | none =>
      rw [hlk] at hb15
      rw [show Q12 S k x = (0, 4) by unfold Q12; rw [hlk]]
      exact ⟨rfl, hx15⟩
    | some q =>
      rw [hlk] at hb15
      rw [show (some q : Option (Int × Int)).isSome = true from rfl, Bool.not_true, cond_false]
      by_cases hl : x.length ≠ 16
      · rw [show ((x.length : Int) != 16) = true by simp; omega]
        rw [show Q12 S k x = (0, 4) by unfold Q12; rw [hlk]; simp only []; rw [if_pos hl]]
        exact ⟨rfl, hx15⟩
      rw [show ((x.length : Int) != 16) = false by simp; omega, cond_false]
      refine Q01 fun w20 h20 => ?_
      have hx20 : Ext no w w20 := by subst h20; exact hx15.drew
      have hb20 := hb15.drew
      rw [← h20] at hb20
      refine ⟨some g.publics, (h.none hx20).pCell fun _ _ => rfl, _, hb20.cella (i := 0) rfl, _, Q2O (h.none hx20) _, ?_⟩
      rw [show ((some q : Option (Int × Int)).getD (0, 0)) = q from rfl]
      by_cases hs : (alook S.publics q.1).getD 0 ≠ k
      · rw [show ((alook S.publics q.1).getD 0 != k) = true by simpa using hs]
        rw [show Q12 S k x = (0, 11) by unfold Q12; rw [hlk]; simp only []; rw [if_neg hl, if_pos hs]]
        exact ⟨rfl, hx20⟩
      rw [show ((alook S.publics q.1).getD 0 != k) = false by simpa using hs, cond_false]
      rw [show Q12 S k x = (q.2, 0) by unfold Q12; rw [hlk]; simp only []; rw [if_neg hl, if_neg hs]]
      exact ⟨q.2, hb20.cella (i := 1) rfl, rfl, hx20⟩

end
end Go.Proofs.Ytgeakpldocfccaa
set_option linter.unusedSectionVars false
namespace Go.Mx
open Go
theorem Q2n (v : Value) (m : Nat) : (Builtin.zeroCells #[v] m).toList = List.replicate m v := by
  unfold Builtin.zeroCells
  rw [Array.toList_map]
  apply List.ext_getElem
  · simp
  · intro j h1 h2
    simp [Nat.mod_one]
theorem wrap_i64 {m : Nat} (h : m ≤ 1000000) : IntKind.i64.wrap (m : Int) = m := by
  simp [IntKind.wrap, IntKind.signed, IntKind.bits, IntKind.min, IntKind.max]
  omega
section
variable {P : Program} {w : World} {t tn ty e : TypeId} {i : TypeInfo} {kn : IntKind} {k : IntKind}
theorem Q2V (ht : P.underlying t = some (.slice e)) (htn : P.underlying tn = some (.int kn)) (hi : P.info? e = some i) (hz : i.zero = some (.int .u8 0)) (hs : i.size = 1) (hb : i.bytes = 1)
    {b sLen sCap m : Nat} {cur : Array Value} (hg : w.heap[b]? = some (.cells cur e (0, 0))) (hm : 0 < m) (hm2 : m ≤ 1000000) (hroom : sLen + m ≤ sCap) (hfit : sLen + m ≤ cur.size) :
    (Builtin.append_ #[t, tn] ty #[.slice (some ⟨b, 0, none⟩) sLen sCap, .int k m]).run P w = .ok (.slice (some ⟨b, 0, none⟩) (sLen + m) sCap) (w.setRow b (cur.toList.take sLen ++ List.replicate m (Value.int .u8 0) ++ cur.toList.drop (sLen + m)).toArray) := by
  have hst := run_storeCells_at P b sLen e (List.replicate m (.int .u8 0)) 0 cur w hg (by simpa using hfit) (by intro u hu; rw [List.eq_of_mem_replicate hu]; rfl)
  simp only [Nat.add_zero, List.length_replicate] at hst
  have hw := wrap_i64 hm2
  have h0 : ¬ ((m : Int) < 0) := by omega
  have h1 : ¬ (281474976710656 < (m : Int)) := by omega
  have h2 : m ≠ 0 := by omega
  have hzc := Q2n (.int .u8 0) m
  simp [Builtin.append_, run_underlying ht, run_underlying htn, sizeOf, typeInfo, hi, hs, hb, asInt, asIntOf, hw, h0, h1, h2, hroom, zeroValue, hz, Value.cells, hzc, Addr.add_lit, hst]
theorem Q22 (ht : P.underlying t = some (.slice e)) (htn : P.underlying tn = some (.int kn)) (hi : P.info? e = some i) (hz : i.zero = some (.int .u8 0)) (hs : i.size = 1) (hb : i.bytes = 1)
    {base : Option Addr} {sLen sCap m : Nat} {olds : List Value} (hold : (Builtin.firstCells 1 sLen (.slice base sLen sCap)).run P w.drew = .ok olds.toArray w.drew) (hm : 0 < m) (hm2 : m ≤ 1000000) (hl : sLen ≤ 1000000)
    (hg : sCap < sLen + m) :
    (Builtin.append_ #[t, tn] ty #[.slice base sLen sCap, .int k m]).run P w =
      .ok (.slice (some ⟨w.heap.size, 0, none⟩) (sLen + m) (grownCap w (sLen + m) sCap e))
        (w.drew.alloc (.cells ((olds ++ List.replicate m (Value.int .u8 0)).toArray ++ Builtin.zeroCells #[Value.int .u8 0] (grownCap w (sLen + m) sCap e - (sLen + m))) e)) := by
  have hw := wrap_i64 hm2
  have h0 : ¬ ((m : Int) < 0) := by omega
  have h1 : ¬ (281474976710656 < (m : Int)) := by omega
  have h2 : m ≠ 0 := by omega
  have hn : ¬ (sLen + m ≤ sCap) := by omega
  have h63' : ¬ (9223372036854775807 < ((sLen : Int) + (m : Int))) := by omega
  have h48 : Builtin.nextslicecap (sLen + m) sCap * 1 ≤ 281474976710656 := growslice_fits (by omega) (by omega)
  have h48' : ¬ (281474976710656 < Builtin.nextslicecap (sLen + m) sCap) := by omega
  have hzc := Q2n (.int .u8 0) m
  simp [Builtin.append_, run_underlying ht, run_underlying htn, sizeOf, typeInfo, hi, hs, hb, asInt, asIntOf, hw, h0, h1, h2, hn, h63', h48', zeroValue, hz, Value.cells, Question.forced, hold, newRow, grownCap]
  congr 2
  apply Array.ext'
  simp [hzc, List.append_assoc]
theorem Q4V (ht : P.underlying t = some (.slice e)) (htn : P.underlying tn = some (.int kn)) (hi : P.info? e = some i) (hz : i.zero = some (.int .u8 0)) (hs : i.size = 1) (hb : i.bytes = 1)
    {v : Value} {n m : Nat} {xs : List Value} (hown : w.ownsRow 0 e 1 v n xs) (hm : 0 < m) (hm2 : m ≤ 1000000) (hl : n ≤ 1000000) :
    ∃ a' c' w', (Builtin.append_ #[t, tn] ty #[v, .int k m]).run P w = .ok (.slice a' (n + m) c') w' ∧ w'.ownsRow 0 e 1 (.slice a' (n + m) c') (n + m) (xs ++ List.replicate m (.int .u8 0)) ∧ w.grownBy w' v.ownBlock ∧
      ((Value.slice a' (n + m) c').ownBlock = v.ownBlock ∨ (Value.slice a' (n + m) c').ownBlock = some w.heap.size) := by
  have hlen : (xs ++ List.replicate m (Value.int .u8 0)).length = (n + m) * 1 := by rw [List.length_append, hown.1, List.length_replicate]; omega
  have grown : ∀ (old : Nat), old < n + m → ∀ (row : Option Nat),
      (w.drew.alloc (.cells ((xs ++ List.replicate m (Value.int .u8 0)).toArray ++ Builtin.zeroCells #[Value.int .u8 0] (grownCap w (n + m) old e - (n + m))) e)).ownsRow 0 e 1
        (.slice (some ⟨w.heap.size, 0, none⟩) (n + m) (grownCap w (n + m) old e)) (n + m) (xs ++ List.replicate m (.int .u8 0)) ∧
      w.grownBy (w.drew.alloc (.cells ((xs ++ List.replicate m (Value.int .u8 0)).toArray ++ Builtin.zeroCells #[Value.int .u8 0] (grownCap w (n + m) old e - (n + m))) e)) row := by
    intro old ho row
    have hge := grownCap_ge w (n + m) old e
    have hcm : grownCap w (n + m) old e ≤ maxLen := grownCap_le_maxLen w (n + m) old e (by unfold maxLen; omega)
    refine ⟨⟨hlen, .inr ⟨w.heap.size, _, _, rfl, Nat.zero_le _, heap_alloc_new w.drew _, hge, hcm, ?_, ?_⟩⟩, ⟨rfl, rfl, rfl, by simp, fun k hk _ => heap_alloc_old w.drew _ k hk⟩⟩
    · simp only [Array.size_append, List.size_toArray, size_zeroCells, hlen]
      show (n + m) * 1 + _ * 1 = _
      omega
    · simp only [Array.toList_append]
      rw [← hlen]
      exact List.take_left
  rcases hown.2 with ⟨rfl, rfl⟩ | ⟨g, cap, cur, rfl, hbg, hg, hnc, hcm, hcs, htake⟩
  · have hx : xs = [] := List.eq_nil_of_length_eq_zero (by simpa using hown.1)
    subst hx
    have hr := Q22 (P := P) (w := w) (ty := ty) (k := k) (base := none) (sLen := 0) (sCap := 0) (olds := []) ht htn hi hz hs hb rfl hm hm2 (Nat.zero_le _) (by omega)
    have hgr := grown 0 (by omega) (Value.ownBlock (.slice none 0 0))
    exact ⟨_, _, _, hr, hgr.1, hgr.2, Or.inr rfl⟩
  · have hxl := hown.1
    by_cases hroom : n + m ≤ cap
    · have hfit : n + m ≤ cur.size := by omega
      have hr := Q2V (P := P) (w := w) (ty := ty) (k := k) (b := g) (sLen := n) (sCap := cap) ht htn hi hz hs hb hg hm hm2 hroom hfit
      refine ⟨_, _, _, hr, ⟨hlen, .inr ⟨g, cap, _, rfl, hbg, setRow_heap w g cur _ e _ hg, hroom, hcm, ?_, ?_⟩⟩, ⟨rfl, rfl, rfl, by simp, fun k _ hk => setRow_other w g k _ (fun e => hk (by simp [Value.ownBlock, e]))⟩, Or.inl rfl⟩
      · simp only [List.size_toArray, List.length_append, List.length_take, List.length_drop, Array.length_toList, List.length_replicate]
        omega
      · rw [Nat.mul_one] at htake
        rw [htake, ← hlen]
        exact List.take_left
    · have holds : ∀ j u, xs[j]? = some u → w.cell? ((⟨g, 0, none⟩ : Addr).add j) = some u := hown.cells (g := g) rfl
      have hr := Q22 (P := P) (w := w) (ty := ty) (k := k) (base := some ⟨g, 0, none⟩) (sLen := n) (sCap := cap) (olds := xs) ht htn hi hz hs hb (run_firstCells_some (P := P) w.drew 1 n ⟨g, 0, none⟩ n cap xs hown.1 (by simpa using holds)) hm hm2 hl (by omega)
      have hgr := grown cap (by omega) (Value.ownBlock (.slice (some ⟨g, 0, none⟩) n cap))
      exact ⟨_, _, _, hr, hgr.1, hgr.2, Or.inr rfl⟩
end
end Go.Mx
set_option maxHeartbeats 2000000
namespace Go.Proofs.Ytgeakpldocfccaa
open Go Go.Mx Go.Proofs
open W (OwnB)
abbrev Q0J.J1 (a6 : Int) (a9 : Option Addr) (aa a8 : Nat) (ab : Int) (I0 : Nat → List Value → World → Prop) (m6 : Nat) (R : RW) (a1 : World) : Prop :=
 256 ≠ (0 : Int) ∧ thenW (a1.alloc (.cells #[.int .u8 (IntKind.u8.wrap (Int.tmod a6 256))] 5)) fun a5 =>
 ∃ (a0 : Option Addr) (a2 a4 : Nat) (a3 : World), (Builtin.append_ #[25, 25] 25 #[.slice (some (blk a1.heap.size)) 1 1, .slice a9 aa a8]).run Try.prog a5 = .ok (.slice a0 a2 a4) a3 ∧
 256 ≠ (0 : Int) ∧ ∃ a7, a7 < m6 ∧ I0 a7 [.int .u64 (IntKind.u64.wrap (Int.tdiv a6 256)), .slice a0 a2 a4, .int .i64 (IntKind.i64.wrap (ab + 1))] a3

def Q0J.M (n1 : Int) (R : RW) (w : World) : Prop :=
 ∃ (I0 : Nat → List Value → World → Prop) (m5 : Nat), I0 m5 [.int .u64 n1, .slice none 0 0, .int .i64 0] w ∧ ∀ (m6 : Nat) (a1 : World) (n2 : Int) (a3 : Option Addr) (a0 a2 : Nat) (i4 : Int), I0 m6 [.int .u64 n2, .slice a3 a0 a2, .int .i64 i4] a1 →
 bif decide (i4 < 8) then (
 Q0J.J1 n2 a3 a0 a2 i4 I0 m6 R a1) else (
 R (.slice a3 a0 a2) a1)

theorem Q0J.ok (n1 : Int) {R : RW} {w : World} (h : Q0J.M n1 R w) : Calls Try.prog 76 #[.int .u64 n1] w fun e w' => ∃ v, e = .returned v ∧ R v w' :=
  Q0i follows (H := [(0, [], [(0, (.one (.int .u64))), (3, (.one .slice)), (4, (.one (.int .i64)))])]) (args := [.int .u64 n1]) (cast (by kernel_rfl) h)

def Q0J.N (n1 : Int) (R : RW) (w : World) : Prop :=
 ∃ (I0 : Nat → List Value → World → Prop) (m5 : Nat), I0 m5 [.int .u64 n1, .slice none 0 0, .int .i64 0] w ∧ ∀ (m6 : Nat) (a4 : World) (n2 : Int) (a8 : Option Addr) (a9 a7 : Nat) (i4 : Int), I0 m6 [.int .u64 n2, .slice a8 a9 a7, .int .i64 i4] a4 →
 (i4 < 8 →
 ∀ (a6 : World) (a5 : Nat), Ext no a4 a6 → Blk a6 a5 5 [.int .u8 (IntKind.u8.wrap (Int.tmod n2 256))] → a4.heap.size ≤ a5 → a5 < a6.heap.size →
 ∃ (a0 : Option Addr) (a1 a2 : Nat) (a3 : World), (Builtin.append_ #[25, 25] 25 #[.slice (some (blk a5)) 1 1, .slice a8 a9 a7]).run Try.prog a6 = .ok (.slice a0 a1 a2) a3 ∧
 (-9223372036854775808 : Int) ≤ (i4 + 1) ∧ (i4 + 1) < 9223372036854775808 ∧
 ∃ aa, aa < m6 ∧ I0 aa [.int .u64 (IntKind.u64.wrap (Int.tdiv n2 256)), .slice a0 a1 a2, .int .i64 (i4 + 1)] a3) ∧
 ((8 : Int) ≤ i4 →
 R (.slice a8 a9 a7) a4)

theorem Q0J.up (n1 : Int) {R : RW} {w : World} (h : Q0J.N n1 R w) : Q0J.M n1 R w := by
  unfold Q0J.M
  unfold Q0J.N at h
  obtain ⟨I0, m5, h0, h⟩ := h
  refine ⟨I0, m5, h0, fun m6 a0 n2 a7 a8 a6 i4 hI => ?_⟩
  have h := h m6 a0 n2 a7 a8 a6 i4 hI
  refine bif_fo (fun c8 => ?_) (fun c8 => ?_)
  ·have h := h.2 (Int.not_lt.1 (of_decide_eq_false c8))
   exact h
  have h := h.1 (of_decide_eq_true c8)
  unfold Q0J.J1
  refine ⟨by decide, ?_⟩
  refine Q01 fun aa e9 => ?_
  have h := h aa a0.heap.size ((Ext.refl no a0).x_alloc e9) (Blk.of_new e9) ((Ext.refl no a0)).size (Q0x e9)
  obtain ⟨a1, a2, a3, a4, hr, h⟩ := h
  refine ⟨a1, a2, a3, a4, hr, ?_⟩
  refine ⟨by decide, ?_⟩
  obtain ⟨a9, a5, h⟩ := h
  try rw [w64 a9 a5]
  obtain ⟨ab, hk, h⟩ := h
  exact ⟨ab, hk, h⟩

theorem Q0J.go (n1 : Int) {R : RW} {w : World} (h : Q0J.N n1 R w) : Calls Try.prog 76 #[.int .u64 n1] w fun e w' => ∃ v, e = .returned v ∧ R v w' := Q0J.ok n1 (Q0J.up n1 h)
def Q0G.M (a8 : Option Addr) (a2 ab : Nat) (R : RW) (w : World) : Prop :=
 bif decide ((a2 : Int) < 8) then (
 R (.int .u64 0) w) else (
 ∃ (I0 : Nat → List Value → World → Prop) (m4 : Nat), I0 m4 [.int .u64 0, .int .i64 0] w ∧ ∀ (m5 : Nat) (a3 : World) (n2 i3 : Int), I0 m5 [.int .u64 n2, .int .i64 i3] a3 →
 bif decide (i3 < 8) then (
 a8.elim False fun a7 =>
 0 ≤ (i3 : Int) ∧ (i3 : Int) < (a2 : Int) ∧
 ∃ (x8 : Int), a3.cell? (a7.add (Int.toNat i3 * 1)) = some (.int .u8 x8) ∧
 ∃ m9, m9 < m5 ∧ I0 m9 [.int .u64 (IntKind.u64.wrap ((IntKind.u64.wrap (n2 * 256)) + (IntKind.u64.wrap x8))), .int .i64 (IntKind.i64.wrap (i3 + 1))] a3) else (
 ∃ (I2 : Nat → List Value → World → Prop) (aa : Nat), I2 aa [.int .i64 8] a3 ∧ ∀ (a4 : Nat) (a0 : World) (a1 : Int), I2 a4 [.int .i64 a1] a0 →
 bif decide (a1 < (a2 : Int)) then (
 a8.elim False fun a9 =>
 0 ≤ (a1 : Int) ∧ (a1 : Int) < (a2 : Int) ∧
 ∃ (a6 : Int), a0.cell? (a9.add (Int.toNat a1 * 1)) = some (.int .u8 a6) ∧
 bif a6 != 0 then (
 R (.int .u64 0) a0) else (
 ∃ a5, a5 < a4 ∧ I2 a5 [.int .i64 (IntKind.i64.wrap (a1 + 1))] a0)) else (
 R (.int .u64 n2) a0)))

theorem Q0G.ok (a1 : Option Addr) (a0 a2 : Nat) {R : RW} {w : World} (h : Q0G.M a1 a0 a2 R w) : Calls Try.prog 87 #[.slice a1 a0 a2] w fun e w' => ∃ v, e = .returned v ∧ R v w' :=
  Q0i follows (H := [(0, [0], [(3, (.one (.int .u64))), (4, (.one (.int .i64)))]), (2, [0, 3], [(5, (.one (.int .i64)))])]) (args := [.slice a1 a0 a2]) (cast (by kernel_rfl) h)

def Q0G.N (ab : Option Addr) (a2 ad : Nat) (R : RW) (w : World) : Prop :=
 ((a2 : Int) < 8 →
 R (.int .u64 0) w) ∧
 ((8 : Int) ≤ (a2 : Int) →
 ∃ (I0 : Nat → List Value → World → Prop) (m5 : Nat), I0 m5 [.int .u64 0, .int .i64 0] w ∧ ∀ (m6 : Nat) (a3 : World) (n3 i4 : Int), I0 m6 [.int .u64 n3, .int .i64 i4] a3 →
 (i4 < 8 →
 ∃ a9 : Addr, ab = some a9 ∧
 0 ≤ (i4 : Int) ∧ (i4 : Int) < (a2 : Int) ∧
 ∃ (a7 : Int), a3.cell? (a9.add (Int.toNat i4 * 1)) = some (.int .u8 a7) ∧
 (-9223372036854775808 : Int) ≤ (i4 + 1) ∧ (i4 + 1) < 9223372036854775808 ∧
 ∃ a6, a6 < m6 ∧ I0 a6 [.int .u64 (IntKind.u64.wrap ((IntKind.u64.wrap (n3 * 256)) + (IntKind.u64.wrap a7))), .int .i64 (i4 + 1)] a3) ∧
 ((8 : Int) ≤ i4 →
 ∃ (I2 : Nat → List Value → World → Prop) (ac : Nat), I2 ac [.int .i64 8] a3 ∧ ∀ (a8 : Nat) (a0 : World) (a1 : Int), I2 a8 [.int .i64 a1] a0 →
 (a1 < (a2 : Int) →
 ∃ aa : Addr, ab = some aa ∧
 0 ≤ (a1 : Int) ∧ (a1 : Int) < (a2 : Int) ∧
 ∃ (a4 : Int), a0.cell? (aa.add (Int.toNat a1 * 1)) = some (.int .u8 a4) ∧
 (a4 ≠ 0 →
 R (.int .u64 0) a0) ∧
 (a4 = 0 →
 (-9223372036854775808 : Int) ≤ (a1 + 1) ∧ (a1 + 1) < 9223372036854775808 ∧
 ∃ a5, a5 < a8 ∧ I2 a5 [.int .i64 (a1 + 1)] a0)) ∧
 ((a2 : Int) ≤ a1 →
 R (.int .u64 n3) a0)))

theorem Q0G.up (ac : Option Addr) (ad ab : Nat) {R : RW} {w : World} (h : Q0G.N ac ad ab R w) : Q0G.M ac ad ab R w := by
  unfold Q0G.M
  unfold Q0G.N at h
  refine bif_of (fun c2 => ?_) (fun c2 => ?_)
  ·have h := h.1 (of_decide_eq_true c2)
   exact h
  have h := h.2 (Int.not_lt.1 (of_decide_eq_false c2))
  obtain ⟨I0, m5, h0, h⟩ := h
  refine ⟨I0, m5, h0, fun m6 ag n3 i4 hI => ?_⟩
  have h := h m6 ag n3 i4 hI
  refine bif_of (fun c8 => ?_) (fun c8 => ?_)
  ·have h := h.1 (of_decide_eq_true c8)
   obtain ⟨a9, al, h⟩ := h
   refine Q05 al ?_
   obtain ⟨a2, a3, h⟩ := h
   refine ⟨a2, a3, ?_⟩
   obtain ⟨ah, a0, h⟩ := h
   refine ⟨ah, a0, ?_⟩
   obtain ⟨a8, a7, h⟩ := h
   try rw [w64 a8 a7]
   obtain ⟨aj, hk, h⟩ := h
   exact ⟨aj, hk, h⟩
  have h := h.2 (Int.not_lt.1 (of_decide_eq_false c8))
  obtain ⟨I2, am, h0, h⟩ := h
  refine ⟨I2, am, h0, fun ak a4 ae hI => ?_⟩
  have h := h ak a4 ae hI
  refine bif_fo (fun a1 => ?_) (fun a1 => ?_)
  ·have h := h.2 (Int.not_lt.1 (of_decide_eq_false a1))
   exact h
  have h := h.1 (of_decide_eq_true a1)
  obtain ⟨an, a5, h⟩ := h
  refine Q05 a5 ?_
  obtain ⟨a2, a3, h⟩ := h
  refine ⟨a2, a3, ?_⟩
  obtain ⟨af, aa, h⟩ := h
  refine ⟨af, aa, ?_⟩
  refine bif_of (fun a6 => ?_) (fun a6 => ?_)
  ·have h := h.1 (bne_t a6)
   exact h
  have h := h.2 (bne_f a6)
  obtain ⟨a8, a7, h⟩ := h
  try rw [w64 a8 a7]
  obtain ⟨ai, hk, h⟩ := h
  exact ⟨ai, hk, h⟩

theorem Q0G.go (a1 : Option Addr) (a0 a2 : Nat) {R : RW} {w : World} (h : Q0G.N a1 a0 a2 R w) : Calls Try.prog 87 #[.slice a1 a0 a2] w fun e w' => ∃ v, e = .returned v ∧ R v w' := Q0G.ok a1 a0 a2 (Q0G.up a1 a0 a2 h)
theorem Q0G.run (a1 : Option Addr) (a0 a2 : Nat) {V : Value} {Q : World → Prop} {w : World} (h : Q0G.N a1 a0 a2 (fun v w' => v = V ∧ Q w') w) : Calls Try.prog 87 #[.slice a1 a0 a2] w (Ret V Q) := (Q0G.go a1 a0 a2 h).mono fun e w' ⟨v, he, hv, hq⟩ => ⟨by rw [he, hv], hq⟩

abbrev Q0r.J1 (a8 : Int) (I0 : Nat → List Value → World → Prop) (j8 : Int) (ab : Nat) (R : RW) (a9 : World) : Prop :=
 Calls Try.prog 48 #[.int .u64 (IntKind.u64.wrap j8)] a9 fun a6 a5 => ∃ (a3 : Option Addr) (a1 a2 : Nat), a6 = .returned (.slice a3 a1 a2) ∧
 Calls Try.prog 78 #[.int .i64 a8] a5 fun a7 a4 => ∃ (a0 : Int), a7 = .returned (.int .i64 a0) ∧
 bif decide ((IntKind.i64.wrap ((a1 : Int) + j8)) ≤ a0) then (
 R (.int .i64 a8) a4) else (
 ∃ aa, aa < ab ∧ I0 aa [.int .i64 (IntKind.i64.wrap (a8 + 1))] a4)

abbrev Q0r.J2 (j8 : Int) (R : RW) (a3 : World) : Prop :=
 ∃ (I0 : Nat → List Value → World → Prop) (a4 : Nat), I0 a4 [.int .i64 0] a3 ∧ ∀ (a2 : Nat) (a0 : World) (a1 : Int), I0 a2 [.int .i64 a1] a0 →
 bif decide (a1 < 7) then (
 Q0r.J1 a1 I0 j8 a2 R a0) else (
 R (.int .i64 (-1)) a0)

def Q0r.M (n1 : Int) (R : RW) (w : World) : Prop :=
 bif decide (n1 < 0) then (
 R (.int .i64 (-1)) w) else (
 bif decide (n1 > 2000) then (
 R (.int .i64 (-1)) w) else (
 Q0r.J2 n1 R w))

theorem Q0r.ok (n1 : Int) {R : RW} {w : World} (h : Q0r.M n1 R w) : Calls Try.prog 77 #[.int .i64 n1] w fun e w' => ∃ v, e = .returned v ∧ R v w' :=
  Q0i follows (H := [(0, [0], [(3, (.one (.int .i64)))])]) (args := [.int .i64 n1]) (cast (by kernel_rfl) h)

def Q0r.N (n1 : Int) (R : RW) (w : World) : Prop :=
 (n1 < 0 →
 R (.int .i64 (-1)) w) ∧
 ((0 : Int) ≤ n1 →
 (n1 > 2000 →
 R (.int .i64 (-1)) w) ∧
 (n1 ≤ 2000 →
 ∃ (I0 : Nat → List Value → World → Prop) (m5 : Nat), I0 m5 [.int .i64 0] w ∧ ∀ (m6 : Nat) (a6 : World) (c4 : Int), I0 m6 [.int .i64 c4] a6 →
 (c4 < 7 →
 Calls Try.prog 48 #[.int .u64 (IntKind.u64.wrap n1)] a6 fun a7 a8 => ∃ (a2 : Option Addr) (a0 a3 : Nat), a7 = .returned (.slice a2 a0 a3) ∧
 (-9223372036854775808 : Int) ≤ ((a0 : Int) + n1) ∧ ((a0 : Int) + n1) < 9223372036854775808 ∧
 Calls Try.prog 78 #[.int .i64 c4] a8 fun a5 a4 => ∃ (a1 : Int), a5 = .returned (.int .i64 a1) ∧
 (((a0 : Int) + n1) ≤ a1 →
 R (.int .i64 c4) a4) ∧
 (a1 < ((a0 : Int) + n1) →
 (-9223372036854775808 : Int) ≤ (c4 + 1) ∧ (c4 + 1) < 9223372036854775808 ∧
 ∃ a9, a9 < m6 ∧ I0 a9 [.int .i64 (c4 + 1)] a4)) ∧
 ((7 : Int) ≤ c4 →
 R (.int .i64 (-1)) a6)))

theorem Q0r.up (n1 : Int) {R : RW} {w : World} (h : Q0r.N n1 R w) : Q0r.M n1 R w := by
  unfold Q0r.M
  unfold Q0r.N at h
  refine bif_of (fun c2 => ?_) (fun c2 => ?_)
  ·have h := h.1 (of_decide_eq_true c2)
   exact h
  have h := h.2 (Int.not_lt.1 (of_decide_eq_false c2))
  refine bif_of (fun c3 => ?_) (fun c3 => ?_)
  ·have h := h.1 (of_decide_eq_true c3)
   exact h
  have h := h.2 (Int.not_lt.1 (of_decide_eq_false c3))
  unfold Q0r.J2
  obtain ⟨I0, m5, h0, h⟩ := h
  refine ⟨I0, m5, h0, fun m6 a8 c4 hI => ?_⟩
  have h := h m6 a8 c4 hI
  refine bif_fo (fun c8 => ?_) (fun c8 => ?_)
  ·have h := h.2 (Int.not_lt.1 (of_decide_eq_false c8))
   exact h
  have h := h.1 (of_decide_eq_true c8)
  unfold Q0r.J1
  refine h.mono fun ab aa h => ?_
  obtain ⟨a1, a3, a2, he, h⟩ := h
  refine ⟨a1, a3, a2, he, ?_⟩
  obtain ⟨a6, a4, h⟩ := h
  try rw [w64 a6 a4]
  refine h.mono fun a7 ac h => ?_
  obtain ⟨a0, he, h⟩ := h
  refine ⟨a0, he, ?_⟩
  refine bif_of (fun a5 => ?_) (fun a5 => ?_)
  ·have h := h.1 (of_decide_eq_true a5)
   exact h
  have h := h.2 (Int.not_le.1 (of_decide_eq_false a5))
  obtain ⟨a6, a4, h⟩ := h
  try rw [w64 a6 a4]
  obtain ⟨a9, hk, h⟩ := h
  exact ⟨a9, hk, h⟩

theorem Q0r.go (n1 : Int) {R : RW} {w : World} (h : Q0r.N n1 R w) : Calls Try.prog 77 #[.int .i64 n1] w fun e w' => ∃ v, e = .returned v ∧ R v w' := Q0r.ok n1 (Q0r.up n1 h)
theorem Q0r.run (n1 : Int) {V : Value} {Q : World → Prop} {w : World} (h : Q0r.N n1 (fun v w' => v = V ∧ Q w') w) : Calls Try.prog 77 #[.int .i64 n1] w (Ret V Q) := (Q0r.go n1 h).mono fun e w' ⟨v, he, hv, hq⟩ => ⟨by rw [he, hv], hq⟩

def Q0O.M (c1 : Int) (R : RW) (w : World) : Prop :=
 thenW (w.alloc (.cells #[.int .i64 16, .int .i64 32, .int .i64 64, .int .i64 128, .int .i64 256, .int .i64 512, .int .i64 1024] 3)) fun a0 =>
 bif decide (c1 < 0) then (
 R (.int .i64 0) a0) else (
 bif decide (c1 ≥ (7 : Int)) then (
 R (.int .i64 0) a0) else (
 0 ≤ (c1 : Int) ∧ (c1 : Int) < (7 : Int) ∧
 ∃ (x3 : Int), a0.cell? ((blk w.heap.size).add (Int.toNat c1 * 1)) = some (.int .i64 x3) ∧
 R (.int .i64 x3) a0))

theorem Q0O.ok (c1 : Int) {R : RW} {w : World} (h : Q0O.M c1 R w) : Calls Try.prog 78 #[.int .i64 c1] w fun e w' => ∃ v, e = .returned v ∧ R v w' :=
  Q0i follows (H := []) (args := [.int .i64 c1]) (cast (by kernel_rfl) h)

def Q0O.N (c1 : Int) (R : RW) (w : World) : Prop :=
 ∀ (a0 : World) (q3 : Nat), Ext no w a0 → Blk a0 q3 3 [.int .i64 16, .int .i64 32, .int .i64 64, .int .i64 128, .int .i64 256, .int .i64 512, .int .i64 1024] → w.heap.size ≤ q3 → q3 < a0.heap.size →
 (c1 < 0 →
 R (.int .i64 0) a0) ∧
 ((0 : Int) ≤ c1 →
 (c1 ≥ (7 : Int) →
 R (.int .i64 0) a0) ∧
 (c1 < (7 : Int) →
 0 ≤ (c1 : Int) ∧ (c1 : Int) < (7 : Int) ∧
 ∃ (x7 : Int), a0.cell? ((blk q3).add (Int.toNat c1 * 1)) = some (.int .i64 x7) ∧
 R (.int .i64 x7) a0))

theorem Q0O.up (c1 : Int) {R : RW} {w : World} (h : Q0O.N c1 R w) : Q0O.M c1 R w := by
  unfold Q0O.M
  unfold Q0O.N at h
  refine Q01 fun a1 e2 => ?_
  have h := h a1 w.heap.size ((Ext.refl no w).x_alloc e2) (Blk.of_new e2) ((Ext.refl no w)).size (Q0x e2)
  refine bif_of (fun c4 => ?_) (fun c4 => ?_)
  ·have h := h.1 (of_decide_eq_true c4)
   exact h
  have h := h.2 (Int.not_lt.1 (of_decide_eq_false c4))
  refine bif_of (fun c5 => ?_) (fun c5 => ?_)
  ·have h := h.1 (of_decide_eq_true c5)
   exact h
  have h := h.2 (Int.not_le.1 (of_decide_eq_false c5))
  obtain ⟨a3, a0, h⟩ := h
  refine ⟨a3, a0, ?_⟩
  obtain ⟨x7, a2, h⟩ := h
  refine ⟨x7, a2, ?_⟩
  exact h

theorem Q0O.go (c1 : Int) {R : RW} {w : World} (h : Q0O.N c1 R w) : Calls Try.prog 78 #[.int .i64 c1] w fun e w' => ∃ v, e = .returned v ∧ R v w' := Q0O.ok c1 (Q0O.up c1 h)
theorem Q0O.run (c1 : Int) {V : Value} {Q : World → Prop} {w : World} (h : Q0O.N c1 (fun v w' => v = V ∧ Q w') w) : Calls Try.prog 78 #[.int .i64 c1] w (Ret V Q) := (Q0O.go c1 h).mono fun e w' ⟨v, he, hv, hq⟩ => ⟨by rw [he, hv], hq⟩

theorem OwnB.appendz {N : Nat} {w : World} {a : Option Addr} {c : Nat} {bs : List UInt8} (h : OwnB N w a c bs) (hN : N ≤ w.heap.size) {m : Nat} (hm : 0 < m) (hm2 : m ≤ 1000000) (hl : bs.length ≤ 1000000) :
    ∃ a' c' w', (Builtin.append_ #[25, 3] 25 #[.slice a bs.length c, .int .i64 m]).run Try.prog w = .ok (.slice a' (bs ++ List.replicate m 0).length c') w' ∧ OwnB N w' a' c' (bs ++ List.replicate m 0) ∧ Ext (fun b => N ≤ b) w w' := by
  obtain ⟨i, hi, hz, hs, hb⟩ := info_of W.infU8
  obtain ⟨a', c', w', hr, ho, hg, hbk⟩ := Q4V (P := Try.prog) (ty := 25) (k := .i64) Try.underlying25 Try.underlying3 hi hz hs hb h.own hm hm2 hl
  have e : (bs ++ List.replicate m (0 : UInt8)).length = bs.length + m := by simp
  have e2 : bytesV (bs ++ List.replicate m 0) = bytesV bs ++ List.replicate m (.int .u8 0) := by simp [bytesV, u8V]
  refine ⟨a', c', w', by rw [e]; exact hr, ⟨by rw [e, e2]; exact ho, fun ad ha => ?_⟩, Ext.of_grown hg fun k hk => ?_⟩
  · refine ⟨?_, (Q1u ho).2 ad ha⟩
    subst ha
    rcases hbk with hq | hq
    · cases a with
      | none => simp [Value.ownBlock] at hq
      | some ad' => simp only [Value.ownBlock, Option.some.injEq] at hq; rw [hq]; exact (h.fr ad' rfl).1
    · simp only [Value.ownBlock, Option.some.injEq] at hq; omega
  · cases a with
    | none => simp [Value.ownBlock] at hk
    | some ad' => simp only [Value.ownBlock, Option.some.injEq] at hk; subst hk; exact .inl (h.fr ad' rfl).1
theorem Q2F (c : Int) (w : World) : Calls Try.prog 78 #[.int .i64 c] w (Ret (.int .i64 (sizeN c)) fun w' => Ext no w w') := by
  refine Q0O.run _ ?_
  unfold Q0O.N
  intro w2 q3 X hb hq hq'
  refine ⟨fun h => ⟨by unfold sizeN; rw [if_neg (by omega)]; rfl, X⟩, fun h0 => ⟨fun h => ⟨by unfold sizeN; rw [if_neg (by omega)]; rfl, X⟩, fun h7 => ?_⟩⟩
  obtain ⟨t, rfl⟩ : ∃ t : Nat, c = t := ⟨c.toNat, by omega⟩
  have ht : t < 7 := by omega
  have hc : ([.int .i64 16, .int .i64 32, .int .i64 64, .int .i64 128, .int .i64 256, .int .i64 512, .int .i64 1024] : List Value)[t]? = some (.int .i64 (sizeN (t : Int))) :=
    seven (P := fun t => ([.int .i64 16, .int .i64 32, .int .i64 64, .int .i64 128, .int .i64 256, .int .i64 512, .int .i64 1024] : List Value)[t]? = some (.int .i64 (sizeN (t : Int)))) ht rfl rfl rfl rfl rfl rfl rfl
  exact ⟨by omega, by omega, _, by rw [Int.toNat_natCast, Nat.mul_one]; exact hb.cella hc, rfl, X⟩
theorem Q56 {n : Nat} (h : n ≤ 2000) : (numL n).length = if n < 128 then 1 else 2 := by
  unfold numL
  by_cases h1 : n < 128
  · rw [if_pos h1]; simp [numF, h1]
  · rw [if_neg h1]
    have h2 : n / 128 < 128 := by omega
    simp [numF, h1, h2]
theorem Q5m {n t : Nat} (h : n ≤ 2000) (ht : t < 7) : (n : Int) ≤ roomN t ↔ (((numL n).length : Int) + n) ≤ sizeN (t : Int) := by
  rw [Q56 h]
  match t, ht with
  | 0, _ => rw [show roomN 0 = 15 from rfl, show sizeN ((0 : Nat) : Int) = 16 from rfl]; split <;> omega
  | 1, _ => rw [show roomN 1 = 31 from rfl, show sizeN ((1 : Nat) : Int) = 32 from rfl]; split <;> omega
  | 2, _ => rw [show roomN 2 = 63 from rfl, show sizeN ((2 : Nat) : Int) = 64 from rfl]; split <;> omega
  | 3, _ => rw [show roomN 3 = 127 from rfl, show sizeN ((3 : Nat) : Int) = 128 from rfl]; split <;> omega
  | 4, _ => rw [show roomN 4 = 254 from rfl, show sizeN ((4 : Nat) : Int) = 256 from rfl]; split <;> omega
  | 5, _ => rw [show roomN 5 = 510 from rfl, show sizeN ((5 : Nat) : Int) = 512 from rfl]; split <;> omega
  | 6, _ => rw [show roomN 6 = 1022 from rfl, show sizeN ((6 : Nat) : Int) = 1024 from rfl]; split <;> omega
theorem Q6n {n : Nat} (h : ¬ n ≤ 2000) : classOf n = -1 := by
  unfold classOf
  simp only [classF, show roomN 0 = 15 from rfl, show roomN 1 = 31 from rfl, show roomN 2 = 63 from rfl, show roomN 3 = 127 from rfl, show roomN 4 = 254 from rfl, show roomN 5 = 510 from rfl, show roomN 6 = 1022 from rfl]
  rw [if_neg (by omega), if_neg (by omega), if_neg (by omega), if_neg (by omega), if_neg (by omega), if_neg (by omega), if_neg (by omega)]
theorem Q31 (n : Nat) (w : World) : Calls Try.prog 77 #[.int .i64 n] w (Ret (.int .i64 (classOf n)) fun w' => Ext no w w') := by
  refine Q0r.run _ ?_
  unfold Q0r.N
  refine ⟨fun h => absurd h (by omega), fun _ => ⟨fun h => ⟨by rw [Q6n (by omega)], Ext.refl _ _⟩, fun h => ?_⟩⟩
  have hn : n ≤ 2000 := by omega
  refine ⟨fun k vs w1 => ∃ t : Nat, vs = [.int .i64 t] ∧ k + t = 7 ∧ classF n k t = classOf n ∧ Ext no w w1, 7, ⟨0, rfl, rfl, rfl, Ext.refl _ _⟩, ?_⟩
  rintro k w1 i ⟨t, hi, hk, hc, X1⟩
  simp only [List.cons.injEq, Value.int.injEq, true_and, and_true] at hi
  subst hi
  refine ⟨fun ht => ?_, fun ht => ?_⟩
  · have ht : t < 7 := by omega
    obtain ⟨k, rfl⟩ : ∃ k', k = k' + 1 := ⟨k - 1, by omega⟩
    rw [wu64 (by omega) (by omega)]
    refine (W.rNum_spec n w1 (by omega)).mono fun e w11 ⟨a', c', he, _, X11⟩ => ⟨_, _, _, he, ?_⟩
    have hl := Q56 hn
    have hl2 : (numL n).length ≤ 2 := by rw [hl]; split <;> omega
    refine ⟨by omega, by omega, ?_⟩
    refine (Q2F t w11).mono fun e w14 ⟨he, X14⟩ => ⟨_, he, fun hr => ?_, fun hr => ?_⟩
    · have := (Q5m hn ht).2 hr
      simp only [classF] at hc
      rw [if_pos this] at hc
      exact ⟨by rw [← hc], (X1.trans X11).trans X14⟩
    · have : ¬ (n : Int) ≤ roomN t := fun h => by have := (Q5m hn ht).1 h; omega
      simp only [classF] at hc
      rw [if_neg this] at hc
      exact ⟨by omega, by omega, k, by omega, t + 1, rfl, by omega, hc, (X1.trans X11).trans X14⟩
  · obtain rfl : t = 7 := by omega
    obtain rfl : k = 0 := by omega
    exact ⟨by rw [← hc]; rfl, X1⟩
def tailB (h t : Nat) : List UInt8 := (List.range t).map fun i => byteAt h (8 - t + i)
theorem Q3T {h t : Nat} (ht : t < 8) : tailB h (t + 1) = byteAt h (7 - t) :: tailB h t := by
  unfold tailB
  rw [List.range_succ_eq_map, List.map_cons, List.map_map]
  congr 1
  · congr 1; omega
  · apply List.map_congr_left
    intro i hi
    show byteAt h _ = byteAt h _
    congr 1; omega
theorem Q3j {h : Nat} (hh : h < 18446744073709551616) (w : World) :
    Calls Try.prog 76 #[.int .u64 h] w (fun e w' => ∃ a' c', e = .returned (.slice a' (boxL h 0).length c') ∧ OwnB w.heap.size w' a' c' (boxL h 0) ∧ Ext no w w') := by
  refine (Q0J.go _ (R := fun v w' => ∃ a' c', v = .slice a' (boxL h 0).length c' ∧ OwnB w.heap.size w' a' c' (boxL h 0) ∧ Ext no w w') ?_).mono fun e w' ⟨v, he, a', c', hv, hw⟩ => ⟨a', c', by rw [he, hv], hw⟩
  unfold Q0J.N
  refine ⟨fun q vs w1 => ∃ (t : Nat) (a : Option Addr) (c : Nat), vs = [.int .u64 ((h / 256 ^ t : Nat) : Int), .slice a (tailB h t).length c, .int .i64 t] ∧ q + t = 8 ∧ OwnB w.heap.size w1 a c (tailB h t) ∧ Ext no w w1, 8, ⟨0, none, 0, by simp [tailB], rfl, OwnB.nil _ _, Ext.refl _ _⟩, ?_⟩
  rintro q w1 n ba bn bc i ⟨t, a, c, hi, hq, hO, X1⟩
  simp only [List.cons.injEq, Value.int.injEq, Value.slice.injEq, true_and, and_true] at hi
  obtain ⟨rfl, ⟨rfl, rfl, rfl⟩, rfl⟩ := hi
  refine ⟨fun ht w9 q10 X9 hb hq10 hq10' => ?_, fun ht => ?_⟩
  · have ht : t < 8 := by omega
    have hp : 256 ^ t = 2 ^ (8 * t) := by rw [Nat.pow_mul]
    have hlt : h / 256 ^ t < 18446744073709551616 := Nat.lt_of_le_of_lt (Nat.div_le_self _ _) hh
    have hb' : Blk w9 q10 5 (bytesV [byteAt h (7 - t)]) := by
      have e : IntKind.u8.wrap (Int.tmod ((h / 256 ^ t : Nat) : Int) 256) = ((byteAt h (7 - t)).toNat : Int) := by
        rw [Q1z, show 56 - 8 * (7 - t) = 8 * t by omega, ← hp, show Int.tmod ((h / 256 ^ t : Nat) : Int) 256 = ((h / 256 ^ t % 256 : Nat) : Int) from rfl]
        exact wu8 (by omega) (by omega)
      rw [e] at hb
      exact hb
    have l1 := X1.size
    have hO9 : OwnB w.heap.size w9 (some (blk q10)) 1 [byteAt h (7 - t)] := ⟨Q1t hb' rfl (by show (1 : Nat) ≤ maxLen; unfold maxLen; decide), fun ad ha => by cases ha; exact ⟨by show _ ≤ q10; omega, hq10'⟩⟩
    obtain ⟨a', c', w12, hr, hO', hx⟩ := hO9.append (t := 25) (ty := 25) Try.underlying25 (Nat.le_trans l1 X9.size) (xc := bc) (xs := tailB h t) (hO.no X9).row (by simp [tailB]; omega)
    rw [show [byteAt h (7 - t)] ++ tailB h t = tailB h (t + 1) from (Q3T ht).symm] at hr hO'
    refine ⟨a', _, c', w12, hr, by omega, by omega, q - 1, by omega, t + 1, a', c', ?_, by omega, hO', (X1.trans X9).then hx fun b hb => .inr hb⟩
    have e : IntKind.u64.wrap (Int.tdiv ((h / 256 ^ t : Nat) : Int) 256) = ((h / 256 ^ (t + 1) : Nat) : Int) := by
      rw [show Int.tdiv ((h / 256 ^ t : Nat) : Int) 256 = ((h / 256 ^ t / 256 : Nat) : Int) from rfl, Nat.div_div_eq_div_mul, ← Nat.pow_succ]
      exact wu64 (Int.natCast_nonneg _) (by have := Nat.div_le_self h (256 ^ t.succ); omega)
    rw [e]
    rfl
  · obtain rfl : t = 8 := by omega
    have e : tailB h 8 = boxL h 0 := rfl
    rw [e] at hO ⊢
    exact ⟨ba, bc, rfl, hO, X1⟩
theorem Q2T {w : World} {a : Option Addr} {c : Nat} {bs : List UInt8} (h : RowAt w a (bytesV bs)) (hl : bs.length < 1000000) :
    Calls Try.prog 87 #[.slice a bs.length c] w (Ret (.int .u64 (handL bs)) fun w' => w' = w) := by
  refine Q0G.run _ _ _ ?_
  unfold Q0G.N
  refine ⟨fun h8 => ⟨by unfold handL; rw [if_pos (by omega)]; rfl, rfl⟩, fun h8 => ?_⟩
  have h8 : ¬ bs.length < 8 := by omega
  obtain ⟨ad, ha⟩ := h.addr (by intro e; have := Q1o bs; rw [e] at this; simp at this; omega)
  refine ⟨fun q vs w1 => ∃ t : Nat, vs = [.int .u64 (valOf (bs.take t)), .int .i64 t] ∧ q + t = 8 ∧ w1 = w, 8, ⟨0, rfl, rfl, rfl⟩, ?_⟩
  rintro q w1 n i ⟨t, hi, hq, rfl⟩
  simp only [List.cons.injEq, Value.int.injEq, true_and, and_true] at hi
  obtain ⟨rfl, rfl⟩ := hi
  refine ⟨fun ht => ?_, fun ht => ?_⟩
  · have ht : t < 8 := by omega
    have htl : t < bs.length := by omega
    have hv := Q30 t (bs.take t) (by rw [List.length_take]; omega)
    have hpw : 256 ^ t ≤ 256 ^ 7 := Nat.pow_le_pow_right (by decide) (by omega)
    have hv' : valOf (bs.take t) < 72057594037927936 := by
      have : (256 : Nat) ^ 7 = 72057594037927936 := by decide
      omega
    have hb := u8_lt bs[t]
    refine ⟨ad, ha, by omega, by omega, bs[t].toNat, by rw [Int.toNat_natCast, Nat.mul_one]; subst ha; exact h.at_ (Q1w htl), by omega, by omega, q - 1, by omega, t + 1, ?_, by omega, rfl⟩
    rw [wu64 (n := ((valOf (bs.take t) : Nat) : Int) * 256) (by omega) (by omega), wu64 (n := ((bs[t].toNat : Nat) : Int)) (by omega) (by omega), wu64 (by omega) (by omega)]
    rw [List.take_add_one, List.getElem?_eq_getElem htl, Option.toList_some, Q2b]
    simp
  · obtain rfl : t = 8 := by omega
    refine ⟨fun q vs w2 => ∃ s : Nat, vs = [.int .i64 s] ∧ 8 ≤ s ∧ q + s = bs.length ∧ w2 = w1 ∧ ((bs.take s).drop 8).any (fun c => c != 0) = false, bs.length - 8, ⟨8, rfl, Nat.le_refl _, by omega, rfl, by rw [List.drop_eq_nil_of_le (by rw [List.length_take]; omega)]; rfl⟩, ?_⟩
    rintro q w2 i ⟨s, hi, hs8, hq, rfl, hz⟩
    simp only [List.cons.injEq, Value.int.injEq, true_and, and_true] at hi
    subst hi
    refine ⟨fun hs => ?_, fun hs => ?_⟩
    · have hsl : s < bs.length := by omega
      refine ⟨ad, ha, by omega, by omega, bs[s].toNat, by rw [Int.toNat_natCast, Nat.mul_one]; subst ha; exact h.at_ (Q1w hsl), fun hne => ⟨?_, rfl⟩, fun h0 => ⟨by omega, by omega, q - 1, by omega, s + 1, rfl, by omega, by omega, rfl, ?_⟩⟩
      · have : (bs.drop 8).any (fun c => c != 0) = true := by
          rw [List.any_eq_true]
          refine ⟨bs[s], ?_, ?_⟩
          · rw [show bs[s] = (bs.drop 8)[s - 8]'(by rw [List.length_drop]; omega) by rw [List.getElem_drop]; congr 1; omega]
            exact List.getElem_mem _
          · rw [bne_iff_ne]
            intro e
            rw [e] at hne
            exact hne rfl
        unfold handL
        rw [if_neg h8, if_pos this]; rfl
      · rw [List.take_add_one, List.getElem?_eq_getElem hsl, Option.toList_some, List.drop_append_of_le_length (by rw [List.length_take]; omega), List.any_append, hz]
        have : bs[s] = 0 := by
          apply UInt8.toNat_inj.1
          have : (bs[s].toNat : Int) = 0 := h0
          show bs[s].toNat = 0
          omega
        simp [this]
    · obtain rfl : s = bs.length := by omega
      rw [List.take_length] at hz
      refine ⟨?_, rfl⟩
      unfold handL
      rw [if_neg h8, hz]
      rfl
open W (OwnB)
abbrev Q0k.J1 (ao : Int) (ah : Option Addr) (al : Int) (an : Option Addr) (am ai : Nat) (ak : Option Addr) (ag aj : Nat) (R : RW) (ae : World) : Prop :=
 Calls Try.prog 38 #[.pointer ah, .agg #[.int .u64 0, .int .i64 6, .slice an am ai, .slice ak ag aj, .int .u64 al, .int .u64 0]] ae fun ad ac => ∃ (a4 : Int), ad = .returned (.int .u64 a4) ∧
 Calls Try.prog 76 #[.int .u64 a4] ac fun ab aa => ∃ (a2 : Option Addr) (a1 a0 : Nat), ab = .returned (.slice a2 a1 a0) ∧
 Calls Try.prog 78 #[.int .i64 ao] aa fun a9 af => ∃ (a3 : Int), a9 = .returned (.int .i64 a3) ∧
 ∃ (a7 : Option Addr) (a8 a6 : Nat) (a5 : World), (Builtin.append_ #[25, 3] 25 #[.slice a2 a1 a0, .int .i64 a3]).run Try.prog af = .ok (.slice a7 a8 a6) a5 ∧
 R (.tuple #[.slice a7 a8 a6, .int .i64 0]) a5

abbrev Q0k.J2 (a5 : Option Addr) (a7 : Int) (a6 : Option Addr) (aa a9 : Nat) (a8 : Option Addr) (a4 ab : Nat) (R : RW) (a3 : World) : Prop :=
 Calls Try.prog 77 #[.int .i64 (a4 : Int)] a3 fun a2 a1 => ∃ (a0 : Int), a2 = .returned (.int .i64 a0) ∧
 bif decide (a0 < 0) then (
 R (.tuple #[.slice none 0 0, .int .i64 3]) a1) else (
 Q0k.J1 a0 a5 a7 a6 aa a9 a8 a4 ab R a1)

def Q0k.M (o1 : Option Addr) (a9 : Int) (a0 : Option Addr) (a1 a5 : Nat) (a4 : Option Addr) (a2 a3 : Nat) (R : RW) (w : World) : Prop :=
 Calls Try.prog 75 #[.pointer o1, .int .u64 a9, .int .i64 2] w fun ab a8 => ∃ (H5 a6 : Int) (ai : Option Addr) (aj ae : Nat) (ad : Option Addr) (af ah : Nat) (N9 ag : Int) (a7 : Bool), ab = .returned (.tuple #[.agg #[.int .u64 H5, .int .i64 a6, .slice ai aj ae, .slice ad af ah, .int .u64 N9, .int .u64 ag], .bool a7]) ∧
 thenW (a8.alloc (.cells #[.int .u64 0, .int .i64 0, .slice none 0 0, .slice none 0 0, .int .u64 0, .int .u64 0] 106)) fun ac =>
 putsK ac (blk a8.heap.size) [.int .u64 H5, .int .i64 a6, .slice ai aj ae, .slice ad af ah, .int .u64 N9, .int .u64 ag] 0 fun aa =>
 bif !a7 then (
 R (.tuple #[.slice none 0 0, .int .i64 11]) aa) else (
 Q0k.J2 o1 a9 a0 a1 a5 a4 a2 a3 R aa)

theorem Q0k.ok (o1 : Option Addr) (a6 : Int) (a5 : Option Addr) (a0 a4 : Nat) (a3 : Option Addr) (a1 a2 : Nat) {R : RW} {w : World} (h : Q0k.M o1 a6 a5 a0 a4 a3 a1 a2 R w) : Calls Try.prog 47 #[.pointer o1, .int .u64 a6, .slice a5 a0 a4, .slice a3 a1 a2] w fun e w' => ∃ v, e = .returned v ∧ R v w' :=
  Q0i follows (H := []) (args := [.pointer o1, .int .u64 a6, .slice a5 a0 a4, .slice a3 a1 a2]) (cast (by kernel_rfl) h)

def Q0k.N (o1 : Option Addr) (ag : Int) (a8 : Option Addr) (a9 ac : Nat) (ab : Option Addr) (a4 aa : Nat) (R : RW) (w : World) : Prop :=
 Calls Try.prog 75 #[.pointer o1, .int .u64 ag, .int .i64 2] w fun am ae => ∃ (H5 af : Int) (b1 : Option Addr) (b2 ax : Nat) (aw : Option Addr) (ay az : Nat) (N9 b0 : Int) (a7 : Bool), am = .returned (.tuple #[.agg #[.int .u64 H5, .int .i64 af, .slice b1 b2 ax, .slice aw ay az, .int .u64 N9, .int .u64 b0], .bool a7]) ∧
 (a7 = false →
 ∀ (a6 : World), Ext no ae a6 →
 R (.tuple #[.slice none 0 0, .int .i64 11]) a6) ∧
 (a7 = true →
 ∀ (a6 : World), Ext no ae a6 →
 Calls Try.prog 77 #[.int .i64 (a4 : Int)] a6 fun au al => ∃ (a0 : Int), au = .returned (.int .i64 a0) ∧
 (a0 < 0 →
 R (.tuple #[.slice none 0 0, .int .i64 3]) al) ∧
 ((0 : Int) ≤ a0 →
 Calls Try.prog 38 #[.pointer o1, .agg #[.int .u64 0, .int .i64 6, .slice a8 a9 ac, .slice ab a4 aa, .int .u64 ag, .int .u64 0]] al fun ar an => ∃ (ad : Int), ar = .returned (.int .u64 ad) ∧
 Calls Try.prog 76 #[.int .u64 ad] an fun aq ap => ∃ (a2 : Option Addr) (a3 a1 : Nat), aq = .returned (.slice a2 a3 a1) ∧
 Calls Try.prog 78 #[.int .i64 a0] ap fun av ao => ∃ (a5 : Int), av = .returned (.int .i64 a5) ∧
 ∃ (ak : Option Addr) (aj ah : Nat) (ai : World), (Builtin.append_ #[25, 3] 25 #[.slice a2 a3 a1, .int .i64 a5]).run Try.prog ao = .ok (.slice ak aj ah) ai ∧
 R (.tuple #[.slice ak aj ah, .int .i64 0]) ai))

theorem Q0k.up (o1 : Option Addr) (ae : Int) (a0 : Option Addr) (a1 a5 : Nat) (a4 : Option Addr) (a2 a3 : Nat) {R : RW} {w : World} (h : Q0k.N o1 ae a0 a1 a5 a4 a2 a3 R w) : Q0k.M o1 ae a0 a1 a5 a4 a2 a3 R w := by
  unfold Q0k.M
  unfold Q0k.N at h
  refine h.mono fun b0 ab h => ?_
  obtain ⟨H5, aa, aw, az, aq, ap, ar, au, N9, av, ag, he, h⟩ := h
  refine ⟨H5, aa, aw, az, aq, ap, ar, au, N9, av, ag, he, ?_⟩
  refine Q01 fun b4 ay => ?_
  have ax := Blk.of_new ay
  have b1 := ((Ext.refl no ab)).size
  have ai := (Ext.refl no ab).x_alloc ay
  refine Q0p (k := 0) (j := 0) ax (Nat.le_of_ble_eq_true rfl) fun ad b5 b7 => ?_
  have af := ai.x_puts b5 (.inr b1)
  have ax : Blk ad ab.heap.size 106 [.int .u64 H5, .int .i64 aa, .slice aw az aq, .slice ap ar au, .int .u64 N9, .int .u64 av] := b7
  refine bif_of (fun ak => ?_) (fun ak => ?_)
  ·have h := h.1 (not_t ak)
   have h := h ad af
   exact h
  have h := h.2 (not_f ak)
  unfold Q0k.J2
  have h := h ad af
  refine h.mono fun bb b2 h => ?_
  obtain ⟨a7, he, h⟩ := h
  refine ⟨a7, he, ?_⟩
  refine bif_of (fun an => ?_) (fun an => ?_)
  ·have h := h.1 (of_decide_eq_true an)
   exact h
  have h := h.2 (Int.not_lt.1 (of_decide_eq_false an))
  unfold Q0k.J1
  refine h.mono fun ba b3 h => ?_
  obtain ⟨ah, he, h⟩ := h
  refine ⟨ah, he, ?_⟩
  refine h.mono fun b9 b8 h => ?_
  obtain ⟨a8, a9, a6, he, h⟩ := h
  refine ⟨a8, a9, a6, he, ?_⟩
  refine h.mono fun bc b6 h => ?_
  obtain ⟨ac, he, h⟩ := h
  refine ⟨ac, he, ?_⟩
  obtain ⟨ao, am, aj, al, hr, h⟩ := h
  refine ⟨ao, am, aj, al, hr, ?_⟩
  exact h

theorem Q0k.go (o1 : Option Addr) (a6 : Int) (a5 : Option Addr) (a0 a4 : Nat) (a3 : Option Addr) (a1 a2 : Nat) {R : RW} {w : World} (h : Q0k.N o1 a6 a5 a0 a4 a3 a1 a2 R w) : Calls Try.prog 47 #[.pointer o1, .int .u64 a6, .slice a5 a0 a4, .slice a3 a1 a2] w fun e w' => ∃ v, e = .returned v ∧ R v w' := Q0k.ok o1 a6 a5 a0 a4 a3 a1 a2 (Q0k.up o1 a6 a5 a0 a4 a3 a1 a2 h)
def Q0B.M (o1 : Option Addr) (au : Int) (a6 : Option Addr) (a7 a8 : Nat) (b5 : Option Addr) (b4 b8 : Nat) (R : RW) (w : World) : Prop :=
 Calls Try.prog 87 #[.slice b5 b4 b8] w fun b7 b6 => ∃ (a1 : Int), b7 = .returned (.int .u64 a1) ∧
 Calls Try.prog 75 #[.pointer o1, .int .u64 a1, .int .i64 6] b6 fun av a2 => ∃ (H8 aa : Int) (aj : Option Addr) (ai an : Nat) (ag : Option Addr) (am ap : Nat) (b1 b2 : Int) (a9 : Bool), av = .returned (.tuple #[.agg #[.int .u64 H8, .int .i64 aa, .slice aj ai an, .slice ag am ap, .int .u64 b1, .int .u64 b2], .bool a9]) ∧
 thenW (a2.alloc (.cells #[.int .u64 0, .int .i64 0, .slice none 0 0, .slice none 0 0, .int .u64 0, .int .u64 0] 106)) fun b0 =>
 putsK b0 (blk a2.heap.size) [.int .u64 H8, .int .i64 aa, .slice aj ai an, .slice ag am ap, .int .u64 b1, .int .u64 b2] 0 fun ab =>
 bif !a9 then (
 R (.tuple #[.slice none 0 0, .int .i64 4]) ab) else (
 ∃ (az : Option Addr) (af ay : Nat), ab.cell? ((blk a2.heap.size).add 3) = some (.slice az af ay) ∧
 Calls Try.prog 77 #[.int .i64 (af : Int)] ab fun aq ar => ∃ (a0 : Int), aq = .returned (.int .i64 a0) ∧
 Calls Try.prog 78 #[.int .i64 a0] ar fun ax a4 => ∃ (a3 : Int), ax = .returned (.int .i64 a3) ∧
 bif (b4 : Int) != (IntKind.i64.wrap ((8 : Int) + a3)) then (
 R (.tuple #[.slice none 0 0, .int .i64 4]) a4) else (
 ∃ (b3 : Int), a4.cell? ((blk a2.heap.size).add 4) = some (.int .u64 b3) ∧
 bif b3 != au then (
 R (.tuple #[.slice none 0 0, .int .i64 11]) a4) else (
 ∃ (ad : Option Addr) (ae ah : Nat), a4.cell? ((blk a2.heap.size).add 2) = some (.slice ad ae ah) ∧
 Calls Try.prog 10 #[.slice ad ae ah, .slice a6 a7 a8] a4 fun aw ac => ∃ (a5 : Bool), aw = .returned (.bool a5) ∧
 bif !a5 then (
 R (.tuple #[.slice none 0 0, .int .i64 5]) ac) else (
 ∃ (ao : Option Addr) (ak al : Nat), ac.cell? ((blk a2.heap.size).add 3) = some (.slice ao ak al) ∧
 R (.tuple #[.slice ao ak al, .int .i64 0]) ac))))

theorem Q0B.ok (o1 : Option Addr) (a3 : Int) (a2 : Option Addr) (a0 a1 : Nat) (a5 : Option Addr) (a4 a6 : Nat) {R : RW} {w : World} (h : Q0B.M o1 a3 a2 a0 a1 a5 a4 a6 R w) : Calls Try.prog 63 #[.pointer o1, .int .u64 a3, .slice a2 a0 a1, .slice a5 a4 a6] w fun e w' => ∃ v, e = .returned v ∧ R v w' :=
  Q0i follows (H := []) (args := [.pointer o1, .int .u64 a3, .slice a2 a0 a1, .slice a5 a4 a6]) (cast (by kernel_rfl) h)

def Q0B.N (o1 : Option Addr) (ah : Int) (a7 : Option Addr) (a8 a9 : Nat) (au : Option Addr) (ao ay : Nat) (R : RW) (w : World) : Prop :=
 Calls Try.prog 87 #[.slice au ao ay] w fun ax av => ∃ (a4 : Int), ax = .returned (.int .u64 a4) ∧
 Calls Try.prog 75 #[.pointer o1, .int .u64 a4, .int .i64 6] av fun an aa => ∃ (H8 ai : Int) (ag : Option Addr) (af aj : Nat) (ae : Option Addr) (ac ak : Nat) (am aw : Int) (a6 : Bool), an = .returned (.tuple #[.agg #[.int .u64 H8, .int .i64 ai, .slice ag af aj, .slice ae ac ak, .int .u64 am, .int .u64 aw], .bool a6]) ∧
 (a6 = false →
 ∀ (a3 : World), Ext no aa a3 →
 R (.tuple #[.slice none 0 0, .int .i64 4]) a3) ∧
 (a6 = true →
 ∀ (a3 : World) (al : Nat), Ext no aa a3 → Priv aa a3 [al] →
 Calls Try.prog 77 #[.int .i64 (ac : Int)] a3 fun aq ad => ∃ (a1 : Int), aq = .returned (.int .i64 a1) ∧
 Keep [al] a3 ad ∧
 Calls Try.prog 78 #[.int .i64 a1] ad fun ar a5 => ∃ (a0 : Int), ar = .returned (.int .i64 a0) ∧
 Keep [al] ad a5 ∧
 (-9223372036854775808 : Int) ≤ ((8 : Int) + a0) ∧ ((8 : Int) + a0) < 9223372036854775808 ∧
 ((ao : Int) ≠ ((8 : Int) + a0) →
 R (.tuple #[.slice none 0 0, .int .i64 4]) a5) ∧
 ((ao : Int) = ((8 : Int) + a0) →
 (am ≠ ah →
 R (.tuple #[.slice none 0 0, .int .i64 11]) a5) ∧
 (am = ah →
 Calls Try.prog 10 #[.slice ag af aj, .slice a7 a8 a9] a5 fun ap ab => ∃ (a2 : Bool), ap = .returned (.bool a2) ∧
 Keep [al] a5 ab ∧
 (a2 = false →
 R (.tuple #[.slice none 0 0, .int .i64 5]) ab) ∧
 (a2 = true →
 R (.tuple #[.slice ae ac ak, .int .i64 0]) ab))))

theorem Q0B.up (o1 : Option Addr) (aj : Int) (a0 : Option Addr) (a1 a2 : Nat) (ar : Option Addr) (ax aw : Nat) {R : RW} {w : World} (h : Q0B.N o1 aj a0 a1 a2 ar ax aw R w) : Q0B.M o1 aj a0 a1 a2 ar ax aw R w := by
  unfold Q0B.M
  unfold Q0B.N at h
  refine h.mono fun bb ba h => ?_
  obtain ⟨a7, he, h⟩ := h
  refine ⟨a7, he, ?_⟩
  refine h.mono fun b2 a6 h => ?_
  obtain ⟨H8, aa, ac, ab, ag, a5, a8, a9, am, av, ai, he, h⟩ := h
  refine ⟨H8, aa, ac, ab, ag, a5, a8, a9, am, av, ai, he, ?_⟩
  refine Q01 fun b6 au => ?_
  have a3 := Blk.of_new au
  have aq := ((Ext.refl no a6)).size
  have ao := (Ext.refl no a6).x_alloc au
  refine Q0p (k := 0) (j := 0) a3 (Nat.le_of_ble_eq_true rfl) fun af b8 b0 => ?_
  have ah := ao.x_puts b8 (.inr aq)
  have a3 : Blk af a6.heap.size 106 [.int .u64 H8, .int .i64 aa, .slice ac ab ag, .slice a5 a8 a9, .int .u64 am, .int .u64 av] := b0
  refine bif_of (fun an => ?_) (fun an => ?_)
  ·have h := h.1 (not_t an)
   have h := h af ah
   exact h
  have h := h.2 (not_f an)
  refine ⟨a5, a8, a9, a3.celli 3 rfl rfl, ?_⟩
  have h := h af (a6.heap.size) ah (Priv.cons aq a3.lt Priv.nil)
  refine h.mono fun b5 b9 h => ?_
  obtain ⟨a4, he, hk, h⟩ := h
  refine ⟨a4, he, ?_⟩
  have a3 := hk.blk a3 (by simp)
  refine h.mono fun b7 az h => ?_
  obtain ⟨ad, he, hk, h⟩ := h
  refine ⟨ad, he, ?_⟩
  have a3 := hk.blk a3 (by simp)
  obtain ⟨b3, b1, h⟩ := h
  try rw [w64 b3 b1]
  refine bif_of (fun al => ?_) (fun al => ?_)
  ·have h := h.1 (bne_t al)
   exact h
  have h := h.2 (bne_f al)
  refine ⟨am, a3.celli 4 rfl rfl, ?_⟩
  refine bif_of (fun ap => ?_) (fun ap => ?_)
  ·have h := h.1 (bne_t ap)
   exact h
  have h := h.2 (bne_f ap)
  refine ⟨ac, ab, ag, a3.celli 2 rfl rfl, ?_⟩
  refine h.mono fun b4 ay h => ?_
  obtain ⟨ae, he, hk, h⟩ := h
  refine ⟨ae, he, ?_⟩
  have a3 := hk.blk a3 (by simp)
  refine bif_of (fun ak => ?_) (fun ak => ?_)
  ·have h := h.1 (not_t ak)
   exact h
  have h := h.2 (not_f ak)
  refine ⟨a5, a8, a9, a3.celli 3 rfl rfl, ?_⟩
  exact h

theorem Q0B.go (o1 : Option Addr) (a3 : Int) (a2 : Option Addr) (a0 a1 : Nat) (a5 : Option Addr) (a4 a6 : Nat) {R : RW} {w : World} (h : Q0B.N o1 a3 a2 a0 a1 a5 a4 a6 R w) : Calls Try.prog 63 #[.pointer o1, .int .u64 a3, .slice a2 a0 a1, .slice a5 a4 a6] w fun e w' => ∃ v, e = .returned v ∧ R v w' := Q0B.ok o1 a3 a2 a0 a1 a5 a4 a6 (Q0B.up o1 a3 a2 a0 a1 a5 a4 a6 h)
abbrev Q0j.J1 (af : Option Addr) (ae ad : Int) (R : RW) (a9 : World) : Prop :=
 Calls Try.prog 38 #[.pointer af, .agg #[.int .u64 0, .int .i64 7, .slice none 0 0, .slice none 0 0, .int .u64 ae, .int .u64 ad]] a9 fun aa ac => ∃ (a3 : Int), aa = .returned (.int .u64 a3) ∧
 Calls Try.prog 76 #[.int .u64 a3] ac fun ab a8 => ∃ (a0 : Option Addr) (a1 a2 : Nat), ab = .returned (.slice a0 a1 a2) ∧
 ∃ (a5 : Option Addr) (a7 a4 : Nat) (a6 : World), (Builtin.append_ #[25, 3] 25 #[.slice a0 a1 a2, .int .i64 8]).run Try.prog a8 = .ok (.slice a5 a7 a4) a6 ∧
 R (.tuple #[.slice a5 a7 a4, .int .i64 0]) a6

abbrev Q0j.J2 (ae : Option Addr) (ai ad : Int) (R : RW) (aa : World) : Prop :=
 Calls Try.prog 75 #[.pointer ae, .int .u64 ad, .int .i64 2] aa fun ac a8 => ∃ (ag a0 : Int) (a6 : Option Addr) (a2 a5 : Nat) (a7 : Option Addr) (a4 a3 : Nat) (ah af : Int) (a1 : Bool), ac = .returned (.tuple #[.agg #[.int .u64 ag, .int .i64 a0, .slice a6 a2 a5, .slice a7 a4 a3, .int .u64 ah, .int .u64 af], .bool a1]) ∧
 thenW (a8.alloc (.cells #[.int .u64 0, .int .i64 0, .slice none 0 0, .slice none 0 0, .int .u64 0, .int .u64 0] 106)) fun ab =>
 putsK ab (blk a8.heap.size) [.int .u64 ag, .int .i64 a0, .slice a6 a2 a5, .slice a7 a4 a3, .int .u64 ah, .int .u64 af] 0 fun a9 =>
 bif !a1 then (
 R (.tuple #[.slice none 0 0, .int .i64 11]) a9) else (
 Q0j.J1 ae ai ad R a9)

def Q0j.M (o1 : Option Addr) (a0 a5 : Int) (R : RW) (w : World) : Prop :=
 Calls Try.prog 75 #[.pointer o1, .int .u64 a0, .int .i64 4] w fun a6 a4 => ∃ (H4 a1 : Int) (aa : Option Addr) (ab ad : Nat) (a8 : Option Addr) (a9 ac : Nat) (N8 M9 : Int) (a2 : Bool), a6 = .returned (.tuple #[.agg #[.int .u64 H4, .int .i64 a1, .slice aa ab ad, .slice a8 a9 ac, .int .u64 N8, .int .u64 M9], .bool a2]) ∧
 thenW (a4.alloc (.cells #[.int .u64 0, .int .i64 0, .slice none 0 0, .slice none 0 0, .int .u64 0, .int .u64 0] 106)) fun a7 =>
 putsK a7 (blk a4.heap.size) [.int .u64 H4, .int .i64 a1, .slice aa ab ad, .slice a8 a9 ac, .int .u64 N8, .int .u64 M9] 0 fun a3 =>
 bif !a2 then (
 R (.tuple #[.slice none 0 0, .int .i64 20]) a3) else (
 Q0j.J2 o1 a0 a5 R a3)

theorem Q0j.ok (o1 : Option Addr) (a0 a1 : Int) {R : RW} {w : World} (h : Q0j.M o1 a0 a1 R w) : Calls Try.prog 46 #[.pointer o1, .int .u64 a0, .int .u64 a1] w fun e w' => ∃ v, e = .returned v ∧ R v w' :=
  Q0i follows (H := []) (args := [.pointer o1, .int .u64 a0, .int .u64 a1]) (cast (by kernel_rfl) h)

def Q0j.N (o1 : Option Addr) (a1 aa : Int) (R : RW) (w : World) : Prop :=
 Calls Try.prog 75 #[.pointer o1, .int .u64 a1, .int .i64 4] w fun aj ad => ∃ (H4 ac : Int) (b2 : Option Addr) (b3 b0 : Nat) (aw : Option Addr) (b1 ay : Nat) (N8 M9 : Int) (a4 : Bool), aj = .returned (.tuple #[.agg #[.int .u64 H4, .int .i64 ac, .slice b2 b3 b0, .slice aw b1 ay, .int .u64 N8, .int .u64 M9], .bool a4]) ∧
 (a4 = false →
 ∀ (a5 : World), Ext no ad a5 →
 R (.tuple #[.slice none 0 0, .int .i64 20]) a5) ∧
 (a4 = true →
 ∀ (a5 : World), Ext no ad a5 →
 Calls Try.prog 75 #[.pointer o1, .int .u64 aa, .int .i64 2] a5 fun aq af => ∃ (ax a9 : Int) (al : Option Addr) (av an : Nat) (ap : Option Addr) (ai ao : Nat) (b4 az : Int) (a6 : Bool), aq = .returned (.tuple #[.agg #[.int .u64 ax, .int .i64 a9, .slice al av an, .slice ap ai ao, .int .u64 b4, .int .u64 az], .bool a6]) ∧
 (a6 = false →
 ∀ (a7 : World), Ext no af a7 →
 R (.tuple #[.slice none 0 0, .int .i64 11]) a7) ∧
 (a6 = true →
 ∀ (a7 : World), Ext no af a7 →
 Calls Try.prog 38 #[.pointer o1, .agg #[.int .u64 0, .int .i64 7, .slice none 0 0, .slice none 0 0, .int .u64 a1, .int .u64 aa]] a7 fun am au => ∃ (a8 : Int), am = .returned (.int .u64 a8) ∧
 Calls Try.prog 76 #[.int .u64 a8] au fun ak ar => ∃ (a0 : Option Addr) (a3 a2 : Nat), ak = .returned (.slice a0 a3 a2) ∧
 ∃ (ag : Option Addr) (ah ae : Nat) (ab : World), (Builtin.append_ #[25, 3] 25 #[.slice a0 a3 a2, .int .i64 8]).run Try.prog ar = .ok (.slice ag ah ae) ab ∧
 R (.tuple #[.slice ag ah ae, .int .i64 0]) ab))

theorem Q0j.up (o1 : Option Addr) (a0 ab : Int) {R : RW} {w : World} (h : Q0j.N o1 a0 ab R w) : Q0j.M o1 a0 ab R w := by
  unfold Q0j.M
  unfold Q0j.N at h
  refine h.mono fun bb a8 h => ?_
  obtain ⟨H4, a5, b2, b4, az, aw, b1, ay, N8, M9, af, he, h⟩ := h
  refine ⟨H4, a5, b2, b4, az, aw, b1, ay, N8, M9, af, he, ?_⟩
  refine Q01 fun bd b6 => ?_
  have b8 := Blk.of_new b6
  have b9 := ((Ext.refl no a8)).size
  have av := (Ext.refl no a8).x_alloc b6
  refine Q0p (k := 0) (j := 0) b8 (Nat.le_of_ble_eq_true rfl) fun a6 bk ba => ?_
  have ai := av.x_puts bk (.inr b9)
  have b8 : Blk a6 a8.heap.size 106 [.int .u64 H4, .int .i64 a5, .slice b2 b4 az, .slice aw b1 ay, .int .u64 N8, .int .u64 M9] := ba
  refine bif_of (fun aq => ?_) (fun aq => ?_)
  ·have h := h.1 (not_t aq)
   have h := h a6 ai
   exact h
  have h := h.2 (not_f aq)
  unfold Q0j.J2
  have h := h a6 ai
  refine h.mono fun bh a9 h => ?_
  obtain ⟨ax, a1, ae, al, ah, ak, ac, aj, b5, b0, ag, he, h⟩ := h
  refine ⟨ax, a1, ae, al, ah, ak, ac, aj, b5, b0, ag, he, ?_⟩
  refine Q01 fun bg b7 => ?_
  have b3 := Blk.of_new b7
  have bl := ((Ext.refl no a9)).size
  have an := (Ext.refl no a9).x_alloc b7
  refine Q0p (k := 0) (j := 0) b3 (Nat.le_of_ble_eq_true rfl) fun a7 bm bf => ?_
  have aa := an.x_puts bm (.inr bl)
  have b3 : Blk a7 a9.heap.size 106 [.int .u64 ax, .int .i64 a1, .slice ae al ah, .slice ak ac aj, .int .u64 b5, .int .u64 b0] := bf
  refine bif_of (fun ao => ?_) (fun ao => ?_)
  ·have h := h.1 (not_t ao)
   have h := h a7 aa
   exact h
  have h := h.2 (not_f ao)
  unfold Q0j.J1
  have h := h a7 aa
  refine h.mono fun be bj h => ?_
  obtain ⟨ad, he, h⟩ := h
  refine ⟨ad, he, ?_⟩
  refine h.mono fun bc bi h => ?_
  obtain ⟨a2, a4, a3, he, h⟩ := h
  refine ⟨a2, a4, a3, he, ?_⟩
  obtain ⟨ar, au, ap, am, hr, h⟩ := h
  refine ⟨ar, au, ap, am, hr, ?_⟩
  exact h

theorem Q0j.go (o1 : Option Addr) (a0 a1 : Int) {R : RW} {w : World} (h : Q0j.N o1 a0 a1 R w) : Calls Try.prog 46 #[.pointer o1, .int .u64 a0, .int .u64 a1] w fun e w' => ∃ v, e = .returned v ∧ R v w' := Q0j.ok o1 a0 a1 (Q0j.up o1 a0 a1 h)
abbrev Q0h.J1 (ai : Addr) (ak : Option Addr) (al : Int) (R : RW) (a4 : World) : Prop :=
 ∃ (af : Int), a4.cell? (ai.add 4) = some (.int .u64 af) ∧
 Calls Try.prog 75 #[.pointer ak, .int .u64 af, .int .i64 4] a4 fun ab a2 => ∃ (ag a0 : Int) (a3 : Option Addr) (a8 a9 : Nat) (a7 : Option Addr) (a5 a6 : Nat) (ad ae : Int) (aa : Bool), ab = .returned (.tuple #[.agg #[.int .u64 ag, .int .i64 a0, .slice a3 a8 a9, .slice a7 a5 a6, .int .u64 ad, .int .u64 ae], .bool aa]) ∧
 thenW (a2.alloc (.cells #[.int .u64 0, .int .i64 0, .slice none 0 0, .slice none 0 0, .int .u64 0, .int .u64 0] 106)) fun ac =>
 putsK ac (blk a2.heap.size) [.int .u64 ag, .int .i64 a0, .slice a3 a8 a9, .slice a7 a5 a6, .int .u64 ad, .int .u64 ae] 0 fun a1 =>
 ∃ (ah : Int), a1.cell? ((blk a2.heap.size).add 4) = some (.int .u64 ah) ∧
 bif ah != al then (
 R (.tuple #[.int .u64 0, .int .i64 11]) a1) else (
 ∃ (aj : Int), a1.cell? (ai.add 5) = some (.int .u64 aj) ∧
 R (.tuple #[.int .u64 aj, .int .i64 0]) a1)

def Q0h.M (o1 : Option Addr) (a1 : Int) (aj : Option Addr) (ag ah : Nat) (R : RW) (w : World) : Prop :=
 Calls Try.prog 87 #[.slice aj ag ah] w fun ak ai => ∃ (a0 : Int), ak = .returned (.int .u64 a0) ∧
 Calls Try.prog 75 #[.pointer o1, .int .u64 a0, .int .i64 7] ai fun aa a4 => ∃ (H7 a3 : Int) (ab : Option Addr) (ad ae : Nat) (a6 : Option Addr) (a7 a8 : Nat) (ac af : Int) (a2 : Bool), aa = .returned (.tuple #[.agg #[.int .u64 H7, .int .i64 a3, .slice ab ad ae, .slice a6 a7 a8, .int .u64 ac, .int .u64 af], .bool a2]) ∧
 thenW (a4.alloc (.cells #[.int .u64 0, .int .i64 0, .slice none 0 0, .slice none 0 0, .int .u64 0, .int .u64 0] 106)) fun a9 =>
 putsK a9 (blk a4.heap.size) [.int .u64 H7, .int .i64 a3, .slice ab ad ae, .slice a6 a7 a8, .int .u64 ac, .int .u64 af] 0 fun a5 =>
 bif !a2 then (
 R (.tuple #[.int .u64 0, .int .i64 4]) a5) else (
 bif (ag : Int) != 16 then (
 R (.tuple #[.int .u64 0, .int .i64 4]) a5) else (
 Q0h.J1 (blk a4.heap.size) o1 a1 R a5))

theorem Q0h.ok (o1 : Option Addr) (a0 : Int) (a3 : Option Addr) (a1 a2 : Nat) {R : RW} {w : World} (h : Q0h.M o1 a0 a3 a1 a2 R w) : Calls Try.prog 62 #[.pointer o1, .int .u64 a0, .slice a3 a1 a2] w fun e w' => ∃ v, e = .returned v ∧ R v w' :=
  Q0i follows (H := []) (args := [.pointer o1, .int .u64 a0, .slice a3 a1 a2]) (cast (by kernel_rfl) h)

def Q0h.N (o1 : Option Addr) (a2 : Int) (aw : Option Addr) (ah ar : Nat) (R : RW) (w : World) : Prop :=
 Calls Try.prog 87 #[.slice aw ah ar] w fun b0 av => ∃ (a1 : Int), b0 = .returned (.int .u64 a1) ∧
 Calls Try.prog 75 #[.pointer o1, .int .u64 a1, .int .i64 7] av fun af a5 => ∃ (H7 a8 : Int) (aq : Option Addr) (ax az : Nat) (aa : Option Addr) (ae ai : Nat) (an ap : Int) (a3 : Bool), af = .returned (.tuple #[.agg #[.int .u64 H7, .int .i64 a8, .slice aq ax az, .slice aa ae ai, .int .u64 an, .int .u64 ap], .bool a3]) ∧
 (a3 = false →
 ∀ (a0 : World), Ext no a5 a0 →
 R (.tuple #[.int .u64 0, .int .i64 4]) a0) ∧
 (a3 = true →
 ((ah : Int) ≠ 16 →
 ∀ (a0 : World), Ext no a5 a0 →
 R (.tuple #[.int .u64 0, .int .i64 4]) a0) ∧
 ((ah : Int) = 16 →
 ∀ (a0 : World) (ao : Nat), Ext no a5 a0 → Priv a5 a0 [ao] →
 Calls Try.prog 75 #[.pointer o1, .int .u64 an, .int .i64 4] a0 fun al a7 => ∃ (au a6 : Int) (ab : Option Addr) (ac am : Nat) (ak : Option Addr) (ad aj : Nat) (ag ay : Int) (a9 : Bool), al = .returned (.tuple #[.agg #[.int .u64 au, .int .i64 a6, .slice ab ac am, .slice ak ad aj, .int .u64 ag, .int .u64 ay], .bool a9]) ∧
 Keep [ao] a0 a7 ∧
 (ag ≠ a2 →
 ∀ (a4 : World), Ext no a7 a4 →
 R (.tuple #[.int .u64 0, .int .i64 11]) a4) ∧
 (ag = a2 →
 ∀ (a4 : World), Ext no a7 a4 →
 R (.tuple #[.int .u64 ap, .int .i64 0]) a4)))

theorem Q0h.up (o1 : Option Addr) (a0 : Int) (b4 : Option Addr) (b9 b2 : Nat) {R : RW} {w : World} (h : Q0h.N o1 a0 b4 b9 b2 R w) : Q0h.M o1 a0 b4 b9 b2 R w := by
  unfold Q0h.M
  unfold Q0h.N at h
  refine h.mono fun bj bi h => ?_
  obtain ⟨a3, he, h⟩ := h
  refine ⟨a3, he, ?_⟩
  refine h.mono fun bc a4 h => ?_
  obtain ⟨H7, a6, b1, b5, b8, ab, ag, al, ap, ax, ah, he, h⟩ := h
  refine ⟨H7, a6, b1, b5, b8, ab, ag, al, ap, ax, ah, he, ?_⟩
  refine Q01 fun ba b6 => ?_
  have a1 := Blk.of_new b6
  have az := ((Ext.refl no a4)).size
  have aq := (Ext.refl no a4).x_alloc b6
  refine Q0p (k := 0) (j := 0) a1 (Nat.le_of_ble_eq_true rfl) fun a5 be bd => ?_
  have a8 := aq.x_puts be (.inr az)
  have a1 : Blk a5 a4.heap.size 106 [.int .u64 H7, .int .i64 a6, .slice b1 b5 b8, .slice ab ag al, .int .u64 ap, .int .u64 ax] := bd
  refine bif_of (fun an => ?_) (fun an => ?_)
  ·have h := h.1 (not_t an)
   have h := h a5 a8
   exact h
  have h := h.2 (not_f an)
  refine bif_of (fun ao => ?_) (fun ao => ?_)
  ·have h := h.1 (bne_t ao)
   have h := h a5 a8
   exact h
  have h := h.2 (bne_f ao)
  unfold Q0h.J1
  refine ⟨ap, a1.celli 4 rfl rfl, ?_⟩
  have h := h a5 (a4.heap.size) a8 (Priv.cons az a1.lt Priv.nil)
  refine h.mono fun bg a7 h => ?_
  obtain ⟨b3, a2, ac, ae, am, ak, af, aj, au, b7, aa, he, hk, h⟩ := h
  refine ⟨b3, a2, ac, ae, am, ak, af, aj, au, b7, aa, he, ?_⟩
  have a1 := hk.blk a1 (by simp)
  refine Q01 fun bb av => ?_
  have ar := Blk.of_new av
  have bh := ((Ext.refl no a7)).size
  have ai := Nat.ne_of_lt a1.lt
  have a1 := a1.x_alloc av
  have aw := (Ext.refl no a7).x_alloc av
  refine Q0p (k := 0) (j := 0) ar (Nat.le_of_ble_eq_true rfl) fun a9 b0 bf => ?_
  have ad := aw.x_puts b0 (.inr bh)
  have a1 := a1.x_puts b0 ai
  have ar : Blk a9 a7.heap.size 106 [.int .u64 b3, .int .i64 a2, .slice ac ae am, .slice ak af aj, .int .u64 au, .int .u64 b7] := bf
  refine ⟨au, ar.celli 4 rfl rfl, ?_⟩
  refine bif_of (fun ay => ?_) (fun ay => ?_)
  ·have h := h.1 (bne_t ay)
   have h := h a9 ad
   exact h
  have h := h.2 (bne_f ay)
  refine ⟨ax, a1.celli 5 rfl rfl, ?_⟩
  have h := h a9 ad
  exact h

theorem Q0h.go (o1 : Option Addr) (a0 : Int) (a3 : Option Addr) (a1 a2 : Nat) {R : RW} {w : World} (h : Q0h.N o1 a0 a3 a1 a2 R w) : Calls Try.prog 62 #[.pointer o1, .int .u64 a0, .slice a3 a1 a2] w fun e w' => ∃ v, e = .returned v ∧ R v w' := Q0h.ok o1 a0 a3 a1 a2 (Q0h.up o1 a0 a3 a1 a2 h)
theorem Q0h.run (o1 : Option Addr) (a0 : Int) (a3 : Option Addr) (a1 a2 : Nat) {V : Value} {Q : World → Prop} {w : World} (h : Q0h.N o1 a0 a3 a1 a2 (fun v w' => v = V ∧ Q w') w) : Calls Try.prog 62 #[.pointer o1, .int .u64 a0, .slice a3 a1 a2] w (Ret V Q) := (Q0h.go o1 a0 a3 a1 a2 h).mono fun e w' ⟨v, he, hv, hq⟩ => ⟨by rw [he, hv], hq⟩

def sealR (d : List Int) (L : List RRow) (k : Int) (b p : List UInt8) : (List UInt8 × Int) × List Int × List RRow :=
  match isR L k 2 with
  | none => (([], 11), d, L)
  | some _ => if classOf p.length < 0 then (([], 3), d, L) else
    ((boxL (putR d L ⟨0, 6, b, p, k, 0⟩).1.toNat (sizeN (classOf p.length)), 0), (putR d L ⟨0, 6, b, p, k, 0⟩).2)
def openR (L : List RRow) (k : Int) (b x : List UInt8) : List UInt8 × Int :=
  match isR L (handL x) 6 with
  | none => ([], 4)
  | some r => if x.length ≠ 8 + sizeN (classOf r.B.length) then ([], 4) else if r.n ≠ k then ([], 11) else if r.A ≠ b then ([], 5) else (r.B, 0)
def wrapR (d : List Int) (L : List RRow) (p k : Int) : (List UInt8 × Int) × List Int × List RRow :=
  match isR L p 4 with
  | none => (([], 20), d, L)
  | some _ => match isR L k 2 with
    | none => (([], 11), d, L)
    | some _ => ((boxL (putR d L ⟨0, 7, [], [], p, k⟩).1.toNat 8, 0), (putR d L ⟨0, 7, [], [], p, k⟩).2)
def unwrapR (L : List RRow) (s : Int) (x : List UInt8) : Int × Int :=
  match isR L (handL x) 7 with
  | none => (0, 4)
  | some r => if x.length ≠ 16 then (0, 4) else if ((isR L r.n 4).map RRow.n).getD 0 ≠ s then (0, 11) else (r.m, 0)
theorem Q3Y {d used : List Int} (hd : ∀ x ∈ d, 0 ≤ x ∧ x < 18446744073709551616) (hu : used.length < 1000000) : 0 ≤ (freshR d used).1 ∧ (freshR d used).1 < 18446744073709551616 := by
  unfold freshR
  cases hp : pickD d used with
  | some q => obtain ⟨x, r⟩ := q; exact hd x (Q2l hp).2.2
  | none =>
    obtain ⟨a, b, _⟩ := Q1q used (used.length + 1) 1 (Int.le_refl _) (gap used _ _ (by omega))
    exact ⟨by show 0 ≤ pickN _ _ _; omega, by show pickN _ _ _ < _; omega⟩
theorem Q4z (h m : Nat) : boxL h m = boxL h 0 ++ List.replicate m 0 := by rw [boxL_eq, boxL_eq]; simp
theorem Q64 {c : Int} (h0 : 0 ≤ c) (h7 : c < 7) : 0 < sizeN c := by
  unfold sizeN
  rw [if_pos ⟨h0, h7⟩]
  exact Nat.mul_pos (by decide) (Nat.pow_pos (by decide))
section
variable {w w' : World} {o o' : Own} {k : Nat} {K : Nat → Prop} {d : List Int} {L : List RRow}
def Gb (K : Nat → Prop) (w : World) (o : Own) (r : List UInt8 × Int) (Q : World → Own → Prop) (e : Ending) (w' : World) : Prop := ∃ o' a' c', e = .returned (.tuple #[.slice a' r.1.length c', .int .i64 r.2]) ∧ Step K w o w' o' ∧ Row w' o' a' (bytesV r.1) ∧ r.1.length ≤ c' ∧ Q w' o'
theorem Q5y (h : ROrc w o k d L) (hk : ROk w o d L) (key : Int) {ba pa : Option Addr} {bc pc : Nat} {b p : List UInt8} (hb : Row w o ba (bytesV b)) (hbc : b.length ≤ bc) (hp : Row w o pa (bytesV p)) (hpc : p.length ≤ pc) :
    Calls Try.prog 47 #[.pointer (some (blk k)), .int .u64 key, .slice ba b.length bc, .slice pa p.length pc] w (Gb (fun j => j = k) w o (sealR d L key b p).1 fun w' o' => ROrc w' o' k (sealR d L key b p).2.1 (sealR d L key b p).2.2) := by
  refine (Q0k.go _ _ _ _ _ _ _ _ (R := fun v w' => ∃ o' a' c', v = .tuple #[.slice a' (sealR d L key b p).1.1.length c', .int .i64 (sealR d L key b p).1.2] ∧ Step (fun j => j = k) w o w' o' ∧ Row w' o' a' (bytesV (sealR d L key b p).1.1) ∧ (sealR d L key b p).1.1.length ≤ c' ∧ ROrc w' o' k (sealR d L key b p).2.1 (sealR d L key b p).2.2) ?_).mono fun e w' ⟨v, he, o', a', c', hv, hw⟩ => ⟨o', a', c', by rw [he, hv], hw⟩
  unfold Q0k.N
  obtain ⟨R, hLR, h0⟩ := id h
  have hlen : L.length = R.length := by rw [hLR, List.length_map]
  have hk1 := hk.short
  refine (is_spec h0 hk.tags (by omega) key 2).mono fun e w13 ⟨X13, hor⟩ => ?_
  rw [← hLR] at hor
  have s13 := Step.of_no X13 hk.tags
  rcases hor with ⟨hn, he⟩ | ⟨y, hy, hn, he⟩
  · refine ⟨_, _, _, _, _, _, _, _, _, _, _, he, fun _ w20 X20 => ?_, fun h => (by cases h)⟩
    have s20 := s13.trans (Step.of_no X20 s13.ok)
    have hres : sealR d L key b p = (([], 11), d, L) := by unfold sealR; rw [hn]
    rw [hres]
    exact ⟨_, none, 0, rfl, s20.none, Row.nil _ _ _, Nat.le_refl _, h.step s20 id⟩
  · refine ⟨_, _, _, _, _, _, _, _, _, _, _, he, fun h => (by cases h), fun _ w20 X20 => ?_⟩
    have s20 := s13.trans (Step.of_no X20 s13.ok)
    refine (Q31 p.length w20).mono fun e w26 ⟨he, X26⟩ => ⟨_, he, fun hneg => ?_, fun hpos => ?_⟩
    · have s26 := s20.trans (Step.of_no X26 s20.ok)
      have hres : sealR d L key b p = (([], 3), d, L) := by unfold sealR; rw [hn]; exact if_pos hneg
      rw [hres]
      exact ⟨_, none, 0, rfl, s26.none, Row.nil _ _ _, Nat.le_refl _, h.step s26 id⟩
    · have s26 := s20.trans (Step.of_no X26 s20.ok)
      have hres : sealR d L key b p = ((boxL (putR d L ⟨0, 6, b, p, key, 0⟩).1.toNat (sizeN (classOf p.length)), 0), (putR d L ⟨0, 6, b, p, key, 0⟩).2) := by unfold sealR; rw [hn]; exact if_neg (by omega)
      rw [hres]
      refine (Q2z (h.step s26 id) s26.ok hk.draws hk.short ⟨⟨0, 6, b, p, key, 0⟩, ba, bc, pa, pc⟩ ⟨hb.step s26, hp.step s26, hbc, hpc⟩).mono fun e w30 ⟨o30, he, s30, h30⟩ => ⟨_, he, ?_⟩
      have hrng := Q3Y (used := L.map RRow.h) hk.draws (by rw [List.length_map]; exact hk.short)
      obtain ⟨z, hz⟩ : ∃ z : Nat, (putR d L ⟨0, 6, b, p, key, 0⟩).1 = z := ⟨_, (Int.toNat_of_nonneg hrng.1).symm⟩
      have hz2 : z < 18446744073709551616 := by have : (putR d L ⟨0, 6, b, p, key, 0⟩).1 < 18446744073709551616 := hrng.2; omega
      rw [hz, Int.toNat_natCast]
      refine (Q3j hz2 w30).mono fun e w33 ⟨ea, ec, he, hO, X33⟩ => ⟨_, _, _, he, ?_⟩
      have s33' := Step.of_no X33 s30.ok
      refine (Q2F (classOf p.length) w33).mono fun e w36 ⟨he, X36⟩ => ⟨_, he, ?_⟩
      have s36' := s33'.trans (Step.of_no X36 s33'.ok)
      have hcr := Q4a p.length
      have hsz := Q64 hpos hcr.2
      have hsl := Q1r (classOf p.length)
      obtain ⟨a', c', w38, hr, hO', hx⟩ := OwnB.appendz (hO.no X36) (Nat.le_trans X33.size X36.size) hsz (by omega) (by rw [Q18]; omega)
      rw [← Q4z] at hr hO'
      have X : Ext no w30 w38 := (X33.trans X36).then hx fun b hb => .inr hb
      have s38 := Step.of_no X s30.ok
      exact ⟨a', _, c', w38, hr, _, a', c', rfl, (s26.none.trans s30).trans s38.none, Row.fresh hO'.row fun ad ha => (hO'.fr ad ha).1, hO'.le, h30.step s38 id⟩
theorem rOpen_spec (h : ROrc w o k d L) (hk : ROk w o d L) (key : Int) {ba xa : Option Addr} {bc xc : Nat} {b x : List UInt8} (hb : Row w o ba (bytesV b)) (hx : Row w o xa (bytesV x)) (hxl : x.length < 1000000) :
    Calls Try.prog 63 #[.pointer (some (blk k)), .int .u64 key, .slice ba b.length bc, .slice xa x.length xc] w (Gb no w o (openR L key b x) fun w' o' => True) := by
  refine (Q0B.go _ _ _ _ _ _ _ _ (R := fun v w' => ∃ o' a' c', v = .tuple #[.slice a' (openR L key b x).1.length c', .int .i64 (openR L key b x).2] ∧ Step no w o w' o' ∧ Row w' o' a' (bytesV (openR L key b x).1) ∧ (openR L key b x).1.length ≤ c' ∧ True) ?_).mono fun e w' ⟨v, he, o', a', c', hv, hw⟩ => ⟨o', a', c', by rw [he, hv], hw⟩
  unfold Q0B.N
  obtain ⟨R, hLR, h0⟩ := id h
  have hlen : L.length = R.length := by rw [hLR, List.length_map]
  have hk1 := hk.short
  refine (Q2T hx.1 hxl).mono fun e w7 ⟨he, hw⟩ => ⟨_, he, ?_⟩
  subst hw
  refine (is_spec h0 hk.tags (by omega) (handL x) 6).mono fun e w16 ⟨X16, hor⟩ => ?_
  rw [← hLR] at hor
  have s16 := Step.of_no X16 hk.tags
  rcases hor with ⟨hn, he⟩ | ⟨y, hy, hn, he⟩
  · refine ⟨_, _, _, _, _, _, _, _, _, _, _, he, fun _ w23 X23 => ?_, fun h => (by cases h)⟩
    have s23 := s16.trans (Step.of_no X23 s16.ok)
    have hres : openR L key b x = ([], 4) := by unfold openR; rw [hn]
    rw [hres]
    exact ⟨_, none, 0, rfl, s23, Row.nil _ _ _, Nat.le_refl _, trivial⟩
  · refine ⟨_, _, _, _, _, _, _, _, _, _, _, he, fun h => (by cases h), fun _ w23 p26 X23 hp => ?_⟩
    have s23 := s16.trans (Step.of_no X23 s16.ok)
    have hyL : y.r ∈ L := by rw [hLR]; exact List.mem_map.2 ⟨y, hy, rfl⟩
    have hyb := hk.bytes _ hyL
    refine (Q31 y.r.B.length w23).mono fun e w29 ⟨he, X29⟩ => ⟨_, he, X29.kept, ?_⟩
    refine (Q2F (classOf y.r.B.length) w29).mono fun e w32 ⟨he, X32⟩ => ⟨_, he, X32.kept, ?_⟩
    have s29 := s23.trans (Step.of_no X29 s23.ok)
    have s32 := s29.trans (Step.of_no X32 s29.ok)
    have hsl := Q1r (classOf y.r.B.length)
    have hval : openR L key b x = if x.length ≠ 8 + sizeN (classOf y.r.B.length) then ([], 4) else if y.r.n ≠ key then ([], 11) else if y.r.A ≠ b then ([], 5) else (y.r.B, 0) := by unfold openR; rw [hn]
    refine ⟨by omega, by omega, fun h1 => ?_, fun h1 => ⟨fun h2 => ?_, fun h2 => ?_⟩⟩
    · rw [if_pos (by omega)] at hval
      rw [hval]
      exact ⟨_, none, 0, rfl, s32, Row.nil _ _ _, Nat.le_refl _, trivial⟩
    · rw [if_neg (by omega), if_pos h2] at hval
      rw [hval]
      exact ⟨_, none, 0, rfl, s32, Row.nil _ _ _, Nat.le_refl _, trivial⟩
    · rw [if_neg (by omega), if_neg (not_not_intro h2)] at hval
      have hok := (h0.rows y hy).step s32
      refine (W.sameB_spec hok.1.1 (hb.step s32).1 hyb.1).mono fun e w37 ⟨he, X37⟩ => ⟨_, he, X37.kept, fun hs => ?_, fun hs => ?_⟩
      · have s37 := s32.trans (Step.of_no X37 s32.ok)
        rw [if_pos (of_decide_eq_false hs)] at hval
        rw [hval]
        exact ⟨_, none, 0, rfl, s37, Row.nil _ _ _, Nat.le_refl _, trivial⟩
      · have s37' := Step.of_no X37 s32.ok
        rw [if_neg (not_not_intro (of_decide_eq_true hs))] at hval
        rw [hval]
        exact ⟨_, y.aB, y.cB, rfl, s32.trans s37', (hok.step s37').2.1, hok.2.2.2, trivial⟩
theorem Q5K (h : ROrc w o k d L) (hk : ROk w o d L) (p key : Int) :
    Calls Try.prog 46 #[.pointer (some (blk k)), .int .u64 p, .int .u64 key] w (Gb (fun j => j = k) w o (wrapR d L p key).1 fun w' o' => ROrc w' o' k (wrapR d L p key).2.1 (wrapR d L p key).2.2) := by
  refine (Q0j.go _ _ _ (R := fun v w' => ∃ o' a' c', v = .tuple #[.slice a' (wrapR d L p key).1.1.length c', .int .i64 (wrapR d L p key).1.2] ∧ Step (fun j => j = k) w o w' o' ∧ Row w' o' a' (bytesV (wrapR d L p key).1.1) ∧ (wrapR d L p key).1.1.length ≤ c' ∧ ROrc w' o' k (wrapR d L p key).2.1 (wrapR d L p key).2.2) ?_).mono fun e w' ⟨v, he, o', a', c', hv, hw⟩ => ⟨o', a', c', by rw [he, hv], hw⟩
  unfold Q0j.N
  obtain ⟨R, hLR, h0⟩ := id h
  have hlen : L.length = R.length := by rw [hLR, List.length_map]
  have hk1 := hk.short
  refine (is_spec h0 hk.tags (by omega) p 4).mono fun e w12 ⟨X12, hor⟩ => ?_
  rw [← hLR] at hor
  have s12 := Step.of_no X12 hk.tags
  rcases hor with ⟨hn, he⟩ | ⟨y, hy, hn, he⟩
  · refine ⟨_, _, _, _, _, _, _, _, _, _, _, he, fun _ w19 X19 => ?_, fun h => (by cases h)⟩
    have s19 := s12.trans (Step.of_no X19 s12.ok)
    have hres : wrapR d L p key = (([], 20), d, L) := by unfold wrapR; rw [hn]
    rw [hres]
    exact ⟨_, none, 0, rfl, s19.none, Row.nil _ _ _, Nat.le_refl _, h.step s19 id⟩
  · refine ⟨_, _, _, _, _, _, _, _, _, _, _, he, fun h => (by cases h), fun _ w19 X19 => ?_⟩
    have s19 := s12.trans (Step.of_no X19 s12.ok)
    refine (is_spec (h0.step s19 id) s19.ok (by omega) key 2).mono fun e w31 ⟨X31, hor2⟩ => ?_
    rw [← hLR] at hor2
    have s31 := s19.trans (Step.of_no X31 s19.ok)
    rcases hor2 with ⟨hn2, he⟩ | ⟨y2, hy2, hn2, he⟩
    · refine ⟨_, _, _, _, _, _, _, _, _, _, _, he, fun _ w38 X38 => ?_, fun h => (by cases h)⟩
      have s38 := s31.trans (Step.of_no X38 s31.ok)
      have hres : wrapR d L p key = (([], 11), d, L) := by unfold wrapR; rw [hn]; simp only [hn2]
      rw [hres]
      exact ⟨_, none, 0, rfl, s38.none, Row.nil _ _ _, Nat.le_refl _, h.step s38 id⟩
    · refine ⟨_, _, _, _, _, _, _, _, _, _, _, he, fun h => (by cases h), fun _ w38 X38 => ?_⟩
      have s38 := s31.trans (Step.of_no X38 s31.ok)
      have hres : wrapR d L p key = ((boxL (putR d L ⟨0, 7, [], [], p, key⟩).1.toNat 8, 0), (putR d L ⟨0, 7, [], [], p, key⟩).2) := by unfold wrapR; rw [hn]; simp only [hn2]
      rw [hres]
      refine (Q2z (h.step s38 id) s38.ok hk.draws hk.short ⟨⟨0, 7, [], [], p, key⟩, none, 0, none, 0⟩ ⟨Row.nil _ _ _, Row.nil _ _ _, Nat.le_refl _, Nat.le_refl _⟩).mono fun e w44 ⟨o44, he, s44, h44⟩ => ⟨_, he, ?_⟩
      have hrng := Q3Y (used := L.map RRow.h) hk.draws (by rw [List.length_map]; exact hk.short)
      obtain ⟨z, hz⟩ : ∃ z : Nat, (putR d L ⟨0, 7, [], [], p, key⟩).1 = z := ⟨_, (Int.toNat_of_nonneg hrng.1).symm⟩
      have hz2 : z < 18446744073709551616 := by have : (putR d L ⟨0, 7, [], [], p, key⟩).1 < 18446744073709551616 := hrng.2; omega
      rw [hz, Int.toNat_natCast]
      refine (Q3j hz2 w44).mono fun e w47 ⟨ea, ec, he, hO, X47⟩ => ⟨_, _, _, he, ?_⟩
      obtain ⟨a', c', w49, hr, hO', hx⟩ := OwnB.appendz hO X47.size (m := 8) (by decide) (by decide) (by rw [Q18]; omega)
      rw [← Q4z] at hr hO'
      have X : Ext no w44 w49 := X47.then hx fun b hb => .inr hb
      have s49 := Step.of_no X s44.ok
      exact ⟨a', _, c', w49, hr, _, a', c', rfl, (s38.none.trans s44).trans s49.none, Row.fresh hO'.row fun ad ha => (hO'.fr ad ha).1, hO'.le, h44.step s49 id⟩
theorem Q4F (h : ROrc w o k d L) (hk : ROk w o d L) (s : Int) {xa : Option Addr} {xc : Nat} {x : List UInt8} (hx : RowAt w xa (bytesV x)) (hxl : x.length < 1000000) :
    Calls Try.prog 62 #[.pointer (some (blk k)), .int .u64 s, .slice xa x.length xc] w (Ret (.tuple #[.int .u64 (unwrapR L s x).1, .int .i64 (unwrapR L s x).2]) fun w' => Ext no w w') := by
  refine Q0h.run _ _ _ _ _ ?_
  unfold Q0h.N
  obtain ⟨R, hLR, h0⟩ := id h
  have hlen : L.length = R.length := by rw [hLR, List.length_map]
  have hk1 := hk.short
  refine (Q2T hx hxl).mono fun e w6 ⟨he, hw⟩ => ⟨_, he, ?_⟩
  subst hw
  refine (is_spec h0 hk.tags (by omega) (handL x) 7).mono fun e w15 ⟨X15, hor⟩ => ?_
  rw [← hLR] at hor
  have s15 := Step.of_no X15 hk.tags
  rcases hor with ⟨hn, he⟩ | ⟨y, hy, hn, he⟩
  · refine ⟨_, _, _, _, _, _, _, _, _, _, _, he, fun _ w22 X22 => ?_, fun h => (by cases h)⟩
    have hres : unwrapR L s x = (0, 4) := by unfold unwrapR; rw [hn]
    rw [hres]
    exact ⟨rfl, X15.trans X22⟩
  · have hval : unwrapR L s x = if x.length ≠ 16 then (0, 4) else if ((isR L y.r.n 4).map RRow.n).getD 0 ≠ s then (0, 11) else (y.r.m, 0) := by unfold unwrapR; rw [hn]
    refine ⟨_, _, _, _, _, _, _, _, _, _, _, he, fun h => (by cases h), fun _ => ⟨fun h1 w22 X22 => ?_, fun h1 w22 p27 X22 hp => ?_⟩⟩
    · rw [if_pos (by omega)] at hval
      rw [hval]
      exact ⟨rfl, X15.trans X22⟩
    · rw [if_neg (by omega)] at hval
      have s22 := s15.trans (Step.of_no X22 s15.ok)
      refine (is_spec (h0.step s22 id) s22.ok (by omega) y.r.n 4).mono fun e w36 ⟨X36, hor2⟩ => ?_
      rw [← hLR] at hor2
      have X := (X15.trans X22).trans X36
      rcases hor2 with ⟨hn2, he⟩ | ⟨y2, hy2, hn2, he⟩
      · rw [hn2] at hval
        have hval : unwrapR L s x = if (0 : Int) ≠ s then (0, 11) else (y.r.m, 0) := hval
        refine ⟨_, _, _, _, _, _, _, _, _, _, _, he, X36.kept, fun h2 w43 X43 => ?_, fun h2 w43 X43 => ?_⟩
        · rw [if_pos h2] at hval; rw [hval]; exact ⟨rfl, X.trans X43⟩
        · rw [if_neg (not_not_intro h2)] at hval; rw [hval]; exact ⟨rfl, X.trans X43⟩
      · rw [hn2] at hval
        have hval : unwrapR L s x = if y2.r.n ≠ s then (0, 11) else (y.r.m, 0) := hval
        refine ⟨_, _, _, _, _, _, _, _, _, _, _, he, X36.kept, fun h2 w43 X43 => ?_, fun h2 w43 X43 => ?_⟩
        · rw [if_pos h2] at hval; rw [hval]; exact ⟨rfl, X.trans X43⟩
        · rw [if_neg (not_not_intro h2)] at hval; rw [hval]; exact ⟨rfl, X.trans X43⟩
end
section
variable {S : OS} {d : List Int} {L : List RRow}
theorem key_is (h : Sim S d L) (k : Int) : (∃ r, isR L k 2 = some r) ↔ k ∈ S.keys := by
  rw [h.ky]
  constructor
  · rintro ⟨r, hr⟩; obtain ⟨a, b, c⟩ := (Q2f h.nd).1 hr; exact ⟨r, a, c, b⟩
  · rintro ⟨r, a, c, b⟩; exact ⟨r, (Q2f h.nd).2 ⟨a, b, c⟩⟩
theorem key_not (h : Sim S d L) {k : Int} (hk : k ∉ S.keys) : isR L k 2 = none := by
  cases hi : isR L k 2 with
  | none => rfl
  | some r => exact absurd ((key_is h k).1 ⟨r, hi⟩) hk
theorem Q6F (h : Sim S d L) (k : Int) (b p : List UInt8) : (sealR d L k b p).1 = (sealOf S k b p).1 ∧ Sim (sealOf S k b p).2 (sealR d L k b p).2.1 (sealR d L k b p).2.2 := by
  unfold sealR sealOf
  by_cases hk : k ∈ S.keys
  · obtain ⟨r0, hr0⟩ := (key_is h k).2 hk
    rw [if_pos hk, hr0]
    simp only []
    by_cases hc : classOf p.length < 0
    · rw [if_pos hc, if_pos hc]; exact ⟨rfl, h⟩
    · rw [if_neg hc, if_neg hc]
      obtain ⟨a1, a2, a3, a4, a5, a6, a7⟩ := h.put ⟨0, 6, b, p, k, 0⟩
      obtain ⟨c1, c2, c3, c4, c5, c6, c7, c8⟩ := Q0R S
      refine ⟨by simp [(h.fresh _).1], ⟨a1, a2, a3, a4, a5, fun c x => ?_, fun k => ?_, fun s => ?_, fun p s => ?_, fun q x => ?_, fun x q => ?_, fun x q => ?_, fun x q => ?_⟩⟩ <;> simp only [a6]
      · rw [c1, h.hs, ex_no (by simp)]
      · rw [c2, h.ky, ex_no (by simp)]
      · rw [c3, h.sc, ex_no (by simp)]
      · rw [c4, h.pb, ex_no (by simp)]
      · rw [c5, h.sg, ex_no (by simp)]
      · rw [c6, h.sd, ex_no (by simp)]
      · rw [Q3b (Q4b fun y hy => ?_), h.se, ex_add]
        · simp [eq_comm]
        · obtain ⟨r, q1, q2, q3, q4⟩ := (h.se _ _).1 hy
          exact a7 r q1 q3
      · rw [c8, h.wr, ex_no (by simp)]
  · rw [if_neg hk, key_not h hk]; exact ⟨rfl, h⟩
theorem wra_is (h : Sim S d L) (x : Int) : (isR L x 7).map (fun r => (r.n, r.m)) = alook S.wrapped x := by
  cases hi : isR L x 7 with
  | none =>
    cases hk : alook S.wrapped x with
    | none => rfl
    | some s => obtain ⟨r, a, b, c, _⟩ := (h.wr x s).1 hk; exact absurd ⟨r, a, b, c⟩ ((Q5g h.nd).1 hi)
  | some r => obtain ⟨a, b, c⟩ := (Q2f h.nd).1 hi; exact ((h.wr x (r.n, r.m)).2 ⟨r, a, c, b, rfl⟩).symm
theorem Q5M (h : Sim S d L) (s : Int) (x : List UInt8) : unwrapR L s x = Q12 S s x := by
  unfold unwrapR Q12
  rw [← wra_is h]
  cases isR L (handL x) 7 with
  | none => rfl
  | some r => simp only [Option.map_some]; rw [← pub_is h]
theorem Q6z (h : Sim S d L) (p k : Int) : (wrapR d L p k).1 = (wrapOf S p k).1 ∧ Sim (wrapOf S p k).2 (wrapR d L p k).2.1 (wrapR d L p k).2.2 := by
  unfold wrapR wrapOf
  rw [← pub_is h]
  cases hp : isR L p 4 with
  | none => exact ⟨rfl, h⟩
  | some r1 =>
    simp only [Option.map_some, Option.isSome_some, if_true]
    by_cases hk : k ∈ S.keys
    · obtain ⟨r0, hr0⟩ := (key_is h k).2 hk
      rw [if_pos hk, hr0]
      simp only []
      obtain ⟨a1, a2, a3, a4, a5, a6, a7⟩ := h.put ⟨0, 7, [], [], p, k⟩
      obtain ⟨c1, c2, c3, c4, c5, c6, c7, c8⟩ := Q0R S
      refine ⟨by simp [(h.fresh _).1], ⟨a1, a2, a3, a4, a5, fun c x => ?_, fun k => ?_, fun s => ?_, fun p s => ?_, fun q x => ?_, fun x q => ?_, fun x q => ?_, fun x q => ?_⟩⟩ <;> simp only [a6]
      · rw [c1, h.hs, ex_no (by simp)]
      · rw [c2, h.ky, ex_no (by simp)]
      · rw [c3, h.sc, ex_no (by simp)]
      · rw [c4, h.pb, ex_no (by simp)]
      · rw [c5, h.sg, ex_no (by simp)]
      · rw [c6, h.sd, ex_no (by simp)]
      · rw [c7, h.se, ex_no (by simp)]
      · rw [Q3b (Q4b fun y hy => ?_), h.wr, ex_add]
        · simp
        · obtain ⟨r, q1, q2, q3, q4⟩ := (h.wr _ _).1 hy
          exact a7 r q1 q3
    · rw [if_neg hk, key_not h hk]; exact ⟨rfl, h⟩
end
section
variable {w w' : World} {o o' : Own} {k : Nat} {S : OS} {K : Nat → Prop}
theorem KeyO (h : POrc w o k S) (ok : Tags w o) (hok : S.ok) (hlen : S.used.length < 1000000) :
    Calls Try.prog 39 #[.pointer (some (blk k))] w (Gs (fun j => j = k) w o (u64V (keyOf S).1) fun w' o' => POrc w' o' k (keyOf S).2) := by
  obtain ⟨g, rfl, h1, h2, h3⟩ := h
  refine (Q6J h1 hok hlen).mono fun e w' ⟨he, hO, hx⟩ => ?_
  obtain ⟨s, p⟩ := POrc.turn h2 h3 h1.mlt ok hO hx
  exact ⟨_, he, s, p⟩
theorem SealO (h : POrc w o k S) (ok : Tags w o) (hok : S.ok) (hlen : S.used.length < 1000000) (key : Int) {ba pa : Option Addr} {bc pc : Nat} {b p : List UInt8} (hb : Row w o ba (bytesV b)) (hp : Row w o pa (bytesV p)) (hbl : b.length ≤ 1000000) (hpl : p.length ≤ 1000000) :
    Calls Try.prog 29 #[.pointer (some (blk k)), .int .u64 key, .slice ba b.length bc, .slice pa p.length pc] w (Gb (fun j => j = k) w o (sealOf S key b p).1 fun w' o' => POrc w' o' k (sealOf S key b p).2) := by
  obtain ⟨g, rfl, h1, h2, h3⟩ := h
  refine (Q6c h1 hok hlen key hb.1 hp.1 (own_out h2 hb) (own_out h2 hp) hbl hpl).mono fun e w' ⟨⟨a, c, he, hc, hr, hf⟩, hO, hx⟩ => ?_
  obtain ⟨s, p⟩ := POrc.turn h2 h3 h1.mlt ok hO hx
  exact ⟨_, a, c, he, s, Row.fresh hr fun ad ha => (hf ad ha).1, hc, p⟩
theorem OpenO (h : POrc w o k S) (ok : Tags w o) (key : Int) {ba xa : Option Addr} {bc xc : Nat} {b x : List UInt8} (hb : RowAt w ba (bytesV b)) (hx : RowAt w xa (bytesV x)) (hxl : x.length < 1000000) (hxc : x.length ≤ xc) (hpls : ∀ s, alook S.sealed (handL x) = some s → s.plain.length ≤ 1000000) :
    Calls Try.prog 31 #[.pointer (some (blk k)), .int .u64 key, .slice ba b.length bc, .slice xa x.length xc] w (Gb no w o (openOf S key b x) fun w' o' => True) := by
  obtain ⟨g, rfl, h1, h2, h3⟩ := h
  refine (Q63 h1 key hb hx hxl hxc hpls).mono fun e w' ⟨⟨a, c, he, hc, hr, hf⟩, hx⟩ => ?_
  exact ⟨_, a, c, he, Step.of_no hx ok, Row.fresh hr fun ad ha => (hf ad ha).1, hc, trivial⟩
theorem WrapO (h : POrc w o k S) (ok : Tags w o) (hok : S.ok) (hlen : S.used.length < 1000000) (p key : Int) :
    Calls Try.prog 41 #[.pointer (some (blk k)), .int .u64 p, .int .u64 key] w (Gb (fun j => j = k) w o (wrapOf S p key).1 fun w' o' => POrc w' o' k (wrapOf S p key).2) := by
  obtain ⟨g, rfl, h1, h2, h3⟩ := h
  refine (Q6e h1 hok hlen p key).mono fun e w' ⟨⟨a, c, he, hc, hr, hf⟩, hO, hx⟩ => ?_
  obtain ⟨s, p⟩ := POrc.turn h2 h3 h1.mlt ok hO hx
  exact ⟨_, a, c, he, s, Row.fresh hr fun ad ha => (hf ad ha).1, hc, p⟩
theorem UnwrapO (h : POrc w o k S) (s : Int) {xa : Option Addr} {xc : Nat} {x : List UInt8} (hx : RowAt w xa (bytesV x)) (hxl : x.length < 1000000) (hxc : x.length ≤ xc) :
    Calls Try.prog 59 #[.pointer (some (blk k)), .int .u64 s, .slice xa x.length xc] w (Ret (.tuple #[.int .u64 (Q12 S s x).1, .int .i64 (Q12 S s x).2]) fun w' => Ext no w w') := by
  obtain ⟨g, rfl, h1, h2, h3⟩ := h
  exact (Q4Y h1 s hx hxl hxc).mono fun e w' ⟨he, hx⟩ => ⟨he, hx⟩
end
structure RFine (n : Nat) (d : List Int) (L : List RRow) : Prop where
  draws : ∀ x ∈ d, 0 ≤ x ∧ x < 18446744073709551616
  short : L.length ≤ n
  bytes : ∀ r ∈ L, r.A.length < 1000000 ∧ r.B.length < 1000000
section
variable {w w' : World} {o o' : Own} {k n : Nat} {K : Nat → Prop} {S : OS} {d : List Int} {L : List RRow}
theorem RFine.rok (h : RFine n d L) (ok : Tags w o) (hn : n < 1000000) : ROk w o d L := ⟨ok, h.draws, Nat.lt_of_le_of_lt h.short hn, h.bytes⟩
theorem RFine.more (h : RFine n d L) : RFine (n + 1) d L := ⟨h.draws, Nat.le_succ_of_le h.short, h.bytes⟩
theorem RFine.put (h : RFine n d L) (r : RRow) (hr : r.A.length < 1000000 ∧ r.B.length < 1000000) : RFine (n + 1) (putR d L r).2.1 (putR d L r).2.2 := by
  refine ⟨Q2N h.draws, ?_, fun z hz => ?_⟩
  · have := h.short; rw [Q5q]; omega
  · rcases List.mem_append.1 hz with hz | hz
    · exact h.bytes z hz
    · simp at hz; subst hz; exact hr
theorem RFine.pair (h : RFine n d L) : RFine (n + 2) (pairR d L).2.1 (pairR d L).2.2 :=
  (h.put ⟨0, 3, [], [], 0, 0⟩ (by decide)).put _ ⟨by show (0 : Nat) < _; decide, by show (0 : Nat) < _; decide⟩
variable {j : Nat}
end
theorem ROrc.init {w w' : World} {o : Own} {q : Nat} {da : Option Addr} {dc : Nat} {d : List Int} (X : Ext no w w') (hb : Blk w' q 54 [.slice da d.length dc, .slice none 0 0]) (h1 : w.heap.size ≤ q) (h2 : q < w'.heap.size) (ok : Tags w o) (hd : Row w o da (d.map u64V)) (hc : d.length ≤ dc) :
    ∃ o', Step no w o w' o' ∧ ROrc w' o' q d [] := by
  have s := (Step.of_no X ok).tag h1 h2
  refine ⟨_, s, [], rfl, Q1v, ⟨da, dc, none, 0, hb, hc, hd.step s, Grows.nil _ _ _ _ _, fun ad ha => by cases ha⟩, fun x hx => by cases hx⟩
structure Rof (w : World) (o : Own) (j : Nat) (S : OS) (n : Nat) : Prop where
  ex : ∃ d R, ROrc w o j d R ∧ Sim S d R ∧ RFine n d R
  ok : Tags w o
  inv : OInv S
section
variable {w w' : World} {o o' : Own} {j n : Nat} {K : Nat → Prop} {S : OS} {a : Option Addr} {c : Nat} {b : List UInt8}
theorem Rof.step (h : Rof w o j S n) (s : Step K w o w' o') (hj : ¬ K j) : Rof w' o' j S n := by
  obtain ⟨d, R, h1, h2, h3⟩ := h.ex
  exact ⟨⟨d, R, h1.step s hj, h2, h3⟩, s.ok, h.inv⟩
theorem Rof.mono (h : Rof w o j S n) {m : Nat} (hm : n ≤ m) : Rof w o j S m := by
  obtain ⟨d, R, h1, h2, h3⟩ := h.ex
  exact ⟨⟨d, R, h1, h2, h3.draws, Nat.le_trans h3.short hm, h3.bytes⟩, h.ok, h.inv⟩
theorem Rof.lt (h : Rof w o j S n) : j < w.heap.size := by obtain ⟨d, R, h1, _⟩ := h.ex; exact h1.lt
theorem Rof.len (h : Rof w o j S n) : S.used.length ≤ n := by obtain ⟨d, R, h1, h2, h3⟩ := h.ex; rw [h2.us, List.length_map]; exact h3.short
theorem Rof.init {w w' : World} {o : Own} {q : Nat} {da : Option Addr} {dc : Nat} {d : List Int} (X : Ext no w w') (hb : Blk w' q 54 [.slice da d.length dc, .slice none 0 0]) (h1 : w.heap.size ≤ q) (h2 : q < w'.heap.size) (ok : Tags w o) (hd : Row w o da (d.map u64V)) (hc : d.length ≤ dc) (hr : ∀ x ∈ d, 0 ≤ x ∧ x < 18446744073709551616) :
    ∃ o', Step no w o w' o' ∧ Rof w' o' q (OS.init d) 0 := by
  obtain ⟨o', s, R⟩ := ROrc.init X hb h1 h2 ok hd hc
  exact ⟨o', s, ⟨_, _, R, Sim.init hr, ⟨hr, Nat.zero_le _, fun r h => by cases h⟩⟩, s.ok, OInv.init hr⟩
theorem Rof.pair (h : Rof w o j S n) (hn : n + 2 < 1000000) :
    Calls Try.prog 17 #[.pointer (some (blk j))] w (Gs (fun i => i = j) w o (.tuple #[u64V (pairOf S).1.1, u64V (pairOf S).1.2]) fun w' o' => Rof w' o' j (pairOf S).2 (n + 2)) := by
  obtain ⟨d, R, h1, h2, h3⟩ := h.ex
  obtain ⟨e1, e2⟩ := Q6K h2
  refine (Q5L h1 (h3.rok h.ok (by omega)) (by have := h3.short; omega)).mono fun x w' ⟨o', he, s, r⟩ => ⟨o', by rw [he, e1]; rfl, s, ⟨_, _, r, e2, h3.pair⟩, s.ok, (Q2k h.inv).1⟩
end
end Go.Proofs.Ytgeakpldocfccaa